import Derived.Test.YtofkmapokdcphaaRe
namespace Go.Proofs.Ytofkmapokdcphaa
open Go Go.RowKit Go.Maps Go.My Go.Shelf

theorem flat_len (R : Int → List Int) : ∀ (S : List Int), (∀ s ∈ S, (R s).length ≤ 512) → (S.flatMap R).length ≤ S.length * 512
  | [], _ => by simp
  | s :: S, h => by
    have := flat_len R S (fun t ht => h t (by simp [ht]))
    have := h s (by simp)
    rw [List.flatMap_cons, List.length_append, List.length_cons]
    omega

set_option maxRecDepth 100000 in
set_option maxHeartbeats 4000000 in
theorem ot_walk (v : Value) (xs : List Nd) (M S : List Int) (R : Int → List Int) (d : Nat) (nm q : Nat) (w : World) (hm : xs.length ≤ 80) (h : TreeAt w v xs) (hc : checkL xs = 0)
    (hM : memL xs = M) (hnm : M.length = nm) (hn0 : 0 < nm) (hq : q < 256) (hd : M[q % nm]? = some (d : Int)) (d1 : d < 512)
    (hS : (ups (512 + d)).map sib = S) (hSl : S.length = 9) (hR : ∀ s ∈ S, resL xs s = (R s, 0) ∧ (R s).length ≤ 512 ∧ ∀ m ∈ R s, 1 ≤ m ∧ m ≤ 1023)
    (hcn : ∀ x ∈ M, 0 ≤ x ∧ x < 512 ∧ cnt (S.flatMap R) x = if x = (d : Int) then 0 else 1) :
    Calls Try.prog 9 #[v, .int .u8 q] w fun e w' => e = .returned (.bool true) ∧ Below w.heap.size w w' := by
  have KF := Lib.hid fun W v (hv : TreeAt W v xs) => few_any v xs W hv
  have KC := Lib.hid fun W v (hv : TreeAt W v xs) => check17_any v xs W (by omega) hv
  have KM := Lib.hid fun W v (hv : TreeAt W v xs) => members_any v xs W (by omega) hv
  have KL := Lib.hid fun W v s (hv : TreeAt W v xs) => resolution_any v xs s W (by omega) hv
  have KS := Lib.hid fun W => copath_ok d d1 W
  have hdd : decide (xs.length ≤ 80) = true := decide_eq_true hm
  rw [hdd] at KF; rw [hc] at KC; rw [hM] at KM; rw [hS] at KS
  have hml : nm ≤ 80 := by rw [← hnm, ← hM]; exact Nat.le_trans (memL_length xs) hm
  have HD := Lib.hid hd
  have HNM := Lib.hid hnm
  have HR := Lib.hid hR
  have HCN := Lib.hid hcn
  have HSL := Lib.hid hSl
  have HT := Lib.hid h
  have hmm := @run_makeMap Try.prog
  obtain ⟨a0, c0, rfl⟩ := h.form
  have hbx := Boxed.new w 24 (.slice a0 xs.length c0)
  have hB0 : Below w.heap.size w (w.alloc (.cells #[.slice a0 xs.length c0] 24)) := (Below.refl _ _).alloc (Nat.le_refl _) _
  have hne0 : ((nm : Int) == 0) = false := by simp; omega
  clear h hdd hc hM hd hnm hS hSl hR hcn
  obtain ⟨n, hn⟩ : ∃ n, n = xs.length := ⟨_, rfl⟩
  rw [← hn] at hm hbx hB0 HT ⊢
  have HN := Lib.hid hn
  clear hn
  have hin : (0 : Int) ≤ (q : Int) % (nm : Int) ∧ (q : Int) % (nm : Int) < (nm : Int) := ⟨Int.emod_nonneg _ (by omega), Int.emod_lt_of_pos _ (by omega)⟩
  go_enter Try.func9, Try.ntmps9
  go_wp2_with (first
    | (go_at_call 10; refine (sane_any _).mono ?_; rintro e w1 ⟨rfl, hB1⟩; have hB1' := below_step hB0 hB0.size hB1; have x1 := cell_kept hbx.cell hB1)
    | (go_at_call 11; refine (KF.out w1 _ (HT.out.below hB1')).mono ?_; rintro e w2 ⟨rfl, hB2⟩; have hB2' := below_step hB1' hB1'.size hB2; have x2 := cell_kept x1 hB2; have T2x := HT.out.below hB2'; have HT2 := Lib.hid T2x)
    | (go_at_call 17; refine (KC.out w2 _ HT2.out).mono ?_; rintro e w3 ⟨rfl, hB3⟩; have hB3' := below_step hB2' hB2'.size hB3; have x3 := cell_kept x2 hB3; have T3x := HT.out.below hB3'; have HT3 := Lib.hid T3x)
    | (go_at_call 19; refine (KM.out w3 _ HT3.out).mono ?_; rintro e w4 ⟨vM, rfl, hIM, hB4⟩; have hB4' := below_step hB3' hB3'.size hB4; have x4 := cell_kept x3 hB4; have HT4 := Lib.hid (HT.out.below hB4'); obtain ⟨aM, cM, bM, oM, rfl, haM, hcM⟩ := hIM; have gM := hcM (q % nm) _ HD.out; (have haM' : aM = some ⟨bM, oM, none⟩ := by (rcases haM with h | h; exact h; have h2 := HD.out; rw [h] at h2; cases h2)); subst haM'; rw [HNM.out]; have HCM := Lib.hid hcM; clear hcM haM)
    | (go_at_call 33; refine (KS.out w4).mono ?_; rintro e w5 ⟨vS, rfl, hIS, hB5⟩; have hB5' := below_step hB4' hB4'.size hB5; have x5 := cell_kept x4 hB5; have HT5 := Lib.hid (HT.out.below hB5'); obtain ⟨aS, cS, bS, oS, rfl, haS, hcS⟩ := hIS; rw [HSL.out]; have HCM5 := Lib.hid fun i x (h : M[i]? = some x) => cell_kept (HCM.out i x h) hB5))
  have haS' : aS = some ⟨bS, oS, none⟩ := by
    rcases haS with h | h
    · exact h
    · have h2 := HSL.out; rw [h] at h2; cases h2
  subst haS'
  have HCS := Lib.hid hcS
  have hM5 : MapIs K3 evI (w5.alloc (.map #[] 0)) w5.heap.size 0 (fun _ => none) := MapIs.made K3 evI w5
  have HB5 := Lib.hid hB5'
  have h0w : w.heap.size < w5.heap.size := lt_of_cell x5
  clear hcS haS hB1 hB2 hB3 hB4 hB5 hB1' hB2' hB3' hB4' hB5' x1 x2 x3 x4 T2x T3x HT2 HT3 HT4 hbx hB0 gM HCM
  go_loopw [65] (fun i wr => ∃ (k sz : Nat) (fm : Int → Option Int), k ≤ 9 ∧ i = .int .i64 k ∧ sz ≤ k * 262144 ∧ MapIs K3 evI wr w5.heap.size sz fm ∧ Hid (∀ x, 0 ≤ x → x < 512 → (fm x).getD 0 = (cnt ((S.take k).flatMap R) x : Int)) ∧ Chg (fun j => j = w5.heap.size) (w5.alloc (.map #[] 0)) wr) (fun i _ => 9 - (intOf i).toNat)
  case atStart => exact ⟨0, 0, _, Nat.zero_le _, rfl, Nat.zero_le _, hM5, fun x _ _ => rfl, Chg.refl _ _⟩
  case round =>
    obtain ⟨k, sz, fm, hk, rfl, hsz, hM, hcn, hC⟩ := hrel
    have hCB : Below w5.heap.size w5 wr := ((Below.refl _ w5).alloc (Nat.le_refl _) _).trans (hC.below (fun j h => by omega) (by simp))
    by_cases hlt : k < 9
    · obtain ⟨s, hsk⟩ : ∃ y, S[k]? = some y := ⟨_, List.getElem?_eq_getElem (by rw [HSL.out]; exact hlt)⟩
      have g0 := cell_kept (HCS.out k s hsk) hCB
      have gx := cell_kept x5 hCB
      have HTr := Lib.hid (HT5.out.below hCB)
      obtain ⟨hres, hrl, hrm⟩ := HR.out s (List.mem_of_getElem? hsk)
      have KLs := Lib.hid fun W v (hv : TreeAt W v xs) => KL.out W v s hv
      simp only [hres] at KLs
      have HTS := Lib.hid (take_snoc hsk)
      have hAl : ((S.take k).flatMap R).length ≤ 4608 := by
        refine Nat.le_trans (flat_len R _ (fun t ht => (HR.out t (List.mem_of_mem_take ht)).2.1)) ?_
        rw [List.length_take]; omega
      generalize hAA : (S.take k).flatMap R = A at *
      generalize hLL : R s = L at *
      have HAA := Lib.hid hAA
      have HLL := Lib.hid hLL
      have HRM := Lib.hid hrm
      clear hres hrm hAA hLL hsk
      go_wp2_with (first
        | (go_at_call 12; refine (KLs.out _ _ HTr.out).mono ?_; rintro e w6 ⟨vL, rfl, hIL, hB6⟩; obtain ⟨aL, cL, bL, oL, rfl, haL, hcL⟩ := hIL))
      have hM6 : MapIs K3 evI w6 w5.heap.size sz fm := hM.below hB6 hM.lt
      have hC6 := hC.trans (Chg.of_below' hB6) (fun _ h => h.elim)
      have HC6 := Lib.hid hC6
      have HAL := Lib.hid haL
      have HCL := Lib.hid hcL
      clear hM hC hB6 hCB haL hcL hC6
      obtain ⟨nL, hnL⟩ : ∃ nL, nL = L.length := ⟨_, rfl⟩
      rw [← hnL] at hrl ⊢
      have HNL := Lib.hid hnL
      clear hnL
      go_loopw [79] (fun i wr => ∃ (j sz2 : Nat) (fm : Int → Option Int), j ≤ nL ∧ i = .int .i64 j ∧ sz2 ≤ sz + j * 512 ∧ MapIs K3 evI wr w5.heap.size sz2 fm ∧ Hid (∀ x, 0 ≤ x → x < 512 → (fm x).getD 0 = (cnt (A ++ L.take j) x : Int)) ∧ Chg (fun j => j = w5.heap.size) w6 wr) (fun i _ => nL - (intOf i).toNat)
      case atStart => exact ⟨0, sz, fm, Nat.zero_le _, rfl, by omega, hM6, fun x x0 x1 => by rw [List.take_zero, List.append_nil]; exact hcn.out x x0 x1, Chg.refl _ _⟩
      case round =>
        obtain ⟨j, sz2, fm1, hj, rfl, hsz2, hM1, hcn1, hC1⟩ := hrel
        by_cases hjl : j < nL
        · obtain ⟨m, hmk⟩ : ∃ y, L[j]? = some y := ⟨_, List.getElem?_eq_getElem (by rw [← HNL.out]; exact hjl)⟩
          have ha : aL = some ⟨bL, oL, none⟩ := by
            rcases HAL.out with h | h
            · exact h
            · rw [h] at hmk; cases hmk
          subst ha
          have g1 := hC1.cell (HCL.out j m hmk) (fun e => by have := hM6.nocell (p := ⟨bL, oL + j, none⟩) e; rw [HCL.out j m hmk] at this; cases this)
          obtain ⟨m0, m1⟩ := HRM.out m (List.mem_of_getElem? hmk)
          obtain ⟨s0, s1, s2⟩ := span m m0 (by omega)
          have KU2 := under_ok m wr m0 (by omega)
          have hind : ∀ x, ind m x = if lo m ≤ x ∧ x < hi m then 1 else 0 := fun x => rfl
          have HTJ := Lib.hid (take_snoc hmk)
          obtain ⟨am, ham⟩ : ∃ am, am = lo m := ⟨_, rfl⟩
          obtain ⟨bm, hbm⟩ : ∃ bm, bm = hi m := ⟨_, rfl⟩
          rw [← ham] at s0 s1 KU2 hind
          rw [← hbm] at s1 s2 KU2 hind
          have HIND := Lib.hid hind
          have HKU := Lib.hid KU2
          clear ham hbm hind KU2 hmk
          have d4 : decide (512 < bm - am) = false := decide_eq_false (by omega)
          obtain ⟨dn, rfl⟩ : ∃ dn : Nat, bm = am + dn := ⟨(bm - am).toNat, by omega⟩
          have hAjl : (A ++ L.take j).length ≤ 6000 := by rw [List.length_append, List.length_take]; omega
          generalize hAJ : A ++ L.take j = AJ at *
          have HAJ := Lib.hid hAJ
          clear hAJ
          go_wp2_with (first
            | (go_at_call 32; refine HKU.out.mono ?_; rintro e w7 ⟨rfl, kk, rfl⟩; have hB7 := below_drewN wr kk))
          have hM7 : MapIs K3 evI (wr.drewN kk) w5.heap.size sz2 fm1 := hM1.below hB7 hM1.lt
          have hC7 := hC1.trans (Chg.of_below' hB7) (fun _ h => h.elim)
          clear hM1 hC1 hB7
          generalize wr.drewN kk = w7 at *
          go_loopw [19] (fun u wr2 => ∃ (i : Nat) (fm2 : Int → Option Int), i ≤ dn ∧ u = .int .i64 (am + i) ∧ MapIs K3 evI wr2 w5.heap.size (sz2 + i) fm2 ∧ Hid (∀ x, 0 ≤ x → x < 512 → (fm2 x).getD 0 = ((cnt AJ x + if am ≤ x ∧ x < am + i then 1 else 0 : Nat) : Int)) ∧ Chg (fun j => j = w5.heap.size) w6 wr2) (fun u _ => (am + dn - intOf u).toNat)
          case atStart =>
            refine ⟨0, fm1, Nat.zero_le _, by go_num, hM7, fun x x0 x1 => ?_, hC7⟩
            rw [hcn1.out x x0 x1, if_neg (by omega)]
            rfl
          case round =>
            obtain ⟨i, fm2, hi, rfl, hM2, hcn2, hC2⟩ := hrel
            by_cases hid : i < dn
            · have hx0 : 0 ≤ am + (i : Int) := by omega
              have hx1 : am + (i : Int) < 512 := by omega
              have hget := hcn2.out (am + i) hx0 hx1
              rw [if_neg (by omega), Nat.add_zero] at hget
              have hcl : cnt AJ (am + i) ≤ 6000 := Nat.le_trans (cnt_le _ _) hAjl
              obtain ⟨c, hcc⟩ : ∃ c, c = cnt AJ (am + i) := ⟨_, rfl⟩
              rw [← hcc] at hget hcl
              have hel := elim_evI hget
              have hok : (K3).ok (am + (i : Int)) := wf_small (by omega) (by omega)
              have HCC := Lib.hid hcc
              clear hcc hget
              have dj : decide (am + (i : Int) < am + dn) = true := decide_eq_true (by omega)
              go_wp2_with (first
                | (at_lookup; refine wpList_get rfl (.tmp 103) (.tmp 104) 54 rfl keyed3 Try.underlying54 (zero3 _) rfl hM2 (x := am + (i : Int)) hok rfl ?_; rw [hel])
                | (at_mapUpdate; refine wpList_put rfl (.tmp 103) (.tmp 104) (.tmp 106) 54 rfl keyed3 Try.underlying54 rfl hM2 (by unfold maxLen; omega) (x := am + (i : Int)) hok rfl (c := (c : Int) + 1) rfl ?_; intro w8 hM8 hg8))
              refine ⟨⟨i + 1, _, by omega, by go_num, hM8, fun x x0 x1 => ?_, hC2.grown hg8 (fun j hj => by cases hj; exact .inl rfl)⟩, by simp [intOf]; omega⟩
              unfold upd
              by_cases hx : x = am + i
              · rw [if_pos hx, if_pos (by omega)]
                have := HCC.out
                rw [← hx] at this
                rw [← this]
                simp
              · rw [if_neg hx, hcn2.out x x0 x1]
                congr 2
                by_cases h : am ≤ x ∧ x < am + i
                · rw [if_pos h, if_pos (by omega)]
                · rw [if_neg h, if_neg (by omega)]
            · have hi' : i = dn := by omega
              subst hi'
              have dj : decide (am + (i : Int) < am + i) = false := decide_eq_false (by omega)
              go_wp2
              refine ⟨⟨j + 1, sz2 + i, fm2, by omega, by go_num, by omega, hM2, fun x x0 x1 => ?_, hC2⟩, by simp [intOf]; omega⟩
              rw [hcn2.out x x0 x1, HTJ.out, ← List.append_assoc, HAJ.out, cnt_append, cnt_one, HIND.out]
        · have hj' : j = nL := by omega
          subst hj'
          rw [List.take_of_length_le (by rw [← HNL.out]; exact Nat.le_refl _)] at hcn1
          have hC9 := HC6.out.trans hC1 (fun _ h => .inl h)
          go_wp2
          refine ⟨⟨k + 1, sz2, fm1, by omega, by go_num, by omega, hM1, fun x x0 x1 => ?_, hC9⟩, by simp [intOf]; omega⟩
          rw [hcn1.out x x0 x1, HTS.out, List.flatMap_append, HAA.out, List.flatMap_cons, List.flatMap_nil, List.append_nil, HLL.out]
    · have hk' : k = 9 := by omega
      subst hk'
      rw [List.take_of_length_le (by rw [HSL.out]; exact Nat.le_refl _)] at hcn
      have HBr := Lib.hid (below_step HB5.out HB5.out.size hCB)
      have HCMr := Lib.hid fun i x (h : M[i]? = some x) => cell_kept (HCM5.out i x h) hCB
      clear hC hCB
      generalize wr = w8 at *
      go_wp2
      go_loopw [111] (fun i wr => ∃ k : Nat, k ≤ nm ∧ i = .int .i64 k ∧ Hid (wr = w8)) (fun i _ => nm - (intOf i).toNat)
      case atStart => exact ⟨0, Nat.zero_le _, rfl, Lib.hid rfl⟩
      case round =>
        obtain ⟨k, hk, rfl, he⟩ := hrel
        obtain rfl := he.out
        clear he
        by_cases hlt : k < nm
        · obtain ⟨x, hx⟩ : ∃ y, M[k]? = some y := ⟨_, List.getElem?_eq_getElem (by rw [HNM.out]; exact hlt)⟩
          have g0 := HCMr.out k x hx
          obtain ⟨x0, x1, hcx⟩ := HCN.out x (List.mem_of_getElem? hx)
          have hget := hcn.out x x0 x1
          rw [hcx] at hget
          have hok : (K3).ok x := wf_small (by omega) (by omega)
          clear hx hcx
          rcases Classical.em (x = (d : Int)) with q1 | q1
          · have e1 : (x == (d : Int)) = true := by simpa using q1
            rw [if_pos q1] at hget
            have hel := elim_evI hget
            clear q1
            go_wp2_with (at_lookup; refine wpList_get rfl (.tmp 118) (.tmp 119) 54 rfl keyed3 Try.underlying54 (zero3 _) rfl hM (x := x) hok rfl ?_; rw [hel])
            go_roundw
            case rel => exact ⟨_, _, _, _, _, _, _, _, _, _, _, _, _, _, _, _, ⟨k + 1, by omega, by go_num, Lib.hid trivial⟩, rfl⟩
            case measure => simp [intOf]; omega
          · have e1 : (x == (d : Int)) = false := by simpa using q1
            rw [if_neg q1] at hget
            have hel := elim_evI hget
            clear q1
            go_wp2_with (at_lookup; refine wpList_get rfl (.tmp 118) (.tmp 119) 54 rfl keyed3 Try.underlying54 (zero3 _) rfl hM (x := x) hok rfl ?_; rw [hel])
            go_roundw
            case rel => exact ⟨_, _, _, _, _, _, _, _, _, _, _, _, _, _, _, _, ⟨k + 1, by omega, by go_num, Lib.hid trivial⟩, rfl⟩
            case measure => simp [intOf]; omega
        · have hk' : k = nm := by omega
          subst hk'
          go_wp2
          go_ret
          exact ⟨rfl, HBr.out⟩

set_option maxRecDepth 100000 in
set_option maxHeartbeats 2000000 in
theorem ot_many (v : Value) (xs : List Nd) (q : Nat) (w : World) (hm : ¬ xs.length ≤ 80) (h : TreeAt w v xs) :
    Calls Try.prog 9 #[v, .int .u8 q] w fun e w' => e = .returned (.bool true) ∧ Below w.heap.size w w' := by
  have KF := Lib.hid fun W v (hv : TreeAt W v xs) => few_any v xs W hv
  have hd : decide (xs.length ≤ 80) = false := decide_eq_false hm
  rw [hd] at KF
  have HT := Lib.hid h
  obtain ⟨a0, c0, rfl⟩ := h.form
  have hbx := Boxed.new w 24 (.slice a0 xs.length c0)
  have hB0 : Below w.heap.size w (w.alloc (.cells #[.slice a0 xs.length c0] 24)) := (Below.refl _ _).alloc (Nat.le_refl _) _
  clear h hd
  generalize hn : xs.length = n at *
  go_enter Try.func9, Try.ntmps9
  go_wp2_with (first
    | (go_at_call 10; refine (sane_any _).mono ?_; rintro e w1 ⟨rfl, hB1⟩; have hB1' := below_step hB0 hB0.size hB1; have x1 := cell_kept hbx.cell hB1)
    | (go_at_call 11; refine (KF.out w1 _ (HT.out.below hB1')).mono ?_; rintro e w2 ⟨rfl, hB2⟩; have hB2' := below_step hB1' hB1'.size hB2))
  go_ret
  exact ⟨rfl, hB2'⟩

set_option maxRecDepth 100000 in
set_option maxHeartbeats 2000000 in
theorem ot_bad (v : Value) (xs : List Nd) (q : Nat) (w : World) (hm : xs.length ≤ 80) (h : TreeAt w v xs) (hc : checkL xs ≠ 0) :
    Calls Try.prog 9 #[v, .int .u8 q] w fun e w' => e = .returned (.bool true) ∧ Below w.heap.size w w' := by
  have KF := Lib.hid fun W v (hv : TreeAt W v xs) => few_any v xs W hv
  have KC := Lib.hid fun W v (hv : TreeAt W v xs) => check17_any v xs W (by omega) hv
  have hd : decide (xs.length ≤ 80) = true := decide_eq_true hm
  rw [hd] at KF
  rw [(checkL_or xs).resolve_left hc] at KC
  have HT := Lib.hid h
  obtain ⟨a0, c0, rfl⟩ := h.form
  have hbx := Boxed.new w 24 (.slice a0 xs.length c0)
  have hB0 : Below w.heap.size w (w.alloc (.cells #[.slice a0 xs.length c0] 24)) := (Below.refl _ _).alloc (Nat.le_refl _) _
  clear h hd hc
  generalize hn : xs.length = n at *
  go_enter Try.func9, Try.ntmps9
  go_wp2_with (first
    | (go_at_call 10; refine (sane_any _).mono ?_; rintro e w1 ⟨rfl, hB1⟩; have hB1' := below_step hB0 hB0.size hB1; have x1 := cell_kept hbx.cell hB1)
    | (go_at_call 11; refine (KF.out w1 _ (HT.out.below hB1')).mono ?_; rintro e w2 ⟨rfl, hB2⟩; have hB2' := below_step hB1' hB1'.size hB2; have x2 := cell_kept x1 hB2; have T2x := HT.out.below hB2'; have HT2 := Lib.hid T2x)
    | (go_at_call 17; refine (KC.out w2 _ HT2.out).mono ?_; rintro e w3 ⟨rfl, hB3⟩; have hB3' := below_step hB2' hB2'.size hB3))
  go_ret
  exact ⟨rfl, hB3'⟩

set_option maxRecDepth 100000 in
set_option maxHeartbeats 2000000 in
theorem ot_nil (v : Value) (q : Nat) (w : World) (h : TreeAt w v []) :
    Calls Try.prog 9 #[v, .int .u8 q] w fun e w' => e = .returned (.bool true) ∧ Below w.heap.size w w' := by
  have KF := Lib.hid fun W v (hv : TreeAt W v []) => few_any v [] W hv
  have KC := Lib.hid fun W v (hv : TreeAt W v []) => check17_any v [] W (by decide) hv
  have KM := Lib.hid fun W v (hv : TreeAt W v []) => members_any v [] W (by decide) hv
  rw [show decide (([] : List Nd).length ≤ 80) = true from rfl] at KF
  rw [show checkL [] = 0 from rfl] at KC
  rw [show memL [] = [] by kernel_rfl] at KM
  have HT := Lib.hid h
  obtain ⟨a0, c0, rfl⟩ := h.form
  simp only [List.length_nil] at *
  have hbx := Boxed.new w 24 (.slice a0 0 c0)
  have hB0 : Below w.heap.size w (w.alloc (.cells #[.slice a0 0 c0] 24)) := (Below.refl _ _).alloc (Nat.le_refl _) _
  clear h
  go_enter Try.func9, Try.ntmps9
  go_wp2_with (first
    | (go_at_call 10; refine (sane_any _).mono ?_; rintro e w1 ⟨rfl, hB1⟩; have hB1' := below_step hB0 hB0.size hB1; have x1 := cell_kept hbx.cell hB1)
    | (go_at_call 11; refine (KF.out w1 _ (HT.out.below hB1')).mono ?_; rintro e w2 ⟨rfl, hB2⟩; have hB2' := below_step hB1' hB1'.size hB2; have x2 := cell_kept x1 hB2; have T2x := HT.out.below hB2'; have HT2 := Lib.hid T2x)
    | (go_at_call 17; refine (KC.out w2 _ HT2.out).mono ?_; rintro e w3 ⟨rfl, hB3⟩; have hB3' := below_step hB2' hB2'.size hB3; have x3 := cell_kept x2 hB3; have T3x := HT.out.below hB3'; have HT3 := Lib.hid T3x)
    | (go_at_call 19; refine (KM.out w3 _ HT3.out).mono ?_; rintro e w4 ⟨vM, rfl, hIM, hB4⟩; have hB4' := below_step hB3' hB3'.size hB4; have x4 := cell_kept x3 hB4; obtain ⟨aM, cM, rfl⟩ := hIM.form; simp only [List.length_nil]))
  go_ret
  exact ⟨rfl, hB4'⟩

theorem others_any (v : Value) (xs : List Nd) (q : Nat) (hq : q < 256) (w : World) (h : TreeAt w v xs) :
    Calls Try.prog 9 #[v, .int .u8 q] w fun e w' => e = .returned (.bool true) ∧ Below w.heap.size w w' := by
  by_cases hm : xs.length ≤ 80
  case neg => exact ot_many v xs q w hm h
  by_cases hc : checkL xs = 0
  case neg => exact ot_bad v xs q w hm h hc
  cases hM : memL xs with
  | nil =>
    obtain rfl := memL_nil hc hM
    exact ot_nil v q w h
  | cons m0 ms =>
    have hlen : 0 < (memL xs).length := by rw [hM]; simp
    clear hM
    have hlt := Nat.mod_lt q hlen
    obtain ⟨d, hd⟩ : ∃ d, (memL xs)[q % (memL xs).length]? = some d := ⟨_, List.getElem?_eq_getElem hlt⟩
    obtain ⟨d0, d1⟩ := memL_range xs d (List.mem_of_getElem? hd)
    obtain ⟨dn, rfl⟩ := Int.eq_ofNat_of_zero_le d0
    have hsr : ∀ s ∈ (ups (512 + dn)).map sib, 1 ≤ s ∧ s ≤ 1023 := by
      intro s hs
      obtain ⟨u, hu, rfl⟩ := List.mem_map.1 hs
      obtain ⟨j, hj, e⟩ := List.mem_iff_getElem.1 hu
      rw [ups_length] at hj
      have h1 := ups_at (512 + dn) j hj
      rw [List.getElem?_eq_getElem (by rw [ups_length]; exact hj), e] at h1
      have h2 := shift_bounds (512 + dn) j (by omega) (by omega) hj
      cases h1
      have := sib_tab ((512 + dn) / 2 ^ j) h2.2 h2.1
      omega
    refine ot_walk v xs (memL xs) _ (resF (ofF xs) 9) dn _ q w hm h hc rfl rfl hlen hq hd (by omega) rfl (by rw [List.length_map, ups_length]) (fun s hs => ?_) (fun x hx => ?_)
    · have hs2 := hsr s hs
      refine ⟨by unfold resL; rw [if_neg (by simp [hc]), if_neg (by omega)], resF_length _ _ _, fun m hmm => ?_⟩
      have := (resF_facts (ofF xs) 9 s hs2.1 hs2.2 (by omega)).1 m hmm
      exact ⟨this.1, this.2.1⟩
    · obtain ⟨x0, x1⟩ := memL_range xs x hx
      refine ⟨x0, x1, ?_⟩
      rw [cnt_flat (ofF xs) x x0 x1 (mem_isSome hc hx) _ hsr]
      obtain ⟨xn, rfl⟩ := Int.eq_ofNat_of_zero_le x0
      exact cnt_copath (by omega) (by omega)
end Go.Proofs.Ytofkmapokdcphaa
