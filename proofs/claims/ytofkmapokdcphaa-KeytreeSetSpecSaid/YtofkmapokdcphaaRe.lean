import Derived.Test.YtofkmapokdcphaaPr
namespace Go.Proofs.Ytofkmapokdcphaa
open Go Go.RowKit Go.Maps Go.My Go.Shelf

theorem cnt_le (l : List Int) (x : Int) : cnt l x ≤ l.length := by
  induction l with
  | nil => simp [cnt]
  | cons n l ih => simp only [cnt, List.length_cons]; unfold ind; split <;> omega

theorem elim_evI {o : Option Int} {c : Nat} (h : o.getD 0 = (c : Int)) : o.elim (Value.int .i64 0) evI = .int .i64 (c : Int) := by
  cases o with
  | none => simp only [Option.elim]; rw [← h]; rfl
  | some y => simp only [Option.elim, evI]; rw [← h]; rfl

theorem below_drewN (w : World) (k : Nat) : Below w.heap.size w (w.drewN k) := ⟨rfl, rfl, rfl, Nat.le_refl _, fun _ _ => rfl⟩

set_option maxRecDepth 100000 in
set_option maxHeartbeats 4000000 in
theorem re_walk (v : Value) (xs : List Nd) (M L : List Int) (node a0 b0 : Int) (w : World) (hm : xs.length ≤ 80) (h : TreeAt w v xs)
    (h0 : 1 ≤ node) (h1 : node ≤ 1023) (hlo : lo node = a0) (hhi : hi node = b0) (kL : resL xs node = (L, 0)) (hM : memL xs = M)
    (hLl : L.length ≤ 512) (hLr : ∀ m ∈ L, 1 ≤ m ∧ m ≤ 1023 ∧ (ofF xs m).isSome = true ∧ a0 ≤ lo m ∧ hi m ≤ b0) (hLp : L.Pairwise (fun a b => hi a ≤ lo b))
    (hc : ∀ d ∈ M, 0 ≤ d ∧ d < 512 ∧ cnt L d = if a0 ≤ d ∧ d < b0 then 1 else 0) :
    Calls Try.prog 8 #[v, .int .i64 node] w fun e w' => e = .returned (.bool true) ∧ Below w.heap.size w w' := by
  have KF := Lib.hid fun W v (hv : TreeAt W v xs) => few_any v xs W hv
  have KM := Lib.hid fun W v (hv : TreeAt W v xs) => members_any v xs W (by omega) hv
  have KL := Lib.hid fun W v (hv : TreeAt W v xs) => resolution_any v xs node W (by omega) hv
  have KP := Lib.hid fun W v x (hv : TreeAt W v xs) (hx : (Lit.int .i64 x).wf = true) => public_any v xs x W (by omega) hx hv
  have KU := Lib.hid fun W => under_ok node W h0 (by omega)
  have hdd : decide (xs.length ≤ 80) = true := decide_eq_true hm
  have hml : M.length ≤ 80 := by rw [← hM]; exact Nat.le_trans (memL_length xs) hm
  rw [hdd] at KF; rw [hM] at KM; rw [kL] at KL; rw [hlo, hhi] at KU
  have HLR := Lib.hid hLr; have HLP := Lib.hid hLp; have HC := Lib.hid hc
  have HT := Lib.hid h
  have hmm := @run_makeMap Try.prog
  obtain ⟨p0, c0, rfl⟩ := h.form
  have hbx := Boxed.new w 24 (.slice p0 xs.length c0)
  have hB0 : Below w.heap.size w (w.alloc (.cells #[.slice p0 xs.length c0] 24)) := (Below.refl _ _).alloc (Nat.le_refl _) _
  clear h hdd hM kL hLr hLp hc hlo hhi
  obtain ⟨n, hn⟩ : ∃ n, n = xs.length := ⟨_, rfl⟩
  rw [← hn] at hm hbx hB0 HT ⊢
  have HN := Lib.hid hn
  clear hn
  go_enter Try.func8, Try.ntmps8
  go_upto_region 13 with (first
    | (go_at_call 10; refine (sane_any _).mono ?_; rintro e w1 ⟨rfl, hB1⟩; have hB1' := below_step hB0 hB0.size hB1; have x1 := cell_kept hbx.cell hB1)
    | (go_at_call 11; refine (KF.out w1 _ (HT.out.below hB1')).mono ?_; rintro e w2 ⟨rfl, hB2⟩; have hB2' := below_step hB1' hB1'.size hB2; have x2 := cell_kept x1 hB2; have T2x := HT.out.below hB2'; have HT2 := Lib.hid T2x)
    | (go_at_call 12; refine (KL.out w2 _ HT2.out).mono ?_; rintro e w3 ⟨vL, rfl, hIL, hB3⟩; have hB3' := below_step hB2' hB2'.size hB3; have x3 := cell_kept x2 hB3; have HIL3 := Lib.hid hIL; obtain ⟨aL, cL, rfl⟩ := hIL.form)
    | (go_at_call 32; refine (KU.out w3).mono ?_; rintro e w4 ⟨rfl, kk, rfl⟩; have hB4 := below_drewN w3 kk))
  have hIL4 := HIL3.out.below hB4
  have x4 := cell_kept x3 hB4
  have hB4' := below_step hB3' hB3'.size hB4
  have hs4 : (w3.drewN kk).heap.size = w3.heap.size := rfl
  rw [← hs4]
  generalize w3.drewN kk = w4 at *
  clear hs4
  have hT4 := HT.out.below hB4'
  have HT4 := Lib.hid hT4
  obtain ⟨aL', cL', bL, oL, eL, haL, hcL⟩ := hIL4
  cases eL
  have HAL := Lib.hid haL
  have HCL := Lib.hid hcL
  have hM4 : MapIs K3 evI (w4.alloc (.map #[] 0)) w4.heap.size 0 (fun _ => none) := MapIs.made K3 evI w4
  have HB4 := Lib.hid hB4'
  clear haL hcL hT4 hB1 hB2 hB3 hB4 hB1' hB2' hB3' hB4' HIL3 hIL x1 x2 x3 T2x HT2 hbx hB0
  have h0w : w.heap.size < w4.heap.size := lt_of_cell x4
  obtain ⟨nL, hnL⟩ : ∃ nL, nL = L.length := ⟨_, rfl⟩
  rw [← hnL] at hLl ⊢
  have HNL := Lib.hid hnL
  clear hnL
  go_wp2
  go_loopw [10, 68] (fun en i wr => ∃ (k sz : Nat) (e : Int) (fm : Int → Option Int), k ≤ nL ∧ i = .int .i64 k ∧ en = .int .i64 e ∧ Hid (∀ j m, k ≤ j → L[j]? = some m → e ≤ lo m) ∧ sz ≤ k * 512 ∧ MapIs K3 evI wr w4.heap.size sz fm ∧ Hid (∀ x, 0 ≤ x → x < 512 → (fm x).getD 0 = (cnt (L.take k) x : Int)) ∧ Chg (fun j => j = w4.heap.size) (w4.alloc (.map #[] 0)) wr) (fun _ i _ => nL - (intOf i).toNat)
  case atStart =>
    refine ⟨0, 0, 0, _, Nat.zero_le _, rfl, rfl, fun j m _ hj => ?_, Nat.zero_le _, hM4, fun x _ _ => rfl, Chg.refl _ _⟩
    have hr := HLR.out m (List.mem_of_getElem? hj)
    exact (span m hr.1 (by omega)).1
  case round =>
    obtain ⟨k, sz, e, fm, hk, rfl, rfl, hen, hsz, hM, hcn, hC⟩ := hrel
    have hCB : Below w4.heap.size w4 wr := ((Below.refl _ w4).alloc (Nat.le_refl _) _).trans (hC.below (fun j h => by omega) (by simp))
    by_cases hlt : k < nL
    · obtain ⟨m, hmk⟩ : ∃ y, L[k]? = some y := ⟨_, List.getElem?_eq_getElem (by rw [← HNL.out]; exact hlt)⟩
      have ha : aL = some ⟨bL, oL, none⟩ := by
        rcases HAL.out with h | h
        · exact h
        · rw [h] at hmk; cases hmk
      subst ha
      have g0 := cell_kept (HCL.out k m hmk) hCB
      have gx := cell_kept x4 hCB
      have hTr := HT4.out.below hCB
      have HTr := Lib.hid hTr
      obtain ⟨m0, m1, hs, l0, l1⟩ := HLR.out m (List.mem_of_getElem? hmk)
      obtain ⟨s0, s1, s2⟩ := span m m0 (by omega)
      have hle := hen.out k m (Nat.le_refl _) hmk
      have KU2 := under_ok m wr m0 (by omega)
      have hnext : ∀ j m', k + 1 ≤ j → L[j]? = some m' → hi m ≤ lo m' := by
        intro j m' hj hm'
        obtain ⟨q1, e1⟩ := List.getElem?_eq_some_iff.1 hmk
        obtain ⟨q2, e2⟩ := List.getElem?_eq_some_iff.1 hm'
        have := List.pairwise_iff_getElem.1 HLP.out k j q1 q2 (by omega)
        rwa [e1, e2] at this
      have hind : ∀ x, ind m x = if lo m ≤ x ∧ x < hi m then 1 else 0 := fun x => rfl
      have HTS := Lib.hid (take_snoc hmk)
      obtain ⟨am, ham⟩ : ∃ am, am = lo m := ⟨_, rfl⟩
      obtain ⟨bm, hbm⟩ : ∃ bm, bm = hi m := ⟨_, rfl⟩
      rw [← ham] at l0 s0 s1 hle KU2 hind
      rw [← hbm] at l1 s1 s2 KU2 hnext hind
      have HNX := Lib.hid hnext
      have HIND := Lib.hid hind
      have HKU := Lib.hid KU2
      have hmw : (Lit.int .i64 m).wf = true := wf_small (by omega) (by omega)
      have hsm : (ofF xs m).isSome = true := hs
      clear ham hbm hnext hind KU2 hmk hTr hs
      have d1 : decide (am < e) = false := decide_eq_false (by omega)
      have d2 : decide (am < a0) = false := decide_eq_false (by omega)
      have d3 : decide (b0 < bm) = false := decide_eq_false (by omega)
      have d4 : decide (512 < bm - am) = false := decide_eq_false (by omega)
      obtain ⟨dn, rfl⟩ : ∃ dn : Nat, bm = am + dn := ⟨(bm - am).toNat, by omega⟩
      have hb21 := Lib.hid hen
      clear hen
      rcases Nat.eq_zero_or_pos k with hk0 | hk0
      all_goals
        have d0 : (decide ((0 : Int) < (k : Int))) = decide (0 < k) := by simp
        first | (have d5 : decide (0 < k) = true := decide_eq_true hk0) | (have d5 : decide (0 < k) = false := decide_eq_false (by omega))
        have HK0 := Lib.hid hk0
        clear hk0
        go_wp2_with (first
          | (go_at_call 32; refine HKU.out.mono ?_; rintro e w5 ⟨rfl, kk, rfl⟩; have hB5 := below_drewN wr kk; have gx5 := cell_kept gx hB5; have hT5 := Lib.hid (HTr.out.below hB5))
          | (go_at_call 14; refine (KP.out _ _ m hT5.out hmw).mono ?_; rintro e w6 ⟨rfl, hB6⟩; have hB56 := below_step hB5 hB5.size hB6; rw [hsm]))
        have hM6 : MapIs K3 evI w6 w4.heap.size sz fm := hM.below hB56 hM.lt
        have hC6 := hC.trans (Chg.of_below' hB56) (fun _ h => h.elim)
        clear hM hC hB5 hB6 hB56 hCB
        go_loopw [19] (fun u wr2 => ∃ (j : Nat) (fm2 : Int → Option Int), j ≤ dn ∧ u = .int .i64 (am + j) ∧ MapIs K3 evI wr2 w4.heap.size (sz + j) fm2 ∧ Hid (∀ x, 0 ≤ x → x < 512 → (fm2 x).getD 0 = ((cnt (L.take k) x + if am ≤ x ∧ x < am + j then 1 else 0 : Nat) : Int)) ∧ Chg (fun j => j = w4.heap.size) (w4.alloc (.map #[] 0)) wr2) (fun u _ => (am + dn - intOf u).toNat)
        case atStart =>
          refine ⟨0, fm, Nat.zero_le _, by go_num, hM6, fun x x0 x1 => ?_, hC6⟩
          rw [hcn.out x x0 x1, if_neg (by omega)]
          rfl
        case round =>
          obtain ⟨j, fm2, hj, rfl, hM2, hcn2, hC2⟩ := hrel
          by_cases hjd : j < dn
          · have hx0 : 0 ≤ am + (j : Int) := by omega
            have hx1 : am + (j : Int) < 512 := by omega
            have hget := hcn2.out (am + j) hx0 hx1
            rw [if_neg (by omega), Nat.add_zero] at hget
            have hcl : cnt (L.take k) (am + j) ≤ 512 := Nat.le_trans (cnt_le _ _) (by rw [List.length_take]; omega)
            obtain ⟨c, hcc⟩ : ∃ c, c = cnt (L.take k) (am + j) := ⟨_, rfl⟩
            rw [← hcc] at hget hcl
            have hel := elim_evI hget
            have hok : (K3).ok (am + (j : Int)) := wf_small (by omega) (by omega)
            have hkey : wrap64 (am + (j : Int) + 1) = am + (j : Int) + 1 := IntWalk.wrap64_in _ ⟨by omega, by omega⟩
            have HCC := Lib.hid hcc
            have HGET := Lib.hid hget
            clear hcc hget
            have dj : decide (am + (j : Int) < am + dn) = true := decide_eq_true (by omega)
            go_wp2_with (first
              | (at_lookup; refine wpList_get rfl (.tmp 123) (.tmp 124) 54 rfl keyed3 Try.underlying54 (zero3 _) rfl hM2 (x := am + (j : Int)) hok rfl ?_; rw [hel])
              | (at_mapUpdate; refine wpList_put rfl (.tmp 123) (.tmp 124) (.tmp 126) 54 rfl keyed3 Try.underlying54 rfl hM2 (by unfold maxLen; omega) (x := am + (j : Int)) hok rfl (c := (c : Int) + 1) rfl ?_; intro w7 hM7 hg7))
            refine ⟨⟨j + 1, _, by omega, by go_num, hM7, fun x x0 x1 => ?_, hC2.grown hg7 (fun j hj => by cases hj; exact .inl rfl)⟩, by simp [intOf]; omega⟩
            unfold upd
            by_cases hx : x = am + j
            · rw [if_pos hx, if_pos (by omega)]
              have := HCC.out
              rw [← hx] at this
              rw [← this]
              simp
            · rw [if_neg hx, hcn2.out x x0 x1]
              congr 2
              by_cases h : am ≤ x ∧ x < am + j
              · rw [if_pos h, if_pos (by omega)]
              · rw [if_neg h, if_neg (by omega)]
          · have hj' : j = dn := by omega
            subst hj'
            have dj : decide (am + (j : Int) < am + j) = false := decide_eq_false (by omega)
            go_wp2
            refine ⟨⟨k + 1, sz + j, am + j, fm2, by omega, by go_num, rfl, HNX.out, by omega, hM2, fun x x0 x1 => ?_, hC2⟩, by simp [intOf]; omega⟩
            rw [hcn2.out x x0 x1, HTS.out, cnt_append, cnt_one, HIND.out]
    · have hk' : k = nL := by omega
      subst hk'
      rw [List.take_of_length_le (by rw [← HNL.out]; exact Nat.le_refl _)] at hcn
      have gx := cell_kept x4 hCB
      have HTr := Lib.hid (HT4.out.below hCB)
      have HBr := Lib.hid (below_step HB4.out HB4.out.size hCB)
      clear hC hCB hen
      go_wp2_with (go_at_call 19; refine (KM.out _ _ HTr.out).mono ?_; rintro e w8 ⟨vM, rfl, hIM, hB8⟩; have hB8' := below_step HBr.out HBr.out.size hB8; obtain ⟨aM, cM, bM, oM, rfl, haM, hcM⟩ := hIM)
      have hM8 := hM.below hB8 hM.lt
      have HAM := Lib.hid haM
      have HCM := Lib.hid hcM
      have HB8 := Lib.hid hB8'
      clear haM hcM hM hB8 hB8'
      obtain ⟨nM, hnM⟩ : ∃ nM, nM = M.length := ⟨_, rfl⟩
      rw [← hnM] at hml ⊢
      have HNM := Lib.hid hnM
      clear hnM
      go_loopw [131] (fun i wr => ∃ k : Nat, k ≤ nM ∧ i = .int .i64 k ∧ Hid (wr = w8)) (fun i _ => nM - (intOf i).toNat)
      case atStart => exact ⟨0, Nat.zero_le _, rfl, Lib.hid rfl⟩
      case round =>
        obtain ⟨k, hk, rfl, he⟩ := hrel
        obtain rfl := he.out
        clear he
        by_cases hlt : k < nM
        · obtain ⟨d, hd⟩ : ∃ y, M[k]? = some y := ⟨_, List.getElem?_eq_getElem (by rw [← HNM.out]; exact hlt)⟩
          have ha : aM = some ⟨bM, oM, none⟩ := by
            rcases HAM.out with h | h
            · exact h
            · rw [h] at hd; cases hd
          subst ha
          have g0 := HCM.out k d hd
          obtain ⟨d0, d1, hcd⟩ := HC.out d (List.mem_of_getElem? hd)
          have hget := hcn.out d d0 d1
          rw [hcd] at hget
          have hok : (K3).ok d := wf_small (by omega) (by omega)
          clear hd hcd
          rcases Classical.em (a0 ≤ d) with q1 | q1
          · have e1 : decide (a0 ≤ d) = true := decide_eq_true q1
            rcases Classical.em (d < b0) with q2 | q2
            · have e2 : decide (d < b0) = true := decide_eq_true q2
              rw [if_pos ⟨q1, q2⟩] at hget
              have hel := elim_evI hget
              go_wp2_with (at_lookup; refine wpList_get rfl (.tmp 143) (.tmp 144) 54 rfl keyed3 Try.underlying54 (zero3 _) rfl hM8 (x := d) hok rfl ?_; rw [hel])
              refine ⟨⟨k + 1, by omega, by go_num, Lib.hid trivial⟩, by simp [intOf]; omega⟩
            · have e2 : decide (d < b0) = false := decide_eq_false q2
              rw [if_neg (fun h => q2 h.2)] at hget
              have hel := elim_evI hget
              go_wp2_with (at_lookup; refine wpList_get rfl (.tmp 143) (.tmp 144) 54 rfl keyed3 Try.underlying54 (zero3 _) rfl hM8 (x := d) hok rfl ?_; rw [hel])
              refine ⟨⟨k + 1, by omega, by go_num, Lib.hid trivial⟩, by simp [intOf]; omega⟩
          · have e1 : decide (a0 ≤ d) = false := decide_eq_false q1
            rw [if_neg (fun h => q1 h.1)] at hget
            have hel := elim_evI hget
            go_wp2_with (at_lookup; refine wpList_get rfl (.tmp 143) (.tmp 144) 54 rfl keyed3 Try.underlying54 (zero3 _) rfl hM8 (x := d) hok rfl ?_; rw [hel])
            refine ⟨⟨k + 1, by omega, by go_num, Lib.hid trivial⟩, by simp [intOf]; omega⟩
        · have hk' : k = nM := by omega
          subst hk'
          go_wp2
          go_ret
          exact ⟨rfl, HB8.out⟩

theorem under_any (node : Int) : ∃ A B C : Int, (C = 0 ∨ C = 200) ∧ ((node < 1 ∨ 1023 < node) → C = 200) ∧ ∀ W, Calls Try.prog 32 #[.int .i64 node] W fun e w' => e = .returned (.tuple #[.int .i64 A, .int .i64 B, .int .i64 C]) ∧ Below W.heap.size W w' := by
  by_cases h : 1 ≤ node ∧ node < 1024
  · refine ⟨lo node, hi node, 0, .inl rfl, fun h => by omega, fun W => (under_ok node W h.1 h.2).mono ?_⟩
    rintro e w' ⟨rfl, k, rfl⟩
    exact ⟨rfl, below_drewN W k⟩
  · refine ⟨0, 0, 200, .inr rfl, fun _ => rfl, fun W => (under_no node W (by omega)).mono ?_⟩
    rintro e w' ⟨rfl, rfl⟩
    exact ⟨rfl, Below.refl _ _⟩

set_option maxRecDepth 100000 in
set_option maxHeartbeats 2000000 in
theorem re_many (v : Value) (xs : List Nd) (node : Int) (w : World) (hm : ¬ xs.length ≤ 80) (h : TreeAt w v xs) :
    Calls Try.prog 8 #[v, .int .i64 node] w fun e w' => e = .returned (.bool true) ∧ Below w.heap.size w w' := by
  have KF := Lib.hid fun W v (hv : TreeAt W v xs) => few_any v xs W hv
  have hd : decide (xs.length ≤ 80) = false := decide_eq_false hm
  rw [hd] at KF
  have HT := Lib.hid h
  obtain ⟨a0, c0, rfl⟩ := h.form
  have hbx := Boxed.new w 24 (.slice a0 xs.length c0)
  have hB0 : Below w.heap.size w (w.alloc (.cells #[.slice a0 xs.length c0] 24)) := (Below.refl _ _).alloc (Nat.le_refl _) _
  clear h hd
  generalize hn : xs.length = n at *
  go_enter Try.func8, Try.ntmps8
  go_wp2_with (first
    | (go_at_call 10; refine (sane_any _).mono ?_; rintro e w1 ⟨rfl, hB1⟩; have hB1' := below_step hB0 hB0.size hB1; have x1 := cell_kept hbx.cell hB1)
    | (go_at_call 11; refine (KF.out w1 _ (HT.out.below hB1')).mono ?_; rintro e w2 ⟨rfl, hB2⟩; have hB2' := below_step hB1' hB1'.size hB2))
  go_ret
  exact ⟨rfl, hB2'⟩

set_option maxRecDepth 100000 in
set_option maxHeartbeats 2000000 in
theorem re_err (v : Value) (xs : List Nd) (node e0 A B C : Int) (w : World) (hm : xs.length ≤ 80) (h : TreeAt w v xs) (kL : resL xs node = ([], e0))
    (kU : ∀ W, Calls Try.prog 32 #[.int .i64 node] W fun e w' => e = .returned (.tuple #[.int .i64 A, .int .i64 B, .int .i64 C]) ∧ Below W.heap.size W w')
    (hcase : e0 = 210 ∧ checkL xs = 210 ∨ e0 = 200 ∧ C = 200) :
    Calls Try.prog 8 #[v, .int .i64 node] w fun e w' => e = .returned (.bool true) ∧ Below w.heap.size w w' := by
  have KF := Lib.hid fun W v (hv : TreeAt W v xs) => few_any v xs W hv
  have KL := Lib.hid fun W v (hv : TreeAt W v xs) => resolution_any v xs node W (by omega) hv
  have KC := Lib.hid fun W v (hv : TreeAt W v xs) => check17_any v xs W (by omega) hv
  have KU := Lib.hid kU
  have hd : decide (xs.length ≤ 80) = true := decide_eq_true hm
  rw [hd] at KF; rw [kL] at KL
  have HT := Lib.hid h
  obtain ⟨a0, c0, rfl⟩ := h.form
  have hbx := Boxed.new w 24 (.slice a0 xs.length c0)
  have hB0 : Below w.heap.size w (w.alloc (.cells #[.slice a0 xs.length c0] 24)) := (Below.refl _ _).alloc (Nat.le_refl _) _
  clear h hd kU
  rcases hcase with ⟨rfl, hc⟩ | ⟨rfl, rfl⟩
  all_goals
    try rw [hc] at KC
    try clear hc
    clear kL
    generalize hn : xs.length = n at *
    go_enter Try.func8, Try.ntmps8
    go_wp2_with (first
      | (go_at_call 10; refine (sane_any _).mono ?_; rintro e w1 ⟨rfl, hB1⟩; have hB1' := below_step hB0 hB0.size hB1; have x1 := cell_kept hbx.cell hB1)
      | (go_at_call 11; refine (KF.out w1 _ (HT.out.below hB1')).mono ?_; rintro e w2 ⟨rfl, hB2⟩; have hB2' := below_step hB1' hB1'.size hB2; have x2 := cell_kept x1 hB2; have T2x := HT.out.below hB2'; have HT2 := Lib.hid T2x)
      | (go_at_call 12; refine (KL.out w2 _ HT2.out).mono ?_; rintro e w3 ⟨vL, rfl, hIL, hB3⟩; have hB3' := below_step hB2' hB2'.size hB3; have x3 := cell_kept x2 hB3; obtain ⟨aL, cL, rfl⟩ := hIL.form; simp only [List.length_nil])
      | (go_at_call 32; refine (KU.out w3).mono ?_; rintro e w4 ⟨rfl, hB4⟩; have hB4' := below_step hB3' hB3'.size hB4; have x4 := cell_kept x3 hB4; have HT4 := Lib.hid (HT.out.below hB4'))
      | (go_at_call 17; refine (KC.out w4 _ HT4.out).mono ?_; rintro e w5 ⟨rfl, hB5⟩; have hB5' := below_step hB4' hB4'.size hB5))
    go_ret
    exact ⟨rfl, by first | exact hB5' | exact hB4'⟩

theorem reaches_any (v : Value) (xs : List Nd) (node : Int) (w : World) (h : TreeAt w v xs) :
    Calls Try.prog 8 #[v, .int .i64 node] w fun e w' => e = .returned (.bool true) ∧ Below w.heap.size w w' := by
  by_cases hm : xs.length ≤ 80
  case neg => exact re_many v xs node w hm h
  obtain ⟨A, B, C, hC, hC2, kU⟩ := under_any node
  by_cases hc : checkL xs = 0
  case neg => exact re_err v xs node 210 A B C w hm h (by unfold resL; rw [if_pos hc]) kU (.inl ⟨rfl, (checkL_or xs).resolve_left hc⟩)
  by_cases hn : node < 1 ∨ 1023 < node
  · exact re_err v xs node 200 A B C w hm h (by unfold resL; rw [if_neg (by simp [hc]), if_pos hn]) kU (.inr ⟨rfl, hC2 hn⟩)
  · have hf := resF_facts (ofF xs) 9 node (by omega) (by omega) (by omega)
    refine re_walk v xs (memL xs) (resF (ofF xs) 9 node) node _ _ w hm h (by omega) (by omega) rfl rfl (by unfold resL; rw [if_neg (by simp [hc]), if_neg hn]) rfl (Nat.le_trans (resF_length _ _ _) (by decide)) hf.1 hf.2.1 (fun d hd => ?_)
    obtain ⟨d0, d1⟩ := memL_range xs d hd
    exact ⟨d0, d1, hf.2.2 d d0 d1 (mem_isSome hc hd)⟩
end Go.Proofs.Ytofkmapokdcphaa
