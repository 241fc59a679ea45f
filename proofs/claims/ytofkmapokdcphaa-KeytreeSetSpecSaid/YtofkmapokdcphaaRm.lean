import Derived.Test.YtofkmapokdcphaaEx
namespace Go.Proofs.Ytofkmapokdcphaa
open Go Go.RowKit Go.Maps Go.My Go.Shelf

theorem _root_.Go.Chg.kept {S : Nat → Prop} {w w' : World} {B : Nat} {t : TypeId} {v : Value} (h : Chg S w w') (hb : Boxed w B t v) (hS : ¬ S B) : Boxed w' B t v := (h.same B hb.lt hS).trans hb

theorem memL_nil {xs : List Nd} (h : checkL xs = 0) (hm : memL xs = []) : xs = [] := by
  cases xs with
  | nil => rfl
  | cons n ns =>
    have := (checked h).2 n (by simp)
    unfold usedL at this
    rw [hm] at this
    exact absurd this.2.2.2 (by simp)

theorem cell_two_new2 (w : World) (o : Obj) (x y : Value) (t : TypeId) : ∀ j u, [x, y][j]? = some u → ((w.alloc o).alloc (.cells #[x, y] t)).cell? ((⟨w.heap.size + 1, 0, none⟩ : Addr).add j) = some u := by
  have := cell_two_new' (w.alloc o) x y t
  rwa [World.size_alloc] at this

theorem wpList_ins {P : Program} {k e : TypeId} {κ α : Type} [DecidableEq κ] {E : KeyEnc P k κ} {ev : α → Value} {w : World} {b n : Nat} {f : κ → Option α} {ops : Array Oper} {rest : List Oper} {o : Oper} {a : Act} {Q : Exit → Act → World → Prop}
    (hg : o.guard = none) (m y v : Operand) (t : TypeId) (hop : o.op = Op.insert t m y v) (K : Keyed P k) (ht : P.underlying t = some (.map k e))
    (hm : a.eval m = .map (some b)) (h : MapIs E ev w b n f) (hn : n < maxLen) {x : κ} (hx : E.ok x) (hy : a.eval y = E.ek x) {c : α} (hv : a.eval v = ev c)
    (hK : ∀ w', MapIs E ev w' b (n + 1) (upd f x (some c)) → w.grownBy w' (some b) → wpList P ops Q rest (a.put o.dst undef) w') : wpList P ops Q (o :: rest) a w := by
  refine wpList_plain hg fun K' hK' => ?_
  obtain ⟨w', hrun, r2, r3⟩ := h.put (t := t) K ht hn hx c
  unfold Oper.wp
  simp [execOp, hop, hm, hy, hv, hrun, Result.andThen]
  exact hK' _ _ (hK w' r2 r3)

set_option maxRecDepth 100000 in
set_option maxHeartbeats 4000000 in
theorem rm_walk (v : Value) (xs X : List Nd) (M L MX : List Int) (d : Nat) (nm q : Nat) (w : World) (hm : xs.length ≤ 80) (h : TreeAt w v xs) (hc : checkL xs = 0)
    (hM : memL xs = M) (hnm : M.length = nm) (hn0 : 0 < nm) (hq : q < 256) (hd : M[q % nm]? = some (d : Int)) (d1 : d < 512)
    (kR : RemTo xs d X 0) (hX : X.length ≤ 100) (kL : resL X 1 = (L, 0)) (hLl : L.length ≤ 2000) (hLr : ∀ n ∈ L, (Lit.int .i64 n).wf = true ∧ n ∉ anc d) (cX : checkL X = 0)
    (hMX : memL X = MX) (hMXl : MX.length + 1 = nm) (hf : xs.filter (fun n => !decide (n.1 ∈ anc d)) = X) :
    Calls Try.prog 5 #[v, .int .u8 q] w fun e w' => e = .returned (.bool true) ∧ Below w.heap.size w w' := by
  have KF := Lib.hid fun W v (hv : TreeAt W v xs) => few_any v xs W hv
  have KC := Lib.hid fun W v (hv : TreeAt W v xs) => check17_any v xs W (by omega) hv
  have KM := Lib.hid fun W v (hv : TreeAt W v xs) => members_any v xs W (by omega) hv
  have KL := Lib.hid fun W v (hv : TreeAt W v X) => resolution_any v X 1 W hX hv
  have KCX := Lib.hid fun W v (hv : TreeAt W v X) => check17_any v X W hX hv
  have KMX := Lib.hid fun W v (hv : TreeAt W v X) => members_any v X W hX hv
  have hdd : decide (xs.length ≤ 80) = true := decide_eq_true hm
  rw [hdd] at KF; rw [hc] at KC; rw [hM] at KM; rw [kL] at KL; rw [cX] at KCX; rw [hMX] at KMX
  have hml : nm ≤ 80 := by rw [← hnm, ← hM]; exact Nat.le_trans (memL_length xs) hm
  have KR := Lib.hid kR; have HF := Lib.hid hf; have HLR := Lib.hid hLr; have HD := Lib.hid hd
  have HNM := Lib.hid hnm; have HMXL := Lib.hid hMXl
  have HT := Lib.hid h
  have HX0 := Lib.hid hX
  have hmm := @run_makeMap Try.prog
  obtain ⟨a0, c0, rfl⟩ := h.form
  have hbx := Boxed.new w 24 (.slice a0 xs.length c0)
  have hB0 : Below w.heap.size w (w.alloc (.cells #[.slice a0 xs.length c0] 24)) := (Below.refl _ _).alloc (Nat.le_refl _) _
  have hne0 : ((nm : Int) == 0) = false := by simp; omega
  clear kR h hdd hc hM kL cX hMX hf hLr hd hnm hMXl hX
  obtain ⟨n, hn⟩ : ∃ n, n = xs.length := ⟨_, rfl⟩
  rw [← hn] at hm hbx hB0 HT ⊢
  have HN := Lib.hid hn
  clear hn
  obtain ⟨i0, hi0, hz0, hz1, hz2⟩ := info_parts info48
  go_enter Try.func5, Try.ntmps5
  have hin : (0 : Int) ≤ (q : Int) % (nm : Int) ∧ (q : Int) % (nm : Int) < (nm : Int) := ⟨Int.emod_nonneg _ (by omega), Int.emod_lt_of_pos _ (by omega)⟩
  go_upto_region 15 with (first
    | (go_at_call 10; refine (sane_any _).mono ?_; rintro e w1 ⟨rfl, hB1⟩; have hB1' := below_step hB0 hB0.size hB1; have x1 := cell_kept hbx.cell hB1)
    | (go_at_call 11; refine (KF.out w1 _ (HT.out.below hB1')).mono ?_; rintro e w2 ⟨rfl, hB2⟩; have hB2' := below_step hB1' hB1'.size hB2; have x2 := cell_kept x1 hB2; have T2x := HT.out.below hB2'; have HT2 := Lib.hid T2x)
    | (go_at_call_has 17 a0; refine (KC.out w2 _ HT2.out).mono ?_; rintro e w3 ⟨rfl, hB3⟩; have hB3' := below_step hB2' hB2'.size hB3; have x3 := cell_kept x2 hB3; have T3x := HT.out.below hB3'; have HT3 := Lib.hid T3x)
    | (go_at_call 19; (refine (KM.out w3 _ HT3.out).mono ?_; rintro e w4 ⟨vM, rfl, hIM, hB4⟩; have hB4' := below_step hB3' hB3'.size hB4; have x4 := cell_kept x3 hB4; have HT4 := Lib.hid (HT.out.below hB4'); obtain ⟨aM, cM, bM, oM, rfl, haM, hcM⟩ := hIM; have gM := hcM (q % nm) _ HD.out; (have haM' : aM = some ⟨bM, oM, none⟩ := by (rcases haM with h | h; exact h; have h2 := HD.out; rw [h] at h2; cases h2)); subst haM'; rw [HNM.out]; have HCM := Lib.hid hcM; clear hcM haM))
    | (go_at_call 23; refine (KR.out w4 _ HT4.out).mono ?_; rintro e w5 ⟨vX, rfl, hTX, hB5⟩; have hB5' := below_step hB4' hB4'.size hB5; have x5 := cell_kept x4 hB5; have HT5 := Lib.hid (HT.out.below hB5'); have HTX5 := Lib.hid hTX; obtain ⟨aX, cX, rfl⟩ := hTX.form; have hbX := Boxed.new w5 24 (.slice aX X.length cX); have x5a := cell_old x5 (.cells #[.slice aX X.length cX] 24))
    | (go_at_call 28; refine (leaf_ok (d : Int) _ (by omega) (by omega)).mono ?_; rintro e w6 ⟨rfl, rfl⟩)
    | (go_at_call 29; refine (path_ok d d1 _).mono ?_; rintro e w7 ⟨vA, rfl, hIA, hB7⟩; have x7 := cell_step x5 hB7; have cX7 := cell_new hB7; have hB7' := below_step' hB5' hB5'.size hB7; have HTX7 := Lib.hid (HTX5.out.step hB7); have HIA7 := Lib.hid hIA; obtain ⟨aA, cA, rfl⟩ := hIA.form; rw [show ((ups (512 + d)).map fun x => x / 2).length = 9 from pathL_length d])
    | (go_at_call 12; refine (KL.out _ _ HTX7.out).mono ?_; rintro e w8 ⟨vL, rfl, hIL, hB8⟩; have x8 := cell_kept x7 hB8; have cX8 := cell_kept cX7 hB8; have hB8' := below_step hB7' hB7'.size hB8; have HIA8 := Lib.hid (HIA7.out.below hB8); have HTX8 := Lib.hid (HTX7.out.below hB8); have HIL8 := Lib.hid hIL; obtain ⟨aL, cL, rfl⟩ := hIL.form)
    | (go_at_call_has 17 aX; refine (KCX.out _ _ HTX8.out).mono ?_; rintro e w9 ⟨rfl, hB9⟩; have x9 := cell_kept x8 hB9; have cX9 := cell_kept cX8 hB9; have hB9' := below_step hB8' hB8'.size hB9))
  have hM9 : MapIs K3 Value.bool (w9.alloc (.map #[] 0)) w9.heap.size 0 (setF []) := (MapIs.made K3 Value.bool w9).congr (g := setF []) (fun _ => rfl)
  have hokd : (K3).ok (512 + (d : Int)) := wf_small (by omega) (by omega)
  go_wp2_with ((refine wpList_ins rfl (.tmp 90) (.tmp 91) (.const (.bool true)) 46 rfl keyed3 Try.underlying46 rfl hM9 (by unfold maxLen; omega) (x := 512 + (d : Int)) hokd rfl (c := true) rfl ?_; intro w10 hM10 hg10))
  have hM10' := hM10.congr (setF_snoc [] _)
  rw [List.nil_append] at hM10'
  clear hM10
  have hmx : w9.heap.size < w10.heap.size := hM10'.lt
  have hC10 : Chg (fun j => j = w9.heap.size) w9 w10 := ((Chg.refl _ w9).alloc _).grown hg10 (fun j hj => by cases hj; exact .inl rfl)
  obtain ⟨aA', cA', bA, oA, eA, haA, hcA⟩ := HIA8.out.below hB9
  have hpl := pathL_length d
  have hpL : (ups (512 + d)).map (fun x => x / 2) = pathL d := rfl
  rw [hpL] at haA hcA eA
  rw [hpl] at eA
  cases eA
  have haA' : aA = some ⟨bA, oA, none⟩ := by
    rcases haA with h | h
    · exact h
    · rw [h] at hpl; cases hpl
  subst haA'
  have HCA := Lib.hid hcA
  clear hcA haA
  go_loopw [95] (fun i wr => ∃ j : Nat, j ≤ 9 ∧ i = .int .i64 j ∧ MapIs K3 Value.bool wr w9.heap.size (1 + j) (setF ([512 + (d : Int)] ++ (pathL d).take j)) ∧ Chg (fun j => j = w9.heap.size) w10 wr) (fun i _ => 9 - (intOf i).toNat)
  case atStart => exact ⟨0, by omega, rfl, hM10'.congr (fun x => by rw [List.take_zero, List.append_nil]), Chg.refl _ _⟩
  case round =>
    obtain ⟨j, hj, rfl, hM4, hC4⟩ := hrel
    by_cases hj9 : j < 9
    · obtain ⟨y, hy⟩ : ∃ y, (pathL d)[j]? = some y := ⟨_, List.getElem?_eq_getElem (by rw [pathL_length]; exact hj9)⟩
      have hca := HCA.out j y hy
      have g2 := hC4.cell (hC10.cell hca (fun e => by have e : bA = w9.heap.size := e; have := lt_of_cell hca; simp only at this; omega)) (fun e => by have e : bA = w9.heap.size := e; have := lt_of_cell hca; simp only at this; omega)
      have hy2 := pathL_range (d := d) d1 hy
      have hoky : (K3).ok y := wf_small (by omega) (by omega)
      have hsj := take_snoc hy
      have HSJ := Lib.hid hsj
      clear hy hsj hy2 hca
      go_wp2_with (at_mapUpdate; refine wpList_put rfl (.tmp 99) (.tmp 100) (.const (.bool true)) 46 rfl keyed3 Try.underlying46 rfl hM4 (by unfold maxLen; omega) (x := y) hoky rfl (c := true) rfl ?_; intro w5' hM5 hg5)
      have hM5' := hM5.congr (setF_snoc _ _)
      go_roundw
      case rel => exact ⟨j + 1, by omega, by go_num, hM5'.congr (fun x => by simp only [HSJ.out, List.append_assoc]), hC4.grown hg5 (fun j hj => by cases hj; exact .inl rfl)⟩
      case measure => simp [intOf]; omega
    · have hj' : j = 9 := by omega
      subst hj'
      rw [List.take_of_length_le (l := pathL d) (i := 9) (by rw [pathL_length]; exact Nat.le_refl _)] at hM4
      have hC11 : Chg (fun j => j = w9.heap.size) w9 wr := hC10.trans hC4 (fun _ h => .inl h)
      have hsz9 := hC11.size
      have hlt5 := lt_of_cell cX9
      have hlt0 := lt_of_cell x9
      simp only at hlt5 hlt0
      have x11 := hC11.cell x9 (fun e => by have e : w.heap.size = w9.heap.size := e; omega)
      have cX11 := hC11.cell cX9 (fun e => by have e : w5.heap.size = w9.heap.size := e; omega)
      have hBl : Below w9.heap.size w9 wr := hC11.below (fun _ h => by omega) (Nat.le_refl _)
      have hB11 : Below w.heap.size w wr := hB9'.trans (hBl.mono hB9'.size)
      have HTX11 := Lib.hid ((HTX8.out.below hB9).below hBl)
      have hIL11 := (HIL8.out.below hB9).below hBl
      obtain ⟨_, _, e0, hRow, hWf⟩ := (HT.out.below hB9').below hBl
      cases e0
      obtain ⟨n, hn⟩ : ∃ n, n = xs.length := ⟨_, rfl⟩
      rw [← hn] at hm x11 HT ⊢
      clear HN
      have HN := Lib.hid hn
      clear hn
      have HROW := Lib.hid hRow
      have HWF := Lib.hid hWf
      have HB11 := Lib.hid hB11
      obtain ⟨aL', cL', bL, oL, eL, haL, hcL⟩ := hIL11
      cases eL
      have HAL := Lib.hid haL
      have HCL := Lib.hid hcL
      have HML := Lib.hid hM4
      have hme : ([512 + (d : Int)] ++ pathL d) = anc d := by unfold anc; rw [Int.toNat_natCast]; rfl
      rw [hme] at hM4
      clear hM10' hC10 hC4 hC11 HCA hRow hWf hB11 hBl haL hcL hmx hg10 hB1 hB2 hB3 hB4 hB5 hB7 hB8 hB9 hB1' hB2' hB3' hB4' hB5' hB7' hB8' hB9' HTX5 HTX7 HTX8 HIA7 HIA8 HIL8 HML hIL hIA hTX T2x T3x HT2 HT3 HT4 HT5 hbX x1 x2 x3 x4 x5 x5a x7 x8 x9 cX7 cX8 cX9 hM9 gM HCM hbx hB0
      generalize wr = w11 at *
      generalize w9.heap.size = m at *
      generalize w5.heap.size = q5 at *
      obtain ⟨nL, hnL⟩ : ∃ nL, nL = L.length := ⟨_, rfl⟩
      rw [← hnL] at hLl ⊢
      have HNL := Lib.hid hnL
      clear hnL
      have hmw : m < w11.heap.size := hM4.lt
      have hqw : q5 < w11.heap.size := lt_of_cell cX11
      have h0w : w.heap.size < w11.heap.size := lt_of_cell x11
      go_wp2
      go_loopw [104] (fun i wr => ∃ k : Nat, k ≤ nL ∧ i = .int .i64 k ∧ Hid (wr = w11)) (fun i _ => nL - (intOf i).toNat)
      case atStart => exact ⟨0, Nat.zero_le _, rfl, Lib.hid rfl⟩
      case round =>
        obtain ⟨k, hk, rfl, he⟩ := hrel
        obtain rfl := he.out
        clear he
        by_cases hlt : k < nL
        · obtain ⟨y, hy⟩ : ∃ y, L[k]? = some y := ⟨_, List.getElem?_eq_getElem (by rw [← HNL.out]; exact hlt)⟩
          have ha : aL = some ⟨bL, oL, none⟩ := by
            rcases HAL.out with h | h
            · exact h
            · rw [h] at hy; cases hy
          subst ha
          have g0 := HCL.out k y hy
          obtain ⟨hyw, hya⟩ := HLR.out y (List.mem_of_getElem? hy)
          have hoky : (K3).ok y := hyw
          have hsf : setF (anc d) y = none := by unfold setF; rw [if_neg hya]
          clear hy hya hyw
          go_wp2_with (at_lookup; refine wpList_get rfl (.tmp 108) (.tmp 109) 46 rfl keyed3 Try.underlying46 (zero4 _) rfl hM4 (x := y) hoky rfl ?_; simp only [hsf, Option.elim])
          refine ⟨⟨_, _, _, ⟨k + 1, by omega, rfl, Lib.hid trivial⟩, rfl, rfl, by go_num⟩, by simp [intOf]; omega⟩
        · have hk' : k = nL := by omega
          subst hk'
          go_wp2
          generalize wr = w11 at *
          have hb20 : Boxed (w11.alloc b24) w11.heap.size 24 (.slice none 0 0) := Boxed.new w11 24 _
          go_loopw [116] (fun i wr => ∃ (k : Nat) (u : Value), k ≤ n ∧ i = .int .i64 k ∧ Boxed wr w11.heap.size 24 u ∧ Hid (wr.ownsRow (w11.heap.size + 1) 48 2 u ((xs.take k).filter (fun n => !decide (n.1 ∈ anc d))).length (ndCells ((xs.take k).filter (fun n => !decide (n.1 ∈ anc d))))) ∧ Chg (fun j => j = w11.heap.size) (w11.alloc b24) wr) (fun i _ => n - (intOf i).toNat)
          case atStart => exact ⟨0, _, Nat.zero_le _, rfl, hb20, World.ownsRow_nil _ _ _ _, Chg.refl _ _⟩
          case round =>
            obtain ⟨k, u, hk, rfl, hb, hown, hC⟩ := hrel
            by_cases hlt : k < n
            · obtain ⟨⟨n0, n1⟩, hy⟩ : ∃ y, xs[k]? = some y := ⟨_, List.getElem?_eq_getElem (by rw [← HN.out]; exact hlt)⟩
              obtain ⟨b1, off1, ha, hcr⟩ := HROW.out
              have ha : a0 = some ⟨b1, off1, none⟩ := by
                rcases ha with h | h
                · exact h
                · rw [h] at hy; cases hy
              subst ha
              obtain ⟨h0, h1⟩ := hcr k _ hy
              have hb1 := lt_of_cell h0
              simp only at hb1
              have g0 := hC.cell (cell_old h0 b24) (fun e => by have e : b1 = w11.heap.size := e; omega)
              have g1 := hC.cell (cell_old h1 b24) (fun e => by have e : b1 = w11.heap.size := e; omega)
              have hMr : MapIs K3 Value.bool wr m (1 + 9) (setF (anc d)) := (hM4.alloc b24).block (hC.same m (by simp; omega) (fun e => by omega))
              have hok : (K3).ok n0 := (HWF.out _ (List.mem_of_getElem? hy)).1
              have hsz := hC.size
              simp only [World.size_alloc] at hsz
              have hbs := (hb.alloc (.cells #[.int .i64 n0, .int .i64 n1] 48)).cell
              have hbf := (hb.alloc (.cells #[.int .i64 n0, .int .i64 n1] 48)).frozen
              have HS2 := Lib.hid (take_snoc hy)
              clear hy h0 h1 hcr
              by_cases hq : n0 ∈ anc d
              · have hsf : setF (anc d) n0 = some true := by unfold setF; rw [if_pos hq]
                have HQ := Lib.hid hq
                clear hq
                go_wp2_with (at_lookup; refine wpList_get rfl (.tmp 120) (.tmp 122) 46 rfl keyed3 Try.underlying46 (zero4 _) rfl (hMr.alloc _) (x := n0) hok rfl ?_; simp only [hsf, Option.elim])
                have hft : (xs.take (k + 1)).filter (fun n => !decide (n.1 ∈ anc d)) = (xs.take k).filter (fun n => !decide (n.1 ∈ anc d)) := by rw [HS2.out, List.filter_append, List.filter_cons_of_neg (by simp [HQ.out]), List.filter_nil, List.append_nil]
                refine ⟨⟨k + 1, by omega, by omega, u, hb.alloc _, ?_, hC.alloc _⟩, by simp [intOf]; omega⟩
                rw [hft]
                exact hown.out.alloc _
              · have hsf : setF (anc d) n0 = none := by unfold setF; rw [if_neg hq]
                have HQ := Lib.hid hq
                clear hq
                have hlen : ((xs.take k).filter (fun n => !decide (n.1 ∈ anc d))).length ≤ 80 := Nat.le_trans (List.length_filter_le _ _) (by rw [List.length_take]; omega)
                have hft : (xs.take (k + 1)).filter (fun n => !decide (n.1 ∈ anc d)) = (xs.take k).filter (fun n => !decide (n.1 ∈ anc d)) ++ [(n0, n1)] := by rw [HS2.out, List.filter_append, List.filter_cons_of_pos (by simp [HQ.out]), List.filter_nil]
                have HFT := Lib.hid hft
                clear hft
                generalize hfk : (xs.take k).filter (fun n => !decide (n.1 ∈ anc d)) = fk at *
                clear hfk
                obtain ⟨nf, hnf⟩ : ∃ nf, nf = fk.length := ⟨_, rfl⟩
                rw [← hnf] at hown hlen
                have HNF := Lib.hid hnf
                clear hnf
                go_wp2_with (first
                  | (at_lookup; refine wpList_get rfl (.tmp 120) (.tmp 122) 46 rfl keyed3 Try.underlying46 (zero4 _) rfl (hMr.alloc _) (x := n0) hok rfl ?_; simp only [hsf, Option.elim])
                  | (at_builtin; refine wpList_append_own _ rfl (.tmp 126) (.tmp 128) 22 rfl (w11.heap.size + 1) 48 i0 (.agg #[.int .i64 0, .int .i64 0]) 2 16 Try.underlying22 hi0 hz0 hz1 hz2 rfl (by decide) u nf _ rfl ((hown.out.alloc _).alloc _) ⟨wr.heap.size + 1, 0, none⟩ 1 1 [.int .i64 n0, .int .i64 n1] rfl rfl (cell_two_new2 _ _ _ _ _) (fun x hx => by simp at hx; rcases hx with rfl | rfl <;> rfl) (by unfold maxLen; omega) (by omega) (by simp; omega) ?_; intro u' w3 hown' hgrow hnil; obtain ⟨g', cap', rfl⟩ := ownsRow_succ hown'; have hb3 : Boxed w3 w11.heap.size 24 u := ((hb.alloc _).alloc _).kept hgrow (hb.not_row (by decide) hown.out); have c3 := hb3.cell; have f3 := hb3.frozen))
                have hg3 : ((wr.alloc (Obj.cells #[.int .i64 n0, .int .i64 n1] 48)).alloc (Obj.cells #[.int .i64 n0, .int .i64 n1] 48)).grownBy w3 u.ownBlock := hgrow
                have hne := hb3.not_row (by decide) hown'
                refine ⟨⟨k + 1, by omega, by omega, _, hb3.set _, ?_, ?_⟩, by simp [intOf]; omega⟩
                · have := hown'.kept (grownBy_setCell' w3 w11.heap.size (.slice (some ⟨g', 0, none⟩) (nf + 1) cap')) (.inr hne.symm)
                  unfold Hid
                  rw [HFT.out, ndCells_append, List.length_append, ← HNF.out]
                  exact this
                · exact (((hC.alloc _).alloc _).grown hg3 (fun j hj => .inr (by have := (hown.out.lt j hj).1; simp only [World.size_alloc]; omega))).setCell (.inl rfl) _
            · have hk' : k = n := by omega
              subst hk'
              rw [List.take_of_length_le (by rw [← HN.out]; exact Nat.le_refl _), HF.out] at hown
              have hbs := hb.cell
              have hbf := hb.frozen
              have hsz := hC.size
              simp only [World.size_alloc] at hsz
              have hCB : Below w11.heap.size w11 wr := ((Below.refl _ w11).alloc (Nat.le_refl _) b24).trans (hC.below (fun j h => by omega) (by simp))
              have hTw := Lib.hid (HTX11.out.below hCB)
              have cw := cell_kept cX11 hCB
              have hfin : TreeAt wr (.agg #[u]) X := by
                refine TreeAt.of_own hown.out (fun n hn => ?_)
                rw [← HF.out] at hn
                exact HWF.out n (List.mem_filter.1 hn).1
              have HFIN := Lib.hid hfin
              obtain ⟨p, l, hfo⟩ := hfin.form
              cases hfo
              have hBw := Lib.hid (below_step HB11.out HB11.out.size hCB)
              have hmx1 : ((MX.length : Int) == (nm : Int) - 1) = true := by have := HMXL.out; simp; omega
              have hmxl : MX.length ≤ 80 := by have := HMXL.out; omega
              clear hfin hown hb hC hCB hM4
              go_wp2_with (first
                | (go_at_call 27; refine (same_yes _ _ _ X (by have := HX0.out; omega) hTw.out HFIN.out).mono ?_; rintro e w12 ⟨rfl, hB12⟩; have cw12 := cell_kept cw hB12; have hB12' := below_step hBw.out hBw.out.size hB12; have hT12 := Lib.hid (hTw.out.below hB12))
                | (go_at_call 19; refine (KMX.out _ _ hT12.out).mono ?_; rintro e w13 ⟨vMX, rfl, hIM, hB13⟩; have hB13' := below_step hB12' hB12'.size hB13; obtain ⟨aMX, cMX, rfl⟩ := hIM.form; clear hIM))
              go_ret
              exact ⟨rfl, hB13'⟩

theorem mem_resF_some {f : Int → Option Int} : ∀ (k : Nat) (n x : Int), x ∈ resF f k n → (f x).isSome = true
  | k, n, x, h => by
    by_cases hf : (f n).isSome = true
    · rw [resF_some hf] at h
      rw [List.mem_singleton] at h
      rw [h]; exact hf
    · have hf' : (f n).isSome = false := by simpa using hf
      by_cases hn : 512 ≤ n
      · rw [resF_leaf hf' hn] at h; cases h
      · cases k with
        | zero => unfold resF at h; simp [hf'] at h
        | succ k =>
          rw [resF_inner hf' hn, List.mem_append] at h
          rcases h with h | h
          · exact mem_resF_some k _ x h
          · exact mem_resF_some k _ x h

theorem memL_filter {xs : List Nd} {d : Int} (h0 : 0 ≤ d) (h1 : d < 512) : memL (xs.filter fun n => !decide (n.1 ∈ anc d)) = (memL xs).erase d := by
  have hs := memL_sorted xs
  have hnd : (memL xs).Nodup := hs.imp (fun h => by omega)
  refine sorted_ext (memL_sorted _) (hs.sublist (List.erase_sublist)) fun x => ?_
  rw [hnd.mem_erase_iff, mem_memL, mem_memL]
  constructor
  · rintro ⟨⟨n, hn, e⟩, x0, x1⟩
    obtain ⟨hn1, hn2⟩ := List.mem_filter.1 hn
    refine ⟨fun hx => ?_, ⟨n, hn1, e⟩, x0, x1⟩
    subst hx
    rw [e] at hn2
    simp [anc_self] at hn2
  · rintro ⟨hx, ⟨n, hn, e⟩, x0, x1⟩
    refine ⟨⟨n, List.mem_filter.2 ⟨hn, ?_⟩, e⟩, x0, x1⟩
    rw [e]
    simp
    intro h
    have := anc_leaf' h0 h1 (by omega) h
    omega

theorem mem_isSome {xs : List Nd} (h : checkL xs = 0) {d : Int} (hd : d ∈ memL xs) : (ofF xs (512 + d)).isSome = true := by
  obtain ⟨⟨n, hn, e⟩, _⟩ := (mem_memL xs d).1 hd
  rw [← e, ofF_sorted (checked h).1 hn]; rfl

set_option maxRecDepth 100000 in
set_option maxHeartbeats 2000000 in
theorem rm_many (v : Value) (xs : List Nd) (q : Nat) (w : World) (hm : ¬ xs.length ≤ 80) (h : TreeAt w v xs) :
    Calls Try.prog 5 #[v, .int .u8 q] w fun e w' => e = .returned (.bool true) ∧ Below w.heap.size w w' := by
  have KF := Lib.hid fun W v (hv : TreeAt W v xs) => few_any v xs W hv
  have hd : decide (xs.length ≤ 80) = false := decide_eq_false hm
  rw [hd] at KF
  have HT := Lib.hid h
  obtain ⟨a0, c0, rfl⟩ := h.form
  have hbx := Boxed.new w 24 (.slice a0 xs.length c0)
  have hB0 : Below w.heap.size w (w.alloc (.cells #[.slice a0 xs.length c0] 24)) := (Below.refl _ _).alloc (Nat.le_refl _) _
  clear h hd
  generalize hn : xs.length = n at *
  go_enter Try.func5, Try.ntmps5
  go_wp2_with (first
    | (go_at_call 10; refine (sane_any _).mono ?_; rintro e w1 ⟨rfl, hB1⟩; have hB1' := below_step hB0 hB0.size hB1; have x1 := cell_kept hbx.cell hB1)
    | (go_at_call 11; refine (KF.out w1 _ (HT.out.below hB1')).mono ?_; rintro e w2 ⟨rfl, hB2⟩; have hB2' := below_step hB1' hB1'.size hB2))
  go_ret
  exact ⟨rfl, hB2'⟩

set_option maxRecDepth 100000 in
set_option maxHeartbeats 2000000 in
theorem rm_bad (v : Value) (xs : List Nd) (q : Nat) (w : World) (hm : xs.length ≤ 80) (h : TreeAt w v xs) (hc : checkL xs ≠ 0) :
    Calls Try.prog 5 #[v, .int .u8 q] w fun e w' => e = .returned (.bool true) ∧ Below w.heap.size w w' := by
  have KF := Lib.hid fun W v (hv : TreeAt W v xs) => few_any v xs W hv
  have KC := Lib.hid fun W v (hv : TreeAt W v xs) => check17_any v xs W (by omega) hv
  have hd : decide (xs.length ≤ 80) = true := decide_eq_true hm
  rw [hd] at KF
  rw [(checkL_or xs).resolve_left hc] at KC
  have HT := Lib.hid h
  obtain ⟨a0, c0, rfl⟩ := h.form
  have hbx := Boxed.new w 24 (.slice a0 xs.length c0)
  have hB0 : Below w.heap.size w (w.alloc (.cells #[.slice a0 xs.length c0] 24)) := (Below.refl _ _).alloc (Nat.le_refl _) _
  clear h hd hc
  generalize hn : xs.length = n at *
  go_enter Try.func5, Try.ntmps5
  go_wp2_with (first
    | (go_at_call 10; refine (sane_any _).mono ?_; rintro e w1 ⟨rfl, hB1⟩; have hB1' := below_step hB0 hB0.size hB1; have x1 := cell_kept hbx.cell hB1)
    | (go_at_call 11; refine (KF.out w1 _ (HT.out.below hB1')).mono ?_; rintro e w2 ⟨rfl, hB2⟩; have hB2' := below_step hB1' hB1'.size hB2; have x2 := cell_kept x1 hB2; have T2x := HT.out.below hB2'; have HT2 := Lib.hid T2x)
    | (go_at_call 17; refine (KC.out w2 _ HT2.out).mono ?_; rintro e w3 ⟨rfl, hB3⟩; have hB3' := below_step hB2' hB2'.size hB3))
  go_ret
  exact ⟨rfl, hB3'⟩

set_option maxRecDepth 100000 in
set_option maxHeartbeats 2000000 in
theorem rm_nil (v : Value) (q : Nat) (w : World) (h : TreeAt w v []) :
    Calls Try.prog 5 #[v, .int .u8 q] w fun e w' => e = .returned (.bool true) ∧ Below w.heap.size w w' := by
  have KF := Lib.hid fun W v (hv : TreeAt W v []) => few_any v [] W hv
  have KC := Lib.hid fun W v (hv : TreeAt W v []) => check17_any v [] W (by decide) hv
  have KM := Lib.hid fun W v (hv : TreeAt W v []) => members_any v [] W (by decide) hv
  rw [show decide (([] : List Nd).length ≤ 80) = true from rfl] at KF
  rw [show checkL [] = 0 from rfl] at KC
  rw [show memL [] = [] by kernel_rfl] at KM
  have HT := Lib.hid h
  obtain ⟨a0, c0, rfl⟩ := h.form
  simp only [List.length_nil] at *
  have hbx := Boxed.new w 24 (.slice a0 0 c0)
  have hB0 : Below w.heap.size w (w.alloc (.cells #[.slice a0 0 c0] 24)) := (Below.refl _ _).alloc (Nat.le_refl _) _
  clear h
  go_enter Try.func5, Try.ntmps5
  go_wp2_with (first
    | (go_at_call 10; refine (sane_any _).mono ?_; rintro e w1 ⟨rfl, hB1⟩; have hB1' := below_step hB0 hB0.size hB1; have x1 := cell_kept hbx.cell hB1)
    | (go_at_call 11; refine (KF.out w1 _ (HT.out.below hB1')).mono ?_; rintro e w2 ⟨rfl, hB2⟩; have hB2' := below_step hB1' hB1'.size hB2; have x2 := cell_kept x1 hB2; have T2x := HT.out.below hB2'; have HT2 := Lib.hid T2x)
    | (go_at_call 17; refine (KC.out w2 _ HT2.out).mono ?_; rintro e w3 ⟨rfl, hB3⟩; have hB3' := below_step hB2' hB2'.size hB3; have x3 := cell_kept x2 hB3; have T3x := HT.out.below hB3'; have HT3 := Lib.hid T3x)
    | (go_at_call 19; refine (KM.out w3 _ HT3.out).mono ?_; rintro e w4 ⟨vM, rfl, hIM, hB4⟩; have hB4' := below_step hB3' hB3'.size hB4; have x4 := cell_kept x3 hB4; obtain ⟨aM, cM, rfl⟩ := hIM.form; simp only [List.length_nil]))
  go_ret
  exact ⟨rfl, hB4'⟩

theorem removed_any (v : Value) (xs : List Nd) (q : Nat) (hq : q < 256) (w : World) (h : TreeAt w v xs) :
    Calls Try.prog 5 #[v, .int .u8 q] w fun e w' => e = .returned (.bool true) ∧ Below w.heap.size w w' := by
  by_cases hm : xs.length ≤ 80
  case neg => exact rm_many v xs q w hm h
  by_cases hc : checkL xs = 0
  case neg => exact rm_bad v xs q w hm h hc
  cases hM : memL xs with
  | nil =>
    obtain rfl := memL_nil hc hM
    exact rm_nil v q w h
  | cons m0 ms =>
    have hlen : 0 < (memL xs).length := by rw [hM]; simp
    clear hM
    have hlt := Nat.mod_lt q hlen
    obtain ⟨d, hd⟩ : ∃ d, (memL xs)[q % (memL xs).length]? = some d := ⟨_, List.getElem?_eq_getElem hlt⟩
    have hdm := List.mem_of_getElem? hd
    obtain ⟨d0, d1⟩ := memL_range xs d hdm
    have hV := valid_of hc
    have hX := treeL_chF hc d0 d1
    have hck := checkL_treeL (chF_valid hV d0 d1)
    have hof := of_treeL (chF_valid hV d0 d1)
    have hrm := removeL_ok hV d0 d1 (mem_isSome hc hdm)
    rw [treeL_of hc] at hrm
    rw [hX] at hck hof hrm
    have hMX := memL_filter (xs := xs) d0 d1
    generalize hXX : (xs.filter fun n => !decide (n.1 ∈ anc d)) = X at *
    have hXl : X.length ≤ 80 := by rw [← hXX]; exact Nat.le_trans (List.length_filter_le _ _) hm
    have hres : resL X 1 = (resF (ofF X) 9 1, 0) := by unfold resL; rw [if_neg (by simp [hck]), if_neg (by omega)]
    obtain ⟨dn, rfl⟩ := Int.eq_ofNat_of_zero_le d0
    refine rm_walk v xs X (memL xs) (resF (ofF X) 9 1) (memL X) dn _ q w hm h hc rfl rfl hlen hq hd (by omega) (remTo (by omega) hrm) (by omega) hres (Nat.le_trans (resF_length _ _ _) (by decide)) (fun n hn => ?_) hck rfl ?_ hXX
    · have hs := mem_resF_some _ _ _ hn
      have hr := checked_range hck n hs
      refine ⟨wf_small (by omega) (by omega), fun hna => ?_⟩
      rw [hof] at hs
      unfold chF chL at hs
      rw [if_pos hna] at hs
      cases hs
    · rw [hMX, List.length_erase_of_mem hdm]
      omega
end Go.Proofs.Ytofkmapokdcphaa
