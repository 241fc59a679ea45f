import Derived.Test.YtofkmapokdcphaaSt1
namespace Go.Proofs.Ytofkmapokdcphaa
open Go Go.RowKit Go.Maps Go.My Go.Shelf

theorem keepG {p : Prop} {F : Nat → Prop} {w0 w w' : World} {row : Option Nat} (h : p ∧ Chg F w0 w) (hg : w.grownBy w' row) (hr : ∀ k, row = some k → F k ∨ w0.heap.size ≤ k) : Chg F w0 w' := h.2.grown hg hr
theorem keepA {p : Prop} {F : Nat → Prop} {w0 w : World} (o : Obj) (h : p ∧ Chg F w0 w) : Chg F w0 (w.alloc o) := h.2.alloc o
theorem keepS {p : Prop} {F : Nat → Prop} {w0 w : World} {b : Nat} {v : Value} (h : p ∧ Chg F w0 w) (hb : F b) : Chg F w0 (w.setCell ⟨b, 0, none⟩ v) := h.2.setCell (.inl hb) v

set_option maxRecDepth 100000 in
set_option maxHeartbeats 4000000 in
theorem without49 (v : Value) (xs : List Nd) (d : Int) (w : World) (hm : xs.length ≤ 100) (hd0 : 0 ≤ d) (hd1 : d < 512) (h : TreeAt w v xs) :
    Calls Try.prog 49 #[v, .int .i64 d] w fun e w' => ∃ v', e = .returned v' ∧ TreeAt w' v' (xs.filter fun n => !undB (512 + d) n.1) ∧ Below w.heap.size w w' := by
  have HT := Lib.hid h
  obtain ⟨a, cap, rfl, hr, hw⟩ := h
  obtain ⟨n, hn⟩ : ∃ n, n = xs.length := ⟨_, rfl⟩
  rw [← hn] at hm HT ⊢
  have HN := Lib.hid hn
  have HR := Lib.hid hr
  have HW := Lib.hid hw
  obtain ⟨i0, hi0, hz0, hz1, hz2⟩ := info_parts info48
  have hwd : (Lit.int .i64 (512 + d)).wf = true := wf_small (by omega) (by omega)
  clear hn hr hw
  go_enter Try.func49, Try.ntmps49
  go_wp2
  have hbt := ((Boxed.new w 24 (.slice a n cap)).alloc b24).alloc b24
  have hbr := (Boxed.new (w.alloc (.cells #[.slice a n cap] 24)) 24 (.slice none 0 0)).alloc b24
  have hbx := Boxed.new ((w.alloc (.cells #[.slice a n cap] 24)).alloc b24) 24 (.slice none 0 0)
  simp only [World.size_alloc] at hbr hbx
  have hB0 : Below w.heap.size w (((w.alloc (.cells #[.slice a n cap] 24)).alloc b24).alloc b24) := (((Below.refl _ w).alloc (Nat.le_refl _) _).alloc (by simp) _).alloc (by simp; omega) _
  go_loopw [6] (fun i wr => ∃ (k : Nat) (u : Value), k ≤ n ∧ i = .int .i64 k ∧ Boxed wr (w.heap.size + 1 + 1) 24 u ∧ Boxed wr (w.heap.size + 1) 24 (.slice none 0 0) ∧ Boxed wr w.heap.size 24 (.slice a n cap) ∧ Hid (wr.ownsRow (w.heap.size + 3) 48 2 u ((xs.take k).filter (fun n => !undB (512 + d) n.1)).length (ndCells ((xs.take k).filter (fun n => !undB (512 + d) n.1)))) ∧ Below w.heap.size w wr) (fun i _ => n - (intOf i).toNat)
  case atStart => exact ⟨0, _, Nat.zero_le _, rfl, hbx, hbr, hbt, World.ownsRow_nil _ _ _ _, hB0⟩
  case round =>
    obtain ⟨k, u, hk, rfl, hb, hbr1, hbt1, hown, hB⟩ := hrel
    have ct := hbt1.cell
    by_cases hlt : k < n
    · obtain ⟨⟨n0, n1⟩, hy⟩ : ∃ y, xs[k]? = some y := ⟨_, List.getElem?_eq_getElem (by rw [← HN.out]; exact hlt)⟩
      obtain ⟨b1, off1, ha, hcr⟩ := HR.out
      have ha : a = some ⟨b1, off1, none⟩ := by
        rcases ha with h | h
        · exact h
        · rw [h] at hy; cases hy
      subst ha
      obtain ⟨h0, h1⟩ := hcr k _ hy
      have g0 := cell_kept h0 hB
      have g1 := cell_kept h1 hB
      have hb1 := lt_of_cell h0
      simp only at hb1
      have hk0 : (0 : Int) ≤ (k : Int) := by omega
      have hk1 : (k : Int) < (n : Int) := by omega
      have KU := Lib.hid fun W => (under41_q (512 + d) n0 W hwd).mono (R' := fun e w' => e = .returned (.bool (undB (512 + d) n0)) ∧ W = w') fun _ _ h => ⟨h.1, h.2.symm⟩
      have hsz : w.heap.size + 1 + 1 < wr.heap.size := hb.lt
      have cx := hb.cell
      have fx := hb.frozen
      have HS2 := Lib.hid (take_snoc hy)
      have hwk : IntKind.i64.wrap (512 + d) = 512 + d := by rw [IntKind.wrap_i64]; omega
      clear hy h0 h1 hcr
      cases hq : undB (512 + d) n0 with
      | true =>
        rw [hq] at KU
        have HQ := Lib.hid hq
        clear hq
        go_wp2_with (go_at_call 41; refine (KU.out _).mono ?_; rintro e w' ⟨rfl, rfl⟩)
        have hft : (xs.take (k + 1)).filter (fun n => !undB (512 + d) n.1) = (xs.take k).filter (fun n => !undB (512 + d) n.1) := by rw [HS2.out, List.filter_append, List.filter_cons_of_neg (by simp [HQ.out]), List.filter_nil, List.append_nil]
        refine ⟨⟨k + 1, u, by omega, by go_num, hb, hbr1, hbt1, ?_, hB⟩, by simp [intOf]; omega⟩
        rw [hft]
        exact hown
      | false =>
        rw [hq] at KU
        have HQ := Lib.hid hq
        clear hq
        have hlen : ((xs.take k).filter (fun n => !undB (512 + d) n.1)).length ≤ 100 := Nat.le_trans (List.length_filter_le _ _) (by rw [List.length_take]; omega)
        have hft : (xs.take (k + 1)).filter (fun n => !undB (512 + d) n.1) = (xs.take k).filter (fun n => !undB (512 + d) n.1) ++ [(n0, n1)] := by rw [HS2.out, List.filter_append, List.filter_cons_of_pos (by simp [HQ.out]), List.filter_nil]
        have HFT := Lib.hid hft
        clear hft
        generalize hfk : (xs.take k).filter (fun n => !undB (512 + d) n.1) = fk at *
        clear hfk
        obtain ⟨nf, hnf⟩ : ∃ nf, nf = fk.length := ⟨_, rfl⟩
        rw [← hnf] at hown hlen
        have HNF := Lib.hid hnf
        clear hnf
        have cxa := cell_old cx (.cells #[.int .i64 n0, .int .i64 n1] 48)
        have HMK := Lib.hid fun (V : World) (hV : Chg (fun j => j = w.heap.size + 1 + 1 ∨ u.ownBlock = some j) wr V) => (show V.cell? ⟨w.heap.size, 0, none⟩ = some (.slice (some ⟨b1, off1, none⟩) n cap) ∧ V.cell? ⟨b1, off1 + k * 2, none⟩ = some (.int .i64 n0) ∧ V.cell? ⟨b1, off1 + k * 2 + 1, none⟩ = some (.int .i64 n1) ∧ Chg (fun j => j = w.heap.size + 1 + 1 ∨ u.ownBlock = some j) wr V from by
          refine ⟨hV.cell ct ?_, hV.cell g0 ?_, hV.cell g1 ?_, hV⟩
          · rintro (h | h)
            · have h : w.heap.size = w.heap.size + 1 + 1 := h; omega
            · have := (hown.out.lt _ h).1; simp only at this; omega
          · rintro (h | h)
            · have h : b1 = w.heap.size + 1 + 1 := h; omega
            · have := (hown.out.lt _ h).1; simp only at this; omega
          · rintro (h | h)
            · have h : b1 = w.heap.size + 1 + 1 := h; omega
            · have := (hown.out.lt _ h).1; simp only at this; omega)
        go_upto_region 6 with (go_at_call 41; refine (KU.out _).mono ?_; rintro e w' ⟨rfl, rfl⟩)
        refine wp_region_held_drew (S := (fun w' => w'.cell? ⟨w.heap.size, 0, none⟩ = some (.slice (some ⟨b1, off1, none⟩) n cap) ∧ w'.cell? ⟨b1, off1 + k * 2, none⟩ = some (.int .i64 n0) ∧ w'.cell? ⟨b1, off1 + k * 2 + 1, none⟩ = some (.int .i64 n1) ∧ Chg (fun j => j = w.heap.size + 1 + 1 ∨ u.ownBlock = some j) wr w')) (by kernel_rfl) (HMK.out _ (Chg.refl _ _).drew) (fun hHeld => ?_)
        refine takeT (i := 0) (v := (.pointer (some ⟨w.heap.size + 1 + 1, 0, none⟩))) rfl (by kernel_rfl) (by kernel_rfl) (by kernel_rfl) (fun _ _ _ h => h) rfl ?_ (by assumption) ?_
        · intro w' hw'; go_split_ands; go_simp
        simp only [List.setIfInBounds_toArray, List.set_cons_zero, List.set_cons_succ]
        refine takeT (i := 2) (v := (.pointer (some ⟨w.heap.size, 0, none⟩))) rfl (by kernel_rfl) (by kernel_rfl) (by kernel_rfl) (fun _ _ _ h => h) rfl ?_ (by assumption) ?_
        · intro w' hw'; go_split_ands; go_simp
        simp only [List.setIfInBounds_toArray, List.set_cons_zero, List.set_cons_succ]
        refine takeT (i := 3) (v := (.slice (some ⟨b1, off1, none⟩) n cap)) rfl (by kernel_rfl) (by kernel_rfl) (by kernel_rfl) (fun _ _ _ h => h) rfl ?_ (by assumption) ?_
        · intro w' hw'; go_split_ands; go_simp
        simp only [List.setIfInBounds_toArray, List.set_cons_zero, List.set_cons_succ]
        refine takeT (i := 4) (v := (.int .i64 (k : Int))) rfl (by kernel_rfl) (by kernel_rfl) (by kernel_rfl) (fun _ _ _ h => h) rfl ?_ (by assumption) ?_
        · intro w' hw'; go_split_ands; go_simp
        simp only [List.setIfInBounds_toArray, List.set_cons_zero, List.set_cons_succ]
        refine takeT (i := 5) (v := (.pointer (some ⟨b1, off1 + k * 2, none⟩))) rfl (by kernel_rfl) (by kernel_rfl) (by kernel_rfl) (fun _ _ _ h => h) rfl ?_ (by assumption) ?_
        · intro w' hw'; go_split_ands; go_simp
        simp only [List.setIfInBounds_toArray, List.set_cons_zero, List.set_cons_succ]
        refine takeT (i := 6) (v := (.agg #[.int .i64 n0, .int .i64 n1])) rfl (by kernel_rfl) (by kernel_rfl) (by kernel_rfl) (fun _ _ _ h => h) rfl ?_ (by assumption) ?_
        · intro w' hw'; go_split_ands; go_simp
        simp only [List.setIfInBounds_toArray, List.set_cons_zero, List.set_cons_succ]
        refine wpAnyH_all (rs := [1, 7]) (by kernel_rfl) (by simp) ?_
        intro i hi
        simp only [List.mem_cons, List.not_mem_nil, or_false] at hi
        rcases hi with rfl | rfl
        · refine wpOp_step rfl (fun K' hK => ?_)
          rw [if_pos (by rfl)]
          go_simp
          refine hK _ _ ⟨HMK.out _ (Chg.refl _ _).drew, ?_⟩
          try simp only [Act.put, List.setIfInBounds_toArray, List.set_cons_zero, List.set_cons_succ]
          refine wpAnyH_all (rs := [7]) (by kernel_rfl) (by simp) ?_
          intro i hi
          simp only [List.mem_cons, List.not_mem_nil, or_false] at hi
          subst hi
          refine wpOp_step rfl (fun K' hK => ?_)
          rw [if_pos (by rfl)]
          go_simp
          refine hK _ _ ⟨HMK.out _ (by first | exact (Chg.refl _ _).drew.alloc _ | exact ((Chg.refl _ _).alloc _).drew), ?_⟩
          try simp only [Act.put, List.setIfInBounds_toArray, List.set_cons_zero, List.set_cons_succ]
          refine wpAnyH_all (rs := [8]) (by kernel_rfl) (by simp) ?_
          intro i hi
          simp only [List.mem_cons, List.not_mem_nil, or_false] at hi
          subst hi
          refine wpOp_step rfl (fun K' hK => ?_)
          rw [if_pos (by rfl)]
          refine wp_append_own _ (.tmp 26) (.tmp 32) 22 rfl (w.heap.size + 3) 48 i0 (.agg #[.int .i64 0, .int .i64 0]) 2 16 Try.underlying22 hi0 hz0 hz1 hz2 rfl (by decide) u nf _ rfl (hown.out.alloc _) ⟨wr.heap.size, 0, none⟩ 1 1 [.int .i64 n0, .int .i64 n1] rfl rfl (cell_two_new' wr.drew _ _ _) (fun x hx => by simp at hx; rcases hx with rfl | rfl <;> rfl) (by unfold maxLen; omega) (by omega) (by simp; omega) ?_
          intro u' w3 hown' hgrow hnil
          obtain ⟨g', cap', rfl⟩ := ownsRow_succ hown'
          have hgrow2 : (wr.alloc (.cells #[.int .i64 n0, .int .i64 n1] 48)).grownBy w3 u.ownBlock := ⟨hgrow.os, hgrow.tape, hgrow.output, hgrow.size, hgrow.block⟩
          have hb3 : Boxed w3 (w.heap.size + 1 + 1) 24 u := (hb.alloc _).kept hgrow2 (hb.not_row (by decide) hown.out)
          have c3 := hb3.cell
          have f3 := hb3.frozen
          have hS3 := HMK.out _ (((Chg.refl _ _).alloc _).grown hgrow2 (fun j hj => .inl (.inr hj)))
          refine hK _ _ ⟨hS3, ?_⟩
          try simp only [Act.put, List.setIfInBounds_toArray, List.set_cons_zero, List.set_cons_succ]
          refine takeT (i := 9) (v := (.pointer (some ⟨w.heap.size + 1 + 1, 0, none⟩))) rfl (by kernel_rfl) (by kernel_rfl) (by kernel_rfl) (fun _ _ _ h => h) rfl ?_ (by assumption) ?_
          · intro w' hw'; go_split_ands; go_simp
          simp only [List.setIfInBounds_toArray, List.set_cons_zero, List.set_cons_succ]
          refine wpAnyH_all (rs := [10]) (by kernel_rfl) (by simp) ?_
          intro i hi
          simp only [List.mem_cons, List.not_mem_nil, or_false] at hi
          subst hi
          refine wpOp_step rfl (fun K' hK => ?_)
          rw [if_pos (by rfl)]
          go_simp
          refine hK _ _ ⟨HMK.out _ ((((Chg.refl _ _).alloc _).grown hgrow2 (fun j hj => .inl (.inr hj))).setCell (.inl (.inl rfl)) _), ?_⟩
          try simp only [Act.put]
          refine wpAnyH_done (by kernel_rfl) ?_ _
          have hne := hb3.not_row (by decide) hown'
          have hr3 := ((hbr1.alloc (.cells #[.int .i64 n0, .int .i64 n1] 48)).kept hgrow2 (hbr1.not_row (by decide) hown.out)).other (show w.heap.size + 1 ≠ w.heap.size + 1 + 1 by omega) (.slice (some ⟨g', 0, none⟩) (nf + 1) cap')
          have ht3 := ((hbt1.alloc (.cells #[.int .i64 n0, .int .i64 n1] 48)).kept hgrow2 (hbt1.not_row (by decide) hown.out)).other (show w.heap.size ≠ w.heap.size + 1 + 1 by omega) (.slice (some ⟨g', 0, none⟩) (nf + 1) cap')
          go_wp2
          refine ⟨⟨k + 1, _, by omega, by go_num, hb3.set _, hr3, ht3, ?_, Below.setCell (Below.grown (hB.alloc (by omega) _) hgrow2 (by simp; omega) (fun j hj => by have := (hown.out.lt j hj).1; omega)) (by simp; omega) _⟩, by simp [intOf]; omega⟩
          unfold Hid
          rw [HFT.out, ndCells_append, List.length_append, ← HNF.out]
          exact hown'.kept (grownBy_setCell' w3 (w.heap.size + 1 + 1) (.slice (some ⟨g', 0, none⟩) (nf + 1) cap')) (.inr hne.symm)
        · refine wpOp_step rfl (fun K' hK => ?_)
          rw [if_pos (by rfl)]
          go_simp
          refine hK _ _ ⟨HMK.out _ (by first | exact (Chg.refl _ _).drew.alloc _ | exact ((Chg.refl _ _).alloc _).drew), ?_⟩
          try simp only [Act.put, List.setIfInBounds_toArray, List.set_cons_zero, List.set_cons_succ]
          refine wpAnyH_all (rs := [1]) (by kernel_rfl) (by simp) ?_
          intro i hi
          simp only [List.mem_cons, List.not_mem_nil, or_false] at hi
          subst hi
          refine wpOp_step rfl (fun K' hK => ?_)
          rw [if_pos (by rfl)]
          go_simp
          refine hK _ _ ⟨HMK.out _ (by first | exact (Chg.refl _ _).drew.alloc _ | exact ((Chg.refl _ _).alloc _).drew), ?_⟩
          try simp only [Act.put, List.setIfInBounds_toArray, List.set_cons_zero, List.set_cons_succ]
          refine wpAnyH_all (rs := [8]) (by kernel_rfl) (by simp) ?_
          intro i hi
          simp only [List.mem_cons, List.not_mem_nil, or_false] at hi
          subst hi
          refine wpOp_step rfl (fun K' hK => ?_)
          rw [if_pos (by rfl)]
          refine wp_append_own _ (.tmp 26) (.tmp 32) 22 rfl (w.heap.size + 3) 48 i0 (.agg #[.int .i64 0, .int .i64 0]) 2 16 Try.underlying22 hi0 hz0 hz1 hz2 rfl (by decide) u nf _ rfl (hown.out.alloc _) ⟨wr.heap.size, 0, none⟩ 1 1 [.int .i64 n0, .int .i64 n1] rfl rfl (cell_two_new' wr.drew _ _ _) (fun x hx => by simp at hx; rcases hx with rfl | rfl <;> rfl) (by unfold maxLen; omega) (by omega) (by simp; omega) ?_
          intro u' w3 hown' hgrow hnil
          obtain ⟨g', cap', rfl⟩ := ownsRow_succ hown'
          have hgrow2 : (wr.alloc (.cells #[.int .i64 n0, .int .i64 n1] 48)).grownBy w3 u.ownBlock := ⟨hgrow.os, hgrow.tape, hgrow.output, hgrow.size, hgrow.block⟩
          have hb3 : Boxed w3 (w.heap.size + 1 + 1) 24 u := (hb.alloc _).kept hgrow2 (hb.not_row (by decide) hown.out)
          have c3 := hb3.cell
          have f3 := hb3.frozen
          have hS3 := HMK.out _ (((Chg.refl _ _).alloc _).grown hgrow2 (fun j hj => .inl (.inr hj)))
          refine hK _ _ ⟨hS3, ?_⟩
          try simp only [Act.put, List.setIfInBounds_toArray, List.set_cons_zero, List.set_cons_succ]
          refine takeT (i := 9) (v := (.pointer (some ⟨w.heap.size + 1 + 1, 0, none⟩))) rfl (by kernel_rfl) (by kernel_rfl) (by kernel_rfl) (fun _ _ _ h => h) rfl ?_ (by assumption) ?_
          · intro w' hw'; go_split_ands; go_simp
          simp only [List.setIfInBounds_toArray, List.set_cons_zero, List.set_cons_succ]
          refine wpAnyH_all (rs := [10]) (by kernel_rfl) (by simp) ?_
          intro i hi
          simp only [List.mem_cons, List.not_mem_nil, or_false] at hi
          subst hi
          refine wpOp_step rfl (fun K' hK => ?_)
          rw [if_pos (by rfl)]
          go_simp
          refine hK _ _ ⟨HMK.out _ ((((Chg.refl _ _).alloc _).grown hgrow2 (fun j hj => .inl (.inr hj))).setCell (.inl (.inl rfl)) _), ?_⟩
          try simp only [Act.put]
          refine wpAnyH_done (by kernel_rfl) ?_ _
          have hne := hb3.not_row (by decide) hown'
          have hr3 := ((hbr1.alloc (.cells #[.int .i64 n0, .int .i64 n1] 48)).kept hgrow2 (hbr1.not_row (by decide) hown.out)).other (show w.heap.size + 1 ≠ w.heap.size + 1 + 1 by omega) (.slice (some ⟨g', 0, none⟩) (nf + 1) cap')
          have ht3 := ((hbt1.alloc (.cells #[.int .i64 n0, .int .i64 n1] 48)).kept hgrow2 (hbt1.not_row (by decide) hown.out)).other (show w.heap.size ≠ w.heap.size + 1 + 1 by omega) (.slice (some ⟨g', 0, none⟩) (nf + 1) cap')
          go_wp2
          refine ⟨⟨k + 1, _, by omega, by go_num, hb3.set _, hr3, ht3, ?_, Below.setCell (Below.grown (hB.alloc (by omega) _) hgrow2 (by simp; omega) (fun j hj => by have := (hown.out.lt j hj).1; omega)) (by simp; omega) _⟩, by simp [intOf]; omega⟩
          unfold Hid
          rw [HFT.out, ndCells_append, List.length_append, ← HNF.out]
          exact hown'.kept (grownBy_setCell' w3 (w.heap.size + 1 + 1) (.slice (some ⟨g', 0, none⟩) (nf + 1) cap')) (.inr hne.symm)
    · have hk' : k = n := by omega
      subst hk'
      rw [List.take_of_length_le (by rw [← HN.out]; exact Nat.le_refl _)] at hown
      have hsz : w.heap.size + 1 < wr.heap.size := hbr1.lt
      have cx := hb.cell
      have cr := hbr1.cell
      have fr := hbr1.frozen
      have hu : ∃ p l c, u = .slice p l c := by
        rcases hown.out.2 with ⟨rfl, _⟩ | ⟨g, c, cur, rfl, _⟩
        · exact ⟨_, _, _, rfl⟩
        · exact ⟨_, _, _, rfl⟩
      obtain ⟨p, l, c, rfl⟩ := hu
      have HFIN := Lib.hid (TreeAt.of_own (hown.out.kept (grownBy_setCell' wr (w.heap.size + 1) (.slice p l c)) (.inr (hbr1.not_row (by decide) hown.out).symm)) (fun n hn => HW.out n (List.mem_filter.1 hn).1))
      have HBE := Lib.hid (hB.setCell (p := ⟨w.heap.size + 1, 0, none⟩) (by simp) (.slice p l c))
      clear hown hB
      go_wp2
      refine bodyPost_ret (results_cell_row rfl _ _ (w.heap.size + 1) 24 #[.slice p l c] (0, 0) _ rfl (hbr1.set (.slice p l c)) Try.underlying24 rfl (by kernel_rfl)) rfl ?_
      exact ⟨_, rfl, HFIN.out, HBE.out⟩
end Go.Proofs.Ytofkmapokdcphaa
