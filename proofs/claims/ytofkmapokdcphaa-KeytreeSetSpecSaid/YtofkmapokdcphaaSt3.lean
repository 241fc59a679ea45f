import Derived.Test.YtofkmapokdcphaaSt2
import Derived.BigQuiet
namespace Go.Proofs.Ytofkmapokdcphaa
open Go Go.RowKit Go.Maps Go.My Go.Shelf

theorem _root_.Go.My.Chg.kept {S : Nat → Prop} {w w' : World} {B : Nat} {t : TypeId} {v : Value} (h : Chg S w w') (hb : Boxed w B t v) (hS : ¬ S B) : Boxed w' B t v := (h.same B hb.lt hS).trans hb

set_option maxRecDepth 100000 in
set_option maxHeartbeats 4000000 in
theorem with48 (v : Value) (xs : List Nd) (p c : Int) (w : World) (hm : xs.length ≤ 100) (hp : (Lit.int .i64 p).wf = true) (hc : (Lit.int .i64 c).wf = true) (h : TreeAt w v xs) :
    Calls Try.prog 48 #[v, .agg #[.int .i64 p, .int .i64 c]] w fun e w' => ∃ v', e = .returned v' ∧ TreeAt w' v' (insL (p, c) xs) ∧ Below w.heap.size w w' := by
  obtain ⟨a, cap, rfl, hr, hw⟩ := h
  obtain ⟨n, hn⟩ : ∃ n, n = xs.length := ⟨_, rfl⟩
  rw [← hn] at hm ⊢
  have HN := Lib.hid hn
  have HR := Lib.hid hr
  have HW := Lib.hid hw
  have HPC := Lib.hid (And.intro hp hc)
  obtain ⟨i0, hi0, hz0, hz1, hz2⟩ := info_parts info48
  clear hn hr hw hp hc
  go_enter Try.func48, Try.ntmps48
  go_wp2
  have hbt := (((Boxed.new w 24 (.slice a n cap)).alloc (.cells #[.int .i64 p, .int .i64 c] 48)).alloc b24).alloc b24
  have hbn : ((((w.alloc (.cells #[.slice a n cap] 24)).alloc (.cells #[.int .i64 p, .int .i64 c] 48)).alloc b24).alloc b24).heap[w.heap.size + 1]? = some (.cells #[.int .i64 p, .int .i64 c] 48) := by
    have h1 := World.alloc_heap_new (w.alloc (.cells #[.slice a n cap] 24)) (.cells #[.int .i64 p, .int .i64 c] 48)
    simp only [World.size_alloc] at h1
    have h2 := ((((Below.refl _ ((w.alloc (.cells #[.slice a n cap] 24)).alloc (.cells #[.int .i64 p, .int .i64 c] 48))).alloc (Nat.le_refl _) b24).alloc (by simp) b24).block (w.heap.size + 1) (by simp))
    exact h2.trans h1
  have hbr := (Boxed.new ((w.alloc (.cells #[.slice a n cap] 24)).alloc (.cells #[.int .i64 p, .int .i64 c] 48)) 24 (.slice none 0 0)).alloc b24
  have hbx := Boxed.new (((w.alloc (.cells #[.slice a n cap] 24)).alloc (.cells #[.int .i64 p, .int .i64 c] 48)).alloc b24) 24 (.slice none 0 0)
  simp only [World.size_alloc] at hbr hbx
  have hB0 : Below w.heap.size w ((((w.alloc (.cells #[.slice a n cap] 24)).alloc (.cells #[.int .i64 p, .int .i64 c] 48)).alloc b24).alloc b24) := ((((Below.refl _ w).alloc (Nat.le_refl _) _).alloc (by simp) _).alloc (by simp; omega) _).alloc (by simp; omega) _
  go_loopw [6, 7] (fun mt i wr => ∃ (k : Nat) (u : Value), k ≤ n ∧ mt = .bool (beh (p, c) (xs.take k)) ∧ i = .int .i64 k ∧ Boxed wr (w.heap.size + 1 + 1 + 1) 24 u ∧ Boxed wr (w.heap.size + 1 + 1) 24 (.slice none 0 0) ∧ wr.heap[w.heap.size + 1]? = some (.cells #[.int .i64 p, .int .i64 c] 48) ∧ Boxed wr w.heap.size 24 (.slice a n cap) ∧ Hid (wr.ownsRow (w.heap.size + 4) 48 2 u (outL (p, c) (xs.take k)).length (ndCells (outL (p, c) (xs.take k)))) ∧ Below w.heap.size w wr) (fun _ i _ => n - (intOf i).toNat)
  case atStart => exact ⟨0, _, Nat.zero_le _, rfl, rfl, hbx, hbr, hbn, hbt, World.ownsRow_nil _ _ _ _, hB0⟩
  case round =>
    obtain ⟨k, u, hk, rfl, rfl, hb, hbr1, hbn1, hbt1, hown, hB⟩ := hrel
    have ct := hbt1.cell
    have cp0 : wr.cell? ⟨w.heap.size + 1, 0, none⟩ = some (.int .i64 p) := by simp only [World.cell?, hbn1]; rfl
    have cp1 : wr.cell? ⟨w.heap.size + 1, 1, none⟩ = some (.int .i64 c) := by simp only [World.cell?, hbn1]; rfl
    by_cases hlt : k < n
    · obtain ⟨⟨n0, n1⟩, hy⟩ : ∃ y, xs[k]? = some y := ⟨_, List.getElem?_eq_getElem (by rw [← HN.out]; exact hlt)⟩
      obtain ⟨b1, off1, ha, hcr⟩ := HR.out
      have ha : a = some ⟨b1, off1, none⟩ := by
        rcases ha with h | h
        · exact h
        · rw [h] at hy; cases hy
      subst ha
      obtain ⟨h0, h1⟩ := hcr k _ hy
      have g0 := cell_kept h0 hB
      have g1 := cell_kept h1 hB
      have hb1 := lt_of_cell h0
      simp only at hb1
      have hk0 : (0 : Int) ≤ (k : Int) := by omega
      have hk1 : (k : Int) < (n : Int) := by omega
      have hsz : w.heap.size + 1 + 1 + 1 < wr.heap.size := hb.lt
      have HS2 := Lib.hid (take_snoc hy)
      have hol : (outL (p, c) (xs.take k)).length ≤ 101 := by
        have h1 : (xs.take k).length ≤ 100 := by rw [List.length_take]; omega
        unfold outL
        split
        · rw [insL_length]; omega
        · omega
      have hsn := Lib.hid (outL_snoc (p, c) (n0, n1) (xs.take k))
      have hbs := Lib.hid (beh_snoc (p, c) (n0, n1) (xs.take k))
      clear hy h0 h1 hcr
      generalize hol2 : outL (p, c) (xs.take k) = fk at *
      clear hol2
      obtain ⟨nf, hnf⟩ : ∃ nf, nf = fk.length := ⟨_, rfl⟩
      rw [← hnf] at hown hol
      have HNF := Lib.hid hnf
      clear hnf
      cases hmt : beh (p, c) (xs.take k) with
      | true =>
        rw [hmt] at hsn hbs
        clear hmt
        go_wp2
        go_quiet (fail)
        have hb' : Boxed (wr.drewN nq) (w.heap.size + 1 + 1 + 1) 24 u := hb
        have hbr' : Boxed (wr.drewN nq) (w.heap.size + 1 + 1) 24 (.slice none 0 0) := hbr1
        have hbn' : (wr.drewN nq).heap[w.heap.size + 1]? = some (.cells #[.int .i64 p, .int .i64 c] 48) := hbn1
        have hbt' : Boxed (wr.drewN nq) w.heap.size 24 (.slice (some ⟨b1, off1, none⟩) n cap) := hbt1
        have hownW : Hid ((wr.drewN nq).ownsRow (w.heap.size + 4) 48 2 u nf (ndCells fk)) := hown
        have hB' : Below w.heap.size w (wr.drewN nq) := ⟨hB.os, hB.tape, hB.output, hB.size, hB.block⟩
        have ct' : (wr.drewN nq).cell? ⟨w.heap.size, 0, none⟩ = some (.slice (some ⟨b1, off1, none⟩) n cap) := ct
        have g0' : (wr.drewN nq).cell? ⟨b1, off1 + k * 2, none⟩ = some (.int .i64 n0) := g0
        have g1' : (wr.drewN nq).cell? ⟨b1, off1 + k * 2 + 1, none⟩ = some (.int .i64 n1) := g1
        have cp0' : (wr.drewN nq).cell? ⟨w.heap.size + 1, 0, none⟩ = some (.int .i64 p) := cp0
        have cp1' : (wr.drewN nq).cell? ⟨w.heap.size + 1, 1, none⟩ = some (.int .i64 c) := cp1
        clear hb hbr1 hbn1 hbt1 hown hB ct g0 g1 cp0 cp1
        generalize wr.drewN nq = wq at *
        have hsz9 : w.heap.size + 1 + 1 + 1 < wq.heap.size := hb'.lt
        have cx9 := hb'.cell
        have fx9 := hb'.frozen
        have cx9a := cell_old cx9 (.cells #[.int .i64 n0, .int .i64 n1] 48)
        have hF9 : ∀ b, b < w.heap.size + 4 → b ≠ w.heap.size + 1 + 1 + 1 → ¬ (b = w.heap.size + 1 + 1 + 1 ∨ u.ownBlock = some b) := by
          rintro b h1 h2 (h | h)
          · exact h2 h
          · have := (hownW.out.lt _ h).1; omega
        have HMK := Lib.hid fun (V : World) (hV : Chg (fun j => j = w.heap.size + 1 + 1 + 1 ∨ u.ownBlock = some j) wq V) => (show V.cell? ⟨w.heap.size, 0, none⟩ = some (.slice (some ⟨b1, off1, none⟩) n cap) ∧ V.cell? ⟨b1, off1 + k * 2, none⟩ = some (.int .i64 n0) ∧ V.cell? ⟨b1, off1 + k * 2 + 1, none⟩ = some (.int .i64 n1) ∧ Chg (fun j => j = w.heap.size + 1 + 1 + 1 ∨ u.ownBlock = some j) wq V from
          ⟨hV.cell ct' (hF9 _ (by show w.heap.size < _; omega) (by show w.heap.size ≠ _; omega)), hV.cell g0' (hF9 _ (by show b1 < _; omega) (by show b1 ≠ _; omega)), hV.cell g1' (hF9 _ (by show b1 < _; omega) (by show b1 ≠ _; omega)), hV⟩)
        go_upto_region 9 with fail
        refine wp_region_held_drew (S := fun w' => w'.cell? ⟨w.heap.size, 0, none⟩ = some (.slice (some ⟨b1, off1, none⟩) n cap) ∧ w'.cell? ⟨b1, off1 + k * 2, none⟩ = some (.int .i64 n0) ∧ w'.cell? ⟨b1, off1 + k * 2 + 1, none⟩ = some (.int .i64 n1) ∧ Chg (fun j => j = w.heap.size + 1 + 1 + 1 ∨ u.ownBlock = some j) wq w') (by kernel_rfl) (HMK.out _ (Chg.refl _ _).drew) (fun hHeld => ?_)
        refine takeT (i := 0) (v := (.pointer (some ⟨w.heap.size + 1 + 1 + 1, 0, none⟩))) rfl (by kernel_rfl) (by kernel_rfl) (by kernel_rfl) (fun _ _ _ h => h) rfl ?_ (by assumption) ?_
        · intro w' hw'; go_split_ands; go_simp
        simp only [List.setIfInBounds_toArray, List.set_cons_zero, List.set_cons_succ]
        refine takeT (i := 2) (v := (.pointer (some ⟨w.heap.size, 0, none⟩))) rfl (by kernel_rfl) (by kernel_rfl) (by kernel_rfl) (fun _ _ _ h => h) rfl ?_ (by assumption) ?_
        · intro w' hw'; go_split_ands; go_simp
        simp only [List.setIfInBounds_toArray, List.set_cons_zero, List.set_cons_succ]
        refine takeT (i := 3) (v := (.slice (some ⟨b1, off1, none⟩) n cap)) rfl (by kernel_rfl) (by kernel_rfl) (by kernel_rfl) (fun _ _ _ h => h) rfl ?_ (by assumption) ?_
        · intro w' hw'; go_split_ands; go_simp
        simp only [List.setIfInBounds_toArray, List.set_cons_zero, List.set_cons_succ]
        refine takeT (i := 4) (v := (.int .i64 (k : Int))) rfl (by kernel_rfl) (by kernel_rfl) (by kernel_rfl) (fun _ _ _ h => h) rfl ?_ (by assumption) ?_
        · intro w' hw'; go_split_ands; go_simp
        simp only [List.setIfInBounds_toArray, List.set_cons_zero, List.set_cons_succ]
        refine takeT (i := 5) (v := (.pointer (some ⟨b1, off1 + k * 2, none⟩))) rfl (by kernel_rfl) (by kernel_rfl) (by kernel_rfl) (fun _ _ _ h => h) rfl ?_ (by assumption) ?_
        · intro w' hw'; go_split_ands; go_simp
        simp only [List.setIfInBounds_toArray, List.set_cons_zero, List.set_cons_succ]
        refine takeT (i := 6) (v := (.agg #[.int .i64 n0, .int .i64 n1])) rfl (by kernel_rfl) (by kernel_rfl) (by kernel_rfl) (fun _ _ _ h => h) rfl ?_ (by assumption) ?_
        · intro w' hw'; go_split_ands; go_simp
        simp only [List.setIfInBounds_toArray, List.set_cons_zero, List.set_cons_succ]
        refine wpAnyH_all (rs := [1, 7]) (by kernel_rfl) (by simp) ?_
        intro i hi
        simp only [List.mem_cons, List.not_mem_nil, or_false] at hi
        rcases hi with rfl | rfl
        · refine wpOp_step rfl (fun K' hK => ?_)
          rw [if_pos (by rfl)]
          go_simp
          refine hK _ _ ⟨HMK.out _ (Chg.refl _ _).drew, ?_⟩
          try simp only [Act.put, List.setIfInBounds_toArray, List.set_cons_zero, List.set_cons_succ]
          refine wpAnyH_all (rs := [7]) (by kernel_rfl) (by simp) ?_
          intro i hi
          simp only [List.mem_cons, List.not_mem_nil, or_false] at hi
          subst hi
          refine wpOp_step rfl (fun K' hK => ?_)
          rw [if_pos (by rfl)]
          go_simp
          refine hK _ _ ⟨HMK.out _ (by first | exact (Chg.refl _ _).drew.alloc _ | exact ((Chg.refl _ _).alloc _).drew), ?_⟩
          try simp only [Act.put, List.setIfInBounds_toArray, List.set_cons_zero, List.set_cons_succ]
          refine wpAnyH_all (rs := [8]) (by kernel_rfl) (by simp) ?_
          intro i hi
          simp only [List.mem_cons, List.not_mem_nil, or_false] at hi
          subst hi
          refine wpOp_step rfl (fun K' hK => ?_)
          rw [if_pos (by rfl)]
          refine wp_append_own _ (.tmp 36) (.tmp 42) 22 rfl (w.heap.size + 4) 48 i0 (.agg #[.int .i64 0, .int .i64 0]) 2 16 Try.underlying22 hi0 hz0 hz1 hz2 rfl (by decide) u nf _ rfl (hownW.out.alloc _) ⟨wq.heap.size, 0, none⟩ 1 1 [.int .i64 n0, .int .i64 n1] rfl rfl (cell_two_new' wq.drew _ _ _) (fun x hx => by simp at hx; rcases hx with rfl | rfl <;> rfl) (by unfold maxLen; omega) (by omega) (by simp; omega) ?_
          intro u' w3 hown' hgrow hnil
          obtain ⟨g', cap', rfl⟩ := ownsRow_succ hown'
          have hgrow2 : (wq.alloc (.cells #[.int .i64 n0, .int .i64 n1] 48)).grownBy w3 u.ownBlock := ⟨hgrow.os, hgrow.tape, hgrow.output, hgrow.size, hgrow.block⟩
          have hb3 : Boxed w3 (w.heap.size + 1 + 1 + 1) 24 u := (hb'.alloc _).kept hgrow2 (hb'.not_row (by decide) hownW.out)
          have c3 := hb3.cell
          have f3 := hb3.frozen
          have hS3 := HMK.out _ (((Chg.refl _ _).alloc _).grown hgrow2 (fun j hj => .inl (.inr hj)))
          refine hK _ _ ⟨hS3, ?_⟩
          try simp only [Act.put, List.setIfInBounds_toArray, List.set_cons_succ, List.set_cons_zero]
          refine takeT (i := 9) (v := (.pointer (some ⟨w.heap.size + 1 + 1 + 1, 0, none⟩))) rfl (by kernel_rfl) (by kernel_rfl) (by kernel_rfl) (fun _ _ _ h => h) rfl ?_ (by assumption) ?_
          · intro w' hw'; go_split_ands; go_simp
          simp only [List.setIfInBounds_toArray, List.set_cons_zero, List.set_cons_succ]
          refine wpAnyH_all (rs := [10]) (by kernel_rfl) (by simp) ?_
          intro i hi
          simp only [List.mem_cons, List.not_mem_nil, or_false] at hi
          subst hi
          refine wpOp_step rfl (fun K' hK => ?_)
          rw [if_pos (by rfl)]
          go_simp
          refine hK _ _ ⟨HMK.out _ ((((Chg.refl _ _).alloc _).grown hgrow2 (fun j hj => .inl (.inr hj))).setCell (.inl (.inl rfl)) _), ?_⟩
          try simp only [Act.put]
          refine wpAnyH_done (by kernel_rfl) ?_ _
          have hne := hb3.not_row (by decide) hown'
          have hC9 := (((Chg.refl (fun j => j = w.heap.size + 1 + 1 + 1 ∨ u.ownBlock = some j) wq).alloc (.cells #[.int .i64 n0, .int .i64 n1] 48)).grown hgrow2 (fun j hj => .inl (.inr hj))).setCell (p := ⟨w.heap.size + 1 + 1 + 1, 0, none⟩) (.inl (.inl rfl)) (.slice (some ⟨g', 0, none⟩) (nf + 1) cap')
          have hr9 := hC9.kept hbr' (hF9 _ (by omega) (by omega))
          have ht9 := hC9.kept hbt' (hF9 _ (by omega) (by omega))
          have hn9 := (hC9.same (w.heap.size + 1) (by omega) (hF9 _ (by omega) (by omega))).trans hbn'
          go_wp2
          refine ⟨⟨k + 1, _, by omega, by rw [HS2.out, hbs.out]; rfl, by go_num, hb3.set _, hr9, hn9, ht9, ?_, Below.setCell (Below.grown (hB'.alloc (by omega) _) hgrow2 (by simp; omega) (fun j hj => by have := (hownW.out.lt j hj).1; omega)) (by simp; omega) _⟩, by simp [intOf]; omega⟩
          unfold Hid
          rw [HS2.out, hsn.out, if_neg (fun h => Bool.noConfusion h.1), ndCells_append, List.length_append, ← HNF.out]
          exact hown'.kept (grownBy_setCell' w3 (w.heap.size + 1 + 1 + 1) (.slice (some ⟨g', 0, none⟩) (nf + 1) cap')) (.inr hne.symm)
        · refine wpOp_step rfl (fun K' hK => ?_)
          rw [if_pos (by rfl)]
          go_simp
          refine hK _ _ ⟨HMK.out _ (by first | exact (Chg.refl _ _).drew.alloc _ | exact ((Chg.refl _ _).alloc _).drew), ?_⟩
          try simp only [Act.put, List.setIfInBounds_toArray, List.set_cons_zero, List.set_cons_succ]
          refine wpAnyH_all (rs := [1]) (by kernel_rfl) (by simp) ?_
          intro i hi
          simp only [List.mem_cons, List.not_mem_nil, or_false] at hi
          subst hi
          refine wpOp_step rfl (fun K' hK => ?_)
          rw [if_pos (by rfl)]
          go_simp
          refine hK _ _ ⟨HMK.out _ (by first | exact (Chg.refl _ _).drew.alloc _ | exact ((Chg.refl _ _).alloc _).drew), ?_⟩
          try simp only [Act.put, List.setIfInBounds_toArray, List.set_cons_zero, List.set_cons_succ]
          refine wpAnyH_all (rs := [8]) (by kernel_rfl) (by simp) ?_
          intro i hi
          simp only [List.mem_cons, List.not_mem_nil, or_false] at hi
          subst hi
          refine wpOp_step rfl (fun K' hK => ?_)
          rw [if_pos (by rfl)]
          refine wp_append_own _ (.tmp 36) (.tmp 42) 22 rfl (w.heap.size + 4) 48 i0 (.agg #[.int .i64 0, .int .i64 0]) 2 16 Try.underlying22 hi0 hz0 hz1 hz2 rfl (by decide) u nf _ rfl (hownW.out.alloc _) ⟨wq.heap.size, 0, none⟩ 1 1 [.int .i64 n0, .int .i64 n1] rfl rfl (cell_two_new' wq.drew _ _ _) (fun x hx => by simp at hx; rcases hx with rfl | rfl <;> rfl) (by unfold maxLen; omega) (by omega) (by simp; omega) ?_
          intro u' w3 hown' hgrow hnil
          obtain ⟨g', cap', rfl⟩ := ownsRow_succ hown'
          have hgrow2 : (wq.alloc (.cells #[.int .i64 n0, .int .i64 n1] 48)).grownBy w3 u.ownBlock := ⟨hgrow.os, hgrow.tape, hgrow.output, hgrow.size, hgrow.block⟩
          have hb3 : Boxed w3 (w.heap.size + 1 + 1 + 1) 24 u := (hb'.alloc _).kept hgrow2 (hb'.not_row (by decide) hownW.out)
          have c3 := hb3.cell
          have f3 := hb3.frozen
          have hS3 := HMK.out _ (((Chg.refl _ _).alloc _).grown hgrow2 (fun j hj => .inl (.inr hj)))
          refine hK _ _ ⟨hS3, ?_⟩
          try simp only [Act.put, List.setIfInBounds_toArray, List.set_cons_succ, List.set_cons_zero]
          refine takeT (i := 9) (v := (.pointer (some ⟨w.heap.size + 1 + 1 + 1, 0, none⟩))) rfl (by kernel_rfl) (by kernel_rfl) (by kernel_rfl) (fun _ _ _ h => h) rfl ?_ (by assumption) ?_
          · intro w' hw'; go_split_ands; go_simp
          simp only [List.setIfInBounds_toArray, List.set_cons_zero, List.set_cons_succ]
          refine wpAnyH_all (rs := [10]) (by kernel_rfl) (by simp) ?_
          intro i hi
          simp only [List.mem_cons, List.not_mem_nil, or_false] at hi
          subst hi
          refine wpOp_step rfl (fun K' hK => ?_)
          rw [if_pos (by rfl)]
          go_simp
          refine hK _ _ ⟨HMK.out _ ((((Chg.refl _ _).alloc _).grown hgrow2 (fun j hj => .inl (.inr hj))).setCell (.inl (.inl rfl)) _), ?_⟩
          try simp only [Act.put]
          refine wpAnyH_done (by kernel_rfl) ?_ _
          have hne := hb3.not_row (by decide) hown'
          have hC9 := (((Chg.refl (fun j => j = w.heap.size + 1 + 1 + 1 ∨ u.ownBlock = some j) wq).alloc (.cells #[.int .i64 n0, .int .i64 n1] 48)).grown hgrow2 (fun j hj => .inl (.inr hj))).setCell (p := ⟨w.heap.size + 1 + 1 + 1, 0, none⟩) (.inl (.inl rfl)) (.slice (some ⟨g', 0, none⟩) (nf + 1) cap')
          have hr9 := hC9.kept hbr' (hF9 _ (by omega) (by omega))
          have ht9 := hC9.kept hbt' (hF9 _ (by omega) (by omega))
          have hn9 := (hC9.same (w.heap.size + 1) (by omega) (hF9 _ (by omega) (by omega))).trans hbn'
          go_wp2
          refine ⟨⟨k + 1, _, by omega, by rw [HS2.out, hbs.out]; rfl, by go_num, hb3.set _, hr9, hn9, ht9, ?_, Below.setCell (Below.grown (hB'.alloc (by omega) _) hgrow2 (by simp; omega) (fun j hj => by have := (hownW.out.lt j hj).1; omega)) (by simp; omega) _⟩, by simp [intOf]; omega⟩
          unfold Hid
          rw [HS2.out, hsn.out, if_neg (fun h => Bool.noConfusion h.1), ndCells_append, List.length_append, ← HNF.out]
          exact hown'.kept (grownBy_setCell' w3 (w.heap.size + 1 + 1 + 1) (.slice (some ⟨g', 0, none⟩) (nf + 1) cap')) (.inr hne.symm)
      | false =>
        rw [hmt] at hsn hbs
        clear hmt
        by_cases hgt : p < n0
        · have dg : decide (p < n0) = true := decide_eq_true hgt
          go_wp2
          go_quiet (fail)
          have hb' : Boxed (wr.drewN nq) (w.heap.size + 1 + 1 + 1) 24 u := hb
          have hbr' : Boxed (wr.drewN nq) (w.heap.size + 1 + 1) 24 (.slice none 0 0) := hbr1
          have hbn' : (wr.drewN nq).heap[w.heap.size + 1]? = some (.cells #[.int .i64 p, .int .i64 c] 48) := hbn1
          have hbt' : Boxed (wr.drewN nq) w.heap.size 24 (.slice (some ⟨b1, off1, none⟩) n cap) := hbt1
          have hownW : Hid ((wr.drewN nq).ownsRow (w.heap.size + 4) 48 2 u nf (ndCells fk)) := hown
          have hB' : Below w.heap.size w (wr.drewN nq) := ⟨hB.os, hB.tape, hB.output, hB.size, hB.block⟩
          have ct' : (wr.drewN nq).cell? ⟨w.heap.size, 0, none⟩ = some (.slice (some ⟨b1, off1, none⟩) n cap) := ct
          have g0' : (wr.drewN nq).cell? ⟨b1, off1 + k * 2, none⟩ = some (.int .i64 n0) := g0
          have g1' : (wr.drewN nq).cell? ⟨b1, off1 + k * 2 + 1, none⟩ = some (.int .i64 n1) := g1
          have cp0' : (wr.drewN nq).cell? ⟨w.heap.size + 1, 0, none⟩ = some (.int .i64 p) := cp0
          have cp1' : (wr.drewN nq).cell? ⟨w.heap.size + 1, 1, none⟩ = some (.int .i64 c) := cp1
          clear hb hbr1 hbn1 hbt1 hown hB ct g0 g1 cp0 cp1
          generalize wr.drewN nq = wq at *
          have hszq : w.heap.size + 1 + 1 + 1 < wq.heap.size := hb'.lt
          have cxq := hb'.cell
          go_wp2_with (at_builtin; refine wpList_append_own _ rfl (.tmp 30) (.tmp 32) 22 rfl (w.heap.size + 4) 48 i0 (.agg #[.int .i64 0, .int .i64 0]) 2 16 Try.underlying22 hi0 hz0 hz1 hz2 rfl (by decide) u nf _ rfl (hownW.out.alloc _) ⟨wq.heap.size, 0, none⟩ 1 1 [.int .i64 p, .int .i64 c] rfl rfl (cell_two_new' wq _ _ _) (fun x hx => by simp at hx; rcases hx with rfl | rfl <;> rfl) (by unfold maxLen; omega) (by omega) (by simp; omega) ?_; intro u7 w7 hown7 hgrow7 hnil7; obtain ⟨g7, c7, rfl⟩ := ownsRow_succ hown7; have hb7 : Boxed w7 (w.heap.size + 1 + 1 + 1) 24 u := (hb'.alloc _).kept hgrow7 (hb'.not_row (by decide) hownW.out); have cb7 := hb7.cell; have fb7 := hb7.frozen)
          have hF7 : ∀ b, b < w.heap.size + 4 → b ≠ w.heap.size + 1 + 1 + 1 → ¬ (b = w.heap.size + 1 + 1 + 1 ∨ u.ownBlock = some b) := by
            rintro b h1 h2 (h | h)
            · exact h2 h
            · have := (hownW.out.lt _ h).1; omega
          have hC7 := (((Chg.refl (fun j => j = w.heap.size + 1 + 1 + 1 ∨ u.ownBlock = some j) wq).alloc (.cells #[.int .i64 p, .int .i64 c] 48)).grown hgrow7 (fun j hj => .inl (.inr hj))).setCell (p := ⟨w.heap.size + 1 + 1 + 1, 0, none⟩) (.inl (.inl rfl)) (.slice (some ⟨g7, 0, none⟩) (nf + 1) c7)
          have hb8 := hb7.set (.slice (some ⟨g7, 0, none⟩) (nf + 1) c7)
          have hbr8 := hC7.kept hbr' (hF7 _ (by omega) (by omega))
          have hbt8 := hC7.kept hbt' (hF7 _ (by omega) (by omega))
          have hbn8 := (hC7.same (w.heap.size + 1) (by omega) (hF7 _ (by omega) (by omega))).trans hbn'
          have ct8 := hC7.cell ct' (hF7 _ (by show w.heap.size < _; omega) (by show w.heap.size ≠ _; omega))
          have g08 := hC7.cell g0' (hF7 _ (by show b1 < _; omega) (by show b1 ≠ _; omega))
          have g18 := hC7.cell g1' (hF7 _ (by show b1 < _; omega) (by show b1 ≠ _; omega))
          have hB8 : Below w.heap.size w (w7.setCell ⟨w.heap.size + 1 + 1 + 1, 0, none⟩ (.slice (some ⟨g7, 0, none⟩) (nf + 1) c7)) := Below.setCell (Below.grown (hB'.alloc (by omega) _) hgrow7 (by simp; omega) (fun j hj => by have := (hownW.out.lt j hj).1; omega)) (by simp; omega) _
          have hown8 := hown7.kept (grownBy_setCell' w7 (w.heap.size + 1 + 1 + 1) (.slice (some ⟨g7, 0, none⟩) (nf + 1) c7)) (.inr (hb7.not_row (by decide) hown7).symm)
          rw [show ndCells fk ++ [Value.int .i64 p, Value.int .i64 c] = ndCells (fk ++ [(p, c)]) from (ndCells_append fk [((p, c) : Nd)]).symm] at hown8
          obtain ⟨fk2, hfk2⟩ : ∃ x, x = fk ++ [((p, c) : Nd)] := ⟨_, rfl⟩
          obtain ⟨nf2, hnf2⟩ : ∃ x, x = nf + 1 := ⟨_, rfl⟩
          have hnl2 : nf2 = fk2.length := by rw [hnf2, hfk2, List.length_append, ← HNF.out]; rfl
          rw [← hfk2] at hown8
          rw [← hnf2] at hown8 hb8
          have HOWN8 := Lib.hid hown8
          have HFK2 := Lib.hid hfk2
          have hol2 : nf2 ≤ 102 := by omega
          clear HNF hown8 hfk2
          have HNF := Lib.hid hnl2
          clear hnl2 hown7 hgrow7 hnil7 hb7 cb7 fb7 hC7 hF7 hb' hbr' hbn' hbt' hownW hB' ct' g0' g1' cp0' cp1' cxq hszq
          rw [← hnf2] at hbr8 hbt8 hbn8 ct8 g08 g18 hB8 ⊢
          clear hnf2
          generalize w7.setCell ⟨w.heap.size + 1 + 1 + 1, 0, none⟩ (.slice (some ⟨g7, 0, none⟩) nf2 c7) = wz at *
          generalize Value.slice (some ⟨g7, 0, none⟩) nf2 c7 = uz at *
          have hsz9 : w.heap.size + 1 + 1 + 1 < wz.heap.size := hb8.lt
          have cx9 := hb8.cell
          have fx9 := hb8.frozen
          have cx9a := cell_old cx9 (.cells #[.int .i64 n0, .int .i64 n1] 48)
          have hF9 : ∀ b, b < w.heap.size + 4 → b ≠ w.heap.size + 1 + 1 + 1 → ¬ (b = w.heap.size + 1 + 1 + 1 ∨ uz.ownBlock = some b) := by
            rintro b h1 h2 (h | h)
            · exact h2 h
            · have := (HOWN8.out.lt _ h).1; omega
          have HMK := Lib.hid fun (V : World) (hV : Chg (fun j => j = w.heap.size + 1 + 1 + 1 ∨ uz.ownBlock = some j) wz V) => (show V.cell? ⟨w.heap.size, 0, none⟩ = some (.slice (some ⟨b1, off1, none⟩) n cap) ∧ V.cell? ⟨b1, off1 + k * 2, none⟩ = some (.int .i64 n0) ∧ V.cell? ⟨b1, off1 + k * 2 + 1, none⟩ = some (.int .i64 n1) ∧ Chg (fun j => j = w.heap.size + 1 + 1 + 1 ∨ uz.ownBlock = some j) wz V from
            ⟨hV.cell ct8 (hF9 _ (by show w.heap.size < _; omega) (by show w.heap.size ≠ _; omega)), hV.cell g08 (hF9 _ (by show b1 < _; omega) (by show b1 ≠ _; omega)), hV.cell g18 (hF9 _ (by show b1 < _; omega) (by show b1 ≠ _; omega)), hV⟩)
          skip
          refine wp_region_held_drew (S := fun w' => w'.cell? ⟨w.heap.size, 0, none⟩ = some (.slice (some ⟨b1, off1, none⟩) n cap) ∧ w'.cell? ⟨b1, off1 + k * 2, none⟩ = some (.int .i64 n0) ∧ w'.cell? ⟨b1, off1 + k * 2 + 1, none⟩ = some (.int .i64 n1) ∧ Chg (fun j => j = w.heap.size + 1 + 1 + 1 ∨ uz.ownBlock = some j) wz w') (by kernel_rfl) (HMK.out _ (Chg.refl _ _).drew) (fun hHeld => ?_)
          refine takeT (i := 0) (v := (.pointer (some ⟨w.heap.size + 1 + 1 + 1, 0, none⟩))) rfl (by kernel_rfl) (by kernel_rfl) (by kernel_rfl) (fun _ _ _ h => h) rfl ?_ (by assumption) ?_
          · intro w' hw'; go_split_ands; go_simp
          simp only [List.setIfInBounds_toArray, List.set_cons_zero, List.set_cons_succ]
          refine takeT (i := 2) (v := (.pointer (some ⟨w.heap.size, 0, none⟩))) rfl (by kernel_rfl) (by kernel_rfl) (by kernel_rfl) (fun _ _ _ h => h) rfl ?_ (by assumption) ?_
          · intro w' hw'; go_split_ands; go_simp
          simp only [List.setIfInBounds_toArray, List.set_cons_zero, List.set_cons_succ]
          refine takeT (i := 3) (v := (.slice (some ⟨b1, off1, none⟩) n cap)) rfl (by kernel_rfl) (by kernel_rfl) (by kernel_rfl) (fun _ _ _ h => h) rfl ?_ (by assumption) ?_
          · intro w' hw'; go_split_ands; go_simp
          simp only [List.setIfInBounds_toArray, List.set_cons_zero, List.set_cons_succ]
          refine takeT (i := 4) (v := (.int .i64 (k : Int))) rfl (by kernel_rfl) (by kernel_rfl) (by kernel_rfl) (fun _ _ _ h => h) rfl ?_ (by assumption) ?_
          · intro w' hw'; go_split_ands; go_simp
          simp only [List.setIfInBounds_toArray, List.set_cons_zero, List.set_cons_succ]
          refine takeT (i := 5) (v := (.pointer (some ⟨b1, off1 + k * 2, none⟩))) rfl (by kernel_rfl) (by kernel_rfl) (by kernel_rfl) (fun _ _ _ h => h) rfl ?_ (by assumption) ?_
          · intro w' hw'; go_split_ands; go_simp
          simp only [List.setIfInBounds_toArray, List.set_cons_zero, List.set_cons_succ]
          refine takeT (i := 6) (v := (.agg #[.int .i64 n0, .int .i64 n1])) rfl (by kernel_rfl) (by kernel_rfl) (by kernel_rfl) (fun _ _ _ h => h) rfl ?_ (by assumption) ?_
          · intro w' hw'; go_split_ands; go_simp
          simp only [List.setIfInBounds_toArray, List.set_cons_zero, List.set_cons_succ]
          refine wpAnyH_all (rs := [1, 7]) (by kernel_rfl) (by simp) ?_
          intro i hi
          simp only [List.mem_cons, List.not_mem_nil, or_false] at hi
          rcases hi with rfl | rfl
          · refine wpOp_step rfl (fun K' hK => ?_)
            rw [if_pos (by rfl)]
            go_simp
            refine hK _ _ ⟨HMK.out _ (Chg.refl _ _).drew, ?_⟩
            try simp only [Act.put, List.setIfInBounds_toArray, List.set_cons_zero, List.set_cons_succ]
            refine wpAnyH_all (rs := [7]) (by kernel_rfl) (by simp) ?_
            intro i hi
            simp only [List.mem_cons, List.not_mem_nil, or_false] at hi
            subst hi
            refine wpOp_step rfl (fun K' hK => ?_)
            rw [if_pos (by rfl)]
            go_simp
            refine hK _ _ ⟨HMK.out _ (by first | exact (Chg.refl _ _).drew.alloc _ | exact ((Chg.refl _ _).alloc _).drew), ?_⟩
            try simp only [Act.put, List.setIfInBounds_toArray, List.set_cons_zero, List.set_cons_succ]
            refine wpAnyH_all (rs := [8]) (by kernel_rfl) (by simp) ?_
            intro i hi
            simp only [List.mem_cons, List.not_mem_nil, or_false] at hi
            subst hi
            refine wpOp_step rfl (fun K' hK => ?_)
            rw [if_pos (by rfl)]
            refine wp_append_own _ (.tmp 36) (.tmp 42) 22 rfl (w.heap.size + 4) 48 i0 (.agg #[.int .i64 0, .int .i64 0]) 2 16 Try.underlying22 hi0 hz0 hz1 hz2 rfl (by decide) uz nf2 _ rfl (HOWN8.out.alloc _) ⟨wz.heap.size, 0, none⟩ 1 1 [.int .i64 n0, .int .i64 n1] rfl rfl (cell_two_new' wz.drew _ _ _) (fun x hx => by simp at hx; rcases hx with rfl | rfl <;> rfl) (by unfold maxLen; omega) (by omega) (by simp; omega) ?_
            intro u' w3 hown' hgrow hnil
            obtain ⟨g', cap', rfl⟩ := ownsRow_succ hown'
            have hgrow2 : (wz.alloc (.cells #[.int .i64 n0, .int .i64 n1] 48)).grownBy w3 uz.ownBlock := ⟨hgrow.os, hgrow.tape, hgrow.output, hgrow.size, hgrow.block⟩
            have hb3 : Boxed w3 (w.heap.size + 1 + 1 + 1) 24 uz := (hb8.alloc _).kept hgrow2 (hb8.not_row (by decide) HOWN8.out)
            have c3 := hb3.cell
            have f3 := hb3.frozen
            have hS3 := HMK.out _ (((Chg.refl _ _).alloc _).grown hgrow2 (fun j hj => .inl (.inr hj)))
            refine hK _ _ ⟨hS3, ?_⟩
            try simp only [Act.put, List.setIfInBounds_toArray, List.set_cons_succ, List.set_cons_zero]
            refine takeT (i := 9) (v := (.pointer (some ⟨w.heap.size + 1 + 1 + 1, 0, none⟩))) rfl (by kernel_rfl) (by kernel_rfl) (by kernel_rfl) (fun _ _ _ h => h) rfl ?_ (by assumption) ?_
            · intro w' hw'; go_split_ands; go_simp
            simp only [List.setIfInBounds_toArray, List.set_cons_zero, List.set_cons_succ]
            refine wpAnyH_all (rs := [10]) (by kernel_rfl) (by simp) ?_
            intro i hi
            simp only [List.mem_cons, List.not_mem_nil, or_false] at hi
            subst hi
            refine wpOp_step rfl (fun K' hK => ?_)
            rw [if_pos (by rfl)]
            go_simp
            refine hK _ _ ⟨HMK.out _ ((((Chg.refl _ _).alloc _).grown hgrow2 (fun j hj => .inl (.inr hj))).setCell (.inl (.inl rfl)) _), ?_⟩
            try simp only [Act.put]
            refine wpAnyH_done (by kernel_rfl) ?_ _
            have hne := hb3.not_row (by decide) hown'
            have hC9 := (((Chg.refl (fun j => j = w.heap.size + 1 + 1 + 1 ∨ uz.ownBlock = some j) wz).alloc (.cells #[.int .i64 n0, .int .i64 n1] 48)).grown hgrow2 (fun j hj => .inl (.inr hj))).setCell (p := ⟨w.heap.size + 1 + 1 + 1, 0, none⟩) (.inl (.inl rfl)) (.slice (some ⟨g', 0, none⟩) (nf2 + 1) cap')
            have hr9 := hC9.kept hbr8 (hF9 _ (by omega) (by omega))
            have ht9 := hC9.kept hbt8 (hF9 _ (by omega) (by omega))
            have hn9 := (hC9.same (w.heap.size + 1) (by omega) (hF9 _ (by omega) (by omega))).trans hbn8
            go_wp2
            refine ⟨⟨k + 1, _, by omega, by rw [HS2.out, hbs.out, dg]; rfl, by go_num, hb3.set _, hr9, hn9, ht9, ?_, Below.setCell (Below.grown (hB8.alloc (by omega) _) hgrow2 (by simp; omega) (fun j hj => by have := (HOWN8.out.lt j hj).1; omega)) (by simp; omega) _⟩, by simp [intOf]; omega⟩
            unfold Hid
            rw [HS2.out, hsn.out, if_pos ⟨by first | rfl | trivial, hgt⟩, ← HFK2.out, ndCells_append, List.length_append, ← HNF.out]
            exact hown'.kept (grownBy_setCell' w3 (w.heap.size + 1 + 1 + 1) (.slice (some ⟨g', 0, none⟩) (nf2 + 1) cap')) (.inr hne.symm)
          · refine wpOp_step rfl (fun K' hK => ?_)
            rw [if_pos (by rfl)]
            go_simp
            refine hK _ _ ⟨HMK.out _ (by first | exact (Chg.refl _ _).drew.alloc _ | exact ((Chg.refl _ _).alloc _).drew), ?_⟩
            try simp only [Act.put, List.setIfInBounds_toArray, List.set_cons_zero, List.set_cons_succ]
            refine wpAnyH_all (rs := [1]) (by kernel_rfl) (by simp) ?_
            intro i hi
            simp only [List.mem_cons, List.not_mem_nil, or_false] at hi
            subst hi
            refine wpOp_step rfl (fun K' hK => ?_)
            rw [if_pos (by rfl)]
            go_simp
            refine hK _ _ ⟨HMK.out _ (by first | exact (Chg.refl _ _).drew.alloc _ | exact ((Chg.refl _ _).alloc _).drew), ?_⟩
            try simp only [Act.put, List.setIfInBounds_toArray, List.set_cons_zero, List.set_cons_succ]
            refine wpAnyH_all (rs := [8]) (by kernel_rfl) (by simp) ?_
            intro i hi
            simp only [List.mem_cons, List.not_mem_nil, or_false] at hi
            subst hi
            refine wpOp_step rfl (fun K' hK => ?_)
            rw [if_pos (by rfl)]
            refine wp_append_own _ (.tmp 36) (.tmp 42) 22 rfl (w.heap.size + 4) 48 i0 (.agg #[.int .i64 0, .int .i64 0]) 2 16 Try.underlying22 hi0 hz0 hz1 hz2 rfl (by decide) uz nf2 _ rfl (HOWN8.out.alloc _) ⟨wz.heap.size, 0, none⟩ 1 1 [.int .i64 n0, .int .i64 n1] rfl rfl (cell_two_new' wz.drew _ _ _) (fun x hx => by simp at hx; rcases hx with rfl | rfl <;> rfl) (by unfold maxLen; omega) (by omega) (by simp; omega) ?_
            intro u' w3 hown' hgrow hnil
            obtain ⟨g', cap', rfl⟩ := ownsRow_succ hown'
            have hgrow2 : (wz.alloc (.cells #[.int .i64 n0, .int .i64 n1] 48)).grownBy w3 uz.ownBlock := ⟨hgrow.os, hgrow.tape, hgrow.output, hgrow.size, hgrow.block⟩
            have hb3 : Boxed w3 (w.heap.size + 1 + 1 + 1) 24 uz := (hb8.alloc _).kept hgrow2 (hb8.not_row (by decide) HOWN8.out)
            have c3 := hb3.cell
            have f3 := hb3.frozen
            have hS3 := HMK.out _ (((Chg.refl _ _).alloc _).grown hgrow2 (fun j hj => .inl (.inr hj)))
            refine hK _ _ ⟨hS3, ?_⟩
            try simp only [Act.put, List.setIfInBounds_toArray, List.set_cons_succ, List.set_cons_zero]
            refine takeT (i := 9) (v := (.pointer (some ⟨w.heap.size + 1 + 1 + 1, 0, none⟩))) rfl (by kernel_rfl) (by kernel_rfl) (by kernel_rfl) (fun _ _ _ h => h) rfl ?_ (by assumption) ?_
            · intro w' hw'; go_split_ands; go_simp
            simp only [List.setIfInBounds_toArray, List.set_cons_zero, List.set_cons_succ]
            refine wpAnyH_all (rs := [10]) (by kernel_rfl) (by simp) ?_
            intro i hi
            simp only [List.mem_cons, List.not_mem_nil, or_false] at hi
            subst hi
            refine wpOp_step rfl (fun K' hK => ?_)
            rw [if_pos (by rfl)]
            go_simp
            refine hK _ _ ⟨HMK.out _ ((((Chg.refl _ _).alloc _).grown hgrow2 (fun j hj => .inl (.inr hj))).setCell (.inl (.inl rfl)) _), ?_⟩
            try simp only [Act.put]
            refine wpAnyH_done (by kernel_rfl) ?_ _
            have hne := hb3.not_row (by decide) hown'
            have hC9 := (((Chg.refl (fun j => j = w.heap.size + 1 + 1 + 1 ∨ uz.ownBlock = some j) wz).alloc (.cells #[.int .i64 n0, .int .i64 n1] 48)).grown hgrow2 (fun j hj => .inl (.inr hj))).setCell (p := ⟨w.heap.size + 1 + 1 + 1, 0, none⟩) (.inl (.inl rfl)) (.slice (some ⟨g', 0, none⟩) (nf2 + 1) cap')
            have hr9 := hC9.kept hbr8 (hF9 _ (by omega) (by omega))
            have ht9 := hC9.kept hbt8 (hF9 _ (by omega) (by omega))
            have hn9 := (hC9.same (w.heap.size + 1) (by omega) (hF9 _ (by omega) (by omega))).trans hbn8
            go_wp2
            refine ⟨⟨k + 1, _, by omega, by rw [HS2.out, hbs.out, dg]; rfl, by go_num, hb3.set _, hr9, hn9, ht9, ?_, Below.setCell (Below.grown (hB8.alloc (by omega) _) hgrow2 (by simp; omega) (fun j hj => by have := (HOWN8.out.lt j hj).1; omega)) (by simp; omega) _⟩, by simp [intOf]; omega⟩
            unfold Hid
            rw [HS2.out, hsn.out, if_pos ⟨by first | rfl | trivial, hgt⟩, ← HFK2.out, ndCells_append, List.length_append, ← HNF.out]
            exact hown'.kept (grownBy_setCell' w3 (w.heap.size + 1 + 1 + 1) (.slice (some ⟨g', 0, none⟩) (nf2 + 1) cap')) (.inr hne.symm)
        · have dg : decide (p < n0) = false := decide_eq_false hgt
          go_wp2
          go_quiet (fail)
          have hb' : Boxed (wr.drewN nq) (w.heap.size + 1 + 1 + 1) 24 u := hb
          have hbr' : Boxed (wr.drewN nq) (w.heap.size + 1 + 1) 24 (.slice none 0 0) := hbr1
          have hbn' : (wr.drewN nq).heap[w.heap.size + 1]? = some (.cells #[.int .i64 p, .int .i64 c] 48) := hbn1
          have hbt' : Boxed (wr.drewN nq) w.heap.size 24 (.slice (some ⟨b1, off1, none⟩) n cap) := hbt1
          have hownW : Hid ((wr.drewN nq).ownsRow (w.heap.size + 4) 48 2 u nf (ndCells fk)) := hown
          have hB' : Below w.heap.size w (wr.drewN nq) := ⟨hB.os, hB.tape, hB.output, hB.size, hB.block⟩
          have ct' : (wr.drewN nq).cell? ⟨w.heap.size, 0, none⟩ = some (.slice (some ⟨b1, off1, none⟩) n cap) := ct
          have g0' : (wr.drewN nq).cell? ⟨b1, off1 + k * 2, none⟩ = some (.int .i64 n0) := g0
          have g1' : (wr.drewN nq).cell? ⟨b1, off1 + k * 2 + 1, none⟩ = some (.int .i64 n1) := g1
          have cp0' : (wr.drewN nq).cell? ⟨w.heap.size + 1, 0, none⟩ = some (.int .i64 p) := cp0
          have cp1' : (wr.drewN nq).cell? ⟨w.heap.size + 1, 1, none⟩ = some (.int .i64 c) := cp1
          clear hb hbr1 hbn1 hbt1 hown hB ct g0 g1 cp0 cp1
          generalize wr.drewN nq = wq at *
          have hsz9 : w.heap.size + 1 + 1 + 1 < wq.heap.size := hb'.lt
          have cx9 := hb'.cell
          have fx9 := hb'.frozen
          have cx9a := cell_old cx9 (.cells #[.int .i64 n0, .int .i64 n1] 48)
          have hF9 : ∀ b, b < w.heap.size + 4 → b ≠ w.heap.size + 1 + 1 + 1 → ¬ (b = w.heap.size + 1 + 1 + 1 ∨ u.ownBlock = some b) := by
            rintro b h1 h2 (h | h)
            · exact h2 h
            · have := (hownW.out.lt _ h).1; omega
          have HMK := Lib.hid fun (V : World) (hV : Chg (fun j => j = w.heap.size + 1 + 1 + 1 ∨ u.ownBlock = some j) wq V) => (show V.cell? ⟨w.heap.size, 0, none⟩ = some (.slice (some ⟨b1, off1, none⟩) n cap) ∧ V.cell? ⟨b1, off1 + k * 2, none⟩ = some (.int .i64 n0) ∧ V.cell? ⟨b1, off1 + k * 2 + 1, none⟩ = some (.int .i64 n1) ∧ Chg (fun j => j = w.heap.size + 1 + 1 + 1 ∨ u.ownBlock = some j) wq V from
            ⟨hV.cell ct' (hF9 _ (by show w.heap.size < _; omega) (by show w.heap.size ≠ _; omega)), hV.cell g0' (hF9 _ (by show b1 < _; omega) (by show b1 ≠ _; omega)), hV.cell g1' (hF9 _ (by show b1 < _; omega) (by show b1 ≠ _; omega)), hV⟩)
          go_upto_region 9 with fail
          refine wp_region_held_drew (S := fun w' => w'.cell? ⟨w.heap.size, 0, none⟩ = some (.slice (some ⟨b1, off1, none⟩) n cap) ∧ w'.cell? ⟨b1, off1 + k * 2, none⟩ = some (.int .i64 n0) ∧ w'.cell? ⟨b1, off1 + k * 2 + 1, none⟩ = some (.int .i64 n1) ∧ Chg (fun j => j = w.heap.size + 1 + 1 + 1 ∨ u.ownBlock = some j) wq w') (by kernel_rfl) (HMK.out _ (Chg.refl _ _).drew) (fun hHeld => ?_)
          refine takeT (i := 0) (v := (.pointer (some ⟨w.heap.size + 1 + 1 + 1, 0, none⟩))) rfl (by kernel_rfl) (by kernel_rfl) (by kernel_rfl) (fun _ _ _ h => h) rfl ?_ (by assumption) ?_
          · intro w' hw'; go_split_ands; go_simp
          simp only [List.setIfInBounds_toArray, List.set_cons_zero, List.set_cons_succ]
          refine takeT (i := 2) (v := (.pointer (some ⟨w.heap.size, 0, none⟩))) rfl (by kernel_rfl) (by kernel_rfl) (by kernel_rfl) (fun _ _ _ h => h) rfl ?_ (by assumption) ?_
          · intro w' hw'; go_split_ands; go_simp
          simp only [List.setIfInBounds_toArray, List.set_cons_zero, List.set_cons_succ]
          refine takeT (i := 3) (v := (.slice (some ⟨b1, off1, none⟩) n cap)) rfl (by kernel_rfl) (by kernel_rfl) (by kernel_rfl) (fun _ _ _ h => h) rfl ?_ (by assumption) ?_
          · intro w' hw'; go_split_ands; go_simp
          simp only [List.setIfInBounds_toArray, List.set_cons_zero, List.set_cons_succ]
          refine takeT (i := 4) (v := (.int .i64 (k : Int))) rfl (by kernel_rfl) (by kernel_rfl) (by kernel_rfl) (fun _ _ _ h => h) rfl ?_ (by assumption) ?_
          · intro w' hw'; go_split_ands; go_simp
          simp only [List.setIfInBounds_toArray, List.set_cons_zero, List.set_cons_succ]
          refine takeT (i := 5) (v := (.pointer (some ⟨b1, off1 + k * 2, none⟩))) rfl (by kernel_rfl) (by kernel_rfl) (by kernel_rfl) (fun _ _ _ h => h) rfl ?_ (by assumption) ?_
          · intro w' hw'; go_split_ands; go_simp
          simp only [List.setIfInBounds_toArray, List.set_cons_zero, List.set_cons_succ]
          refine takeT (i := 6) (v := (.agg #[.int .i64 n0, .int .i64 n1])) rfl (by kernel_rfl) (by kernel_rfl) (by kernel_rfl) (fun _ _ _ h => h) rfl ?_ (by assumption) ?_
          · intro w' hw'; go_split_ands; go_simp
          simp only [List.setIfInBounds_toArray, List.set_cons_zero, List.set_cons_succ]
          refine wpAnyH_all (rs := [1, 7]) (by kernel_rfl) (by simp) ?_
          intro i hi
          simp only [List.mem_cons, List.not_mem_nil, or_false] at hi
          rcases hi with rfl | rfl
          · refine wpOp_step rfl (fun K' hK => ?_)
            rw [if_pos (by rfl)]
            go_simp
            refine hK _ _ ⟨HMK.out _ (Chg.refl _ _).drew, ?_⟩
            try simp only [Act.put, List.setIfInBounds_toArray, List.set_cons_zero, List.set_cons_succ]
            refine wpAnyH_all (rs := [7]) (by kernel_rfl) (by simp) ?_
            intro i hi
            simp only [List.mem_cons, List.not_mem_nil, or_false] at hi
            subst hi
            refine wpOp_step rfl (fun K' hK => ?_)
            rw [if_pos (by rfl)]
            go_simp
            refine hK _ _ ⟨HMK.out _ (by first | exact (Chg.refl _ _).drew.alloc _ | exact ((Chg.refl _ _).alloc _).drew), ?_⟩
            try simp only [Act.put, List.setIfInBounds_toArray, List.set_cons_zero, List.set_cons_succ]
            refine wpAnyH_all (rs := [8]) (by kernel_rfl) (by simp) ?_
            intro i hi
            simp only [List.mem_cons, List.not_mem_nil, or_false] at hi
            subst hi
            refine wpOp_step rfl (fun K' hK => ?_)
            rw [if_pos (by rfl)]
            refine wp_append_own _ (.tmp 36) (.tmp 42) 22 rfl (w.heap.size + 4) 48 i0 (.agg #[.int .i64 0, .int .i64 0]) 2 16 Try.underlying22 hi0 hz0 hz1 hz2 rfl (by decide) u nf _ rfl (hownW.out.alloc _) ⟨wq.heap.size, 0, none⟩ 1 1 [.int .i64 n0, .int .i64 n1] rfl rfl (cell_two_new' wq.drew _ _ _) (fun x hx => by simp at hx; rcases hx with rfl | rfl <;> rfl) (by unfold maxLen; omega) (by omega) (by simp; omega) ?_
            intro u' w3 hown' hgrow hnil
            obtain ⟨g', cap', rfl⟩ := ownsRow_succ hown'
            have hgrow2 : (wq.alloc (.cells #[.int .i64 n0, .int .i64 n1] 48)).grownBy w3 u.ownBlock := ⟨hgrow.os, hgrow.tape, hgrow.output, hgrow.size, hgrow.block⟩
            have hb3 : Boxed w3 (w.heap.size + 1 + 1 + 1) 24 u := (hb'.alloc _).kept hgrow2 (hb'.not_row (by decide) hownW.out)
            have c3 := hb3.cell
            have f3 := hb3.frozen
            have hS3 := HMK.out _ (((Chg.refl _ _).alloc _).grown hgrow2 (fun j hj => .inl (.inr hj)))
            refine hK _ _ ⟨hS3, ?_⟩
            try simp only [Act.put, List.setIfInBounds_toArray, List.set_cons_succ, List.set_cons_zero]
            refine takeT (i := 9) (v := (.pointer (some ⟨w.heap.size + 1 + 1 + 1, 0, none⟩))) rfl (by kernel_rfl) (by kernel_rfl) (by kernel_rfl) (fun _ _ _ h => h) rfl ?_ (by assumption) ?_
            · intro w' hw'; go_split_ands; go_simp
            simp only [List.setIfInBounds_toArray, List.set_cons_zero, List.set_cons_succ]
            refine wpAnyH_all (rs := [10]) (by kernel_rfl) (by simp) ?_
            intro i hi
            simp only [List.mem_cons, List.not_mem_nil, or_false] at hi
            subst hi
            refine wpOp_step rfl (fun K' hK => ?_)
            rw [if_pos (by rfl)]
            go_simp
            refine hK _ _ ⟨HMK.out _ ((((Chg.refl _ _).alloc _).grown hgrow2 (fun j hj => .inl (.inr hj))).setCell (.inl (.inl rfl)) _), ?_⟩
            try simp only [Act.put]
            refine wpAnyH_done (by kernel_rfl) ?_ _
            have hne := hb3.not_row (by decide) hown'
            have hC9 := (((Chg.refl (fun j => j = w.heap.size + 1 + 1 + 1 ∨ u.ownBlock = some j) wq).alloc (.cells #[.int .i64 n0, .int .i64 n1] 48)).grown hgrow2 (fun j hj => .inl (.inr hj))).setCell (p := ⟨w.heap.size + 1 + 1 + 1, 0, none⟩) (.inl (.inl rfl)) (.slice (some ⟨g', 0, none⟩) (nf + 1) cap')
            have hr9 := hC9.kept hbr' (hF9 _ (by omega) (by omega))
            have ht9 := hC9.kept hbt' (hF9 _ (by omega) (by omega))
            have hn9 := (hC9.same (w.heap.size + 1) (by omega) (hF9 _ (by omega) (by omega))).trans hbn'
            go_wp2
            refine ⟨⟨k + 1, _, by omega, by rw [HS2.out, hbs.out, dg]; rfl, by go_num, hb3.set _, hr9, hn9, ht9, ?_, Below.setCell (Below.grown (hB'.alloc (by omega) _) hgrow2 (by simp; omega) (fun j hj => by have := (hownW.out.lt j hj).1; omega)) (by simp; omega) _⟩, by simp [intOf]; omega⟩
            unfold Hid
            rw [HS2.out, hsn.out, if_neg (fun h => by have h2 : p < n0 := h.2; omega), ndCells_append, List.length_append, ← HNF.out]
            exact hown'.kept (grownBy_setCell' w3 (w.heap.size + 1 + 1 + 1) (.slice (some ⟨g', 0, none⟩) (nf + 1) cap')) (.inr hne.symm)
          · refine wpOp_step rfl (fun K' hK => ?_)
            rw [if_pos (by rfl)]
            go_simp
            refine hK _ _ ⟨HMK.out _ (by first | exact (Chg.refl _ _).drew.alloc _ | exact ((Chg.refl _ _).alloc _).drew), ?_⟩
            try simp only [Act.put, List.setIfInBounds_toArray, List.set_cons_zero, List.set_cons_succ]
            refine wpAnyH_all (rs := [1]) (by kernel_rfl) (by simp) ?_
            intro i hi
            simp only [List.mem_cons, List.not_mem_nil, or_false] at hi
            subst hi
            refine wpOp_step rfl (fun K' hK => ?_)
            rw [if_pos (by rfl)]
            go_simp
            refine hK _ _ ⟨HMK.out _ (by first | exact (Chg.refl _ _).drew.alloc _ | exact ((Chg.refl _ _).alloc _).drew), ?_⟩
            try simp only [Act.put, List.setIfInBounds_toArray, List.set_cons_zero, List.set_cons_succ]
            refine wpAnyH_all (rs := [8]) (by kernel_rfl) (by simp) ?_
            intro i hi
            simp only [List.mem_cons, List.not_mem_nil, or_false] at hi
            subst hi
            refine wpOp_step rfl (fun K' hK => ?_)
            rw [if_pos (by rfl)]
            refine wp_append_own _ (.tmp 36) (.tmp 42) 22 rfl (w.heap.size + 4) 48 i0 (.agg #[.int .i64 0, .int .i64 0]) 2 16 Try.underlying22 hi0 hz0 hz1 hz2 rfl (by decide) u nf _ rfl (hownW.out.alloc _) ⟨wq.heap.size, 0, none⟩ 1 1 [.int .i64 n0, .int .i64 n1] rfl rfl (cell_two_new' wq.drew _ _ _) (fun x hx => by simp at hx; rcases hx with rfl | rfl <;> rfl) (by unfold maxLen; omega) (by omega) (by simp; omega) ?_
            intro u' w3 hown' hgrow hnil
            obtain ⟨g', cap', rfl⟩ := ownsRow_succ hown'
            have hgrow2 : (wq.alloc (.cells #[.int .i64 n0, .int .i64 n1] 48)).grownBy w3 u.ownBlock := ⟨hgrow.os, hgrow.tape, hgrow.output, hgrow.size, hgrow.block⟩
            have hb3 : Boxed w3 (w.heap.size + 1 + 1 + 1) 24 u := (hb'.alloc _).kept hgrow2 (hb'.not_row (by decide) hownW.out)
            have c3 := hb3.cell
            have f3 := hb3.frozen
            have hS3 := HMK.out _ (((Chg.refl _ _).alloc _).grown hgrow2 (fun j hj => .inl (.inr hj)))
            refine hK _ _ ⟨hS3, ?_⟩
            try simp only [Act.put, List.setIfInBounds_toArray, List.set_cons_succ, List.set_cons_zero]
            refine takeT (i := 9) (v := (.pointer (some ⟨w.heap.size + 1 + 1 + 1, 0, none⟩))) rfl (by kernel_rfl) (by kernel_rfl) (by kernel_rfl) (fun _ _ _ h => h) rfl ?_ (by assumption) ?_
            · intro w' hw'; go_split_ands; go_simp
            simp only [List.setIfInBounds_toArray, List.set_cons_zero, List.set_cons_succ]
            refine wpAnyH_all (rs := [10]) (by kernel_rfl) (by simp) ?_
            intro i hi
            simp only [List.mem_cons, List.not_mem_nil, or_false] at hi
            subst hi
            refine wpOp_step rfl (fun K' hK => ?_)
            rw [if_pos (by rfl)]
            go_simp
            refine hK _ _ ⟨HMK.out _ ((((Chg.refl _ _).alloc _).grown hgrow2 (fun j hj => .inl (.inr hj))).setCell (.inl (.inl rfl)) _), ?_⟩
            try simp only [Act.put]
            refine wpAnyH_done (by kernel_rfl) ?_ _
            have hne := hb3.not_row (by decide) hown'
            have hC9 := (((Chg.refl (fun j => j = w.heap.size + 1 + 1 + 1 ∨ u.ownBlock = some j) wq).alloc (.cells #[.int .i64 n0, .int .i64 n1] 48)).grown hgrow2 (fun j hj => .inl (.inr hj))).setCell (p := ⟨w.heap.size + 1 + 1 + 1, 0, none⟩) (.inl (.inl rfl)) (.slice (some ⟨g', 0, none⟩) (nf + 1) cap')
            have hr9 := hC9.kept hbr' (hF9 _ (by omega) (by omega))
            have ht9 := hC9.kept hbt' (hF9 _ (by omega) (by omega))
            have hn9 := (hC9.same (w.heap.size + 1) (by omega) (hF9 _ (by omega) (by omega))).trans hbn'
            go_wp2
            refine ⟨⟨k + 1, _, by omega, by rw [HS2.out, hbs.out, dg]; rfl, by go_num, hb3.set _, hr9, hn9, ht9, ?_, Below.setCell (Below.grown (hB'.alloc (by omega) _) hgrow2 (by simp; omega) (fun j hj => by have := (hownW.out.lt j hj).1; omega)) (by simp; omega) _⟩, by simp [intOf]; omega⟩
            unfold Hid
            rw [HS2.out, hsn.out, if_neg (fun h => by have h2 : p < n0 := h.2; omega), ndCells_append, List.length_append, ← HNF.out]
            exact hown'.kept (grownBy_setCell' w3 (w.heap.size + 1 + 1 + 1) (.slice (some ⟨g', 0, none⟩) (nf + 1) cap')) (.inr hne.symm)
    · have hk' : k = n := by omega
      subst hk'
      have hkl : xs.take k = xs := List.take_of_length_le (by rw [← HN.out]; exact Nat.le_refl _)
      rw [hkl] at hown
      have hee := Lib.hid (outL_end (p, c) xs)
      have hlen : (outL (p, c) xs).length ≤ 101 := by
        unfold outL
        split
        · rw [insL_length, ← HN.out]; omega
        · rw [← HN.out]; omega
      have hwf : ∀ m ∈ insL (p, c) xs, (Lit.int .i64 m.1).wf = true ∧ (Lit.int .i64 m.2).wf = true := fun m hm => by
        rcases mem_insL.1 hm with rfl | hm
        · exact HPC.out
        · exact HW.out m hm
      have HWF := Lib.hid hwf
      have hsz : w.heap.size + 1 + 1 + 1 < wr.heap.size := hb.lt
      have cx := hb.cell
      have fx := hb.frozen
      have cr := hbr1.cell
      have fr := hbr1.frozen
      rw [hkl]
      clear hwf hkl
      generalize outL (p, c) xs = fk at *
      obtain ⟨nf, hnf⟩ : ∃ nf, nf = fk.length := ⟨_, rfl⟩
      rw [← hnf] at hown hlen
      have HNF := Lib.hid hnf
      clear hnf
      cases hmt : beh (p, c) xs with
      | true =>
        rw [hmt, if_pos rfl] at hee
        clear hmt
        have hu : ∃ p l c, u = .slice p l c := by
          rcases hown.out.2 with ⟨rfl, _⟩ | ⟨g, c, cur, rfl, _⟩
          · exact ⟨_, _, _, rfl⟩
          · exact ⟨_, _, _, rfl⟩
        obtain ⟨q0, l, c0, rfl⟩ := hu
        have HFIN := Lib.hid (TreeAt.of_own (hown.out.kept (grownBy_setCell' wr (w.heap.size + 1 + 1) (.slice q0 l c0)) (.inr (hbr1.not_row (by decide) hown.out).symm)) (fun m hm => HWF.out m (by rw [hee.out]; exact hm)))
        have HBE := Lib.hid (hB.setCell (p := ⟨w.heap.size + 1 + 1, 0, none⟩) (by simp; omega) (.slice q0 l c0))
        clear hown hB
        go_wp2
        refine bodyPost_ret (results_cell_row rfl _ _ (w.heap.size + 1 + 1) 24 #[.slice q0 l c0] (0, 0) _ rfl (hbr1.set (.slice q0 l c0)) Try.underlying24 rfl (by kernel_rfl)) rfl ?_
        exact ⟨_, rfl, by rw [hee.out]; exact HFIN.out, HBE.out⟩
      | false =>
        rw [hmt, if_neg Bool.false_ne_true] at hee
        clear hmt
        go_wp2_with (at_builtin; refine wpList_append_own _ rfl (.tmp 48) (.tmp 50) 22 rfl (w.heap.size + 4) 48 i0 (.agg #[.int .i64 0, .int .i64 0]) 2 16 Try.underlying22 hi0 hz0 hz1 hz2 rfl (by decide) u nf _ rfl (hown.out.alloc _) ⟨wr.heap.size, 0, none⟩ 1 1 [.int .i64 p, .int .i64 c] rfl rfl (cell_two_new' wr _ _ _) (fun x hx => by simp at hx; rcases hx with rfl | rfl <;> rfl) (by unfold maxLen; omega) (by omega) (by simp; omega) ?_; intro u7 w7 hown7 hgrow7 hnil7; obtain ⟨g7, c7, rfl⟩ := ownsRow_succ hown7; have hb7 : Boxed w7 (w.heap.size + 1 + 1 + 1) 24 u := (hb.alloc _).kept hgrow7 (hb.not_row (by decide) hown.out); have cb7 := hb7.cell; have fb7 := hb7.frozen; have hbr7 := Boxed.other ((hbr1.alloc (.cells #[.int .i64 p, .int .i64 c] 48)).kept hgrow7 (hbr1.not_row (by decide) hown.out)) (show w.heap.size + 1 + 1 ≠ w.heap.size + 1 + 1 + 1 by omega) (.slice (some ⟨g7, 0, none⟩) (nf + 1) c7); have cr7 := hbr7.cell; have fr7 := hbr7.frozen)
        have hown8 := hown7.kept (grownBy_setCell' w7 (w.heap.size + 1 + 1 + 1) (.slice (some ⟨g7, 0, none⟩) (nf + 1) c7)) (.inr (hb7.not_row (by decide) hown7).symm)
        have hown9 := hown8.kept (grownBy_setCell' _ (w.heap.size + 1 + 1) (.slice (some ⟨g7, 0, none⟩) (nf + 1) c7)) (.inr (hbr7.not_row (by decide) hown8).symm)
        rw [show ndCells fk ++ [Value.int .i64 p, Value.int .i64 c] = ndCells (fk ++ [(p, c)]) from (ndCells_append fk [((p, c) : Nd)]).symm] at hown9
        have HFIN := Lib.hid (TreeAt.of_own hown9 (fun m hm => HWF.out m (by rw [hee.out]; exact hm)))
        have HBE := Lib.hid (Below.setCell (p := ⟨w.heap.size + 1 + 1, 0, none⟩) (Below.setCell (p := ⟨w.heap.size + 1 + 1 + 1, 0, none⟩) (Below.grown (hB.alloc (by omega) _) hgrow7 (by simp; omega) (fun j hj => by have := (hown.out.lt j hj).1; omega)) (by simp; omega) (.slice (some ⟨g7, 0, none⟩) (nf + 1) c7)) (by simp; omega) (.slice (some ⟨g7, 0, none⟩) (nf + 1) c7))
        refine bodyPost_ret (results_cell_row rfl _ _ (w.heap.size + 1 + 1) 24 #[(.slice (some ⟨g7, 0, none⟩) (nf + 1) c7)] (0, 0) _ rfl (hbr7.set (.slice (some ⟨g7, 0, none⟩) (nf + 1) c7)) Try.underlying24 rfl (by kernel_rfl)) rfl ?_
        exact ⟨_, rfl, by rw [hee.out]; exact HFIN.out, HBE.out⟩
end Go.Proofs.Ytofkmapokdcphaa
