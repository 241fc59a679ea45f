/- Proved: KeytreeSetSpecSaid. For each tree, device, key and path, the law KeytreeSetSpec returns true, does not panic, and leaves what the memory held as it was.
   Conditions: none beyond the statement's own (each memory that lays out the arguments as the statement says). -/
import Derived.Test.YtofkmapokdcphaaSp
import Derived.Test.YtofkmapokdcphaaRow
import Derived.Carry
import Derived.ChangeSlices
namespace Go.Proofs.Ytofkmapokdcphaa
open Go Go.ChangeShapes Go.WideShapes Go.ChangeAt Go.RowKit Go.Maps Go.My Go.Deep

set_option maxRecDepth 100000 in
/-- A row of numbers that came in. -/
theorem open_nums {H : Type} {enc : TypeId × Value → H} {W : World} {v : Value} {d : DataW H} {p : List MemPlace} {base : Nat} (hv : Value.okWide Try.prog W .any base 27 v)
    (h : DataW.Trod enc Try.prog W 0 (fun _ => true) true 27 v d p) : ∃ ps, IntsAt W v ps ∧ ∀ x ∈ ps, (Lit.int .i64 x).wf = true := by
  obtain ⟨a1, len, cap, rfl⟩ := okWide_slice Try.underlying27 hv
  obtain ⟨fuel, hf⟩ := h
  rcases open_ints Try.underlying27 Try.underlying3 (by kernel_rfl) hf with ⟨hcs, hx⟩ | ⟨a, len', cap', zs, hcs, _, hl, hm, hz, hx, hcell, hwz⟩
  · simp [Value.cells] at hcs
    obtain ⟨rfl, rfl, rfl⟩ := hcs
    exact ⟨[], intsAt_nil _ _ _, fun x hx => by cases hx⟩
  · simp [Value.cells] at hcs
    obtain ⟨rfl, rfl, rfl⟩ := hcs
    simp only [if_true] at hz
    have htl : (zs.take len).length = len := by rw [List.length_take]; omega
    obtain ⟨b, off, spot⟩ := a
    by_cases hl0 : len = 0
    · subst hl0
      exact ⟨[], intsAt_nil _ _ _, fun x hx => by cases hx⟩
    · have hspot : spot = none := by
        have := World.cell?_spot (hcell 0 (by omega))
        simpa [Addr.add] using this
      subst hspot
      refine ⟨zs.take len, ⟨_, cap, b, off, by rw [htl], .inl rfl, fun i x hx => ?_⟩, fun x hx => hwz x (List.mem_of_mem_take hx)⟩
      have hi : i < len := by have := (List.getElem?_eq_some_iff.1 hx).1; omega
      have h1 := hcell i (by omega)
      have ad : ∀ k, (⟨b, off, none⟩ : Addr).add k = ⟨b, off + k, none⟩ := fun k => by
        cases k with
        | zero => rfl
        | succ k => simp [Addr.add]
      rw [ad] at h1
      rw [h1]
      have h2 : zs.getD i 0 = x := by
        rw [List.getElem?_take_of_lt hi] at hx
        rw [List.getD_eq_getElem?_getD, hx]; rfl
      rw [h2]

set_option maxRecDepth 100000 in
theorem keytreeSetSpec_lifted (os : Os) (started : os.Started) (H : Type) (enc : TypeId × Value → H) :
    ReturnsInHanded {} Try.checked os 4 .any (Rows.keytreeSetSpecSpec.pre6 enc Try.prog Try.f4 Rows.keytreeSetSpecRow.domain false) (Rows.keytreeSetSpecSpec.post enc Try.prog Try.f4 false true false false) := by
  refine returnsInHanded_of_change (C := Try.checked) Try.own started (by kernel_rfl) Try.func4
    (ChangeSpec.witness6 (enc := enc) (C := Try.checked) false ⟨#[], #[.agg #[.slice none 0 0], .int .i64 0, .int .i64 0, .slice none 0 0], []⟩ 8 (by kernel_rfl) (by kernel_rfl) (by kernel_rfl) (by kernel_rfl)) ?_
  intro W base args ds gs before hval0 hW hcnd _
  have hval : ∀ (j : Nat) t v, Try.f4.params[j]? = some t → args[j]? = some v → Value.okWide Try.prog W .any base t v := hval0
  have hW' := hW
  obtain ⟨p, q, hA0, hV, rfl, hfz, hnd⟩ := hW
  have hA : DataW.TrodAll enc Try.prog W 0 (fun _ => true) true Try.f4.params.toList args.toList ds p := hA0
  obtain ⟨rfl, rfl⟩ := trodVars_none hV
  rw [Try.params4] at hA hval
  have hAA := hA
  obtain ⟨v0, v1, v2, v3, d0, d1, d2, d3, p0, p1, p2, p3, rfl, rfl, _, h0, h1, h2, h3⟩ := trodAll_four hA
  obtain ⟨xs0, ht0⟩ := open_tree (hval 0 24 v0 rfl rfl) h0
  obtain ⟨a1, rfl, rfl, rfl, wa1⟩ := open_int Try.underlying3 (hval 1 3 v1 rfl rfl) h1
  obtain ⟨a2, rfl, rfl, rfl, wa2⟩ := open_int Try.underlying3 (hval 2 3 v2 rfl rfl) h2
  obtain ⟨qs3, hq3, hw3⟩ := open_nums (hval 3 27 v3 rfl rfl) h3
  refine (setSpec_any v0 v3 xs0 qs3 a1 a2 W ht0 hq3 wa1 wa2 hw3).mono fun e W' ⟨he, hB⟩ => ?_
  subst he
  have hlt : ∀ z ∈ p, z.block < W.heap.size := fun z hz => by simpa using hW'.lt z (List.mem_append_left _ hz)
  exact ⟨_, rfl, ⟨_, _, _, [], p, [], hW', trodAll_mk1 (shut_bool Try.underlying4 true), trodAll_below hB (by intro t ht; simp at ht; rcases ht with rfl | rfl | rfl <;> exact ⟨by kernel_rfl, of_decide_eq_true (by kernel_rfl)⟩) hlt hAA, (show ([] : List MemPlace) = [] from rfl), hB.frame _, fun h => by cases h⟩⟩

theorem keytreeSetSpec_holds : Rows.KeytreeSetSpecSaid :=
  OpenClaim.holds_of_wide 4 Try.f4 rfl rfl rfl rfl rfl rfl rfl ⟨rfl, rfl, rfl, rfl, rfl⟩ rfl rfl rfl rfl rfl (by kernel_rfl) Try.func4 (by kernel_rfl)
    (of_decide_eq_true (by kernel_rfl)) (by unfold Func.isWrapper; first | (rw [if_pos (by decide +kernel)]; kernel_rfl) | (rw [if_neg (by decide +kernel)]; exact ⟨rfl, rfl⟩))
    (fun os started H enc _ => keytreeSetSpec_lifted os started H enc)
end Go.Proofs.Ytofkmapokdcphaa
