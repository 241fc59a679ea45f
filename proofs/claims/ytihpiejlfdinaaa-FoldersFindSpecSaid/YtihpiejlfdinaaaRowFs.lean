/- Proved: FoldersFindSpecSaid. For every list of places and every path of names, the law FoldersFindSpec returns true, does not panic, and leaves what the memory held as it was.
   Conditions: none beyond the statement's own (each memory that lays out the arguments as the statement says). -/
import Derived.Test.YtihpiejlfdinaaaWn
import Derived.Test.YtihpiejlfdinaaaRowq
namespace Go.Proofs.Ytihpiejlfdinaaa
open Go Go.ChangeShapes Go.WideShapes Go.ChangeAt Go.RowKit Go.Deep PF

set_option maxRecDepth 100000 in
theorem foldersFindSpec_lifted (os : Os) (started : os.Started) (H : Type) (enc : TypeId × Value → H) :
    ReturnsInHanded {} Try.checked os 7 .any (Rows.foldersFindSpecSpec.pre6 enc Try.prog Try.f7 Rows.foldersFindSpecRow.domain false) (Rows.foldersFindSpecSpec.post enc Try.prog Try.f7 false true false false) := by
  refine returnsInHanded_of_change (C := Try.checked) Try.own started (by kernel_rfl) Try.func7
    (ChangeSpec.witness6 (enc := enc) (C := Try.checked) false ⟨#[], #[.slice none 0 0, .slice none 0 0], []⟩ 8 (by kernel_rfl) (by kernel_rfl) (by kernel_rfl) (by kernel_rfl)) ?_
  intro W base args ds gs before hval0 hW hcnd _
  have hval : ∀ (j : Nat) t v, Try.f7.params[j]? = some t → args[j]? = some v → Value.okWide Try.prog W .any base t v := hval0
  have hW' := hW
  obtain ⟨p, q, hA0, hV, rfl, hfz, hnd⟩ := hW
  have hA : DataW.TrodAll enc Try.prog W 0 (fun _ => true) true Try.f7.params.toList args.toList ds p := hA0
  obtain ⟨rfl, rfl⟩ := trodVars_none hV
  rw [Try.params7] at hA hval
  have hAA := hA
  obtain ⟨v0, v1, d0, d1, p0, p1, rfl, rfl, _, h0, h1⟩ := trodAll_two hA
  obtain ⟨A0, c0, l0, rfl, hc0, hr0⟩ := open_places (hval 0 22 v0 rfl rfl) h0
  obtain ⟨A1, c1, l1, rfl, hc1, hr1⟩ := open_strs (hval 1 37 v1 rfl rfl) h1
  refine (findSpec_any A0 c0 l0 A1 c1 l1 W hr0 hc0 hr1 hc1).mono fun e W' ⟨he, hB⟩ => ?_
  subst he
  have hlt : ∀ z ∈ p, z.block < W.heap.size := fun z hz => by simpa using hW'.lt z (List.mem_append_left _ hz)
  exact ⟨_, rfl, ⟨_, _, _, [], p, [], hW', trodAll_mk1 (shut_bool Try.underlying4 true), trodAll_below hB (by intro t ht; simp at ht; rcases ht with rfl | rfl <;> exact ⟨by kernel_rfl, of_decide_eq_true (by kernel_rfl)⟩) hlt hAA, (show ([] : List MemPlace) = [] from rfl), hB.frame _, fun h => by cases h⟩⟩

theorem foldersFindSpec_holds : Rows.FoldersFindSpecSaid :=
  OpenClaim.holds_of_wide 7 Try.f7 rfl rfl rfl rfl rfl rfl rfl ⟨rfl, rfl, rfl, rfl, rfl⟩ rfl rfl rfl rfl rfl (by kernel_rfl) Try.func7 (by kernel_rfl)
    (of_decide_eq_true (by kernel_rfl)) (by unfold Func.isWrapper; first | (rw [if_pos (by decide +kernel)]; kernel_rfl) | (rw [if_neg (by decide +kernel)]; exact ⟨rfl, rfl⟩))
    (fun os started H enc _ => foldersFindSpec_lifted os started H enc)
end Go.Proofs.Ytihpiejlfdinaaa
