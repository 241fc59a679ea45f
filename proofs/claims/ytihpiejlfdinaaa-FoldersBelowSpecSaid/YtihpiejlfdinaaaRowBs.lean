/- Proved: FoldersBelowSpecSaid. For every list of places and every number, the law FoldersBelowSpec returns true, does not panic, and leaves what the memory held as it was.
   Conditions: none beyond the statement's own (each memory that lays out the arguments as the statement says). -/
import Derived.Test.YtihpiejlfdinaaaQbs
import Derived.Test.YtihpiejlfdinaaaRowp
namespace Go.Proofs.Ytihpiejlfdinaaa
open Go Go.ChangeShapes Go.WideShapes Go.ChangeAt Go.RowKit Go.Deep PF

set_option maxRecDepth 100000 in
theorem foldersBelowSpec_lifted (os : Os) (started : os.Started) (H : Type) (enc : TypeId × Value → H) :
    ReturnsInHanded {} Try.checked os 6 .any (Rows.foldersBelowSpecSpec.pre6 enc Try.prog Try.f6 Rows.foldersBelowSpecRow.domain false) (Rows.foldersBelowSpecSpec.post enc Try.prog Try.f6 false true false false) := by
  refine returnsInHanded_of_change (C := Try.checked) Try.own started (by kernel_rfl) Try.func6
    (ChangeSpec.witness6 (enc := enc) (C := Try.checked) false ⟨#[], #[.slice none 0 0, .int .i64 0], []⟩ 8 (by kernel_rfl) (by kernel_rfl) (by kernel_rfl) (by kernel_rfl)) ?_
  intro W base args ds gs before hval0 hW hcnd _
  have hval : ∀ (j : Nat) t v, Try.f6.params[j]? = some t → args[j]? = some v → Value.okWide Try.prog W .any base t v := hval0
  have hW' := hW
  obtain ⟨p, q, hA0, hV, rfl, hfz, hnd⟩ := hW
  have hA : DataW.TrodAll enc Try.prog W 0 (fun _ => true) true Try.f6.params.toList args.toList ds p := hA0
  obtain ⟨rfl, rfl⟩ := trodVars_none hV
  rw [Try.params6] at hA hval
  have hAA := hA
  obtain ⟨v0, v1, d0, d1, p0, p1, rfl, rfl, _, h0, h1⟩ := trodAll_two hA
  obtain ⟨A0, c0, l0, rfl, hc0, hr0⟩ := open_places (hval 0 22 v0 rfl rfl) h0
  obtain ⟨a1, rfl, rfl, rfl, wa1⟩ := open_int Try.underlying3 (hval 1 3 v1 rfl rfl) h1
  refine (chartroomlaw27_FoldersBelowSpec.calls 500 A0 c0 l0 a1 true W hr0 hc0 (belowSpec_true l0 a1 (i64_of_wf wa1))).mono fun e W' ⟨he, hB⟩ => ?_
  subst he
  have hlt : ∀ z ∈ p, z.block < W.heap.size := fun z hz => by simpa using hW'.lt z (List.mem_append_left _ hz)
  exact ⟨_, rfl, ⟨_, _, _, [], p, [], hW', trodAll_mk1 (shut_bool Try.underlying4 true), trodAll_below hB (by intro t ht; simp at ht; rcases ht with rfl | rfl <;> exact ⟨by kernel_rfl, of_decide_eq_true (by kernel_rfl)⟩) hlt hAA, (show ([] : List MemPlace) = [] from rfl), hB.frame _, fun h => by cases h⟩⟩

theorem foldersBelowSpec_holds : Rows.FoldersBelowSpecSaid :=
  OpenClaim.holds_of_wide 6 Try.f6 rfl rfl rfl rfl rfl rfl rfl ⟨rfl, rfl, rfl, rfl, rfl⟩ rfl rfl rfl rfl rfl (by kernel_rfl) Try.func6 (by kernel_rfl)
    (of_decide_eq_true (by kernel_rfl)) (by unfold Func.isWrapper; first | (rw [if_pos (by decide +kernel)]; kernel_rfl) | (rw [if_neg (by decide +kernel)]; exact ⟨rfl, rfl⟩))
    (fun os started H enc _ => foldersBelowSpec_lifted os started H enc)
end Go.Proofs.Ytihpiejlfdinaaa
