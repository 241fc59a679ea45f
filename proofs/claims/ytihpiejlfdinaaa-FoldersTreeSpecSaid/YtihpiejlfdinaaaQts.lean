import Derived.Test.YtihpiejlfdinaaaQt
import Derived.Test.YtihpiejlfdinaaaQs
import Derived.Test.YtihpiejlfdinaaaPf
/-
  FoldersTreeSpec, in plain Lean.
-/
namespace Go.Proofs.Ytihpiejlfdinaaa.PF
open Go Go.RowKit Go.Maps Go.My Go.Proofs.YtihpiejlfdinaaaW.PrintWords

theorem treeSpec_true (l : List S29) (a b c d : Int) (n : ByteArray) : chartroomlaw27_FoldersTreeSpec.f 400 l a b c d n = some true := by
  unfold chartroomlaw27_FoldersTreeSpec.f
  rw [sane_f 391, Option.bind_some, if_pos rfl, few_f, Option.bind_some]
  by_cases hl : l.length ≤ 30
  case neg => rw [decide_eq_false hl]; rfl
  have hT := treeP_length (growF l)
  rw [decide_eq_true hl, if_pos (show (true && decide (([] : List S29).length ≤ 30)) = true from rfl), folders_tree (by omega), Option.bind_some, refTree_f (by omega) (by omega), Option.bind_some, same_f (by omega) (by omega), Option.bind_some, decide_eq_true rfl, if_pos rfl, refCheck_f]
  unfold folders_Check.f
  rw [Option.bind_some, Option.bind_some, beq_self_eq_true]
end Go.Proofs.Ytihpiejlfdinaaa.PF
