import Derived.Test.YtihpiejlfdinaaaQt
import Derived.Test.YtihpiejlfdinaaaQs
import Derived.Test.YtihpiejlfdinaaaPg
/-
  FoldersBelowSpec, in plain Lean.
-/
namespace Go.Proofs.Ytihpiejlfdinaaa.PF
open Go Go.RowKit Go.Maps Go.My Go.Proofs.YtihpiejlfdinaaaW.PrintWords

theorem bs_l0 (l : List S29) (hl : l.length ≤ 30) (xs : List Int) (hx : ∀ x ∈ xs, i64 x = true) (h2 : xs.length = 2) : ∀ (n i k : Nat), i + n = xs.length → 400 + n < k → chartroomlaw27_FoldersBelowSpec.l0 k l xs (xs.length : Int) i = some true
  | 0, i, k, hn, hk => by
    obtain ⟨k, rfl⟩ : ∃ m, k = m + 1 := ⟨k - 1, by omega⟩
    rw [chartroomlaw27_FoldersBelowSpec.l0, if_neg (by omega)]
  | n + 1, i, k, hn, hk => by
    obtain ⟨k, rfl⟩ : ∃ m, k = m + 1 := ⟨k - 1, by omega⟩
    have hi : i < xs.length := by omega
    obtain ⟨y, hy⟩ : ∃ y, xs[i]? = some y := ⟨_, List.getElem?_eq_getElem hi⟩
    have hy64 := hx y (List.mem_of_getElem? hy)
    have hB := belowP_length (growF l) y
    have hA := (growF_inv l).up_ends y
    rw [chartroomlaw27_FoldersBelowSpec.l0, if_pos (by omega), if_pos (by omega), if_pos (by omega), rd_of hy, folders_below (by omega) hy64, Option.bind_some, refBelow_f (by omega) y (by omega), Option.bind_some, sameI_f (by omega) (by omega), Option.bind_some, decide_eq_true rfl, if_pos rfl,
      folders_above (by omega) hy64, Option.bind_some, refAbove_f (by omega) y (by omega), Option.bind_some, sameI_f (by omega) (by omega), Option.bind_some, decide_eq_true rfl, if_pos rfl, wrap_succ hi (by omega)]
    exact bs_l0 l hl xs hx h2 n (i + 1) k (by omega) (by omega)
theorem belowSpec_true (l : List S29) (a : Int) (ha : i64 a = true) : chartroomlaw27_FoldersBelowSpec.f 500 l a = some true := by
  unfold chartroomlaw27_FoldersBelowSpec.f
  rw [sane_f 491, Option.bind_some, if_pos rfl, few_f, Option.bind_some]
  by_cases hl : l.length ≤ 30
  case neg => rw [decide_eq_false hl]; rfl
  rw [decide_eq_true hl, if_pos (show (true && decide (([] : List S29).length ≤ 30)) = true from rfl), Option.bind_some, and15]
  exact bs_l0 l hl [a, a % 16] (by
    intro x hx
    simp at hx
    rcases hx with rfl | rfl
    · exact ha
    · exact i64_small (by omega) (by omega)) rfl 2 0 500 rfl (by omega)
theorem i64_of_wf {x : Int} (h : (Lit.int .i64 x).wf = true) : i64 x = true := by
  have h' : (decide (IntKind.i64.min ≤ x) && decide (x ≤ IntKind.i64.max)) = true := h
  rw [Bool.and_eq_true, decide_eq_true_eq, decide_eq_true_eq] at h'
  have h1 : IntKind.i64.min = -9223372036854775808 := by decide
  have h2 : IntKind.i64.max = 9223372036854775807 := by decide
  unfold i64 btw
  rw [decide_eq_true (by omega), decide_eq_true (by omega)]; rfl
end Go.Proofs.Ytihpiejlfdinaaa.PF
