import Derived.Test.YtihpiejlfdinaaaQs
import Derived.Test.YtihpiejlfdinaaaPh
/-
  FoldersOrder, in plain Lean.
-/
namespace Go.Proofs.Ytihpiejlfdinaaa.PF
open Go Go.RowKit Go.Maps Go.My Go.Proofs.YtihpiejlfdinaaaW.PrintWords

theorem order_j0 (k : Nat) (l m : List S29) (a : Int) (ha : 0 ≤ a) (hl : l.length ≤ 30) (hm : m.length ≤ 30) (hk : 40 ≤ k) (hne : l.length ≠ 0) : chartroomlaw27_FoldersOrder.j0 k l m a false = some true := by
  obtain ⟨k, rfl⟩ : ∃ n, k = n + 1 := ⟨k - 1, by omega⟩
  have hw : IntKind.u64.wrap (l.length : Int) = (l.length : Int) := by rw [IntKind.wrap_u64]; omega
  have hmod : Int.tmod a (l.length : Int) = a % (l.length : Int) := Int.tmod_eq_emod_of_nonneg ha
  have h0 : 0 ≤ a % (l.length : Int) := Int.emod_nonneg _ (by omega)
  have h1 : a % (l.length : Int) < (l.length : Int) := Int.emod_lt_of_pos _ (by omega)
  have hi : wrap64 (Int.tmod a (l.length : Int)) = a % (l.length : Int) := by rw [hmod]; unfold wrap64; omega
  rw [chartroomlaw27_FoldersOrder.j0, if_neg (by simp), hw, if_neg (by omega), hi]
  obtain ⟨i, hi'⟩ : ∃ i : Nat, a % (l.length : Int) = (i : Int) := ⟨_, (Int.toNat_of_nonneg h0).symm⟩
  rw [hi'] at h1 ⊢
  clear hi hi' hw hmod h0
  have hil : i < l.length := by omega
  obtain ⟨x, hx⟩ : ∃ x, l[i]? = some x := ⟨_, List.getElem?_eq_getElem hil⟩
  have ht : (l.take i).length = i := List.length_take_of_le (by omega)
  have hd : (l.drop i).length = l.length - i := List.length_drop
  simp only [Option.bind_some, List.nil_append, List.length_nil, Int.toNat_natCast, List.length_append, hd, ht]
  rw [if_pos (by omega), if_pos (by omega), if_pos (by omega), if_pos (by omega), if_pos (by omega), if_pos (by omega), if_pos (by omega), rdP_of hx,
    folders_tree (by simp only [List.length_append, hd, ht, List.length_cons, List.length_nil]; omega), Option.bind_some, if_pos (by omega), if_pos (by omega), folders_tree (by simp only [List.length_append]; omega), Option.bind_some]
  have hT := treeP_length (growF (l.drop i ++ m ++ l.take i ++ [(⟨x.f0, x.f1, x.f2, x.f3, x.f4⟩ : S29)]))
  rw [same_f (by omega) (by omega), Option.bind_some]
  have e : growF (l.drop i ++ m ++ l.take i ++ [(⟨x.f0, x.f1, x.f2, x.f3, x.f4⟩ : S29)]) = growF (l ++ m) := by
    refine growF_congr fun y _ => ?_
    have hyl : y ∈ l ↔ y ∈ l.take i ∨ y ∈ l.drop i := by rw [← List.mem_append, List.take_append_drop]
    have hxl : x ∈ l := List.mem_of_getElem? hx
    simp only [List.mem_append, List.mem_singleton]
    constructor
    · rintro (((h | h) | h) | h)
      · exact .inl (hyl.2 (.inr h))
      · exact .inr h
      · exact .inl (hyl.2 (.inl h))
      · rw [h]; exact .inl hxl
    · rintro (h | h)
      · rcases hyl.1 h with h | h
        · exact .inl (.inr h)
        · exact .inl (.inl (.inl h))
      · exact .inl (.inl (.inr h))
  rw [e, decide_eq_true rfl]

theorem order_true (l m : List S29) (a : Int) (ha : 0 ≤ a) : chartroomlaw27_FoldersOrder.f 60 l m a = some true := by
  unfold chartroomlaw27_FoldersOrder.f
  rw [sane_f 51, Option.bind_some, if_pos rfl, few_f, Option.bind_some]
  by_cases h : l.length ≤ 30 ∧ m.length ≤ 30
  · rw [decide_eq_true h.1, decide_eq_true h.2, Bool.true_and, if_pos rfl]
    by_cases h0 : l.length = 0
    · have : ((l.length : Int) == 0) = true := by rw [h0]; rfl
      rw [this]
      rfl
    · have : ((l.length : Int) == 0) = false := by rw [beq_eq_false_iff_ne]; omega
      rw [this]
      exact order_j0 60 l m a ha h.1 h.2 (by omega) h0
  · have : (decide (l.length ≤ 30) && decide (m.length ≤ 30)) = false := by
      rw [Bool.and_eq_false_iff, decide_eq_false_iff_not, decide_eq_false_iff_not]
      omega
    rw [this]
    rfl
end Go.Proofs.Ytihpiejlfdinaaa.PF
