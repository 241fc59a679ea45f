import Derived.Test.YtihpiejlfdinaaaSt
import Derived.Test.YtihpiejlfdinaaaPa
/-
  What the printed functions answer: the small ones, and what the forest's facts say of them.
-/
namespace Go.Proofs.Ytihpiejlfdinaaa.PF
open Go Go.RowKit Go.Maps Go.My Go.Proofs.YtihpiejlfdinaaaW.PrintWords Go.Proofs.YtihpiejlfdinaaaW.PrintLast Go.Proofs.YtihpiejlfdinaaaW.PrintMore

noncomputable instance : DecidableEq S29 := fun _ _ => Classical.propDecidable _

/-! ### rounds over a list, by index -/
theorem wrap_succ {i n : Nat} (h : i < n) (hn : n ≤ 1000000) : wrap64 ((i : Int) + 1) = ((i + 1 : Nat) : Int) := by unfold wrap64; omega
theorem rd_of {l : List Int} {i : Nat} {y : Int} (h : l[i]? = some y) : rd l (i : Int) = y := by unfold rd; rw [List.getD_eq_getElem?_getD, Int.toNat_natCast, h]; rfl
theorem rdP_of {l : List S29} {i : Nat} {y : S29} (h : l[i]? = some y) : rd_T29 l (i : Int) = y := by unfold rd_T29; rw [List.getD_eq_getElem?_getD, Int.toNat_natCast, h]; rfl
theorem drop_of {α : Type} {l : List α} {i : Nat} {y : α} (h : l[i]? = some y) : l.drop i = y :: l.drop (i + 1) := by
  obtain ⟨hi, e⟩ := List.getElem?_eq_some_iff.1 h
  rw [List.drop_eq_getElem_cons hi, e]
theorem at_or_end {α : Type} {l : List α} {i : Nat} (h : i ≤ l.length) : (∃ y, l[i]? = some y ∧ i < l.length) ∨ i = l.length := by
  rcases Nat.lt_or_ge i l.length with h1 | h1
  · exact .inl ⟨l[i], List.getElem?_eq_getElem h1, h1⟩
  · exact .inr (by omega)
theorem i64_small {x : Int} (h0 : -1000 ≤ x) (h1 : x ≤ 1000) : i64 x = true := by
  unfold i64 btw
  rw [decide_eq_true (by omega), decide_eq_true (by omega)]; rfl

theorem has_l0 : ∀ (k i : Nat) (l : List Int) (a : Int), l.length ≤ 1000000 → i ≤ l.length → l.length < i + k → chartroomref27_Has.l0 k l a i = some (decide (a ∈ l.drop i))
  | 0, i, l, a, _, h1, h2 => by omega
  | k + 1, i, l, a, h0, h1, h2 => by
    rw [chartroomref27_Has.l0]
    rcases at_or_end h1 with ⟨y, hy, hi⟩ | rfl
    · rw [if_pos (by omega), if_pos (by omega), rd_of hy, drop_of hy, wrap_succ hi h0, has_l0 k (i + 1) l a h0 (by omega) (by omega)]
      by_cases e : y = a
      · simp [e]
      · rw [if_neg e]
        simp [Ne.symm e]
    · rw [if_neg (by omega)]
      simp
theorem has_f {k : Nat} {l : List Int} (a : Int) (h0 : l.length ≤ 1000000) (hk : l.length < k) : chartroomref27_Has.f k l a = some (decide (a ∈ l)) := by
  unfold chartroomref27_Has.f
  have := has_l0 k 0 l a h0 (by omega) (by omega)
  rw [List.drop_zero] at this
  exact this

theorem s29_beq (a b : S29) : (!(a.f0 == b.f0) || (!(a.f1 == b.f1) || (!(a.f2 == b.f2) || (!(a.f3 == b.f3) || !(a.f4.toList == b.f4.toList))))) = !decide (a = b) := by
  by_cases e : a = b
  · subst e; simp
  · rw [decide_eq_false e]
    cases h : (!(a.f0 == b.f0) || (!(a.f1 == b.f1) || (!(a.f2 == b.f2) || (!(a.f3 == b.f3) || !(a.f4.toList == b.f4.toList))))) with
    | true => rfl
    | false =>
      exfalso
      simp only [Bool.or_eq_false_iff, Bool.not_eq_false', beq_iff_eq] at h
      obtain ⟨h0, h1, h2, h3, h4⟩ := h
      rw [ByteArray.toList_eq, ByteArray.toList_eq] at h4
      exact e (S29.ext' h0 h1 h2 h3 h4)
theorem same_l0 : ∀ (k i : Nat) (l m : List S29), l.length ≤ 1000000 → m.length = l.length → i ≤ l.length → l.length < i + k → chartroomref27_Same.l0 k l m i = some (decide (l.drop i = m.drop i))
  | 0, i, l, m, _, _, h1, h2 => by omega
  | k + 1, i, l, m, h0, hm, h1, h2 => by
    rw [chartroomref27_Same.l0]
    rcases at_or_end h1 with ⟨y, hy, hi⟩ | rfl
    · obtain ⟨z, hz⟩ : ∃ z, m[i]? = some z := ⟨_, List.getElem?_eq_getElem (by omega)⟩
      rw [if_pos (by omega), if_pos (by omega), if_pos (by omega), rdP_of hy, rdP_of hz, drop_of hy, drop_of hz, wrap_succ hi h0, same_l0 k (i + 1) l m h0 hm (by omega) (by omega), s29_beq]
      by_cases e : y = z
      · simp [e]
      · simp [e]
    · rw [if_neg (by omega), List.drop_length, List.drop_of_length_le (by omega)]
      rfl
theorem same_f {k : Nat} {l m : List S29} (h0 : l.length ≤ 1000000) (hk : l.length < k) : chartroomref27_Same.f k l m = some (decide (l = m)) := by
  unfold chartroomref27_Same.f
  by_cases e : l.length = m.length
  · rw [if_pos (by omega)]
    have := same_l0 k 0 l m h0 e.symm (by omega) (by omega)
    rw [List.drop_zero, List.drop_zero] at this
    exact this
  · rw [if_neg (by omega), decide_eq_false (fun h => e (by rw [h]))]
theorem sameI_l0 : ∀ (k i : Nat) (l m : List Int), l.length ≤ 1000000 → m.length = l.length → i ≤ l.length → l.length < i + k → chartroomref27_SameInts.l0 k l m i = some (decide (l.drop i = m.drop i))
  | 0, i, l, m, _, _, h1, h2 => by omega
  | k + 1, i, l, m, h0, hm, h1, h2 => by
    rw [chartroomref27_SameInts.l0]
    rcases at_or_end h1 with ⟨y, hy, hi⟩ | rfl
    · obtain ⟨z, hz⟩ : ∃ z, m[i]? = some z := ⟨_, List.getElem?_eq_getElem (by omega)⟩
      rw [if_pos (by omega), if_pos (by omega), if_pos (by omega), rd_of hy, rd_of hz, drop_of hy, drop_of hz, wrap_succ hi h0, sameI_l0 k (i + 1) l m h0 hm (by omega) (by omega)]
      by_cases e : y = z
      · simp [e]
      · simp [e]
    · rw [if_neg (by omega), List.drop_length, List.drop_of_length_le (by omega)]
      rfl
theorem sameI_f {k : Nat} {l m : List Int} (h0 : l.length ≤ 1000000) (hk : l.length < k) : chartroomref27_SameInts.f k l m = some (decide (l = m)) := by
  unfold chartroomref27_SameInts.f
  by_cases e : l.length = m.length
  · rw [if_pos (by omega)]
    have := sameI_l0 k 0 l m h0 e.symm (by omega) (by omega)
    rw [List.drop_zero, List.drop_zero] at this
    exact this
  · rw [if_neg (by omega), decide_eq_false (fun h => e (by rw [h]))]

/-! ### the forest's lists -/
theorem steps_placed {F : Forest} (hF : FInv F) : ∀ {j : Nat} {y x : Int}, steps F (j + 1) y x → (F y).isSome = true ∧ (F x).isSome = true
  | 0, y, x, h => by
    obtain ⟨q, hq, h0, e⟩ := h
    have e : q.f3 = x := e
    exact ⟨by rw [hq]; rfl, by rw [← e]; exact hF.par y q hq h0⟩
  | j + 1, y, x, h => by
    obtain ⟨q, hq, h0, h1⟩ := h
    exact ⟨by rw [hq]; rfl, (steps_placed hF h1).2⟩
theorem mem_belowP {F : Forest} (hF : FInv F) {x y : Int} : y ∈ belowP F x ↔ (F x).isSome = true ∧ (F y).isSome = true ∧ ∃ j, steps F j y x := by
  unfold belowP
  split
  · rename_i h
    rw [List.mem_filter, mem_keysF hF.keys, within_iff hF]
    exact ⟨fun h' => ⟨h, h'⟩, fun h' => h'.2⟩
  · rename_i h
    simp [h]
theorem belowP_nodup (F : Forest) (x : Int) : (belowP F x).Nodup := by
  unfold belowP
  split
  · exact ((keysF_sorted F).filter _).imp (fun {a b} h => by omega)
  · exact List.nodup_nil
theorem belowP_length (F : Forest) (x : Int) : (belowP F x).length ≤ 16 := by
  unfold belowP
  split
  · exact Nat.le_trans (List.length_filter_le _ _) (keysF_length F)
  · simp
theorem mem_treeP {F : Forest} (hF : FInv F) {p : S29} : p ∈ treeP F ↔ F p.f2 = some p := by
  unfold treeP
  rw [List.mem_filterMap]
  constructor
  · rintro ⟨x, _, hx⟩
    rw [(hF.key x p hx).1, hx]
  · intro h
    exact ⟨p.f2, (mem_keysF hF.keys).2 (by rw [h]; rfl), h⟩
theorem treeP_length (F : Forest) : (treeP F).length ≤ 16 := Nat.le_trans (List.length_filterMap_le _ _) (keysF_length F)
theorem any_treeP {F : Forest} (hF : FInv F) (x : Int) : ((treeP F).any fun p => p.f2 == x) = (F x).isSome := by
  rw [Bool.eq_iff_iff, List.any_eq_true]
  constructor
  · rintro ⟨p, hp, e⟩
    rw [beq_iff_eq] at e
    rw [← e, (mem_treeP hF).1 hp]; rfl
  · intro h
    obtain ⟨q, hq⟩ := Option.isSome_iff_exists.1 h
    have := (hF.key x q hq).1
    exact ⟨q, (mem_treeP hF).2 (by rw [this]; exact hq), by rw [beq_iff_eq]; exact this⟩
theorem not_self {F : Forest} (hF : FInv F) {j : Nat} {x : Int} : ¬ steps F (j + 1) x x := acyclic (hF.fin x)
theorem folders_below {l : List S29} {x : Int} (hl : l.length ≤ 100) (hx : i64 x = true) : folders_Below.f l x = some (belowP (growF l) x) := by unfold folders_Below.f; rw [if_pos ⟨hl, hx⟩]
theorem folders_above {l : List S29} {x : Int} (hl : l.length ≤ 100) (hx : i64 x = true) : folders_Above.f l x = some (upL (growF l) x) := by unfold folders_Above.f; rw [if_pos ⟨hl, hx⟩]
theorem folders_tree {l : List S29} (hl : l.length ≤ 100) : folders_Tree.f l = some (treeP (growF l)) := by unfold folders_Tree.f; rw [if_pos hl]
theorem few_f (l m : List S29) : chartroomlaw27_few.f l m = some (decide (l.length ≤ 30) && decide (m.length ≤ 30)) := by
  unfold chartroomlaw27_few.f
  by_cases h : l.length ≤ 30
  · rw [if_pos (by omega), decide_eq_true h, Bool.true_and]
    congr 1
    exact decide_eq_decide.2 (by omega)
  · rw [if_neg (by omega), decide_eq_false h]; rfl
theorem and15 (n : Int) : Go.bits .and .i64 n 15 = n % 16 := by
  have h15 : (BitVec.ofInt 64 15).toNat = 2 ^ 4 - 1 := by decide
  have key : (BitVec.ofInt 64 n &&& BitVec.ofInt 64 15).toNat = (n % ((2 ^ 64 : Nat) : Int)).toNat % 2 ^ 4 := by
    rw [BitVec.toNat_and, BitVec.toNat_ofInt, h15, Nat.and_two_pow_sub_one_eq_mod]
  show IntKind.i64.wrap ((BitVec.ofInt 64 n &&& BitVec.ofInt 64 15).toNat : Nat) = n % 16
  rw [key, IntKind.wrap_i64]
  omega
end Go.Proofs.Ytihpiejlfdinaaa.PF
