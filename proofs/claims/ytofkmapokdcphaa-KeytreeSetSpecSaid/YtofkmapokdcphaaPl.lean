import Derived.Lib.SlicesCompact
import Derived.Lib.RowBridge
/-
  Plain laws on lists: sorting, compacting.
-/
namespace Go.My
open Go.Lib

theorem mem_compactUpTo (d : Array Int) (x : Int) : ∀ m, x ∈ compactUpTo d m ↔ ∃ j, j < m ∧ d[j]! = x
  | 0 => by simp [compactUpTo]
  | m + 1 => by
    rw [compactUpTo_succ, List.mem_append, mem_compactUpTo d x m]
    constructor
    · rintro (⟨j, hj, e⟩ | h)
      · exact ⟨j, by omega, e⟩
      · by_cases hk : keeps d m = true
        · rw [if_pos hk] at h
          exact ⟨m, by omega, (List.mem_singleton.1 h).symm⟩
        · rw [if_neg hk] at h; cases h
    · rintro ⟨j, hj, e⟩
      by_cases h : j < m
      · exact .inl ⟨j, h, e⟩
      · obtain rfl : j = m := by omega
        by_cases hk : keeps d j = true
        · rw [if_pos hk]; exact .inr (by simp [e])
        · have h2 : ¬ (j = 0 ∨ d[j]! ≠ d[j - 1]!) := by simpa [keeps] using hk
          refine .inl ⟨j - 1, by omega, ?_⟩
          have : d[j]! = d[j - 1]! := Classical.byContradiction fun q => h2 (.inr q)
          rw [← this, e]

theorem mem_compact (zs : List Int) (x : Int) : x ∈ compact zs ↔ x ∈ zs := by
  unfold compact
  rw [mem_compactUpTo]
  constructor
  · rintro ⟨j, hj, rfl⟩
    simp [hj]
  · intro h
    obtain ⟨j, hj, rfl⟩ := List.mem_iff_getElem.1 h
    exact ⟨j, hj, by simp [hj]⟩

theorem compactUpTo_sorted (d : Array Int) (h : ∀ i j, i ≤ j → j < d.size → d[i]! ≤ d[j]!) : ∀ m, m ≤ d.size → (compactUpTo d m).Pairwise (· < ·)
  | 0, _ => by simp [compactUpTo]
  | m + 1, hm => by
    rw [compactUpTo_succ, List.pairwise_append]
    refine ⟨compactUpTo_sorted d h m (by omega), ?_, ?_⟩
    · split <;> simp
    · intro a ha b hb
      by_cases hk : keeps d m = true
      · rw [if_pos hk] at hb
        obtain rfl := List.mem_singleton.1 hb
        obtain ⟨j, hj, rfl⟩ := (mem_compactUpTo d a m).1 ha
        have h2 : m = 0 ∨ d[m]! ≠ d[m - 1]! := by simpa [keeps] using hk
        have h3 := h j (m - 1) (by omega) (by omega)
        have h4 := h (m - 1) m (by omega) (by omega)
        rcases h2 with h2 | h2 <;> omega
      · rw [if_neg hk] at hb; cases hb

theorem compact_sorted (zs : List Int) (h : zs.Pairwise (· ≤ ·)) : (compact zs).Pairwise (· < ·) := by
  refine compactUpTo_sorted _ ?_ _ (by simp)
  intro i j hij hj
  have hj' : j < zs.length := by simpa using hj
  have hi' : i < zs.length := by omega
  simp only [List.getElem!_toArray, getElem!_pos zs i hi', getElem!_pos zs j hj']
  by_cases e : i = j
  · subst e; exact Int.le_refl _
  · exact List.pairwise_iff_getElem.1 h i j hi' hj' (by omega)

theorem mergeSort_sorted (zs : List Int) : (zs.mergeSort fun x y => decide (x ≤ y)).Pairwise (· ≤ ·) := by
  have := List.pairwise_mergeSort (le := fun x y : Int => decide (x ≤ y)) (by simp; omega) (by simp; omega) zs
  exact this.imp (by simp)

theorem sorted_ext : ∀ {xs ys : List Int}, xs.Pairwise (· < ·) → ys.Pairwise (· < ·) → (∀ x, x ∈ xs ↔ x ∈ ys) → xs = ys
  | [], [], _, _, _ => rfl
  | [], y :: ys, _, _, h => by have := (h y).2 (by simp); cases this
  | x :: xs, [], _, _, h => by have := (h x).1 (by simp); cases this
  | x :: xs, y :: ys, hx, hy, h => by
    rw [List.pairwise_cons] at hx hy
    have e : x = y := by
      rcases List.mem_cons.1 ((h x).1 (by simp)) with e | h1
      · exact e
      · rcases List.mem_cons.1 ((h y).2 (by simp)) with e | h2
        · exact e.symm
        · have := hx.1 y h2; have := hy.1 x h1; omega
    subst e
    congr 1
    refine sorted_ext hx.2 hy.2 fun z => ?_
    constructor
    · intro hz
      rcases List.mem_cons.1 ((h z).1 (by simp [hz])) with e | h1
      · have := hx.1 z hz; omega
      · exact h1
    · intro hz
      rcases List.mem_cons.1 ((h z).2 (by simp [hz])) with e | h1
      · have := hy.1 z hz; omega
      · exact h1
end Go.My
