import Derived.Test.YtofkmapokdcphaaW
namespace Go.Proofs.Ytofkmapokdcphaa
open Go Go.RowKit Go.Maps Go.My Go.Shelf

/-- A tree that is valid, as a function. -/
def Valid (F : Int → Option Int) : Prop := ∀ x c, F x = some c → 1 ≤ x ∧ x ≤ 1023 ∧ chk c = 0 ∧ ∃ l, 512 ≤ l ∧ l ≤ 1023 ∧ (F l).isSome = true ∧ x ∈ anc (l - 512)

theorem valid_of {xs : List Nd} (h : checkL xs = 0) : Valid (ofF xs) := by
  intro x c hx
  obtain ⟨h1, h2, h3, h4⟩ := (checked h).2 _ (ofF_some hx)
  refine ⟨h1, h2, h3, ?_⟩
  obtain ⟨n, hn, n0, n1, hm⟩ := (mem_usedL xs x).1 h4
  exact ⟨n.1, n0, n1, by rw [ofF_sorted (checked h).1 hn]; rfl, hm⟩

theorem valid_range {F : Int → Option Int} (h : Valid F) (x : Int) (hx : (F x).isSome = true) : 0 ≤ x ∧ x < 1024 := by
  obtain ⟨c, hc⟩ := Option.isSome_iff_exists.1 hx
  have := h x c hc
  omega

theorem checkL_treeL {F : Int → Option Int} (h : Valid F) : checkL (treeL F) = 0 := by
  have hs := treeL_sorted F
  have hm : ∀ n, n ∈ treeL F ↔ 0 ≤ n.1 ∧ n.1 < 1024 ∧ F n.1 = some n.2 := fun n => mem_treeL
  generalize treeL F = T at *
  refine checkL_good fun j hj => ?_
  obtain ⟨⟨n0, n1⟩, hn⟩ : ∃ n, T[j]? = some n := ⟨_, List.getElem?_eq_getElem hj⟩
  obtain ⟨h0, h1, h2⟩ := (hm _).1 (List.mem_of_getElem? hn)
  obtain ⟨v1, v2, v3, l, l0, l1, l2, l3⟩ := h _ _ h2
  have hu : n0 ∈ usedL T := by
    rw [mem_usedL]
    obtain ⟨c, hc⟩ := Option.isSome_iff_exists.1 l2
    exact ⟨(l, c), (hm _).2 ⟨by show 0 ≤ l; omega, by show l < 1024; omega, hc⟩, l0, l1, l3⟩
  rw [okAt_eq hn, decide_eq_true v1, decide_eq_true v2, decide_eq_true v3, decide_eq_true hu, Bool.and_true, Bool.and_true, Bool.true_and, Bool.true_and]
  by_cases e : j = 0
  · exact okPrev_zero e
  · obtain ⟨⟨p0, p1⟩, hp⟩ : ∃ p, T[j - 1]? = some p := ⟨_, List.getElem?_eq_getElem (by omega)⟩
    refine okPrev_pos hp (by omega) ?_
    rw [List.pairwise_map] at hs
    obtain ⟨hj1, e1⟩ := List.getElem?_eq_some_iff.1 hp
    obtain ⟨hj2, e2⟩ := List.getElem?_eq_some_iff.1 hn
    have := List.pairwise_iff_getElem.1 hs (j - 1) j hj1 hj2 (by omega)
    rw [e1, e2] at this
    exact this

/-- Of the nodes above a leaf only the leaf is one. -/
theorem anc_leaf {d : Nat} (hd : d < 512) {l : Int} (hl : 512 ≤ l) (h : l ∈ anc d) : l = 512 + d := by
  unfold anc at h
  rcases List.mem_cons.1 h with h | h
  · exact h
  · rw [Int.toNat_natCast] at h
    obtain ⟨j, hj, e⟩ := List.mem_iff_getElem.1 h
    have := pathL_range (d := d) (j := j) (y := l) hd (by rw [List.getElem?_eq_getElem hj, e])
    omega

theorem anc_leaf' {d l : Int} (h0 : 0 ≤ d) (h1 : d < 512) (hl : 512 ≤ l) (h : l ∈ anc d) : l = 512 + d := by
  obtain ⟨n, rfl⟩ := Int.eq_ofNat_of_zero_le h0
  exact anc_leaf (by omega) hl h
theorem anc_self (d : Int) : 512 + d ∈ anc d := by simp [anc]

theorem chF_valid {F : Int → Option Int} (h : Valid F) {d : Int} (h0 : 0 ≤ d) (h1 : d < 512) : Valid (chF F d) := by
  intro x c hx
  unfold chF chL at hx
  split at hx
  · cases hx
  · rename_i hn
    obtain ⟨v1, v2, v3, l, l0, l1, l2, l3⟩ := h x c hx
    refine ⟨v1, v2, v3, l, l0, l1, ?_, l3⟩
    unfold chF chL
    rw [if_neg]
    · exact l2
    · intro hl
      have := anc_leaf' h0 h1 l0 hl
      rw [this, show 512 + d - 512 = d by omega] at l3
      exact hn l3

def setF2 (F : Int → Option Int) (d p : Int) : Int → Option Int := upd (chF F d) (512 + d) (some p)
theorem setF2_at (F : Int → Option Int) (d p x : Int) : setF2 F d p x = if x = 512 + d then some p else if x ∈ anc d then none else F x := rfl

theorem setF2_valid {F : Int → Option Int} (h : Valid F) {d p : Int} (h0 : 0 ≤ d) (h1 : d < 512) (hp : chk p = 0) : Valid (setF2 F d p) := by
  intro x c hx
  rw [setF2_at] at hx
  by_cases e : x = 512 + d
  · subst e
    rw [if_pos rfl] at hx
    cases hx
    exact ⟨by omega, by omega, hp, 512 + d, by omega, by omega, by rw [setF2_at, if_pos rfl]; rfl, by rw [show 512 + d - 512 = d by omega]; exact anc_self d⟩
  · rw [if_neg e] at hx
    obtain ⟨v1, v2, v3, l, l0, l1, l2, l3⟩ := chF_valid h h0 h1 x c hx
    refine ⟨v1, v2, v3, l, l0, l1, ?_, l3⟩
    rw [setF2_at]
    split
    · rfl
    · exact l2

/-- Without a leaf and the nodes above it: of the list. -/
theorem treeL_chF {xs : List Nd} (h : checkL xs = 0) {d : Int} (h0 : 0 ≤ d) (h1 : d < 512) : treeL (chF (ofF xs) d) = xs.filter fun n => !decide (n.1 ∈ anc d) := by
  have hc := checked h
  symm
  refine treeL_uniq (valid_range (chF_valid (valid_of h) h0 h1)) ?_ fun x => ?_
  · rw [List.pairwise_map]
    have := hc.1
    rw [List.pairwise_map] at this
    exact this.filter _
  · unfold chF chL
    cases hf : ofF xs x with
    | none =>
      have : ofF (xs.filter fun n => !decide (n.1 ∈ anc d)) x = none := by
        cases h2 : ofF (xs.filter fun n => !decide (n.1 ∈ anc d)) x with
        | none => rfl
        | some c =>
          have := ofF_sorted hc.1 (List.mem_filter.1 (ofF_some h2)).1
          rw [show ofF xs x = some c from this] at hf; cases hf
      rw [this]; split <;> rfl
    | some c =>
      have hmem := ofF_some hf
      by_cases q : x ∈ anc d
      · rw [if_pos q]
        cases h2 : ofF (xs.filter fun n => !decide (n.1 ∈ anc d)) x with
        | none => rfl
        | some c' =>
          have := (List.mem_filter.1 (ofF_some h2)).2
          simp [q] at this
      · rw [if_neg q]
        have hs2 : ((xs.filter fun n => !decide (n.1 ∈ anc d)).map (·.1)).Pairwise (· < ·) := by
          rw [List.pairwise_map]
          have := hc.1
          rw [List.pairwise_map] at this
          exact this.filter _
        exact ofF_sorted hs2 (n := (x, c)) (List.mem_filter.2 ⟨hmem, by simp [q]⟩)
end Go.Proofs.Ytofkmapokdcphaa
