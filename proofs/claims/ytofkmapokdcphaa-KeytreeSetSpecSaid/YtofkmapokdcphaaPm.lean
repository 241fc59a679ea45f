import Derived.Test.YtofkmapokdcphaaZ
namespace Go.Proofs.Ytofkmapokdcphaa
open Go Go.RowKit Go.Maps Go.My Go.Shelf

theorem length_sub : ∀ (T : List Int) (L : List Int), T.Pairwise (· < ·) → (∀ x ∈ T, x ∈ L) → T.length ≤ L.length
  | [], L, _, _ => Nat.zero_le _
  | t :: ts, L, hp, hs => by
    rw [List.pairwise_cons] at hp
    have ht : t ∈ L := hs t (by simp)
    have := length_sub ts (L.erase t) hp.2 (fun x hx => by
      have : t < x := hp.1 x hx
      exact (List.mem_erase_of_ne (by omega)).2 (hs x (by simp [hx])))
    rw [List.length_erase_of_mem ht] at this
    have : 0 < L.length := List.length_pos_of_mem ht
    simp only [List.length_cons]
    omega

theorem treeL_length {F : Int → Option Int} (L : List Int) (h : ∀ x c, F x = some c → x ∈ L) : (treeL F).length ≤ L.length := by
  have hs := treeL_sorted F
  have hm : ∀ n, n ∈ treeL F ↔ 0 ≤ n.1 ∧ n.1 < 1024 ∧ F n.1 = some n.2 := fun n => mem_treeL
  generalize treeL F = T at *
  have := length_sub (T.map (·.1)) L hs (by
    intro x hx
    obtain ⟨n, hn, rfl⟩ := List.mem_map.1 hx
    exact h _ _ ((hm n).1 hn).2.2)
  rwa [List.length_map] at this

theorem of_treeL {F : Int → Option Int} (h : Valid F) : ofF (treeL F) = F := funext fun x => ofF_treeL F (valid_range h) x
theorem treeL_of {xs : List Nd} (h : checkL xs = 0) : treeL (ofF xs) = xs := (treeL_uniq (valid_range (valid_of h)) (checked h).1 (fun _ => rfl)).symm

theorem setL_ok {F : Int → Option Int} (h : Valid F) {d p : Int} (h0 : 0 ≤ d) (h1 : d < 512) (hp : chk p = 0) : setL (treeL F) d p = (treeL (setF2 F d p), 0) := by
  have hc := checkL_treeL h
  have hf := of_treeL h
  generalize treeL F = T at *
  unfold setL
  rw [if_neg (by simp [hc]), if_neg (by omega), if_neg (by simp [hp]), hf]
  rfl

theorem removeL_ok {F : Int → Option Int} (h : Valid F) {d : Int} (h0 : 0 ≤ d) (h1 : d < 512) (hd : (F (512 + d)).isSome = true) : removeL (treeL F) d = (treeL (chF F d), 0) := by
  have hc := checkL_treeL h
  have hf := of_treeL h
  generalize treeL F = T at *
  unfold removeL
  rw [if_neg (by simp [hc]), hf, if_neg]
  rintro (q | q | q)
  · omega
  · omega
  · rw [q] at hd; cases hd

theorem setL_err {xs : List Nd} {d p : Int} (h : (setL xs d p).2 = 0) : checkL xs = 0 ∧ 0 ≤ d ∧ d < 512 ∧ chk p = 0 := by
  unfold setL at h
  by_cases c1 : checkL xs ≠ 0
  · rw [if_pos c1] at h; cases h
  · rw [if_neg c1] at h
    by_cases c2 : d < 0 ∨ 512 ≤ d
    · rw [if_pos c2] at h; cases h
    · rw [if_neg c2] at h
      by_cases c3 : chk p ≠ 0
      · rw [if_pos c3] at h; cases h
      · exact ⟨by simpa using c1, by omega, by omega, by simpa using c3⟩

theorem exch1 (F : Int → Option Int) {a b : Int} (p q : Int) (a0 : 0 ≤ a) (a1 : a < 512) (b0 : 0 ≤ b) (b1 : b < 512) (hab : a ≠ b) : setF2 (setF2 F a p) b q = setF2 (setF2 F b q) a p := by
  funext x
  simp only [setF2_at]
  by_cases e1 : x = 512 + b
  · subst e1
    have : ¬ (512 + b) ∈ anc a := fun h => by have := anc_leaf' a0 a1 (by omega) h; omega
    simp [this]
    omega
  · by_cases e2 : x = 512 + a
    · subst e2
      have : ¬ (512 + a) ∈ anc b := fun h => by have := anc_leaf' b0 b1 (by omega) h; omega
      simp [this, e1]
    · simp only [e1, e2, if_false]
      by_cases m1 : x ∈ anc a <;> by_cases m2 : x ∈ anc b <;> simp [m1, m2]

theorem exch2 (F : Int → Option Int) {a b : Int} (p q : Int) (a0 : 0 ≤ a) (a1 : a < 512) (b0 : 0 ≤ b) (b1 : b < 512) (hab : a ≠ b) : chF (setF2 (setF2 F a p) b q) a = setF2 (chF (setF2 F a p) a) b q := by
  funext x
  simp only [setF2_at, chF, chL]
  by_cases e1 : x = 512 + b
  · subst e1
    have : ¬ (512 + b) ∈ anc a := fun h => by have := anc_leaf' a0 a1 (by omega) h; omega
    simp [this]
  · simp only [e1, if_false]
    by_cases m1 : x ∈ anc a <;> by_cases m2 : x ∈ anc b <;> simp [m1, m2]

theorem exch3 (F : Int → Option Int) (a p : Int) : chF (setF2 F a p) a = chF F a := by
  funext x
  simp only [setF2_at, chF, chL]
  by_cases m1 : x ∈ anc a
  · simp [m1]
  · have : ¬ x = 512 + a := fun e => m1 (by rw [e]; exact anc_self a)
    simp [m1, this]
end Go.Proofs.Ytofkmapokdcphaa
