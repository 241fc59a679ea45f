import Derived.Test.YtofkmapokdcphaaRm
namespace Go.Proofs.Ytofkmapokdcphaa
open Go Go.RowKit Go.Maps Go.My Go.Shelf

/-- How often a device lies under a node; under the nodes of a list. -/
def ind (n x : Int) : Nat := if lo n ≤ x ∧ x < hi n then 1 else 0
def cnt : List Int → Int → Nat
  | [], _ => 0
  | n :: l, x => ind n x + cnt l x
theorem cnt_append (l m : List Int) (x : Int) : cnt (l ++ m) x = cnt l x + cnt m x := by
  induction l with
  | nil => simp [cnt]
  | cons n l ih => simp only [List.cons_append, cnt, ih]; omega
theorem cnt_one (n x : Int) : cnt [n] x = ind n x := rfl

theorem halves_tab : ∀ n : Nat, n < 512 → 1 ≤ n → lo (2 * (n : Int)) = lo n ∧ hi (2 * (n : Int)) = lo (2 * (n : Int) + 1) ∧ hi (2 * (n : Int) + 1) = hi n := of_decide_eq_true (by kernel_rfl)
theorem halves (n : Int) (h0 : 1 ≤ n) (h1 : n < 512) : lo (2 * n) = lo n ∧ hi (2 * n) = lo (2 * n + 1) ∧ hi (2 * n + 1) = hi n := by
  obtain ⟨m, rfl⟩ := Int.eq_ofNat_of_zero_le (show 0 ≤ n by omega)
  exact halves_tab m (by omega) (by omega)
theorem leaf_tab : ∀ n : Nat, n < 512 → lo (512 + (n : Int)) = n ∧ hi (512 + (n : Int)) = n + 1 := of_decide_eq_true (by kernel_rfl)
theorem leaf_span (n : Int) (h0 : 0 ≤ n) (h1 : n < 512) : lo (512 + n) = n ∧ hi (512 + n) = n + 1 := by
  obtain ⟨m, rfl⟩ := Int.eq_ofNat_of_zero_le h0
  exact leaf_tab m (by omega)
theorem sib_tab : ∀ n : Nat, n < 1024 → 2 ≤ n → 1 ≤ sib (n : Int) ∧ sib (n : Int) < 1024 ∧ ((lo (n : Int) = lo ((n : Int) / 2) ∧ hi (n : Int) = lo (sib n) ∧ hi (sib n) = hi ((n : Int) / 2)) ∨ (lo (sib n) = lo ((n : Int) / 2) ∧ hi (sib n) = lo (n : Int) ∧ hi (n : Int) = hi ((n : Int) / 2))) := of_decide_eq_true (by kernel_rfl)

/-- What a resolution consists of. -/
theorem resF_facts (f : Int → Option Int) : ∀ (k : Nat) (n : Int), 1 ≤ n → n ≤ 1023 → 512 ≤ n * 2 ^ k →
    (∀ m ∈ resF f k n, 1 ≤ m ∧ m ≤ 1023 ∧ (f m).isSome = true ∧ lo n ≤ lo m ∧ hi m ≤ hi n) ∧ (resF f k n).Pairwise (fun a b => hi a ≤ lo b) ∧
    (∀ d, 0 ≤ d → d < 512 → (f (512 + d)).isSome = true → cnt (resF f k n) d = ind n d)
  | k, n, h0, h1, h2 => by
    by_cases hf : (f n).isSome = true
    · rw [resF_some hf]
      refine ⟨fun m hm => ?_, List.pairwise_singleton _ _, fun d _ _ _ => cnt_one _ _⟩
      rw [List.mem_singleton] at hm
      subst hm
      exact ⟨h0, h1, hf, Int.le_refl _, Int.le_refl _⟩
    · have hf' : (f n).isSome = false := by simpa using hf
      by_cases hn : 512 ≤ n
      · rw [resF_leaf hf' hn]
        refine ⟨fun m hm => (by cases hm), List.Pairwise.nil, fun d d0 d1 hd => ?_⟩
        unfold cnt ind
        rw [if_neg]
        have := leaf_span (n - 512) (by omega) (by omega)
        rw [show 512 + (n - 512) = n by omega] at this
        rintro ⟨a, b⟩
        have e : 512 + d = n := by omega
        rw [e] at hd
        exact hf hd
      · cases k with
        | zero => simp at h2; omega
        | succ k =>
          rw [resF_inner hf' hn]
          have hp : n * 2 ^ (k + 1) = 2 * n * 2 ^ k := by rw [Int.pow_succ, ← Int.mul_assoc, Int.mul_comm (n * 2 ^ k) 2, ← Int.mul_assoc]
          have hpk : (0 : Int) < 2 ^ k := Int.pow_pos (by omega)
          obtain ⟨e1, e2, e3⟩ := halves n h0 (by omega)
          obtain ⟨a1, a2, a3⟩ := resF_facts f k (2 * n) (by omega) (by omega) (by omega)
          obtain ⟨b1, b2, b3⟩ := resF_facts f k (2 * n + 1) (by omega) (by omega) (by rw [Int.add_mul]; omega)
          have s1 := span (2 * n) (by omega) (by omega)
          have s2 := span (2 * n + 1) (by omega) (by omega)
          refine ⟨fun m hm => ?_, ?_, fun d d0 d1 hd => ?_⟩
          · rcases List.mem_append.1 hm with hm | hm
            · obtain ⟨q1, q2, q3, q4, q5⟩ := a1 m hm
              exact ⟨q1, q2, q3, by omega, by omega⟩
            · obtain ⟨q1, q2, q3, q4, q5⟩ := b1 m hm
              exact ⟨q1, q2, q3, by omega, by omega⟩
          · rw [List.pairwise_append]
            refine ⟨a2, b2, fun x hx y hy => ?_⟩
            obtain ⟨_, _, _, _, q5⟩ := a1 x hx
            obtain ⟨_, _, _, q4, _⟩ := b1 y hy
            omega
          · rw [cnt_append, a3 d d0 d1 hd, b3 d d0 d1 hd]
            unfold ind
            split <;> split <;> split <;> omega

theorem ind_sib {n : Nat} (h0 : 2 ≤ n) (h1 : n < 1024) (x : Int) : ind (n : Int) x + ind (sib n) x = ind ((n : Int) / 2) x := by
  obtain ⟨s0, s1, h⟩ := sib_tab n h1 h0
  have p1 := span n (by omega) (by omega)
  have p2 := span (sib n) s0 s1
  unfold ind
  split <;> split <;> split <;> omega

/-- The siblings of a leaf's path lie beside the leaf, and over all others. -/
theorem cnt_sibs {n : Nat} (h0 : 512 ≤ n) (h1 : n < 1024) (x : Int) : ∀ j, j ≤ 9 → cnt (((ups n).take j).map sib) x + ind (n : Int) x = ind ((n / 2 ^ j : Nat) : Int) x
  | 0, _ => by simp [cnt]
  | j + 1, hj => by
    have ih := cnt_sibs h0 h1 x j (by omega)
    have hb := shift_bounds n j (by omega) (by omega) (by omega)
    have h2 : 2 ≤ n / 2 ^ j := by
      rw [Nat.le_div_iff_mul_le (Nat.two_pow_pos j)]
      have : 2 ^ j ≤ 2 ^ 8 := Nat.pow_le_pow_right (by decide) (by omega)
      omega
    have h3 : n / 2 ^ j < 1024 := Nat.lt_of_le_of_lt (Nat.div_le_self _ _) h1
    have h4 := ind_sib h2 h3 x
    rw [take_snoc (ups_at n j (by omega)), List.map_append, cnt_append, List.map_cons, List.map_nil, cnt_one]
    rw [show ((n / 2 ^ (j + 1) : Nat) : Int) = ((n / 2 ^ j : Nat) : Int) / 2 by rw [Nat.pow_succ, ← Nat.div_div_eq_div_mul]; rfl]
    omega

theorem root_span : lo 1 = 0 ∧ hi 1 = 512 := by constructor <;> kernel_rfl

theorem cnt_copath {d x : Nat} (hd : d < 512) (hx : x < 512) : cnt ((ups (512 + d)).map sib) x = if (x : Int) = d then 0 else 1 := by
  have h := cnt_sibs (n := 512 + d) (by omega) (by omega) x 9 (by omega)
  rw [List.take_of_length_le (by rw [ups_length]; omega)] at h
  rw [show (512 + d) / 2 ^ 9 = 1 by omega] at h
  have e1 := root_span
  have e2 := leaf_span d (by omega) (by omega)
  have e3 : ind ((1 : Nat) : Int) x = 1 := by unfold ind; rw [if_pos]; rw [show ((1 : Nat) : Int) = 1 from rfl, e1.1, e1.2]; omega
  have e4 : ind ((512 + d : Nat) : Int) x = if (x : Int) = d then 1 else 0 := by
    unfold ind
    rw [show ((512 + d : Nat) : Int) = 512 + (d : Int) by omega, e2.1, e2.2]
    split <;> split <;> omega
  rw [e3, e4] at h
  split <;> split at h <;> omega

theorem cnt_flat (f : Int → Option Int) (x : Int) (x0 : 0 ≤ x) (x1 : x < 512) (hx : (f (512 + x)).isSome = true) : ∀ (S : List Int), (∀ s ∈ S, 1 ≤ s ∧ s ≤ 1023) → cnt (S.flatMap (resF f 9)) x = cnt S x
  | [], _ => rfl
  | s :: S, h => by
    rw [List.flatMap_cons, cnt_append, cnt_flat f x x0 x1 hx S (fun t ht => h t (by simp [ht]))]
    have hs := h s (by simp)
    rw [(resF_facts f 9 s hs.1 hs.2 (by omega)).2.2 x x0 x1 hx]
    rfl
end Go.Proofs.Ytofkmapokdcphaa
