import Derived.Test.YtofkmapokdcphaaU
namespace Go.Proofs.Ytofkmapokdcphaa
open Go Go.RowKit Go.Maps Go.My Go.Shelf

theorem mem_usedL (xs : List Nd) (x : Int) : x ∈ usedL xs ↔ ∃ n ∈ xs, 512 ≤ n.1 ∧ n.1 ≤ 1023 ∧ x ∈ anc (n.1 - 512) := by
  unfold usedL
  rw [List.mem_flatMap]
  constructor
  · rintro ⟨d, hd, hx⟩
    obtain ⟨⟨n, hn, e⟩, h0, h1⟩ := (mem_memL xs d).1 hd
    exact ⟨n, hn, by omega, by omega, by rw [show n.1 - 512 = d by omega]; exact hx⟩
  · rintro ⟨n, hn, h0, h1, hx⟩
    exact ⟨n.1 - 512, (mem_memL xs _).2 ⟨⟨n, hn, by omega⟩, by omega, by omega⟩, hx⟩

/-- Reckoned by the kernel: all that a tree is checked for, but for the group. -/
def usedB (xs : List Nd) (x : Int) : Bool := xs.any fun n => decide (512 ≤ n.1) && decide (n.1 ≤ 1023) && (anc (n.1 - 512)).contains x
def okB (xs : List Nd) (i : Nat) : Bool := match xs[i]? with
  | none => false
  | some n => decide (1 ≤ n.1) && decide (n.1 ≤ 1023) && (decide (i = 0) || match xs[i - 1]? with | none => false | some p => decide (p.1 < n.1)) && usedB xs n.1

theorem usedB_iff (xs : List Nd) (x : Int) : usedB xs x = true ↔ x ∈ usedL xs := by
  rw [mem_usedL]
  unfold usedB
  rw [List.any_eq_true]
  constructor
  · rintro ⟨n, hn, h⟩
    simp at h
    exact ⟨n, hn, h.1.1, h.1.2, h.2⟩
  · rintro ⟨n, hn, h0, h1, h2⟩
    exact ⟨n, hn, by simp; exact ⟨⟨h0, h1⟩, h2⟩⟩

theorem checkL_of {xs : List Nd} (hc : ∀ n ∈ xs, chk n.2 = 0) (h : (List.range xs.length).all (okB xs) = true) : checkL xs = 0 := by
  refine checkL_good fun j hj => ?_
  have := List.all_eq_true.1 h j (List.mem_range.2 hj)
  obtain ⟨n, hn⟩ : ∃ n, xs[j]? = some n := ⟨_, List.getElem?_eq_getElem hj⟩
  unfold okB at this
  unfold okAt
  rw [hn] at this ⊢
  have hcn := hc n (List.mem_of_getElem? hn)
  simp only [Bool.and_eq_true] at this
  obtain ⟨⟨⟨h1, h2⟩, h3⟩, h4⟩ := this
  simp only [Bool.and_eq_true]
  exact ⟨⟨⟨⟨h1, h2⟩, h3⟩, decide_eq_true hcn⟩, decide_eq_true ((usedB_iff _ _).1 h4)⟩

theorem checkL_not {xs : List Nd} {j : Nat} (hj : j < xs.length) (h : okB xs j = false) : checkL xs = 210 := by
  refine checkL_bad hj ?_
  obtain ⟨n, hn⟩ : ∃ n, xs[j]? = some n := ⟨_, List.getElem?_eq_getElem hj⟩
  unfold okB at h
  unfold okAt
  rw [hn] at h ⊢
  cases hu : usedB xs n.1 with
  | false =>
    have : ¬ n.1 ∈ usedL xs := fun h' => by rw [(usedB_iff _ _).2 h'] at hu; cases hu
    simp [this]
  | true =>
    cases hp : xs[j - 1]? with
    | none =>
      simp [hp, hu] at h ⊢
      intro a b c
      exact absurd c (h a b)
    | some p =>
      simp [hp, hu] at h ⊢
      intro a b c
      have := h a b
      rcases c with c | c
      · exact absurd c this.1
      · omega

abbrev T1 : List Nd := [(515, 4)]
abbrev T2 : List Nd := [(513, 16), (515, 4)]
abbrev T3 : List Nd := [(1, 16), (2, 4), (4, 16), (8, 4), (16, 16), (32, 4), (64, 16), (128, 4), (257, 16), (513, 16), (515, 4)]
abbrev tenL : List Int := [4, 16, 4, 16, 4, 16, 4, 16, 4, 16]

theorem chk4 : chk 4 = 0 := chk_in in4
theorem chk16 : chk 16 = 0 := chk_in in16
theorem c0 : checkL [] = 0 := rfl
theorem c1 : checkL T1 = 0 := checkL_of (by intro n hn; simp at hn; subst hn; exact chk4) (by kernel_rfl)
theorem c2 : checkL T2 = 0 := checkL_of (by intro n hn; simp at hn; rcases hn with rfl | rfl; exact chk16; exact chk4) (by kernel_rfl)
theorem c3 : checkL T3 = 0 := checkL_of (by intro n hn; simp at hn; obtain rfl | rfl | rfl | rfl | rfl | rfl | rfl | rfl | rfl | rfl | rfl := hn; exact chk16; exact chk4; exact chk16; exact chk4; exact chk16; exact chk4; exact chk16; exact chk4; exact chk16; exact chk16; exact chk4) (by kernel_rfl)
theorem c4 : checkL [(1, 4)] = 210 := checkL_not (j := 0) (by decide) (by kernel_rfl)
theorem r1 : resL [] 1024 = ([], 200) := by unfold resL; rw [if_neg (by simp [c0]), if_pos (by omega)]
theorem r2 : resL [] 1 = ([], 0) := by unfold resL; rw [if_neg (by simp [c0]), if_neg (by omega)]; kernel_rfl
theorem r3 : removeL [] 0 = ([], 200) := by unfold removeL; rw [if_neg (by simp [c0]), if_pos (.inr (.inr rfl))]
theorem r4 : setL [] 3 4 = (T1, 0) := by unfold setL; rw [if_neg (by simp [c0]), if_neg (by omega), if_neg (by simp [chk4])]; kernel_rfl
theorem r5 : setL T1 1 16 = (T2, 0) := by unfold setL; rw [if_neg (by simp [c1]), if_neg (by omega), if_neg (by simp [chk16])]; kernel_rfl
theorem r6 : resL T2 1 = ([513, 515], 0) := by unfold resL; rw [if_neg (by simp [c2]), if_neg (by omega)]; kernel_rfl
theorem badTen : tenL.any badP = false := by simp [tenL, badP, chk4, chk16]
theorem r7 : renewL T2 3 tenL = (T3, 0) := by
  unfold renewL
  rw [if_neg (by simp [c2]), if_neg (by rintro (q | q | q); omega; omega; revert q; decide), if_neg (by rintro (q | q); exact q rfl; rw [badTen] at q; cases q)]
  kernel_rfl
theorem r8 : resL T3 1 = ([1], 0) := by unfold resL; rw [if_neg (by simp [c3]), if_neg (by omega)]; kernel_rfl
theorem r9 : ofF T3 515 = some 4 := by kernel_rfl
theorem r10 : memL T3 = [1, 3] := by
  refine sorted_ext (memL_sorted _) (by decide) fun x => ?_
  rw [mem_memL]
  simp
  constructor
  · rintro ⟨h, h0, h1⟩; omega
  · intro h; omega
end Go.Proofs.Ytofkmapokdcphaa
