import Derived.Test.YtihpiejlfdinaaaUa
/-
  Forests: ways up, ways down, levels, and what a place changes.
-/
namespace Go.Proofs.Ytihpiejlfdinaaa.PF
open Go Go.RowKit

/-- k steps up from y lead to x. -/
def steps (F : Forest) : Nat → Int → Int → Prop
  | 0, y, x => y = x
  | k + 1, y, x => ∃ q, F y = some q ∧ 0 ≤ q.f3 ∧ steps F k q.f3 x

theorem steps_add {F : Forest} : ∀ {j k : Nat} {y z x : Int}, steps F j y z → steps F k z x → steps F (j + k) y x
  | 0, k, y, z, x, h, h' => by cases h; rwa [Nat.zero_add]
  | j + 1, k, y, z, x, ⟨q, h1, h2, h3⟩, h' => by
    rw [show j + 1 + k = (j + k) + 1 by omega]
    exact ⟨q, h1, h2, steps_add h3 h'⟩
theorem steps_split {F : Forest} : ∀ {j k : Nat} {y x : Int}, steps F (j + k) y x → ∃ z, steps F j y z ∧ steps F k z x
  | 0, k, y, x, h => ⟨y, rfl, by rwa [Nat.zero_add] at h⟩
  | j + 1, k, y, x, h => by
    rw [show j + 1 + k = (j + k) + 1 by omega] at h
    obtain ⟨q, h1, h2, h3⟩ := h
    obtain ⟨z, h4, h5⟩ := steps_split h3
    exact ⟨z, ⟨q, h1, h2, h4⟩, h5⟩
theorem steps_fun {F : Forest} : ∀ {k : Nat} {y x x' : Int}, steps F k y x → steps F k y x' → x = x'
  | 0, y, x, x', h, h' => h.symm.trans h'
  | k + 1, y, x, x', ⟨q, h1, _, h3⟩, ⟨q', h1', _, h3'⟩ => by
    rw [h1] at h1'; cases h1'; exact steps_fun h3 h3'
theorem steps_one {F : Forest} {y x : Int} {q : S29} (h : F y = some q) (h0 : 0 ≤ q.f3) (e : q.f3 = x) : steps F 1 y x := ⟨q, h, h0, e⟩
theorem steps_nonneg {F : Forest} : ∀ {k : Nat} {y x : Int}, steps F (k + 1) y x → 0 ≤ x
  | 0, y, x, ⟨q, _, h0, e⟩ => by have e : q.f3 = x := e; omega
  | k + 1, y, x, ⟨q, _, _, h⟩ => steps_nonneg h
theorem ends_iff {F : Forest} : ∀ {k : Nat} {y : Int}, ends F k y ↔ ∀ x, ¬ steps F k y x
  | 0, y => ⟨fun h => h.elim, fun h => h y rfl⟩
  | k + 1, y => by
    constructor
    · rintro h x ⟨q, h1, h2, h3⟩
      exact ends_iff.1 (h q h1 h2) x h3
    · intro h q h1 h2
      exact ends_iff.2 fun x h3 => h x ⟨q, h1, h2, h3⟩
theorem ends_mono {F : Forest} {k m : Nat} {y : Int} (h : ends F k y) (hm : k ≤ m) : ends F m y := by
  rw [ends_iff] at *
  intro x hx
  rw [show m = k + (m - k) by omega] at hx
  obtain ⟨z, h1, _⟩ := steps_split hx
  exact h z h1
theorem ends_steps {F : Forest} {k j : Nat} {y x : Int} (h : ends F k y) (hs : steps F j y x) : j < k ∧ ends F (k - j) x := by
  have hj : j < k := by
    by_cases c : j < k
    · exact c
    · rw [ends_iff] at h
      rw [show j = k + (j - k) by omega] at hs
      obtain ⟨z, h1, _⟩ := steps_split hs
      exact (h z h1).elim
  refine ⟨hj, ?_⟩
  rw [ends_iff] at *
  intro z hz
  have := steps_add hs hz
  rw [show j + (k - j) = k by omega] at this
  exact h z this
/-- No way leads round. -/
theorem acyclic {F : Forest} {k j : Nat} {y : Int} (h : ends F k y) : ¬ steps F (j + 1) y y := by
  intro hs
  have : ∀ n, steps F ((j + 1) * n) y y := by
    intro n
    induction n with
    | zero => rfl
    | succ n ih => rw [Nat.mul_succ]; exact steps_add ih hs
  have h1 := (ends_steps h (this k)).1
  have : k ≤ (j + 1) * k := Nat.le_mul_of_pos_left k (by omega)
  omega
theorem upF_length {F : Forest} : ∀ {k j : Nat} {y : Int}, j ≤ (upF F k y).length ↔ j ≤ k ∧ ∃ x, steps F j y x
  | 0, j, y => by
    simp only [upF, List.length_nil]
    constructor
    · intro h; exact ⟨h, y, by rw [Nat.le_zero.1 h]; rfl⟩
    · rintro ⟨h, _⟩; exact h
  | k + 1, 0, y => ⟨fun _ => ⟨Nat.zero_le _, y, rfl⟩, fun _ => Nat.zero_le _⟩
  | k + 1, j + 1, y => by
    by_cases hg : ∃ q, F y = some q ∧ 0 ≤ q.f3
    · obtain ⟨q, hq, h0⟩ := hg
      rw [upF_step hq h0, List.length_cons, Nat.add_le_add_iff_right, upF_length, Nat.add_le_add_iff_right]
      refine and_congr_right fun _ => ⟨fun ⟨x, hx⟩ => ⟨x, q, hq, h0, hx⟩, fun ⟨x, q', hq', _, hx⟩ => ⟨x, ?_⟩⟩
      rw [hq] at hq'; cases hq'; exact hx
    · rw [upF_stop fun q hq => by
        by_cases c : q.f3 < 0
        · exact c
        · exact (hg ⟨q, hq, by omega⟩).elim]
      simp only [List.length_nil]
      refine ⟨fun h => by omega, fun ⟨_, x, q, hq, h0, _⟩ => (hg ⟨q, hq, h0⟩).elim⟩
theorem mem_upF {F : Forest} : ∀ {k : Nat} {y x : Int}, x ∈ upF F k y ↔ ∃ j, j < k ∧ steps F (j + 1) y x
  | 0, y, x => by simp [upF]
  | k + 1, y, x => by
    by_cases hg : ∃ q, F y = some q ∧ 0 ≤ q.f3
    · obtain ⟨q, hq, h0⟩ := hg
      rw [upF_step hq h0, List.mem_cons, mem_upF]
      constructor
      · rintro (rfl | ⟨j, hj, hs⟩)
        · exact ⟨0, by omega, q, hq, h0, rfl⟩
        · exact ⟨j + 1, by omega, q, hq, h0, hs⟩
      · rintro ⟨j, hj, q', hq', _, hs⟩
        rw [hq] at hq'; cases hq'
        cases j with
        | zero => exact .inl (Eq.symm hs)
        | succ j => exact .inr ⟨j, by omega, hs⟩
    · rw [upF_stop fun q hq => by
        by_cases c : q.f3 < 0
        · exact c
        · exact (hg ⟨q, hq, by omega⟩).elim]
      refine ⟨fun h => (by cases h), fun ⟨j, _, q, hq, h0, _⟩ => (hg ⟨q, hq, h0⟩).elim⟩
theorem upF_at {F : Forest} : ∀ {k j : Nat} {y x : Int}, (upF F k y)[j]? = some x ↔ j < k ∧ steps F (j + 1) y x
  | 0, j, y, x => by simp [upF]
  | k + 1, j, y, x => by
    by_cases hg : ∃ q, F y = some q ∧ 0 ≤ q.f3
    · obtain ⟨q, hq, h0⟩ := hg
      rw [upF_step hq h0]
      cases j with
      | zero =>
        simp only [List.getElem?_cons_zero, Option.some.injEq]
        exact ⟨fun h => ⟨by omega, q, hq, h0, h⟩, fun ⟨_, q', hq', _, hs⟩ => by rw [hq] at hq'; cases hq'; exact hs⟩
      | succ j =>
        rw [List.getElem?_cons_succ, upF_at]
        exact ⟨fun ⟨h1, h2⟩ => ⟨by omega, q, hq, h0, h2⟩, fun ⟨h1, q', hq', _, hs⟩ => by rw [hq] at hq'; cases hq'; exact ⟨by omega, hs⟩⟩
    · rw [upF_stop fun q hq => by
        by_cases c : q.f3 < 0
        · exact c
        · exact (hg ⟨q, hq, by omega⟩).elim]
      refine ⟨fun h => (by cases h), fun ⟨_, q, hq, h0, _⟩ => (hg ⟨q, hq, h0⟩).elim⟩
theorem upF_more {F : Forest} {k m : Nat} {y : Int} (h : ends F k y) (hm : k ≤ m) : upF F m y = upF F k y := by
  apply List.ext_getElem?
  intro j
  cases h1 : (upF F k y)[j]? with
  | some x => rw [upF_at] at h1 ⊢; exact ⟨by omega, h1.2⟩
  | none =>
    cases h2 : (upF F m y)[j]? with
    | none => rfl
    | some x =>
      rw [upF_at] at h2
      have := (ends_steps h h2.2).1
      have h3 : (upF F k y)[j]? = some x := upF_at.2 ⟨by omega, h2.2⟩
      rw [h3] at h1; cases h1

/-- What holds of a forest that grew. -/
structure FInv (F : Forest) : Prop where
  key : ∀ x q, F x = some q → q.f2 = x ∧ q.ok = true
  par : ∀ x q, F x = some q → 0 ≤ q.f3 → (F q.f3).isSome = true
  fin : ∀ x, ends F 8 x

theorem ok_bounds {q : S29} (h : q.ok = true) : 1 ≤ q.f0 ∧ q.f0 ≤ 1099511627776 ∧ 0 ≤ q.f1 ∧ q.f1 ≤ 511 ∧ 0 ≤ q.f2 ∧ q.f2 ≤ 15 ∧ -1 ≤ q.f3 ∧ q.f3 ≤ 15 ∧ 1 ≤ (q.f4.size : Int) ∧ (q.f4.size : Int) ≤ 64 := by
  unfold S29.ok btw at h
  simp only [Bool.and_eq_true, decide_eq_true_eq] at h
  obtain ⟨⟨⟨⟨⟨a, b⟩, c, d⟩, e, f⟩, g, h⟩, i, j⟩ := h
  exact ⟨a, b, c, d, e, f, g, h, i, j⟩
theorem FInv.keys {F : Forest} (h : FInv F) : FKeys F := fun x q hq => by
  obtain ⟨h1, h2⟩ := h.key x q hq
  obtain ⟨_, _, _, _, a, b, c, d, _, _⟩ := ok_bounds h2
  refine ⟨h1, by omega, by omega, ?_⟩
  have := wrap64_wf q.f3
  rwa [show wrap64 q.f3 = q.f3 from by unfold wrap64; omega] at this
theorem FInv.empty : FInv fun _ => none := ⟨fun _ _ h => (by cases h), fun _ _ h => (by cases h), fun x q h => (by cases h)⟩
theorem deep_of_steps {F : Forest} (hk : FKeys F) : ∀ {k : Nat} {x : Int}, 0 ≤ x → (∀ y, ¬ steps F k y x) → deep F k x
  | 0, x, _, h => h x rfl
  | k + 1, x, hx, h => fun y q hq e => by
    have hy : 0 ≤ y := (hk y q hq).2.1
    refine deep_of_steps hk hy fun z hz => ?_
    exact h z (steps_add hz (steps_one hq (by omega) e))
theorem FInv.deep {F : Forest} (h : FInv F) {k : Nat} (hk : 8 ≤ k) {x : Int} (hx : 0 ≤ x) : deep F k x :=
  deep_of_steps h.keys hx fun y hy => by
    have := (ends_steps (h.fin y) hy).1
    omega
theorem lt_htF {F : Forest} (hF : FKeys F) : ∀ {k i : Nat} {x : Int}, 0 ≤ x → (i < htF F k x ↔ i < k ∧ ∃ y, steps F i y x)
  | 0, i, x, _ => by simp [htF]
  | k + 1, 0, x, hx => by
    rw [htF_succ]
    exact ⟨fun _ => ⟨by omega, x, rfl⟩, fun _ => by omega⟩
  | k + 1, i + 1, x, hx => by
    rw [htF_succ]
    obtain ⟨_, a2, a3⟩ := topOf_spec F x (htF F k) (List.range 16) 0
    constructor
    · intro h
      rcases a3 with a3 | ⟨y, _, q, hq, e, e'⟩
      · omega
      · have hy := (hF y q hq).2.1
        have : i < htF F k y := by omega
        obtain ⟨h1, z, hz⟩ := (lt_htF hF hy).1 this
        exact ⟨by omega, z, steps_add hz (steps_one hq (by omega) e)⟩
    · rintro ⟨h1, z, hz⟩
      obtain ⟨y, hy, q, hq, h0, e⟩ := steps_split (j := i) (k := 1) hz
      have e : q.f3 = x := e
      obtain ⟨_, y0, y1, _⟩ := hF y q hq
      obtain ⟨m, rfl⟩ := Int.eq_ofNat_of_zero_le y0
      have := (lt_htF hF y0 (k := k) (i := i)).2 ⟨by omega, z, hy⟩
      have := a2 m (List.mem_range.2 (by omega)) q hq e
      omega
theorem lt_ht {F : Forest} (hF : FInv F) {i : Nat} {x : Int} (hx : 0 ≤ x) : i < ht F x ↔ ∃ y, steps F i y x := by
  unfold ht
  rw [lt_htF hF.keys hx]
  refine ⟨fun h => h.2, fun ⟨y, hy⟩ => ⟨?_, y, hy⟩⟩
  have := (ends_steps (hF.fin y) hy).1
  omega
theorem ht_pos {F : Forest} (hF : FInv F) {x : Int} (hx : 0 ≤ x) : 0 < ht F x := (lt_ht hF hx).2 ⟨x, rfl⟩
theorem FInv.up_ends {F : Forest} (hF : FInv F) (x : Int) : (upL F x).length ≤ 7 := by
  by_cases c : (upL F x).length ≤ 7
  · exact c
  · have h8 : 8 ≤ (upF F 8 x).length := by unfold upL at c; omega
    obtain ⟨_, z, hz⟩ := upF_length.1 h8
    exact (ends_iff.1 (hF.fin x) z hz).elim
theorem mem_upL {F : Forest} (hF : FInv F) {x y : Int} : x ∈ upL F y ↔ ∃ j, steps F (j + 1) y x := by
  unfold upL
  rw [mem_upF]
  refine ⟨fun ⟨j, _, h⟩ => ⟨j, h⟩, fun ⟨j, h⟩ => ⟨j, ?_, h⟩⟩
  have := (ends_steps (hF.fin y) h).1
  omega
theorem within_iff {F : Forest} (hF : FInv F) {x y : Int} : withinF F x y = true ↔ ∃ j, steps F j x y := by
  unfold withinF
  simp only [Bool.or_eq_true, decide_eq_true_eq, List.any_eq_true, decide_eq_true_eq]
  constructor
  · rintro (h | ⟨z, hz, rfl⟩)
    · exact ⟨0, h⟩
    · obtain ⟨j, h⟩ := (mem_upL hF).1 hz
      exact ⟨j + 1, h⟩
  · rintro ⟨j, h⟩
    cases j with
    | zero => exact .inl h
    | succ j => exact .inr ⟨y, (mem_upL hF).2 ⟨j, h⟩, rfl⟩

/-! ### a place laid into a forest -/

theorem set_same (F : Forest) (x : Int) (a : S29) : F.set x a x = some a := by unfold Forest.set; rw [if_pos rfl]
theorem set_other (F : Forest) {x y : Int} (a : S29) (h : y ≠ x) : F.set x a y = F y := by unfold Forest.set; rw [if_neg h]

/-- Does a place fit a forest, but for the levels? -/
def fits (F : Forest) (p : S29) : Bool := !(decide (0 ≤ p.f3) && ((F p.f3).isNone || withinF F p.f3 p.f2))
theorem bad_eq (F : Forest) (p : S29) : bad F p = (!fits F p || decide (8 < lvl F p.f3 + ht F p.f2)) := by unfold bad fits; rw [Bool.not_not]
theorem fits_iff {F : Forest} (hF : FInv F) {p : S29} : fits F p = true ↔ (0 ≤ p.f3 → (F p.f3).isSome = true ∧ ∀ j, ¬ steps F j p.f3 p.f2) := by
  unfold fits
  rw [Bool.not_eq_true', Bool.and_eq_false_iff, decide_eq_false_iff_not, Bool.or_eq_false_iff]
  constructor
  · rintro (h | ⟨h1, h2⟩) h0
    · exact (h h0).elim
    · refine ⟨by cases hf : F p.f3 with | none => rw [hf] at h1; cases h1 | some q => rfl, fun j hj => ?_⟩
      have := (within_iff hF).2 ⟨j, hj⟩
      rw [h2] at this; cases this
  · intro h
    by_cases c : 0 ≤ p.f3
    · right
      obtain ⟨h1, h2⟩ := h c
      refine ⟨by cases hf : F p.f3 with | none => rw [hf] at h1; cases h1 | some q => rfl, ?_⟩
      cases hw : withinF F p.f3 p.f2 with
      | false => rfl
      | true => obtain ⟨j, hj⟩ := (within_iff hF).1 hw; exact (h2 j hj).elim
    · exact .inl c

section
variable {F : Forest} {p : S29}
/-- A way that does not pass the place's folder is the same in both. -/
theorem steps_off {f : Int} {a : S29} : ∀ {k : Nat} {y x : Int}, (∀ j, j < k → ¬ steps F j y f) → (steps (F.set f a) k y x ↔ steps F k y x)
  | 0, y, x, _ => Iff.rfl
  | k + 1, y, x, h => by
    have hne : y ≠ f := h 0 (by omega)
    unfold steps
    rw [set_other F a hne]
    refine exists_congr fun q => and_congr_right fun hq => and_congr_right fun h0 => ?_
    exact steps_off fun j hj hs => h (j + 1) (by omega) ⟨q, hq, h0, hs⟩
/-- A way to the place's folder lies in both. -/
theorem steps_to (hF : FInv F) {f : Int} {a : S29} {k : Nat} {y : Int} (h : steps F k y f) : steps (F.set f a) k y f := by
  refine (steps_off fun j hj hs => ?_).2 h
  have := steps_split (j := j) (k := k - j) (by rwa [show j + (k - j) = k by omega])
  obtain ⟨z, h1, h2⟩ := this
  obtain rfl := steps_fun hs h1
  rw [show k - j = (k - j - 1) + 1 by omega] at h2
  exact acyclic (hF.fin _) h2
/-- How far a way leads in the new forest. -/
theorem steps_new {f : Int} {a : S29} {k : Nat} {y x : Int} (h : steps (F.set f a) k y x) : steps F k y x ∨ ∃ i, i < k ∧ steps F i y f ∧ steps (F.set f a) (k - i) f x := by
  by_cases c : ∃ i, i < k ∧ steps F i y f
  · have : ∃ i, i < k ∧ steps F i y f ∧ ∀ j, j < i → ¬ steps F j y f := by
      obtain ⟨i, hi⟩ := c
      induction i using Nat.strongRecOn with
      | ind i ih =>
        by_cases d : ∃ j, j < i ∧ steps F j y f
        · obtain ⟨j, hj, hs⟩ := d
          exact ih j hj ⟨by omega, hs⟩
        · exact ⟨i, hi.1, hi.2, fun j hj hs => d ⟨j, hj, hs⟩⟩
    obtain ⟨i, hi, hs, hmin⟩ := this
    right
    refine ⟨i, hi, hs, ?_⟩
    rw [show k = i + (k - i) by omega] at h
    obtain ⟨z, h1, h2⟩ := steps_split h
    have := (steps_off (a := a) hmin).1 h1
    obtain rfl := steps_fun this hs
    exact h2
  · left
    exact (steps_off fun j hj hs => c ⟨j, hj, hs⟩).1 h
end

theorem up_iff {F : Forest} (hF : FInv F) {j : Nat} {y : Int} : j ≤ (upL F y).length ↔ ∃ x, steps F j y x := by
  unfold upL
  rw [upF_length]
  refine ⟨fun h => h.2, fun ⟨x, h⟩ => ⟨?_, x, h⟩⟩
  have := (ends_steps (hF.fin y) h).1
  omega

section
variable {F : Forest} {p : S29}
theorem steps_own (hF : FInv F) (hfit : fits F p = true) {j : Nat} {x : Int} : steps (F.set p.f2 p) (j + 1) p.f2 x ↔ 0 ≤ p.f3 ∧ steps F j p.f3 x := by
  show (∃ q, F.set p.f2 p p.f2 = some q ∧ 0 ≤ q.f3 ∧ steps (F.set p.f2 p) j q.f3 x) ↔ _
  rw [set_same]
  constructor
  · rintro ⟨q, hq, h0, h⟩
    cases hq
    exact ⟨h0, (steps_off fun i _ => ((fits_iff hF).1 hfit h0).2 i).1 h⟩
  · rintro ⟨h0, h⟩
    exact ⟨p, rfl, h0, (steps_off fun i _ => ((fits_iff hF).1 hfit h0).2 i).2 h⟩
theorem lvl_iff (hF : FInv F) (hfit : fits F p = true) {j : Nat} : (∃ x, steps (F.set p.f2 p) j p.f2 x) ↔ j ≤ lvl F p.f3 := by
  cases j with
  | zero => exact ⟨fun _ => Nat.zero_le _, fun _ => ⟨p.f2, rfl⟩⟩
  | succ j =>
    unfold lvl
    by_cases c : p.f3 < 0
    · rw [if_pos c]
      refine ⟨fun ⟨x, h⟩ => ?_, fun h => by omega⟩
      have := ((steps_own hF hfit).1 h).1
      omega
    · rw [if_neg c, Nat.add_comm 1, Nat.add_le_add_iff_right, up_iff hF]
      exact ⟨fun ⟨x, h⟩ => ⟨x, ((steps_own hF hfit).1 h).2⟩, fun ⟨x, h⟩ => ⟨x, (steps_own hF hfit).2 ⟨by omega, h⟩⟩⟩
theorem levels_iff (hF : FInv F) (hfit : fits F p = true) (h2 : 0 ≤ p.f2) : (∀ y, ends (F.set p.f2 p) 8 y) ↔ lvl F p.f3 + ht F p.f2 ≤ 8 := by
  constructor
  · intro h
    by_cases c : lvl F p.f3 + ht F p.f2 ≤ 8
    · exact c
    · have hp := ht_pos hF h2
      obtain ⟨i, hi1, hi2, hi3⟩ : ∃ i, i < ht F p.f2 ∧ i ≤ 8 ∧ 8 - i ≤ lvl F p.f3 := ⟨min 8 (ht F p.f2 - 1), by omega, by omega, by omega⟩
      obtain ⟨y, hy⟩ := (lt_ht hF h2).1 hi1
      obtain ⟨x, hx⟩ := (lvl_iff hF hfit).2 hi3
      have := steps_add (steps_to (a := p) hF hy) hx
      rw [show i + (8 - i) = 8 by omega] at this
      exact (ends_iff.1 (h y) x this).elim
  · intro h y
    rw [ends_iff]
    intro x hx
    rcases steps_new hx with h1 | ⟨i, hi, h1, h3⟩
    · exact ends_iff.1 (hF.fin y) x h1
    · have := (lt_ht hF h2).2 ⟨y, h1⟩
      have := (lvl_iff hF hfit).1 ⟨x, h3⟩
      omega
theorem bad_iff (hF : FInv F) (h2 : 0 ≤ p.f2) : bad F p = false ↔ fits F p = true ∧ ∀ y, ends (F.set p.f2 p) 8 y := by
  rw [bad_eq, Bool.or_eq_false_iff, Bool.not_eq_false', decide_eq_false_iff_not, Nat.not_lt]
  exact and_congr_right fun hf => (levels_iff hF hf h2).symm
theorem FInv.set (hF : FInv F) (hp : p.ok = true) (hb : bad F p = false) : FInv (F.set p.f2 p) := by
  have hbd := ok_bounds hp
  obtain ⟨hfit, hend⟩ := (bad_iff hF (by omega)).1 hb
  refine ⟨fun x q hq => ?_, fun x q hq h0 => ?_, hend⟩
  · unfold Forest.set at hq
    split at hq
    · cases hq; exact ⟨by omega, hp⟩
    · exact hF.key x q hq
  · by_cases c : q.f3 = p.f2
    · rw [c, set_same]; rfl
    · rw [set_other F p c]
      unfold Forest.set at hq
      split at hq
      · cases hq; exact ((fits_iff hF).1 hfit h0).1
      · exact hF.par x q hq h0
theorem FInv.step (hF : FInv F) (hp : p.ok = true) : FInv (step F p) := by
  unfold PF.step
  cases hb : bad F p with
  | true => exact hF
  | false => exact hF.set hp hb
theorem set_set (F : Forest) (x : Int) (a b : S29) : (F.set x a).set x b = F.set x b := by
  funext y; unfold Forest.set; split <;> rfl
/-- A place laid twice. -/
theorem step_twice (hF : FInv F) (hp : p.ok = true) : PF.step (PF.step F p) p = PF.step F p := by
  cases hb : bad F p with
  | true => unfold PF.step; simp [hb]
  | false =>
    have hF' := hF.set hp hb
    have hbd := ok_bounds hp
    obtain ⟨hfit, hend⟩ := (bad_iff hF (by omega)).1 hb
    have hfit' : fits (F.set p.f2 p) p = true := by
      rw [fits_iff hF']
      intro h0
      obtain ⟨h1, h2⟩ := (fits_iff hF).1 hfit h0
      refine ⟨?_, fun j hj => ?_⟩
      · by_cases c : p.f3 = p.f2
        · rw [c, set_same]; rfl
        · rw [set_other F p c]; exact h1
      · exact h2 j ((steps_off fun i _ => h2 i).1 hj)
    have hb' : bad (F.set p.f2 p) p = false := (bad_iff hF' (by omega)).2 ⟨hfit', by rw [set_set]; exact hend⟩
    have e : PF.step F p = F.set p.f2 p := by unfold PF.step; rw [hb]; rfl
    rw [e]
    unfold PF.step
    rw [hb', set_set]
    rfl
end

/-! ### many places -/
abbrev fold (F : Forest) (l : List S29) : Forest := l.foldl PF.step F
theorem FInv.fold {F : Forest} (hF : FInv F) : ∀ {l : List S29}, (∀ x ∈ l, x.ok = true) → FInv (fold F l)
  | [], _ => hF
  | p :: l, h => (hF.step (h p (by simp))).fold fun x hx => h x (by simp [hx])
theorem growF_inv (l : List S29) : FInv (growF l) := FInv.empty.fold fun _ hx => (mem_sortV.1 hx).2
theorem fold_congr : ∀ (n : Nat) {l m : List S29} {F : Forest}, l.length + m.length ≤ n → FInv F → (∀ x ∈ l, x.ok = true) → Sorted l → Sorted m → (∀ x, x ∈ l ↔ x ∈ m) → fold F l = fold F m
  | 0, [], [], F, _, _, _, _, _, _ => rfl
  | 0, _ :: _, _, F, h, _, _, _, _, _ => by simp at h
  | 0, [], _ :: _, F, h, _, _, _, _, _ => by simp at h
  | n + 1, [], m, F, _, _, _, _, _, h => by
    cases m with
    | nil => rfl
    | cons y m => have := (h y).2 (by simp); cases this
  | n + 1, x :: l, [], F, _, _, _, _, _, h => by have := (h x).1 (by simp); cases this
  | n + 1, x :: l, y :: m, F, hn, hF, hok, hl, hm, h => by
    have hl' := List.pairwise_cons.1 hl
    have hm' := List.pairwise_cons.1 hm
    simp only [List.length_cons] at hn
    have e : x = y := by
      rcases List.mem_cons.1 ((h x).1 (by simp)) with e | hx
      · exact e
      · rcases List.mem_cons.1 ((h y).2 (by simp)) with e | hy
        · exact e.symm
        · exact less_total (hm'.1 x hx) (hl'.1 y hy)
    subst e
    have hF' := hF.step (hok x (by simp))
    by_cases cl : x ∈ l
    · have e1 : fold F (x :: l) = fold F l := by
        cases l with
        | nil => cases cl
        | cons z l =>
          have hz' := List.pairwise_cons.1 hl'.2
          have e : z = x := by
            rcases List.mem_cons.1 cl with e | hx
            · exact e.symm
            · exact less_total (hl'.1 z (by simp)) (hz'.1 x hx)
          subst e
          show fold (PF.step (PF.step F z) z) l = fold (PF.step F z) l
          rw [step_twice hF (hok z (by simp))]
      rw [e1]
      refine fold_congr n (by simp only [List.length_cons]; omega) hF (fun z hz => hok z (by simp [hz])) hl'.2 hm fun z => ?_
      rw [← h z, List.mem_cons]
      exact ⟨.inr, fun h => h.elim (fun e => e ▸ cl) id⟩
    · by_cases cm : x ∈ m
      · have e1 : fold F (x :: m) = fold F m := by
          cases m with
          | nil => cases cm
          | cons z m =>
            have hz' := List.pairwise_cons.1 hm'.2
            have e : z = x := by
              rcases List.mem_cons.1 cm with e | hx
              · exact e.symm
              · exact less_total (hm'.1 z (by simp)) (hz'.1 x hx)
            subst e
            show fold (PF.step (PF.step F z) z) m = fold (PF.step F z) m
            rw [step_twice hF (hok z (by simp))]
        rw [e1]
        refine fold_congr n (by simp only [List.length_cons]; omega) hF hok hl hm'.2 fun z => ?_
        rw [h z, List.mem_cons]
        exact ⟨fun h => h.elim (fun e => e ▸ cm) id, .inr⟩
      · show fold (PF.step F x) l = fold (PF.step F x) m
        refine fold_congr n (by omega) hF' (fun z hz => hok z (by simp [hz])) hl'.2 hm'.2 fun z => ?_
        have := h z
        simp only [List.mem_cons] at this
        by_cases e : z = x
        · subst e; exact ⟨fun h => (cl h).elim, fun h => (cm h).elim⟩
        · simpa [e] using this
theorem growF_congr {l m : List S29} (h : ∀ x, x.ok = true → (x ∈ l ↔ x ∈ m)) : growF l = growF m := by
  refine fold_congr _ (Nat.le_refl _) FInv.empty (fun _ hx => (mem_sortV.1 hx).2) (sortV_sorted l) (sortV_sorted m) fun x => ?_
  rw [mem_sortV, mem_sortV]
  exact ⟨fun ⟨a, b⟩ => ⟨(h x b).1 a, b⟩, fun ⟨a, b⟩ => ⟨(h x b).2 a, b⟩⟩
end Go.Proofs.Ytihpiejlfdinaaa.PF
