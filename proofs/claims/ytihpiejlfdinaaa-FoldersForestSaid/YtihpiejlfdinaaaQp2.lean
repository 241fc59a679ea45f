import Derived.Test.YtihpiejlfdinaaaQp
/-
  The reference's put takes a step of the forest.
-/
namespace Go.Proofs.Ytihpiejlfdinaaa.PF
open Go Go.RowKit Go.Maps Go.My Go.Proofs.YtihpiejlfdinaaaW.PrintWords

/-- Where a place fits its folder may lie too deep, yet every way up ends. -/
theorem ends17 {F : Forest} (hF : FInv F) {p : S29} (hfit : fits F p = true) (y : Int) : ends (F.set p.f2 p) 17 y := by
  rw [ends_iff]
  intro x h
  have h8 : ∀ y x j, 8 ≤ j → ¬ steps F j y x := fun y x j hj h => ends_iff.1 (ends_mono (hF.fin y) hj) x h
  rcases steps_new h with h | ⟨i, hi, h1, h2⟩
  · exact h8 y x 17 (by omega) h
  · have hi8 : i < 8 := by
      rcases Nat.lt_or_ge i 8 with h | h
      · exact h
      · exact absurd h1 (h8 _ _ i h)
    obtain ⟨m, hm⟩ : ∃ m, 17 - i = m + 1 := ⟨17 - i - 1, by omega⟩
    rw [hm] at h2
    have := ((steps_own hF hfit).1 h2).2
    exact h8 _ _ m (by omega) this

theorem put_l1 {F : Forest} (hF : FKeys F) (hE : ∀ y, ends F 17 y) (T : List S29) : ∀ (n i k : Nat), i + n = (treeP F).length → 70 + n < k →
    chartroomref27_put.l1 k T (treeP F) i = some (if ((treeP F).drop i).all (fun q => decide ((upF F 17 q.f2).length ≤ 7)) then (treeP F, true) else (T, false))
  | 0, i, k, hn, hk => by
    obtain ⟨k, rfl⟩ : ∃ m, k = m + 1 := ⟨k - 1, by omega⟩
    rw [chartroomref27_put.l1, if_neg (by omega), List.drop_of_length_le (by omega)]
    rfl
  | n + 1, i, k, hn, hk => by
    obtain ⟨k, rfl⟩ : ∃ m, k = m + 1 := ⟨k - 1, by omega⟩
    have hl := treeP_length F
    have hi : i < (treeP F).length := by omega
    obtain ⟨y, hy⟩ : ∃ y, (treeP F)[i]? = some y := ⟨_, List.getElem?_eq_getElem hi⟩
    have hu : (upF F 17 y.f2).length ≤ 17 := by
      have := (upF_length (F := F) (k := 17) (j := (upF F 17 y.f2).length) (y := y.f2)).1 (Nat.le_refl _)
      exact this.1
    have hw : wrap64 (1 + ((upF F 17 y.f2).length : Int)) = 1 + ((upF F 17 y.f2).length : Int) := by unfold wrap64; omega
    rw [chartroomref27_put.l1, if_pos (by omega), if_pos (by omega), rdP_of hy, up_f hF (by omega) (by omega) (hE y.f2), Option.bind_some, hw, wrap_succ hi (by omega), drop_of hy, List.all_cons]
    by_cases h : (upF F 17 y.f2).length ≤ 7
    · rw [if_neg (by omega), decide_eq_true h, Bool.true_and]
      exact put_l1 hF hE T n (i + 1) k (by omega) (by omega)
    · rw [if_pos (by omega), decide_eq_false h, Bool.false_and, if_neg (by simp)]
theorem all_ends {F : Forest} (hF : FKeys F) : ((treeP F).all fun q => decide ((upF F 17 q.f2).length ≤ 7)) = true ↔ ∀ y, ends F 8 y := by
  rw [List.all_eq_true]
  have key : ∀ y, (upF F 17 y).length ≤ 7 ↔ ends F 8 y := fun y => by
    rw [ends_iff]
    have h := upF_length (F := F) (k := 17) (j := 8) (y := y)
    constructor
    · intro h1 x hx
      have := h.2 ⟨by omega, x, hx⟩
      omega
    · intro h1
      rcases Nat.lt_or_ge 7 (upF F 17 y).length with h2 | h2
      · obtain ⟨_, x, hx⟩ := h.1 h2
        exact absurd hx (h1 x)
      · exact h2
  constructor
  · intro h y
    cases hy : F y with
    | none => 
      rw [ends_iff]
      rintro x ⟨q, hq, _⟩
      rw [hy] at hq; cases hq
    | some q =>
      have hq := (hF y q hy).1
      have := h q ((memK_treeP hF).2 (by rw [hq]; exact hy))
      rw [hq, decide_eq_true_eq] at this
      exact (key y).1 this
  · intro h q _
    exact decide_eq_true ((key q.f2).2 (h q.f2))

theorem put_new {F : Forest} (hF : FInv F) {p : S29} (hp : p.ok = true) (hfit : fits F p = true) {k : Nat} (hk : 200 < k) :
    chartroomref27_put.l0 k (treeP F) [] false 0 p.f0 p.f1 p.f2 p.f3 p.f4 = some (treeP (step F p), !bad F p) := by
  have hl := treeP_length F
  have hb := ok_bounds hp
  have hF' := keys_set hF.keys hp
  have hE := ends17 hF hfit
  have e0 : ((0 : Nat) : Int) = 0 := rfl
  rw [← e0]
  refine put_l0 (treeP F) p _ hl (treeP F).length 0 [] false k (by omega) (by simp) (by omega) fun k hk => ?_
  rw [if_neg (by simp), List.nil_append, List.drop_zero, insT_treeP hF.keys hp]
  obtain ⟨k, rfl⟩ : ∃ m, k = m + 1 := ⟨k - 1, by omega⟩
  have hl' := treeP_length (F.set p.f2 p)
  have h1 := put_l1 hF' hE (treeP F) (treeP (F.set p.f2 p)).length 0 k (by omega) (by omega)
  rw [List.drop_zero] at h1
  rw [chartroomref27_put.j3]
  refine h1.trans ?_
  by_cases h : ∀ y, ends (F.set p.f2 p) 8 y
  · have hbad : bad F p = false := (bad_iff hF (by omega)).2 ⟨hfit, h⟩
    rw [if_pos ((all_ends hF').2 h), hbad]
    unfold step
    rw [hbad]; rfl
  · have hbad : bad F p = true := by
      cases hb : bad F p with
      | true => rfl
      | false => exact absurd ((bad_iff hF (by omega)).1 hb).2 h
    rw [if_neg (fun hh => h ((all_ends hF').1 hh)), hbad]
    unfold step
    rw [hbad]; rfl

theorem put_f {F : Forest} (hF : FInv F) {p : S29} (hp : p.ok = true) {k : Nat} (hk : 210 < k) :
    chartroomref27_put.f k (treeP F) p.f0 p.f1 p.f2 p.f3 p.f4 = some (treeP (step F p), !bad F p) := by
  have hb := ok_bounds hp
  have bad_no : fits F p = false → bad F p = true := fun h => by rw [bad_eq, h]; rfl
  have step_no : bad F p = true → step F p = F := fun h => by unfold step; rw [if_pos h]
  obtain ⟨k, rfl⟩ : ∃ m, k = m + 1 := ⟨k - 1, by omega⟩
  unfold chartroomref27_put.f
  rw [place_f hF.keys (by omega), Option.bind_some]
  by_cases h0 : 0 ≤ p.f3
  · rw [if_pos h0]
    cases hq : F p.f3 with
    | none =>
      have hfit : fits F p = false := by unfold fits; rw [decide_eq_true h0, hq]; rfl
      rw [if_neg (by simp [plOf]), chartroomref27_put.j0, if_pos rfl, bad_no hfit, step_no (bad_no hfit)]
      rfl
    | some q =>
      rw [if_pos (by simp [plOf]), within_f hF (by omega), Option.bind_some, chartroomref27_put.j0]
      cases hw : withinF F p.f3 p.f2 with
      | true =>
        have hfit : fits F p = false := by unfold fits; rw [decide_eq_true h0, hq, hw]; rfl
        rw [if_pos rfl, bad_no hfit, step_no (bad_no hfit)]
        rfl
      | false =>
        have hfit : fits F p = true := by unfold fits; rw [decide_eq_true h0, hq, hw]; rfl
        rw [if_neg (by simp)]
        exact put_new hF hp hfit (by omega)
  · have hfit : fits F p = true := by unfold fits; rw [decide_eq_false h0]; rfl
    rw [if_neg (by omega), chartroomref27_put.j0, if_neg (by simp)]
    exact put_new hF hp hfit (by omega)
theorem effect_f {F : Forest} (hF : FInv F) {p : S29} (hp : p.ok = true) {k : Nat} (hk : 210 < k) : chartroomref27_Effect.f k (treeP F) p.f0 p.f1 p.f2 p.f3 p.f4 = some (!bad F p) := by
  unfold chartroomref27_Effect.f
  rw [put_f hF hp hk]; rfl
end Go.Proofs.Ytihpiejlfdinaaa.PF
