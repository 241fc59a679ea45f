import Derived.Test.YtihpiejlfdinaaaRowp
/-
  A list of strings that came in.
-/
namespace Go.Proofs.Ytihpiejlfdinaaa
open Go Go.ChangeShapes Go.WideShapes Go.ChangeAt Go.RowKit Go.Deep PF Go.Proofs.YtihpiejlfdinaaaW.PrintWords

set_option maxRecDepth 100000 in
theorem open_strs {H : Type} {enc : TypeId × Value → H} {W : World} {v : Value} {d : DataW H} {p : List MemPlace} {base : Nat} (hv : Value.okWide Try.prog W .any base 37 v)
    (h : DataW.Trod enc Try.prog W 0 (fun _ => true) true 37 v d p) : ∃ (A : Option Addr) (c : Nat) (xs : List ByteArray), v = .slice A xs.length c ∧ xs.length ≤ c ∧ Kd.C Kd.string W A xs.length xs := by
  obtain ⟨a1, len, cap, rfl⟩ := okWide_slice Try.underlying37 hv
  obtain ⟨fuel, hf⟩ := h
  rcases open_slice1 Try.underlying37 (by kernel_rfl) hf with ⟨hc, _⟩ | ⟨a, len', cap', m, n, V, D, Pl, hc, _, hlc, hmx, hm, _, hcell⟩
  · simp [Value.cells] at hc
    obtain ⟨rfl, rfl, rfl⟩ := hc
    exact ⟨none, 0, [], rfl, Nat.le_refl _, rfl, Nat.zero_le _, fun h => by cases h⟩
  · simp [Value.cells] at hc
    obtain ⟨rfl, rfl, rfl⟩ := hc
    simp only [if_true] at hm
    have hall : ∀ i, ∃ q : ByteArray, i < len → W.cell? (a.add i) = some (.string q) := by
      intro i
      by_cases hi : i < len
      · obtain ⟨h1, h2⟩ := hcell i (by omega)
        obtain ⟨s, hs, _, _⟩ := DataW.trod_string Try.underlying9 h2
        have hs : V i = .string s := by simpa using hs
        exact ⟨s, fun _ => by rw [h1, hs]⟩
      · exact ⟨ByteArray.empty, fun h => absurd h hi⟩
    obtain ⟨q, hq⟩ := Classical.axiomOfChoice hall
    have hl : ((List.range len).map q).length = len := by simp
    refine ⟨some a, cap, (List.range len).map q, by rw [hl], by rw [hl]; exact hlc, rfl, by rw [hl]; unfold maxLen at hmx; omega, fun _ => ⟨a, rfl, fun j x hx => ?_⟩⟩
    rw [List.getElem?_map, Option.map_eq_some_iff] at hx
    obtain ⟨i, hi, rfl⟩ := hx
    obtain ⟨hi1, hi2⟩ := List.getElem?_eq_some_iff.1 hi
    rw [List.length_range] at hi1
    rw [List.getElem_range] at hi2
    subst hi2
    refine ⟨[.string (q j)], rfl, rfl, fun t u hu => ?_⟩
    cases t with
    | zero =>
      cases hu
      show W.cell? (a.add (j * 1 + 0)) = _
      rw [Nat.mul_one]
      exact hq j hi1
    | succ t => cases hu
end Go.Proofs.Ytihpiejlfdinaaa
