import Derived.Test.YtihpiejlfdinaaaPz
import Derived.Test.YtihpiejlfdinaaaRows
import Derived.Deep.SlicePairs
import Derived.ProofKit
/-
  A list of places that came in; a place that came in; what the callers' rows share.
-/
namespace Go.Proofs.Ytihpiejlfdinaaa
open Go Go.ChangeShapes Go.WideShapes Go.ChangeAt Go.RowKit Go.Deep PF Go.Proofs.YtihpiejlfdinaaaW.PrintWords

theorem Try.own : ownKnob Try.prog.godebug = none := by kernel_rfl
theorem Try.laidOut : laidOutB Try.prog = true := by kernel_rfl

set_option maxRecDepth 100000 in
/-- The five cells of a place that came in. -/
theorem place_cells {H : Type} {enc : TypeId × Value → H} {W : World} {base : Nat} {spare : Nat → Bool} {held : Bool} {fuel : Nat} {cs : List Value} {x : DataW H × List MemPlace}
    (h : DataW.trod enc Try.prog W base spare held fuel 29 cs = some x) :
    ∃ q : S29, cs = [.int .i64 q.f0, .int .i64 q.f1, .int .i64 q.f2, .int .i64 q.f3, .string q.f4] ∧ (Lit.int .i64 q.f0).wf = true ∧ (Lit.int .i64 q.f1).wf = true ∧ (Lit.int .i64 q.f2).wf = true ∧ (Lit.int .i64 q.f3).wf = true := by
  obtain ⟨ys, n, _, _, hlen, hl, hx⟩ := DataW.trod_struct Try.underlying29 h
  rw [show Try.prog.cellsOf 29 = 5 by kernel_rfl] at hlen
  match cs, hlen with
  | [c0, c1, c2, c3, c4], _ =>
    have hy : ∀ i, i < 5 → ∃ y, ys[i]? = some y := fun i hi => ⟨_, List.getElem?_eq_getElem (by rw [hl]; exact hi)⟩
    have g0 : DataW.trod enc Try.prog W base spare held n 3 [c0] = ys[0]? := by
      rw [← hx 0 _ rfl]
      congr 1
    have g1 : DataW.trod enc Try.prog W base spare held n 3 [c1] = ys[1]? := by
      rw [← hx 1 _ rfl]
      congr 1
    have g2 : DataW.trod enc Try.prog W base spare held n 3 [c2] = ys[2]? := by
      rw [← hx 2 _ rfl]
      congr 1
    have g3 : DataW.trod enc Try.prog W base spare held n 3 [c3] = ys[3]? := by
      rw [← hx 3 _ rfl]
      congr 1
    have g4 : DataW.trod enc Try.prog W base spare held n 9 [c4] = ys[4]? := by
      rw [← hx 4 _ rfl]
      congr 1
    obtain ⟨y0, h0⟩ := hy 0 (by omega)
    obtain ⟨y1, h1⟩ := hy 1 (by omega)
    obtain ⟨y2, h2⟩ := hy 2 (by omega)
    obtain ⟨y3, h3⟩ := hy 3 (by omega)
    obtain ⟨y4, h4⟩ := hy 4 (by omega)
    rw [h0] at g0
    rw [h1] at g1
    rw [h2] at g2
    rw [h3] at g3
    rw [h4] at g4
    obtain ⟨x0, k0, _, w0⟩ := DataW.trod_int Try.underlying3 g0
    obtain ⟨x1, k1, _, w1⟩ := DataW.trod_int Try.underlying3 g1
    obtain ⟨x2, k2, _, w2⟩ := DataW.trod_int Try.underlying3 g2
    obtain ⟨x3, k3, _, w3⟩ := DataW.trod_int Try.underlying3 g3
    obtain ⟨x4, k4, _, _⟩ := DataW.trod_string Try.underlying9 g4
    simp only [List.cons.injEq, and_true] at k0 k1 k2 k3 k4
    subst k0 k1 k2 k3 k4
    exact ⟨⟨x0, x1, x2, x3, x4⟩, rfl, w0, w1, w2, w3⟩

set_option maxRecDepth 100000 in
/-- A list of places that came in. -/
theorem open_places {H : Type} {enc : TypeId × Value → H} {W : World} {v : Value} {d : DataW H} {p : List MemPlace} {base : Nat} (hv : Value.okWide Try.prog W .any base 22 v)
    (h : DataW.Trod enc Try.prog W 0 (fun _ => true) true 22 v d p) : ∃ (A : Option Addr) (c : Nat) (xs : List S29), v = .slice A xs.length c ∧ xs.length ≤ c ∧ Kd.C k29 W A xs.length xs := by
  obtain ⟨a1, len, cap, rfl⟩ := okWide_slice Try.underlying22 hv
  obtain ⟨fuel, hf⟩ := h
  rcases open_slice Try.underlying22 hf with ⟨hc, _⟩ | ⟨a, len', cap', m, n, D, Pl, hc, _, hlc, hmx, hm, _, hcell⟩
  · simp [Value.cells] at hc
    obtain ⟨rfl, rfl, rfl⟩ := hc
    exact ⟨none, 0, [], rfl, Nat.le_refl _, rfl, Nat.zero_le _, fun h => by cases h⟩
  · simp [Value.cells] at hc
    obtain ⟨rfl, rfl, rfl⟩ := hc
    simp only [if_true] at hm
    have e5 : Try.prog.cellsOf 29 = 5 := by kernel_rfl
    rw [e5] at hcell
    have hall : ∀ i, ∃ q : S29, i < len → ∀ j u, [Value.int .i64 q.f0, .int .i64 q.f1, .int .i64 q.f2, .int .i64 q.f3, .string q.f4][j]? = some u → W.cell? (a.add (i * 5 + j)) = some u := by
      intro i
      by_cases hi : i < len
      · obtain ⟨cs', h1, h2⟩ := hcell i (by omega)
        obtain ⟨q, rfl, _⟩ := place_cells h2
        obtain ⟨_, hlen, hc⟩ := World.cells?_some h1
        refine ⟨q, fun _ j u hu => ?_⟩
        have hj := (List.getElem?_eq_some_iff.1 hu).1
        have := hc j (by omega)
        rw [Deep.add_add] at this
        rw [this]
        exact hu
      · exact ⟨z29, fun h => absurd h hi⟩
    obtain ⟨q, hq⟩ := Classical.axiomOfChoice hall
    have hl : ((List.range len).map q).length = len := by simp
    refine ⟨some a, cap, (List.range len).map q, by rw [hl], by rw [hl]; exact hlc, rfl, by rw [hl]; unfold maxLen at hmx; omega, fun _ => ⟨a, rfl, fun j x hx => ?_⟩⟩
    rw [List.getElem?_map, Option.map_eq_some_iff] at hx
    obtain ⟨i, hi, rfl⟩ := hx
    obtain ⟨hi1, hi2⟩ := List.getElem?_eq_some_iff.1 hi
    rw [List.length_range] at hi1
    rw [List.getElem_range] at hi2
    subst hi2
    exact ⟨_, rfl, k29_mk W (q j), hq j hi1⟩

set_option maxRecDepth 100000 in
/-- A place that came in. -/
theorem open_place {H : Type} {enc : TypeId × Value → H} {W : World} {v : Value} {d : DataW H} {p : List MemPlace} {base : Nat} (hv : Value.okWide Try.prog W .any base 29 v)
    (h : DataW.Trod enc Try.prog W 0 (fun _ => true) true 29 v d p) : ∃ q : S29, v = .agg #[.int .i64 q.f0, .int .i64 q.f1, .int .i64 q.f2, .int .i64 q.f3, .string q.f4] ∧ (Lit.int .i64 q.f0).wf = true ∧ (Lit.int .i64 q.f1).wf = true ∧ (Lit.int .i64 q.f2).wf = true ∧ (Lit.int .i64 q.f3).wf = true := by
  obtain ⟨cs, rfl, hcs⟩ := okWide_struct Try.underlying29 hv
  obtain ⟨fuel, hf⟩ := h
  obtain ⟨q, e, hw⟩ := place_cells hf
  refine ⟨q, ?_, hw⟩
  obtain ⟨l⟩ := cs
  have e : l = _ := e
  rw [e]

set_option maxRecDepth 100000 in
/-- All arguments read behind the call as they read before. -/
theorem trodAll_below {H : Type} {enc : TypeId × Value → H} {W W' : World} (hB : Below W.heap.size W W') : ∀ {ts : List TypeId} {vs : List Value} {ds : List (DataW H)} {ps : List MemPlace},
    (∀ t ∈ ts, Try.prog.readableRec t = true ∧ t < Try.prog.types.size) → (∀ x ∈ ps, x.block < W.heap.size) → DataW.TrodAll enc Try.prog W 0 (fun _ => true) true ts vs ds ps → DataW.TrodAll enc Try.prog W' 0 (fun b => decide (b < W.heap.size)) true ts vs ds ps
  | [], vs, ds, ps, _, _, h => by
    cases vs <;> cases ds <;> first | exact h | exact h.elim
  | t :: ts, [], _, _, _, _, h => h.elim
  | t :: ts, _ :: _, [], _, _, _, h => h.elim
  | t :: ts, v :: vs, d :: ds, ps, hr, hlt, h => by
    obtain ⟨p, q, h1, h2, rfl⟩ := h
    exact ⟨p, q, Below.trod Try.laidOut (hr t (by simp)).1 (hr t (by simp)).2 h1 hB (fun x hx => hlt x (List.mem_append_left _ hx)), trodAll_below hB (fun t ht => hr t (by simp [ht])) (fun x hx => hlt x (List.mem_append_right _ hx)) h2, rfl⟩
end Go.Proofs.Ytihpiejlfdinaaa
