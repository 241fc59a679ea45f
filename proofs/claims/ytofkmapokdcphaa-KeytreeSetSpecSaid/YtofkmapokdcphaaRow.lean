/- Proved: KeytreeExchangeSaid. For every tree, every pair of devices, every public key and every path, the law KeytreeExchange returns true, does not panic, and leaves what the caller's memory held as it was.
   Conditions: none beyond the statement's own (every memory that lays out the arguments as the statement says). -/
import Derived.Test.YtofkmapokdcphaaEx
import Derived.Test.YtofkmapokdcphaaRows
import Derived.Deep.SlicePairs
import Derived.ProofKit
namespace Go.Proofs.Ytofkmapokdcphaa
open Go Go.ChangeShapes Go.WideShapes Go.ChangeAt Go.RowKit Go.Maps Go.My Go.Deep

theorem Try.own : ownKnob Try.prog.godebug = none := by kernel_rfl
theorem Try.laidOut : laidOutB Try.prog = true := by kernel_rfl

set_option maxRecDepth 100000 in
/-- A tree that came in. -/
theorem open_tree {H : Type} {enc : TypeId × Value → H} {W : World} {v : Value} {d : DataW H} {p : List MemPlace} {base : Nat} (hv : Value.okWide Try.prog W .any base 24 v)
    (h : DataW.Trod enc Try.prog W 0 (fun _ => true) true 24 v d p) : ∃ xs, TreeAt W v xs := by
  obtain ⟨cs, rfl, hcs⟩ := okWide_struct Try.underlying24 hv
  rw [show Try.prog.cellsOf 24 = 1 by kernel_rfl] at hcs
  obtain ⟨c, rfl⟩ : ∃ c, cs = #[c] := by
    match cs, hcs with
    | ⟨[c]⟩, _ => exact ⟨c, rfl⟩
  obtain ⟨fuel, hf⟩ := h
  obtain ⟨ys, n, _, _, _, hl, hx⟩ := DataW.trod_struct Try.underlying24 hf
  have h0 := hx 0 _ rfl
  have e22 : DataW.trod enc Try.prog W 0 (fun _ => true) true n 22 [c] = ys[0]? := by
    rw [← h0]
    congr 1
  have hy : ∃ y, ys[0]? = some y := ⟨_, List.getElem?_eq_getElem (by rw [hl]; decide)⟩
  obtain ⟨y, hy⟩ := hy
  rw [hy] at e22
  rcases open_slice_pairs Try.underlying22 Try.underlying48 (by kernel_rfl) rfl rfl (by kernel_rfl) (by kernel_rfl) e22 with ⟨hc, _⟩ | ⟨a, len, cap, m, n', V0, V1, D0, D1, P0, P1, hc, _, hlc, _, hm, _, hcell⟩
  · obtain rfl : c = .slice none 0 0 := by simpa using hc
    exact ⟨[], none, 0, rfl, ⟨0, 0, .inr rfl, fun i n h => by cases h⟩, fun n h => by cases h⟩
  · obtain rfl : c = .slice (some a) len cap := by simpa using hc
    simp only [if_true] at hm
    have hint : ∀ i, i < len → ∃ x y : Int, V0 i = .int .i64 x ∧ V1 i = .int .i64 y ∧ (Lit.int .i64 x).wf = true ∧ (Lit.int .i64 y).wf = true := by
      intro i hi
      obtain ⟨_, _, t0, t1⟩ := hcell i (by omega)
      obtain ⟨x, hx1, _, hx2⟩ := DataW.trod_int Try.underlying3 t0
      obtain ⟨y, hy1, _, hy2⟩ := DataW.trod_int Try.underlying3 t1
      exact ⟨x, y, by simpa using hx1, by simpa using hy1, hx2, hy2⟩
    obtain ⟨b, off, spot⟩ := a
    by_cases hl0 : len = 0
    · subst hl0
      exact ⟨[], _, cap, rfl, ⟨0, 0, .inr rfl, fun i n h => by cases h⟩, fun n h => by cases h⟩
    · have hspot : spot = none := by
        have := World.cell?_spot (hcell 0 (by omega)).1
        simpa [Addr.add] using this
      subst hspot
      have hall : ∀ i, ∃ q : Nd, i < len → V0 i = .int .i64 q.1 ∧ V1 i = .int .i64 q.2 ∧ (Lit.int .i64 q.1).wf = true ∧ (Lit.int .i64 q.2).wf = true := by
        intro i
        by_cases hi : i < len
        · obtain ⟨x, y, h1, h2, h3, h4⟩ := hint i hi
          exact ⟨(x, y), fun _ => ⟨h1, h2, h3, h4⟩⟩
        · exact ⟨(0, 0), fun h => absurd h hi⟩
      obtain ⟨q, hq⟩ := Classical.axiomOfChoice hall
      refine ⟨(List.range len).map q, some ⟨b, off, none⟩, cap, by simp, ⟨b, off, .inl rfl, fun i n hn => ?_⟩, fun n hn => ?_⟩
      · rw [List.getElem?_map, Option.map_eq_some_iff] at hn
        obtain ⟨j, hj, rfl⟩ := hn
        obtain ⟨hj1, hj2⟩ := List.getElem?_eq_some_iff.1 hj
        rw [List.length_range] at hj1
        rw [List.getElem_range] at hj2
        subst hj2
        obtain ⟨g0, g1, _, _⟩ := hcell i (by omega)
        obtain ⟨q0, q1, _, _⟩ := hq i hj1
        rw [q0] at g0
        rw [q1] at g1
        have ad : ∀ k, (⟨b, off, none⟩ : Addr).add k = ⟨b, off + k, none⟩ := fun k => by
          cases k with
          | zero => rfl
          | succ k => simp [Addr.add]
        rw [ad] at g0 g1
        exact ⟨g0, g1⟩
      · obtain ⟨j, hj, rfl⟩ := List.mem_map.1 hn
        obtain ⟨_, _, w0, w1⟩ := hq j (List.mem_range.1 hj)
        exact ⟨w0, w1⟩

/-- All arguments read behind the call as they read before. -/
theorem trodAll_below {H : Type} {enc : TypeId × Value → H} {W W' : World} (hB : Below W.heap.size W W') : ∀ {ts : List TypeId} {vs : List Value} {ds : List (DataW H)} {ps : List MemPlace},
    (∀ t ∈ ts, Try.prog.readableRec t = true ∧ t < Try.prog.types.size) → (∀ x ∈ ps, x.block < W.heap.size) → DataW.TrodAll enc Try.prog W 0 (fun _ => true) true ts vs ds ps → DataW.TrodAll enc Try.prog W' 0 (fun b => decide (b < W.heap.size)) true ts vs ds ps
  | [], vs, ds, ps, _, _, h => by
    cases vs <;> cases ds <;> first | exact h | exact h.elim
  | t :: ts, [], _, _, _, _, h => h.elim
  | t :: ts, _ :: _, [], _, _, _, h => h.elim
  | t :: ts, v :: vs, d :: ds, ps, hr, hlt, h => by
    obtain ⟨p, q, h1, h2, rfl⟩ := h
    exact ⟨p, q, Below.trod Try.laidOut (hr t (by simp)).1 (hr t (by simp)).2 h1 hB (fun x hx => hlt x (List.mem_append_left _ hx)), trodAll_below hB (fun t ht => hr t (by simp [ht])) (fun x hx => hlt x (List.mem_append_right _ hx)) h2, rfl⟩

theorem trodAll_five {H : Type} {enc : TypeId × Value → H} {P : Program} {w : World} {base : Nat} {spare : Nat → Bool} {held : Bool} {t t' t'' t3 t4 : TypeId} {args : Array Value} {ds : List (DataW H)} {ps : List MemPlace}
    (h : DataW.TrodAll enc P w base spare held [t, t', t'', t3, t4] args.toList ds ps) :
    ∃ v v' v'' v3 v4 d d' d'' d3 d4 p p' p'' p3 p4, args = #[v, v', v'', v3, v4] ∧ ds = [d, d', d'', d3, d4] ∧ DataW.Trod enc P w base spare held t v d p ∧ DataW.Trod enc P w base spare held t' v' d' p' ∧ DataW.Trod enc P w base spare held t'' v'' d'' p'' ∧ DataW.Trod enc P w base spare held t3 v3 d3 p3 ∧ DataW.Trod enc P w base spare held t4 v4 d4 p4 := by
  obtain ⟨v, vs, d, ds', p, q, hargs, rfl, rfl, hd, hrest⟩ := trodAll_cons h
  obtain ⟨v', vs', d', ds'', p', q', rfl, rfl, rfl, hd', hrest'⟩ := trodAll_cons hrest
  obtain ⟨v'', vs'', d'', ds''', p'', q'', rfl, rfl, rfl, hd'', hrest''⟩ := trodAll_cons hrest'
  obtain ⟨v3, vs3, d3, ds3, p3, q3, rfl, rfl, rfl, hd3, hrest3⟩ := trodAll_cons hrest''
  obtain ⟨v4, vs4, d4, ds4, p4, q4, rfl, rfl, rfl, hd4, hrest4⟩ := trodAll_cons hrest3
  obtain ⟨rfl, rfl, rfl⟩ := trodAll_nil hrest4
  exact ⟨v, v', v'', v3, v4, d, d', d'', d3, d4, p, p', p'', p3, p4, by cases args; simp_all, rfl, hd, hd', hd'', hd3, hd4⟩

set_option maxRecDepth 100000 in
theorem exchange_lifted (os : Os) (started : os.Started) (H : Type) (enc : TypeId × Value → H) :
    ReturnsInHanded {} Try.checked os 6 .any (Rows.keytreeExchangeSpec.pre6 enc Try.prog Try.f6 Rows.keytreeExchangeRow.domain false) (Rows.keytreeExchangeSpec.post enc Try.prog Try.f6 false true false false) := by
  refine returnsInHanded_of_change (C := Try.checked) Try.own started (by kernel_rfl) Try.func6
    (ChangeSpec.witness6 (enc := enc) (C := Try.checked) false ⟨#[], #[.agg #[.slice none 0 0], .int .i64 0, .int .i64 0, .int .i64 0, .int .i64 0], []⟩ 8 (by kernel_rfl) (by kernel_rfl) (by kernel_rfl) (by kernel_rfl)) ?_
  intro W base args ds gs before hval0 hW hcnd _
  have hval : ∀ (j : Nat) t v, Try.f6.params[j]? = some t → args[j]? = some v → Value.okWide Try.prog W .any base t v := hval0
  have hW' := hW
  obtain ⟨p, q, hA0, hV, rfl, hfz, hnd⟩ := hW
  have hA : DataW.TrodAll enc Try.prog W 0 (fun _ => true) true Try.f6.params.toList args.toList ds p := hA0
  obtain ⟨rfl, rfl⟩ := trodVars_none hV
  rw [Try.params6] at hA hval
  have hAA := hA
  obtain ⟨v0, v1, v2, v3, v4, d0, d1, d2, d3, d4, p0, p1, p2, p3, p4, rfl, rfl, h0, h1, h2, h3, h4⟩ := trodAll_five hA
  obtain ⟨xs, ht⟩ := open_tree (hval 0 24 v0 rfl rfl) h0
  obtain ⟨a, rfl, rfl, rfl, wa⟩ := open_int Try.underlying3 (hval 1 3 v1 rfl rfl) h1
  obtain ⟨b, rfl, rfl, rfl, wb⟩ := open_int Try.underlying3 (hval 2 3 v2 rfl rfl) h2
  obtain ⟨x, rfl, rfl, rfl, wx⟩ := open_int Try.underlying3 (hval 3 3 v3 rfl rfl) h3
  obtain ⟨y, rfl, rfl, rfl, wy⟩ := open_int Try.underlying3 (hval 4 3 v4 rfl rfl) h4
  refine (exchange_any v0 xs a b x y W ht wa wb wx wy).mono fun e W' ⟨he, hB⟩ => ?_
  subst he
  have hlt : ∀ z ∈ p, z.block < W.heap.size := fun z hz => by simpa using hW'.lt z (List.mem_append_left _ hz)
  exact ⟨_, rfl, ⟨_, _, _, [], p, [], hW', trodAll_mk1 (shut_bool Try.underlying4 true), trodAll_below hB (by intro t ht; simp at ht; rcases ht with rfl | rfl <;> exact ⟨by kernel_rfl, of_decide_eq_true (by kernel_rfl)⟩) hlt hAA, (show ([] : List MemPlace) = [] from rfl), hB.frame _, fun h => by cases h⟩⟩

theorem keytreeExchange_holds : Rows.KeytreeExchangeSaid :=
  OpenClaim.holds_of_wide 6 Try.f6 rfl rfl rfl rfl rfl rfl rfl ⟨rfl, rfl, rfl, rfl, rfl⟩ rfl rfl rfl rfl rfl (by kernel_rfl) Try.func6 (by kernel_rfl)
    (of_decide_eq_true (by kernel_rfl)) (by unfold Func.isWrapper; first | (rw [if_pos (by decide +kernel)]; kernel_rfl) | (rw [if_neg (by decide +kernel)]; exact ⟨rfl, rfl⟩))
    (fun os started H enc _ => exchange_lifted os started H enc)
end Go.Proofs.Ytofkmapokdcphaa
