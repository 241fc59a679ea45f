import Derived.Test.YtofkmapokdcphaaQ
namespace Go.Proofs.Ytofkmapokdcphaa
open Go Go.RowKit Go.Maps Go.My Go.Shelf

/-- A tree's nodes from a map's function. -/
def treeL (f : Int → Option Int) : List Nd := (List.range 1024).filterMap fun x : Nat => (f x).map fun c => ((x : Int), c)

theorem results_tree {fn : Func} {p u : Tmp} (h : fn.results = #[.cell p 24, .tmp u]) (tmps : Array Value) (w : World) (g : Nat) (v : Value) (hp : tmps.getD p undef = .pointer (some ⟨g, 0, none⟩)) (hb : Boxed w g 24 v) :
    (results fn tmps).run Try.prog w = .ok (.tuple #[.agg #[v], tmps.getD u undef]) w := by
  have hg : w.heap[g]? = some (.cells #[v] 24 (0, 0)) := hb
  have hl := run_loadVar_row (P := Try.prog) w g 24 24 #[v] (0, 0) _ hg Try.underlying24 rfl (by kernel_rfl)
  rw [results_cell_tmp h, hp]
  simp [asAddr, hl]

theorem sorted_nd_ext {f : Int → Option Int} : ∀ {xs ys : List Nd}, (xs.map (·.1)).Pairwise (· < ·) → (ys.map (·.1)).Pairwise (· < ·) → (∀ x, ofF xs x = ofF ys x) → xs = ys
  | [], [], _, _, _ => rfl
  | [], y :: ys, _, _, h => by have := h y.1; simp [ofF] at this
  | x :: xs, [], _, _, h => by have := h x.1; simp [ofF] at this
  | x :: xs, y :: ys, hx, hy, h => by
    simp only [List.map_cons, List.pairwise_cons] at hx hy
    have lo : ∀ (l : List Nd) (z a : Int), (∀ b ∈ l.map (·.1), a < b) → z ≤ a → ofF l z = none := by
      intro l z a hl hz
      unfold ofF
      rw [List.find?_eq_none.2]
      · rfl
      · intro n hn e
        simp at e
        have := hl n.1 (List.mem_map_of_mem hn)
        omega
    have e1 : x.1 = y.1 := by
      have h1 := h x.1
      have h2 := h y.1
      by_cases c : x.1 < y.1
      · have : ofF (y :: ys) x.1 = none := lo _ _ (y.1 - 1) (by intro b hb; simp only [List.map_cons, List.mem_cons] at hb; rcases hb with rfl | hb; omega; have := hy.1 b hb; omega) (by omega)
        rw [this] at h1; simp [ofF] at h1
      · by_cases c2 : y.1 < x.1
        · have : ofF (x :: xs) y.1 = none := lo _ _ (x.1 - 1) (by intro b hb; simp only [List.map_cons, List.mem_cons] at hb; rcases hb with rfl | hb; omega; have := hx.1 b hb; omega) (by omega)
          rw [this] at h2; simp [ofF] at h2
        · omega
    have e2 : x.2 = y.2 := by
      have h1 := h x.1
      rw [show ofF (x :: xs) x.1 = some x.2 by simp [ofF], e1, show ofF (y :: ys) y.1 = some y.2 by simp [ofF]] at h1
      exact Option.some.inj h1
    have e3 : x = y := Prod.ext e1 e2
    subst e3
    congr 1
    refine sorted_nd_ext (f := f) hx.2 hy.2 fun z => ?_
    by_cases c : z ≤ x.1
    · rw [lo xs z x.1 hx.1 c, lo ys z x.1 hy.1 c]
    · have := h z
      have ne : (x.1 == z) = false := by simp; omega
      simpa [ofF, ne] using this

theorem treeL_sorted (f : Int → Option Int) : ((treeL f).map (·.1)).Pairwise (· < ·) := by
  unfold treeL
  rw [List.pairwise_map]
  refine List.Pairwise.filterMap (R := (· < ·)) _ ?_ List.pairwise_lt_range
  intro a a' hlt b hb b' hb'
  simp only [Option.map_eq_some_iff] at hb hb'
  obtain ⟨c, _, rfl⟩ := hb
  obtain ⟨c', _, rfl⟩ := hb'
  show (a : Int) < (a' : Int)
  omega

theorem mem_treeL {f : Int → Option Int} {n : Nd} : n ∈ treeL f ↔ 0 ≤ n.1 ∧ n.1 < 1024 ∧ f n.1 = some n.2 := by
  unfold treeL
  rw [List.mem_filterMap]
  constructor
  · rintro ⟨a, ha, hn⟩
    rw [Option.map_eq_some_iff] at hn
    obtain ⟨c, hc, rfl⟩ := hn
    have := List.mem_range.1 ha
    exact ⟨by show (0 : Int) ≤ (a : Int); omega, by show (a : Int) < 1024; omega, hc⟩
  · rintro ⟨h0, h1, h2⟩
    refine ⟨n.1.toNat, List.mem_range.2 (by omega), ?_⟩
    rw [show ((n.1.toNat : Nat) : Int) = n.1 by omega, h2]
    rfl

theorem ofF_sorted {xs : List Nd} (h : (xs.map (·.1)).Pairwise (· < ·)) {n : Nd} (hn : n ∈ xs) : ofF xs n.1 = some n.2 := by
  unfold ofF
  cases hf : xs.find? (fun m => m.1 == n.1) with
  | none => have := List.find?_eq_none.1 hf n hn; simp at this
  | some m =>
    have h1 := List.find?_some hf
    have h2 := List.mem_of_find?_eq_some hf
    simp at h1
    have : m = n := by
      rw [List.pairwise_map] at h
      obtain ⟨i, hi, rfl⟩ := List.mem_iff_getElem.1 h2
      obtain ⟨j, hj, rfl⟩ := List.mem_iff_getElem.1 hn
      rcases Nat.lt_trichotomy i j with c | c | c
      · have := List.pairwise_iff_getElem.1 h i j hi hj c; omega
      · subst c; rfl
      · have := List.pairwise_iff_getElem.1 h j i hj hi c; omega
    rw [this]; rfl

theorem ofF_some {xs : List Nd} {x c : Int} (h : ofF xs x = some c) : (x, c) ∈ xs := by
  unfold ofF at h
  rw [Option.map_eq_some_iff] at h
  obtain ⟨n, hn, rfl⟩ := h
  have h1 := List.find?_some hn
  have h2 := List.mem_of_find?_eq_some hn
  simp at h1
  rw [← h1]; exact h2

theorem ofF_treeL (f : Int → Option Int) (hf : ∀ x, (f x).isSome = true → 0 ≤ x ∧ x < 1024) (x : Int) : ofF (treeL f) x = f x := by
  cases h : f x with
  | none =>
    cases h2 : ofF (treeL f) x with
    | none => rfl
    | some c => have := (mem_treeL.1 (ofF_some h2)).2.2; rw [h] at this; cases this
  | some c =>
    have hr := hf x (by simp [h])
    exact ofF_sorted (treeL_sorted f) (n := (x, c)) (mem_treeL.2 ⟨hr.1, hr.2, h⟩)

theorem treeL_uniq {f : Int → Option Int} (hf : ∀ x, (f x).isSome = true → 0 ≤ x ∧ x < 1024) {ys : List Nd} (hs : (ys.map (·.1)).Pairwise (· < ·)) (h : ∀ x, ofF ys x = f x) : ys = treeL f :=
  sorted_nd_ext (f := f) hs (treeL_sorted f) fun x => by rw [h, ofF_treeL f hf]

/-- What a checked tree is. -/
theorem checked {xs : List Nd} (h : checkL xs = 0) : (xs.map (·.1)).Pairwise (· < ·) ∧ ∀ n ∈ xs, 1 ≤ n.1 ∧ n.1 ≤ 1023 ∧ chk n.2 = 0 ∧ n.1 ∈ usedL xs := by
  have hall : ∀ j, j < xs.length → okAt xs j = true := by
    unfold checkL at h
    by_cases q : (List.range xs.length).all (okAt xs) = true
    · intro j hj; exact List.all_eq_true.1 q j (List.mem_range.2 hj)
    · rw [if_neg q] at h; cases h
  have hat : ∀ j (hj : j < xs.length), 1 ≤ xs[j].1 ∧ xs[j].1 ≤ 1023 ∧ (j = 0 ∨ ∃ h : j - 1 < xs.length, xs[j - 1].1 < xs[j].1) ∧ chk xs[j].2 = 0 ∧ xs[j].1 ∈ usedL xs := by
    intro j hj
    have := hall j hj
    unfold okAt at this
    rw [List.getElem?_eq_getElem hj] at this
    have hj' : j - 1 < xs.length := by omega
    simp only [List.getElem?_eq_getElem hj'] at this
    simp only [Bool.and_eq_true, Bool.or_eq_true, decide_eq_true_eq] at this
    obtain ⟨⟨⟨⟨h1, h2⟩, h3⟩, h4⟩, h5⟩ := this
    exact ⟨h1, h2, h3.imp id (fun h => ⟨hj', h⟩), h4, h5⟩
  refine ⟨?_, ?_⟩
  · rw [List.pairwise_map, List.pairwise_iff_getElem]
    intro i j hi hj hij
    induction j with
    | zero => omega
    | succ j ih =>
      obtain ⟨_, _, h3, _⟩ := hat (j + 1) hj
      rcases h3 with h3 | ⟨h3, h4⟩
      · omega
      · simp only [Nat.add_sub_cancel] at h4
        by_cases e : i = j
        · subst e; exact h4
        · have := ih (by omega) (by omega); omega
  · intro n hn
    obtain ⟨j, hj, rfl⟩ := List.mem_iff_getElem.1 hn
    obtain ⟨h1, h2, _, h4, h5⟩ := hat j hj
    exact ⟨h1, h2, h4, h5⟩

theorem checked_range {xs : List Nd} (h : checkL xs = 0) (x : Int) (hx : (ofF xs x).isSome = true) : 1 ≤ x ∧ x ≤ 1023 := by
  obtain ⟨c, hc⟩ := Option.isSome_iff_exists.1 hx
  have := (checked h).2 _ (ofF_some hc)
  exact ⟨this.1, this.2.1⟩
end Go.Proofs.Ytofkmapokdcphaa
