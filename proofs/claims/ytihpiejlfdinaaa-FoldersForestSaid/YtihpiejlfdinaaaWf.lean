import Derived.Test.YtihpiejlfdinaaaWb
import Derived.Test.YtihpiejlfdinaaaWc
import Derived.Laws.IdiomCopy
import Derived.Shelf.SlicesE.Clone
import Derived.Shelf.SlicesQ.IndexFunc
import Derived.Shelf.SlicesE.DeleteFunc
import Derived.Lib.SliceRun
import Derived.Laws.OwnMore
import Derived.Sort.OwnSorted
import Derived.Shelf.SlSortCmp.NoneTotal
namespace Go.Proofs.Ytihpiejlfdinaaa.PF
open Go Go.RowKit Go.Maps Go.My Go.Sort

instance : Inhabited S29 := ⟨z29⟩

/-- A place's cells. -/
def cellsOf (x : S29) : List Value := [.int .i64 x.f0, .int .i64 x.f1, .int .i64 x.f2, .int .i64 x.f3, .string x.f4]
theorem cellsOf_one (x : S29) : ∀ v ∈ cellsOf x, v.oneCell' = true := by
  intro v hv
  simp [cellsOf] at hv
  rcases hv with rfl | rfl | rfl | rfl | rfl <;> rfl

/-- Block g begins with these places; none of their cells is frozen. -/
def RowAt (w : World) (g : Nat) (xs : List S29) : Prop :=
  g < w.heap.size ∧ ∀ j x, xs[j]? = some x → ∀ i v, (cellsOf x)[i]? = some v → w.cell? ⟨g, j * 5 + i, none⟩ = some v ∧ w.frozen? ⟨g, j * 5 + i, none⟩ = false

theorem RowAt.get {w : World} {g : Nat} {xs : List S29} (h : RowAt w g xs) {j : Nat} {x : S29} (hx : xs[j]? = some x) :
    w.cell? ⟨g, j * 5, none⟩ = some (.int .i64 x.f0) ∧ w.cell? ⟨g, j * 5 + 1, none⟩ = some (.int .i64 x.f1) ∧ w.cell? ⟨g, j * 5 + 2, none⟩ = some (.int .i64 x.f2) ∧ w.cell? ⟨g, j * 5 + 3, none⟩ = some (.int .i64 x.f3) ∧ w.cell? ⟨g, j * 5 + 4, none⟩ = some (.string x.f4) :=
  ⟨(h.2 j x hx 0 _ rfl).1, (h.2 j x hx 1 _ rfl).1, (h.2 j x hx 2 _ rfl).1, (h.2 j x hx 3 _ rfl).1, (h.2 j x hx 4 _ rfl).1⟩
theorem RowAt.fro {w : World} {g : Nat} {xs : List S29} (h : RowAt w g xs) {j : Nat} {x : S29} (hx : xs[j]? = some x) :
    w.frozen? ⟨g, j * 5, none⟩ = false ∧ w.frozen? ⟨g, j * 5 + 1, none⟩ = false ∧ w.frozen? ⟨g, j * 5 + 2, none⟩ = false ∧ w.frozen? ⟨g, j * 5 + 3, none⟩ = false ∧ w.frozen? ⟨g, j * 5 + 4, none⟩ = false :=
  ⟨(h.2 j x hx 0 _ rfl).2, (h.2 j x hx 1 _ rfl).2, (h.2 j x hx 2 _ rfl).2, (h.2 j x hx 3 _ rfl).2, (h.2 j x hx 4 _ rfl).2⟩
theorem frozen_block {w w' : World} {a : Addr} (h : w'.heap[a.block]? = w.heap[a.block]?) : w'.frozen? a = w.frozen? a := by
  unfold World.frozen?
  rw [h]
theorem RowAt.block {w w' : World} {g : Nat} {xs : List S29} (h : RowAt w g xs) (hs : w.heap.size ≤ w'.heap.size) (hb : w'.heap[g]? = w.heap[g]?) : RowAt w' g xs :=
  ⟨Nat.lt_of_lt_of_le h.1 hs, fun j x hx i v hv => ⟨(World.cell?_of_block hb).trans (h.2 j x hx i v hv).1, (frozen_block (a := ⟨g, j * 5 + i, none⟩) hb).trans (h.2 j x hx i v hv).2⟩⟩
theorem RowAt.chg {S : Nat → Prop} {w w' : World} {g : Nat} {xs : List S29} (h : RowAt w g xs) (hC : Chg S w w') (hS : ¬ S g) : RowAt w' g xs := h.block hC.size (hC.same g h.1 hS)
theorem RowAt.below {w w' : World} {g : Nat} {xs : List S29} (h : RowAt w g xs) (hB : Below w.heap.size w w') : RowAt w' g xs := h.block hB.size (hB.block g h.1)
theorem RowAt.take {w : World} {g : Nat} {xs : List S29} (h : RowAt w g xs) (m : Nat) : RowAt w g (xs.take m) :=
  ⟨h.1, fun j x hx => h.2 j x (by
    rw [List.getElem?_take] at hx
    split at hx
    · exact hx
    · cases hx)⟩
/-- A store of a place. -/
theorem RowAt.set {w : World} {g : Nat} {xs : List S29} (h : RowAt w g xs) {i : Nat} (hi : i < xs.length) (x : S29) : RowAt (w.setCells g (i * 5) (cellsOf x)) g (xs.set i x) := by
  refine ⟨by rw [size_setCells]; exact h.1, fun j y hy t v hv => ⟨?_, ?_⟩⟩
  · have ht : t < 5 := (List.getElem?_eq_some_iff.1 hv).1
    by_cases e : j = i
    · subst e
      rw [List.getElem?_set_self hi] at hy
      cases hy
      have := World.cell?_setCells_in g (cellsOf x) (j * 5) w (fun k hk => by
        obtain ⟨z, hz⟩ : ∃ z, xs[j]? = some z := ⟨_, List.getElem?_eq_getElem hi⟩
        have hk' : k < 5 := hk
        obtain ⟨u, hu⟩ : ∃ u, (cellsOf z)[k]? = some u := ⟨_, List.getElem?_eq_getElem (by simpa [cellsOf] using hk')⟩
        rw [(h.2 j z hz k u hu).1]; rfl) t (by simpa [cellsOf] using ht)
      rw [this, ← hv, List.getElem?_eq_getElem]
    · rw [List.getElem?_set_ne (by omega)] at hy
      rw [World.cell?_setCells_out g _ _ _ _ (fun _ _ => by
        show j * 5 + t < i * 5 ∨ i * 5 + 5 ≤ j * 5 + t
        omega)]
      exact (h.2 j y hy t v hv).1
  · rw [World.frozen?_setCells]
    by_cases e : j = i
    · subst e
      obtain ⟨z, hz⟩ : ∃ z, xs[j]? = some z := ⟨_, List.getElem?_eq_getElem hi⟩
      have ht : t < 5 := (List.getElem?_eq_some_iff.1 hv).1
      obtain ⟨u, hu⟩ : ∃ u, (cellsOf z)[t]? = some u := ⟨_, List.getElem?_eq_getElem (by simpa [cellsOf] using ht)⟩
      exact (h.2 j z hz t u hu).2
    · rw [List.getElem?_set_ne (by omega)] at hy
      exact (h.2 j y hy t v hv).2
theorem chg_setCells {g : Nat} : ∀ (vs : List Value) (o : Nat) (w : World), Chg (fun k => k = g) w (w.setCells g o vs)
  | [], _, _ => Chg.refl _ _
  | v :: vs, o, w => by
    have h1 : Chg (fun k => k = g) w (w.setCell ⟨g, o, none⟩ v) := Chg.setCell (p := ⟨g, o, none⟩) (Chg.refl (fun k => k = g) w) (.inl rfl) v
    exact h1.trans (chg_setCells vs (o + 1) _) (fun i h => .inl h)
/-- Cells behind the row have turned. -/
theorem RowAt.behind {w : World} {g : Nat} {xs : List S29} (h : RowAt w g xs) (o : Nat) (ho : xs.length * 5 ≤ o) (vs : List Value) : RowAt (w.setCells g o vs) g xs := by
  refine ⟨by rw [size_setCells]; exact h.1, fun j x hx i v hv => ⟨?_, by rw [World.frozen?_setCells]; exact (h.2 j x hx i v hv).2⟩⟩
  have hj := (List.getElem?_eq_some_iff.1 hx).1
  have hi : i < 5 := (List.getElem?_eq_some_iff.1 hv).1
  rw [World.cell?_setCells_out g _ _ _ _ (fun _ _ => by
    left
    show j * 5 + i < o
    omega)]
  exact (h.2 j x hx i v hv).1

theorem clo44 (x : S29) (w : World) : Calls Try.prog 44 #[x.val] w fun e w' => e = .returned (.bool (!x.ok)) ∧ Below w.heap.size w w' := by
  have H := Lib.hid (check16 x (w.alloc (.cells #[.int .i64 x.f0, .int .i64 x.f1, .int .i64 x.f2, .int .i64 x.f3, .string x.f4] 29)))
  obtain ⟨b, hb⟩ : ∃ b, b = x.ok := ⟨_, rfl⟩
  rw [← hb] at H ⊢
  unfold S29.val at H ⊢
  have HB := Lib.hid hb
  clear hb
  obtain ⟨t, d, f, p, n⟩ := x
  simp only [] at H ⊢
  cases b with
  | true =>
    go_enter Try.func44, Try.ntmps44
    go_wp2_with (go_at_call 16; refine H.out.mono ?_; rintro e w' ⟨rfl, hB⟩)
    go_ret
    exact ⟨rfl, ((Below.refl _ w).alloc (Nat.le_refl _) _).trans (hB.mono (by simp))⟩
  | false =>
    go_enter Try.func44, Try.ntmps44
    go_wp2_with (go_at_call 16; refine H.out.mono ?_; rintro e w' ⟨rfl, hB⟩)
    go_ret
    exact ⟨rfl, ((Below.refl _ w).alloc (Nat.le_refl _) _).trans (hB.mono (by simp))⟩

/-! ### slices.DeleteFunc at places -/

/-- The loop's state: the row ys, i places kept of the first j. -/
structure DelInv (xs ys : List S29) (i j : Nat) : Prop where
  len : ys.length = xs.length
  le : i ≤ j
  kept : ys.take i = (xs.take j).filter S29.ok
  rest : ys.drop j = xs.drop j

theorem DelInv.lenI {xs ys : List S29} {i j : Nat} (h : DelInv xs ys i j) (hj : j ≤ xs.length) : i = ((xs.take j).filter S29.ok).length := by
  rw [← h.kept, List.length_take, h.len]; have := h.le; omega
theorem DelInv.keep {xs ys : List S29} {i j : Nat} {x : S29} (h : DelInv xs ys i j) (hx : xs[j]? = some x) (hok : x.ok = true) : DelInv xs (ys.set i x) (i + 1) (j + 1) where
  len := by rw [List.length_set]; exact h.len
  le := by have := h.le; omega
  kept := by
    have hj := (List.getElem?_eq_some_iff.1 hx).1
    have hi : i < ys.length := by rw [h.len]; have := h.le; omega
    rw [take_snoc hx, List.filter_append, ← h.kept, take_snoc (n := x) (by rw [List.getElem?_set_self hi]), List.take_set_of_le (Nat.le_refl _)]
    simp [hok]
  rest := by
    rw [List.drop_set_of_lt (by have := h.le; omega), ← List.drop_drop, h.rest, List.drop_drop]
theorem DelInv.skip {xs ys : List S29} {i j : Nat} {x : S29} (h : DelInv xs ys i j) (hx : xs[j]? = some x) (hok : x.ok = false) : DelInv xs ys i (j + 1) where
  len := h.len
  le := by have := h.le; omega
  kept := by rw [take_snoc hx, List.filter_append, ← h.kept]; simp [hok]
  rest := by rw [← List.drop_drop, h.rest, List.drop_drop]
theorem DelInv.at_ {xs ys : List S29} {i j : Nat} {x : S29} (h : DelInv xs ys i j) (hx : xs[j]? = some x) : ys[j]? = some x := by
  have := congrArg (fun l => l[0]?) h.rest
  simp only [List.getElem?_drop, Nat.add_zero] at this
  rw [this, hx]

theorem clear_run (w : World) (g o n c : Nat) (ty : TypeId) (hn : 0 < n) (hc : ∀ j, j < n * 5 → (w.cell? ⟨g, o + j, none⟩).isSome = true) (hf : ∀ j, j < n * 5 → w.frozen? ⟨g, o + j, none⟩ = false) :
    ∃ vs, (Builtin.clear_ #[22] ty #[.slice (some ⟨g, o, none⟩) n c]).run Try.prog w = .ok (.tuple #[]) (w.setCells g o vs) := by
  have hz : (S29.val z29).cells = #[.int .i64 0, .int .i64 0, .int .i64 0, .int .i64 0, .string ⟨#[]⟩] := rfl
  have hl : (Builtin.zeroCells (S29.val z29).cells n).toList.length = n * 5 := by
    rw [hz]; simp [Builtin.zeroCells]
  have h1 : ∀ v ∈ (Builtin.zeroCells (S29.val z29).cells n).toList, v.oneCell' = true := by
    intro v hv
    rw [hz] at hv
    simp only [Builtin.zeroCells, Array.toList_map, List.mem_map] at hv
    obtain ⟨t, _, rfl⟩ := hv
    have : t % 5 < 5 := Nat.mod_lt _ (by omega)
    simp only [List.size_toArray, List.length_cons, List.length_nil]
    match t % (0 + 1 + 1 + 1 + 1 + 1), this with
    | 0, _ | 1, _ | 2, _ | 3, _ | 4, _ => rfl
  have hst := run_storeCells_cells (P := Try.prog) g o (Builtin.zeroCells (S29.val z29).cells n).toList 0 w (by rw [hl]; simpa using hc) (by rw [hl]; simpa using hf) h1
  simp only [Nat.add_zero] at hst
  obtain ⟨m, rfl⟩ : ∃ m, n = m + 1 := ⟨n - 1, by omega⟩
  refine ⟨(Builtin.zeroCells (S29.val z29).cells (m + 1)).toList, ?_⟩
  have hst' : Sem.run Try.prog (storeCells ⟨g, o, none⟩ (Builtin.zeroCells (Value.agg #[.int .i64 0, .int .i64 0, .int .i64 0, .int .i64 0, .string ⟨#[]⟩]).cells (m + 1)).toList) w = .ok () (w.setCells g o (Builtin.zeroCells (S29.val z29).cells (m + 1)).toList) := hst
  simp [Builtin.clear_, run_underlying Try.underlying22, hst']

theorem getElem!_of {xs : List S29} {j : Nat} {x : S29} (h : xs[j]? = some x) : xs[j]! = x := by
  rw [List.getElem!_eq_getElem?_getD, h]; rfl

theorem index40 (g cap : Nat) (xs : List S29) (w : World) (hR : RowAt w g xs) (hl : xs.length ≤ 1000) :
    Calls Try.prog 40 #[.slice (some ⟨g, 0, none⟩) xs.length cap, .func (.func 44) #[] #[]] w fun e w' => e = .returned (.int .i64 (Lib.idxBy (fun _ y => !S29.ok y) xs default)) ∧ Below w.heap.size w w' := by
  have h := AnyQ.slices_IndexFunc Try.index40 5 Try.isAgg29 Try.sizeOf29 cellsOf (fun _ => rfl) (fun x => !S29.ok x) 44 #[] (enters_of Try.func44 (by kernel_rfl) rfl) g 0 xs.length cap xs w (fun W x hb => (clo44 x W).mono fun e w' h => ⟨h.1, hb.trans (h.2.mono hb.size)⟩) (Nat.le_refl _) (by omega) hR.1
    (fun j hj i v hv => by
      have hx : xs[j]? = some xs[j]! := by rw [List.getElem?_eq_getElem hj, getElem!_pos xs j hj]
      rw [Nat.zero_add]
      exact (hR.2 j _ hx i v hv).1)
  rw [List.take_length] at h
  exact h

set_option maxRecDepth 100000 in
set_option maxHeartbeats 4000000 in
theorem delete42 (g cap : Nat) (xs : List S29) (w : World) (hR : RowAt w g xs) (hl : xs.length ≤ 1000) (hcap : xs.length ≤ cap) :
    Calls Try.prog 42 #[.slice (some ⟨g, 0, none⟩) xs.length cap, .func (.func 44) #[] #[]] w fun e w' => ∃ cap', e = .returned (.slice (some ⟨g, 0, none⟩) (xs.filter S29.ok).length cap') ∧ RowAt w' g (xs.filter S29.ok) ∧ Chg (fun j => j = g) w w' := by
  have hI := index40 g cap xs w hR hl
  have eg : ∀ args w, (callFunc 44 args).run Try.prog w = .ok (.enter 44 args) w := enters_of Try.func44 (by kernel_rfl) rfl
  obtain ⟨n, hn⟩ : ∃ n, n = xs.length := ⟨_, rfl⟩
  rw [← hn] at hI hl hcap ⊢
  have HN := Lib.hid hn
  have HR := Lib.hid hR
  clear hn hR
  rcases idxByFrom_spec (fun _ y => !S29.ok y) default xs 0 with ⟨e1, hall⟩ | ⟨k0, hk0, e1, ht, hall⟩
  · have e2 : Lib.idxBy (fun _ y => !S29.ok y) xs default = -1 := e1
    have hf : xs.filter S29.ok = xs := by
      rw [List.filter_eq_self]
      intro x hx
      obtain ⟨j, hj, rfl⟩ := List.mem_iff_getElem.1 hx
      have := hall j hj
      rw [getElem!_pos xs j hj] at this
      simpa using this
    rw [e2] at hI
    rw [hf]
    have HI := Lib.hid hI
    clear hI hall e1 e2 hf
    go_enter Try.func42, Try.ntmps42
    go_wp2_with (go_at_call 40; refine HI.out.mono ?_; rintro e w' ⟨rfl, hB⟩)
    go_ret
    exact ⟨cap, by rw [← HN.out]; rfl, HR.out.below hB, ⟨hB.os, hB.tape, hB.output, hB.size, fun k hk _ => hB.block k hk⟩⟩
  · have e2 : Lib.idxBy (fun _ y => !S29.ok y) xs default = (k0 : Int) := by unfold Lib.idxBy; rw [e1]; simp
    obtain ⟨x0, hx0, hbad⟩ : ∃ x0, xs[k0]? = some x0 ∧ x0.ok = false := by
      refine ⟨xs[k0]!, by rw [List.getElem?_eq_getElem hk0, getElem!_pos xs k0 hk0], ?_⟩
      cases h : (xs[k0]!).ok with
      | false => rfl
      | true => rw [h] at ht; cases ht
    have hinv : DelInv xs xs k0 (k0 + 1) := by
      refine ⟨rfl, by omega, ?_, rfl⟩
      rw [take_snoc hx0, List.filter_append]
      have : (xs.take k0).filter S29.ok = xs.take k0 := by
        rw [List.filter_eq_self]
        intro x hx
        obtain ⟨j, hj, rfl⟩ := List.mem_iff_getElem.1 hx
        rw [List.length_take] at hj
        have := hall j (by omega)
        rw [getElem!_pos xs j (by omega)] at this
        rw [List.getElem_take]
        simpa using this
      rw [this]; simp [hbad]
    rw [e2] at hI
    have hk0n : k0 < n := by rw [HN.out]; exact hk0
    have HI := Lib.hid hI
    have HINV := Lib.hid hinv
    have hne1 : ((k0 : Int) == -1) = false := beq_eq_false_iff_ne.2 (by omega)
    clear hI hall e1 e2 ht hbad hx0 hinv hk0
    go_enter Try.func42, Try.ntmps42
    go_wp2_with (go_at_call 40; refine HI.out.mono ?_; rintro e w' ⟨rfl, hB⟩)
    go_loopg [5, 6] n (fun gg s5 s6 wr => ∃ (i j : Nat) (ys : List S29), s5 = .int .i64 i ∧ s6 = .int .i64 j ∧ j ≤ n ∧ n - j ≤ gg ∧ i < j ∧ Hid (DelInv xs ys i j) ∧ Hid (RowAt wr g ys) ∧ Hid (Chg (fun k => k = g) w wr))
    case atStart => exact ⟨k0, k0 + 1, xs, rfl, by go_num, by omega, by omega, by omega, HINV.out, HR.out.below hB, ⟨hB.os, hB.tape, hB.output, hB.size, fun k hk _ => hB.block k hk⟩⟩
    case round =>
      obtain ⟨i, j, ys, rfl, rfl, hjn, hgg, hij, hinv, hrow, hC⟩ := hrel
      by_cases hlt : j < n
      · obtain ⟨x, hx⟩ : ∃ x, xs[j]? = some x := ⟨_, List.getElem?_eq_getElem (by rw [← HN.out]; exact hlt)⟩
        have hyj := hinv.out.at_ hx
        obtain ⟨g0, g1, g2, g3, g4⟩ := hrow.out.get hyj
        have HX := Lib.hid hx
        have hcall := clo44 x (wr.alloc (.cells #[.int .i64 x.f0, .int .i64 x.f1, .int .i64 x.f2, .int .i64 x.f3, .string x.f4] 29))
        have hbn := Box5.new wr x
        obtain ⟨b0, b1, b2, b3, b4⟩ := hbn.cell
        unfold S29.val at hcall
        have HBN := Lib.hid hbn
        have hlt' : decide ((j : Int) < (n : Int)) = true := decide_eq_true (by omega)
        clear hx hyj hbn
        obtain ⟨ok, hok⟩ : ∃ ok, ok = x.ok := ⟨_, rfl⟩
        rw [← hok] at hcall
        have HOK := Lib.hid hok
        have HC := Lib.hid hcall
        clear hok hcall
        have hrow1 := hrow.out.below ((Below.refl _ wr).alloc (Nat.le_refl _) (.cells #[.int .i64 x.f0, .int .i64 x.f1, .int .i64 x.f2, .int .i64 x.f3, .string x.f4] 29))
        have HROW1 := Lib.hid hrow1
        have hC1 := hC.out.alloc (.cells #[.int .i64 x.f0, .int .i64 x.f1, .int .i64 x.f2, .int .i64 x.f3, .string x.f4] 29)
        have HC1 := Lib.hid hC1
        obtain ⟨yi, hyi⟩ : ∃ yi, ys[i]? = some yi := ⟨_, List.getElem?_eq_getElem (by have := hinv.out.len; have := HN.out; omega)⟩
        have HYI := Lib.hid hyi
        have hil : i < ys.length := (List.getElem?_eq_some_iff.1 hyi).1
        have HIL := Lib.hid hil
        clear hrow1 hC1 hyi hil hrow hC
        cases ok with
        | true =>
          go_wp2_with (go_at_fn 44; refine HC.out.mono ?_; rintro e w2 ⟨rfl, hB2⟩; have hbx := HBN.out.below hB2; obtain ⟨p0, p1, p2, p3, p4⟩ := hbx.cell; have hr2 := HROW1.out.below hB2; obtain ⟨r0, r1, r2, r3, r4⟩ := hr2.get HYI.out; obtain ⟨f0, f1, f2, f3, f4⟩ := hr2.fro HYI.out; have HR2 := Lib.hid hr2; clear hr2 hbx)
          go_roundg (n - (j + 1))
          case measure => omega
          case rel =>
            refine ⟨i + 1, j + 1, ys.set i x, by go_num, by go_num, by omega, Nat.le_refl _, by omega, hinv.out.keep HX.out HOK.out.symm, HR2.out.set HIL.out x, ?_⟩
            exact (HC1.out.trans (Chg.of_below' hB2) (fun k h => h.elim)).trans (chg_setCells (cellsOf x) (i * 5) w2) (fun k h => .inl h)
        | false =>
          go_wp2_with (go_at_fn 44; refine HC.out.mono ?_; rintro e w2 ⟨rfl, hB2⟩)
          go_roundg (n - (j + 1))
          case measure => omega
          case rel =>
            exact ⟨i, j + 1, ys, rfl, by go_num, by omega, Nat.le_refl _, by omega, hinv.out.skip HX.out HOK.out.symm, HROW1.out.below hB2, HC1.out.trans (Chg.of_below' hB2) (fun k h => h.elim)⟩
      · have hjn' : j = n := by omega
        subst hjn'
        have hlt' : decide ((j : Int) < (j : Int)) = false := decide_eq_false (by omega)
        have hlen := hinv.out.lenI (by rw [HN.out]; exact Nat.le_refl _)
        rw [show xs.take j = xs from List.take_of_length_le (by rw [HN.out]; exact Nat.le_refl _)] at hlen
        have hkept := hinv.out.kept
        rw [show xs.take j = xs from List.take_of_length_le (by rw [HN.out]; exact Nat.le_refl _)] at hkept
        have hyl : ys.length = j := by rw [hinv.out.len, HN.out]
        obtain ⟨vs, hclear⟩ := clear_run wr g (i * 5) (j - i) (cap - i) 0 (by omega)
          (fun t ht => by
            obtain ⟨y, hy⟩ : ∃ y, ys[i + t / 5]? = some y := ⟨_, List.getElem?_eq_getElem (by omega)⟩
            obtain ⟨u, hu⟩ : ∃ u, (cellsOf y)[t % 5]? = some u := ⟨_, List.getElem?_eq_getElem (by have := Nat.mod_lt t (show 0 < 5 by omega); simpa [cellsOf] using this)⟩
            have := (hrow.out.2 _ y hy _ u hu).1
            rw [show i * 5 + t = (i + t / 5) * 5 + t % 5 by omega, this]; rfl)
          (fun t ht => by
            obtain ⟨y, hy⟩ : ∃ y, ys[i + t / 5]? = some y := ⟨_, List.getElem?_eq_getElem (by omega)⟩
            obtain ⟨u, hu⟩ : ∃ u, (cellsOf y)[t % 5]? = some u := ⟨_, List.getElem?_eq_getElem (by have := Nat.mod_lt t (show 0 < 5 by omega); simpa [cellsOf] using this)⟩
            have := (hrow.out.2 _ y hy _ u hu).2
            rw [show i * 5 + t = (i + t / 5) * 5 + t % 5 by omega, this])
        have hrow2 := (hrow.out.take i).behind (i * 5) (by rw [List.length_take]; have := Nat.min_le_left i ys.length; omega) vs
        rw [hkept] at hrow2
        have HROW2 := Lib.hid hrow2
        have HLEN := Lib.hid hlen
        have HC2 := Lib.hid (hC.out.trans (chg_setCells vs (i * 5) wr) (fun k h => .inl h))
        clear hrow2 hlen hkept hyl hrow hC
        go_wp2
        go_ret
        exact ⟨cap, by rw [← HLEN.out]; rfl, HROW2.out, HC2.out⟩

/-! ### slices.Clone at places -/

def flat (xs : List S29) : List Value := xs.flatMap cellsOf
theorem flat_length (xs : List S29) : (flat xs).length = xs.length * 5 := by
  induction xs with
  | nil => rfl
  | cons x xs ih => unfold flat at ih ⊢; rw [List.flatMap_cons, List.length_append, ih]; simp [cellsOf]; omega
theorem flat_at : ∀ (xs : List S29) (j i : Nat) (x : S29), xs[j]? = some x → i < 5 → (flat xs)[j * 5 + i]? = (cellsOf x)[i]?
  | [], j, i, x, h, _ => by cases h
  | y :: ys, 0, i, x, h, hi => by
    cases h
    unfold flat
    rw [List.flatMap_cons, List.getElem?_append_left (by simpa [cellsOf] using hi), Nat.zero_mul, Nat.zero_add]
  | y :: ys, j + 1, i, x, h, hi => by
    have ih := flat_at ys j i x (by simpa using h) hi
    unfold flat at ih ⊢
    rw [List.flatMap_cons, List.getElem?_append_right (by simp [cellsOf]; omega), ← ih]
    congr 1
    simp [cellsOf]; omega
theorem flat_mem {xs : List S29} {v : Value} (h : v ∈ flat xs) : v.oneCell' = true := by
  unfold flat at h
  obtain ⟨x, _, hx⟩ := List.mem_flatMap.1 h
  exact cellsOf_one x v hx
theorem rowAt_of_own {w : World} {base g n cap : Nat} {xs : List S29} (h : w.ownsRow base 29 5 (.slice (some ⟨g, 0, none⟩) n cap) n (flat xs)) (hn : xs.length = n) : RowAt w g xs := by
  obtain ⟨_, h0 | ⟨g', cap', cur, e, hg, hh, _, _, hs, ht⟩⟩ := h
  · cases h0.1
  · cases e
    refine ⟨(Array.getElem?_eq_some_iff.1 hh).1, fun j x hx i v hv => ?_⟩
    have hi : i < 5 := (List.getElem?_eq_some_iff.1 hv).1
    have hj := (List.getElem?_eq_some_iff.1 hx).1
    have hf := flat_at xs j i x hx hi
    rw [hv, ← ht, List.getElem?_take_of_lt (by omega)] at hf
    refine ⟨?_, by simp [World.frozen?, hh]⟩
    simp only [World.cell?, hh]
    simpa using hf

theorem clone43_nil (n c : Nat) (w : World) : Calls Try.prog 43 #[.slice none n c] w fun e w' => e = .returned (.slice none 0 0) ∧ w' = w := AnyE.slices_Clone_nil Try.clone43 n c w

set_option maxRecDepth 100000 in
set_option maxHeartbeats 1000000 in
theorem clone43 (a : Addr) (c : Nat) (xs : List S29) (w : World) (hl : xs.length ≤ 1000) (hc : ∀ j x, xs[j]? = some x → ∀ i v, (cellsOf x)[i]? = some v → w.cell? (a.add (j * 5 + i)) = some v) :
    Calls Try.prog 43 #[.slice (some a) xs.length c] w fun e w' => ∃ g cap, e = .returned (.slice (some ⟨g, 0, none⟩) xs.length cap) ∧ xs.length ≤ cap ∧ w.heap.size ≤ g ∧ RowAt w' g xs ∧ Below w.heap.size w w' := by
  obtain ⟨i0, hi, hz0, hz1, hz2⟩ := info_parts info29
  have q22 : ∀ (w : World) (a : Option Addr) (n c n' c' : Nat), (binOp .eql 22 (.slice a n c) (.slice none n' c')).run Try.prog w = .ok (.bool a.isNone) w := fun w a n c n' c' => Lib.run_eql_slice_nil w _ _ a n c n' c' Try.underlying22
  have hc' : ∀ (j : Nat) (u : Value), (flat xs)[j]? = some u → w.cell? (a.add j) = some u := fun j u hu => by
    have hj : j < xs.length * 5 := by have := (List.getElem?_eq_some_iff.1 hu).1; rwa [flat_length] at this
    obtain ⟨x, hx⟩ : ∃ x, xs[j / 5]? = some x := ⟨_, List.getElem?_eq_getElem (by omega)⟩
    have h5 : j % 5 < 5 := Nat.mod_lt _ (by omega)
    have := flat_at xs (j / 5) (j % 5) x hx h5
    rw [show j / 5 * 5 + j % 5 = j by omega, hu] at this
    have := hc (j / 5) x hx (j % 5) u this.symm
    rwa [show j / 5 * 5 + j % 5 = j by omega] at this
  have HC := Lib.hid hc'
  have HL := Lib.hid (flat_length xs)
  clear hc hc'
  obtain ⟨n, hn⟩ : ∃ n, n = xs.length := ⟨_, rfl⟩
  rw [← hn] at hl HL ⊢
  have HN := Lib.hid hn
  clear hn
  go_enter Try.func43, Try.ntmps43
  go_wp2_with (at_builtin; refine wpList_append_own _ rfl _ _ 22 rfl w.heap.size 29 i0 _ 5 48 Try.underlying22 hi hz0 hz1 hz2 rfl (by decide) _ _ _ rfl (World.ownsRow_made w #[] 0 (Nat.le_refl _) (Nat.zero_le _) (by simp)) a n c (flat xs) rfl ?qc1 ?qc2 ?qc3 ?qc4 ?qc5 ?qc6 ?_)
  case qc1 => exact HL.out
  case qc2 =>
    intro j u hj
    exact Lib.cell?_alloc_some _ (HC.out j u hj)
  case qc3 => exact fun u hu => flat_mem hu
  case qc4 => unfold maxLen; omega
  case qc5 => omega
  case qc6 => simp
  intro v' w1 hown hgrow hnil
  go_wp2
  go_ret
  have hrow' := hown
  obtain ⟨_, h0 | ⟨g, cap, cur, rfl, hg, hh, hcap, _⟩⟩ := hown
  · exact (hnil h0.1).elim
  · refine ⟨g, cap, by simp, by omega, hg, rowAt_of_own (n := 0 + n) (by simpa using hrow') (by have := HN.out; omega), ?_⟩
    exact ((Below.refl _ w).alloc (Nat.le_refl _) _).grown hgrow (by simp) (by intro k hk; simp [Value.ownBlock] at hk; omega)

/-! ### slices.SortFunc at places -/

theorem compareInt_lex (a b : Int) (l : List Int) (r : Bool) (hr : decide (orF l < 0) = r) : decide (orF (Lib.compareInt a b :: l) < 0) = lexI a b r := by
  unfold lexI orF Lib.compareInt
  by_cases h1 : a < b
  · rw [if_pos h1, if_pos (by omega)]; simp [h1]; exact .inl (by omega)
  · by_cases h2 : b < a
    · rw [if_neg h1, if_pos h2, if_pos (by omega), if_pos (by omega)]; simp [h1]
    · have e : a = b := by omega
      subst e
      simp [← hr]
theorem compareBytes_less : ∀ a b : List UInt8, decide (Lib.compareBytes a b < 0) = Op.bytesLess a b
  | [], [] => rfl
  | [], _ :: _ => rfl
  | _ :: _, [] => rfl
  | a :: x, b :: y => by
    unfold Lib.compareBytes Op.bytesLess
    by_cases h1 : a < b
    · simp [h1]
    · by_cases h2 : b < a
      · have h3 : (a == b) = false := by
          rw [beq_eq_false_iff_ne]; rintro rfl; exact h1 h2
        simp [h1, h2, h3]
      · have h3 : a = b := by
          have h1' : ¬ a.toNat < b.toNat := h1
          have h2' : ¬ b.toNat < a.toNat := h2
          exact UInt8.toNat_inj.1 (by omega)
        subst h3
        simp [h1, compareBytes_less x y]
theorem ltOf_cmpP (x y : S29) : ltOf cmpP x y = x.less y := by
  rw [less_lex]
  unfold ltOf cmpP
  refine compareInt_lex _ _ _ _ (compareInt_lex _ _ _ _ (compareInt_lex _ _ _ _ (compareInt_lex _ _ _ _ ?_)))
  rw [← compareBytes_less]
  unfold orF
  by_cases h : Lib.compareBytes x.f4.data.toList y.f4.data.toList = 0
  · rw [h]; rfl
  · rw [if_pos h]
theorem swo : SWO (ltOf cmpP) where
  irrefl x := by rw [ltOf_cmpP]; exact less_irrefl x
  trans x y z h1 h2 := by rw [ltOf_cmpP] at *; exact less_trans h1 h2
  ntrans x y z h1 h2 := by rw [ltOf_cmpP] at *; exact less_ntrans h1 h2

theorem cells_bang (y : S29) {i : Nat} (h : i < 5) : (cellsOf y)[i]? = some (cellsOf y)[i]! := by
  match i, h with
  | 0, _ | 1, _ | 2, _ | 3, _ | 4, _ => rfl
theorem holdsK_of_rowAt {w : World} {g : Nat} {xs : List S29} (h : RowAt w g xs) : HoldsK cellsOf 5 w g 0 xs.toArray := by
  intro t ht
  rw [size_flatK] at ht
  simp only [List.size_toArray] at ht
  rw [get_flatK _ _ _ _ (by simpa using ht)]
  have hx : xs[t / 5]? = some xs[t / 5]! := by rw [List.getElem?_eq_getElem (by omega), getElem!_pos xs _ (by omega)]
  have h5 : t % 5 < 5 := Nat.mod_lt _ (by omega)
  have hv := cells_bang xs[t / 5]! h5
  have := h.2 _ _ hx _ _ hv
  rw [show t / 5 * 5 + t % 5 = t by omega] at this
  rw [Nat.zero_add]
  simpa using this
theorem rowAt_of_holdsK {w : World} {g : Nat} {xs : List S29} (hg : g < w.heap.size) (h : HoldsK cellsOf 5 w g 0 xs.toArray) : RowAt w g xs := by
  refine ⟨hg, fun j x hx i v hv => ?_⟩
  have hj := (List.getElem?_eq_some_iff.1 hx).1
  have hi : i < 5 := (List.getElem?_eq_some_iff.1 hv).1
  have := h (j * 5 + i) (by rw [size_flatK]; simp; omega)
  rw [get_flatK _ _ _ _ (by simp; omega), Nat.zero_add] at this
  rw [show (j * 5 + i) / 5 = j by omega, show (j * 5 + i) % 5 = i by omega] at this
  have e : xs.toArray[j]! = x := by simpa using getElem!_of hx
  rw [e] at this
  have e2 : (cellsOf x)[i]! = v := by rw [List.getElem!_eq_getElem?_getD, hv]; rfl
  rw [e2] at this
  exact this

theorem putRow_block {α : Type} [Inhabited α] (enc : α → Value) (w : World) (g off : Nat) (d : Array α) {k : Nat} (hk : k ≠ g) : (putRow enc w g off d).heap[k]? = w.heap[k]? := by
  unfold putRow mapBlock
  simp only [Array.getElem?_modify]
  rw [if_neg (by omega)]
theorem sort_chg (w : World) (g n : Nat) (d : Array S29) (os : Array Obj) : Chg (fun k => k = g) w (sortWorldK cellsOf 5 w g 0 n d os) := by
  refine ⟨rfl, rfl, rfl, ?_, fun k hk hs => ?_⟩
  · unfold sortWorldK grow putRowK putRow mapBlock Sort.ahead
    simp
  · unfold sortWorldK
    have h1 : (putRowK cellsOf 5 (Sort.ahead w n) g 0 d).heap[k]? = w.heap[k]? := putRow_block _ _ _ _ _ hs
    have h2 : k < (putRowK cellsOf 5 (Sort.ahead w n) g 0 d).heap.size := by
      unfold putRowK putRow mapBlock Sort.ahead; simpa using hk
    show (_ ++ os)[k]? = _
    rw [Array.getElem?_append_left h2, h1]

theorem sortf45 (g cap : Nat) (xs : List S29) (w : World) (hR : RowAt w g xs) (hl : xs.length ≤ 1000) :
    Calls Try.prog 45 #[.slice (some ⟨g, 0, none⟩) xs.length cap, .func (.func 46) #[] #[]] w fun e w' => e = .returned (.tuple #[]) ∧ RowAt w' g (xs.mergeSort fun x y => !y.less x) ∧ Chg (fun k => k = g) w w' := by
  have h := AnyQ.slices_SortFunc_total Try.sortf45 5 Try.isAgg29 Try.sizeOf29 cellsOf (fun _ => rfl) cellsOf_one cmpP swo 46 #[] g 0 cap xs.toArray w (enters_of Try.func46 (by kernel_rfl) rfl)
    (fun m os dk _ x y => compare46 x y _) (holdsK_of_rowAt hR) hR.1 (by simp; omega) (fun x y h1 h2 => by rw [ltOf_cmpP] at h1 h2; exact less_total h1 h2)
  refine (show Calls Try.prog 45 _ _ _ from h).mono ?_
  rintro e w' ⟨rfl, n, os, rfl⟩
  have hC := sort_chg w g n (xs.mergeSort fun x y => !(ltOf cmpP) y x).toArray os
  have e1 : (fun x y : S29 => !(ltOf cmpP) y x) = fun x y => !y.less x := by funext x y; rw [ltOf_cmpP]
  rw [e1] at hC ⊢
  refine ⟨rfl, ?_, hC⟩
  refine rowAt_of_holdsK (Nat.lt_of_lt_of_le hR.1 hC.size) ?_
  unfold sortWorldK
  have hp : HoldsK cellsOf 5 (putRowK cellsOf 5 (Sort.ahead w n) g 0 (xs.mergeSort fun x y => !y.less x).toArray) g 0 (xs.mergeSort fun x y => !y.less x).toArray := by
    unfold HoldsK putRowK
    refine holds_putRow id _ g 0 (flatK cellsOf 5 xs.toArray) _ (holds_ahead id w n g 0 _ (holdsK_of_rowAt hR)) ?_
    rw [size_flatK, size_flatK]
    simp [List.length_mergeSort]
  have hlt : g < (putRowK cellsOf 5 (Sort.ahead w n) g 0 (xs.mergeSort fun x y => !y.less x).toArray).heap.size := by
    unfold putRowK putRow mapBlock Sort.ahead; simpa using hR.1
  intro j hj
  obtain ⟨h1, h2⟩ := hp j hj
  have hb : (grow (putRowK cellsOf 5 (Sort.ahead w n) g 0 (xs.mergeSort fun x y => !y.less x).toArray) os).heap[g]? = (putRowK cellsOf 5 (Sort.ahead w n) g 0 (xs.mergeSort fun x y => !y.less x).toArray).heap[g]? := by
    show (_ ++ os)[g]? = _
    rw [Array.getElem?_append_left hlt]
  exact ⟨(World.cell?_of_block hb).trans h1, (frozen_block (a := ⟨g, 0 + j, none⟩) hb).trans h2⟩
theorem mergeSort_sortV (xs : List S29) : ((xs.filter S29.ok).mergeSort fun x y => !y.less x) = sortV xs := by
  refine sorted_uniq ?_ (sortV_sorted xs) ((List.mergeSort_perm _ _).trans (sortV_perm xs).symm)
  have := List.pairwise_mergeSort (le := fun x y : S29 => !y.less x) (fun a b c h1 h2 => by
    simp only [Bool.not_eq_true'] at *
    exact less_ntrans h2 h1) (fun a b => by
    cases h : b.less a with
    | false => simp
    | true => simp [less_asymm h]) (xs.filter S29.ok)
  exact this.imp (fun h => by simpa using h)
end Go.Proofs.Ytihpiejlfdinaaa.PF
