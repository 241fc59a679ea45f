import Derived.Test.YtofkmapokdcphaaH
import Derived.Test.YtofkmapokdcphaaShelf
import Derived.Sort.OwnSortedInts
namespace Go.Proofs.Ytofkmapokdcphaa
open Go Go.RowKit Go.Maps Go.My Go.Shelf

/-- A slice of numbers in memory. -/
def IntsAt (w : World) (v : Value) (xs : List Int) : Prop :=
  ∃ a cap b off, v = .slice a xs.length cap ∧ (a = some ⟨b, off, none⟩ ∨ xs = []) ∧ ∀ i x, xs[i]? = some x → w.cell? ⟨b, off + i, none⟩ = some (.int .i64 x)

theorem lt_of_cell {w : World} {p : Addr} {v : Value} (hc : w.cell? p = some v) : p.block < w.heap.size := by
  by_cases h : p.block < w.heap.size
  · exact h
  · simp [World.cell?, Array.getElem?_eq_none (Nat.le_of_not_lt h)] at hc

theorem IntsAt.below {w w' : World} {v : Value} {xs : List Int} (h : IntsAt w v xs) (hB : Below w.heap.size w w') : IntsAt w' v xs := by
  obtain ⟨a, cap, b, off, rfl, ha, hc⟩ := h
  exact ⟨a, cap, b, off, rfl, ha, fun i x hx => (hB.cell (p := ⟨b, off + i, none⟩) (lt_of_cell (hc i x hx))).trans (hc i x hx)⟩

theorem IntsAt.of_own {w : World} {base : Nat} {e : TypeId} {v : Value} {n : Nat} {xs : List Int} (h : w.ownsRow base e 1 v n (xs.map (Value.int .i64))) : IntsAt w v xs := by
  have hl := h.1
  simp at hl
  subst hl
  rcases h.2 with ⟨rfl, h0⟩ | ⟨g, cap, cur, rfl, _⟩
  · refine ⟨none, 0, 0, 0, by rw [h0], .inr (List.length_eq_zero_iff.1 h0), ?_⟩
    intro i x hx
    rw [List.length_eq_zero_iff.1 h0] at hx
    cases hx
  · refine ⟨_, cap, g, 0, rfl, .inl rfl, fun i x hx => ?_⟩
    have hi := (List.getElem?_eq_some_iff.1 hx).1
    rw [Nat.zero_add, h.cellAt i (by omega), List.getElem?_map, hx]
    rfl

/-- A tree in memory. -/
def TreeAt (w : World) (v : Value) (xs : List Nd) : Prop :=
  ∃ a cap, v = .agg #[.slice a xs.length cap] ∧ RowN w a xs ∧ ∀ n ∈ xs, (Lit.int .i64 n.1).wf = true ∧ (Lit.int .i64 n.2).wf = true

theorem RowN.below {w w' : World} {a : Option Addr} {xs : List Nd} (h : RowN w a xs) (hB : Below w.heap.size w w') : RowN w' a xs := by
  obtain ⟨b, off, ha, hc⟩ := h
  exact ⟨b, off, ha, fun i n hn => ⟨(hB.cell (p := ⟨b, off + i * 2, none⟩) (lt_of_cell (hc i n hn).1)).trans (hc i n hn).1, (hB.cell (p := ⟨b, off + i * 2 + 1, none⟩) (lt_of_cell (hc i n hn).2)).trans (hc i n hn).2⟩⟩

theorem TreeAt.below {w w' : World} {v : Value} {xs : List Nd} (h : TreeAt w v xs) (hB : Below w.heap.size w w') : TreeAt w' v xs := by
  obtain ⟨a, cap, rfl, hr, hw⟩ := h
  exact ⟨a, cap, rfl, hr.below hB, hw⟩

/-- The nodes' cells, as a row's list. -/
def ndCells (xs : List Nd) : List Value := xs.flatMap fun n => [.int .i64 n.1, .int .i64 n.2]
theorem ndCells_snoc (xs : List Nd) (n : Nd) : ndCells (xs ++ [n]) = ndCells xs ++ [.int .i64 n.1, .int .i64 n.2] := by simp [ndCells]
theorem ndCells_length (xs : List Nd) : (ndCells xs).length = xs.length * 2 := by
  induction xs with
  | nil => rfl
  | cons x xs ih => simp only [ndCells, List.flatMap_cons, List.length_append, List.length_cons, List.length_nil] at ih ⊢; omega
theorem ndCells_at : ∀ (xs : List Nd) (i : Nat) (n : Nd), xs[i]? = some n → (ndCells xs)[i * 2]? = some (.int .i64 n.1) ∧ (ndCells xs)[i * 2 + 1]? = some (.int .i64 n.2)
  | [], i, n, h => by cases h
  | x :: xs, 0, n, h => by cases h; exact ⟨rfl, rfl⟩
  | x :: xs, i + 1, n, h => by
    have ih := ndCells_at xs i n (by simpa using h)
    rw [show (i + 1) * 2 = i * 2 + 1 + 1 by omega]
    simpa [ndCells] using ih

theorem TreeAt.of_own {w : World} {base : Nat} {e : TypeId} {v : Value} {n : Nat} {xs : List Nd} (h : w.ownsRow base e 2 v n (ndCells xs)) (hw : ∀ n ∈ xs, (Lit.int .i64 n.1).wf = true ∧ (Lit.int .i64 n.2).wf = true) : TreeAt w (.agg #[v]) xs := by
  have hl := h.1
  rw [ndCells_length] at hl
  obtain rfl : n = xs.length := by omega
  rcases h.2 with ⟨rfl, h0⟩ | ⟨g, cap, cur, rfl, _⟩
  · refine ⟨none, 0, by rw [h0], ⟨0, 0, .inr (List.length_eq_zero_iff.1 h0), ?_⟩, hw⟩
    intro i x hx
    rw [List.length_eq_zero_iff.1 h0] at hx
    cases hx
  · refine ⟨_, cap, rfl, ⟨g, 0, .inl rfl, fun i x hx => ?_⟩, hw⟩
    have hi := (List.getElem?_eq_some_iff.1 hx).1
    obtain ⟨e0, e1⟩ := ndCells_at xs i x hx
    rw [Nat.zero_add, h.cellAt (i * 2) (by omega), h.cellAt (i * 2 + 1) (by omega)]
    exact ⟨e0, e1⟩

/-- What a map's block reads survives. -/
theorem of_tree (v : Value) (xs : List Nd) (w : World) (hm : xs.length ≤ 100) (h : TreeAt w v xs) :
    Calls Try.prog 36 #[v] w fun e w' => ∃ m, e = .returned (.map (some m)) ∧ w.heap.size ≤ m ∧ MapIs K3 evI w' m xs.length (ofF xs) ∧ Below w.heap.size w w' := by
  obtain ⟨a, cap, rfl, hr, hw⟩ := h
  exact (of_any a cap xs w hm hr (fun n hn => (hw n hn).1)).mono fun e w' h => ⟨_, h.1, by omega, h.2⟩

theorem par_OfFn : OfFn 53 (fun x => x / 2) := fun x w h0 h1 => parent_any x w h0 h1
theorem sib_OfFn : OfFn 57 sib := fun x w h0 h1 => sib_any x w h0 h1

set_option maxRecDepth 100000 in
set_option maxHeartbeats 400000 in
theorem path_ok (d : Nat) (hd : d < 512) (w : World) :
    Calls Try.prog 29 #[.int .i64 d] w fun e w' => ∃ v, e = .returned (.tuple #[v, .int .i64 0]) ∧ IntsAt w' v ((ups (512 + d)).map (fun x => x / 2)) ∧ Below w.heap.size w w' := by
  go_enter Try.func29, Try.ntmps29
  go_wp2_with (go_at_call 52; refine (along_ok d hd 53 _ par_OfFn (enters_of Try.func53 (by kernel_rfl) rfl) w).mono ?_; rintro e w' ⟨v, rfl, hrow, hB⟩)
  go_ret2
  exact ⟨v, rfl, .of_own hrow, hB⟩

set_option maxRecDepth 100000 in
set_option maxHeartbeats 400000 in
theorem copath_ok (d : Nat) (hd : d < 512) (w : World) :
    Calls Try.prog 33 #[.int .i64 d] w fun e w' => ∃ v, e = .returned (.tuple #[v, .int .i64 0]) ∧ IntsAt w' v ((ups (512 + d)).map sib) ∧ Below w.heap.size w w' := by
  go_enter Try.func33, Try.ntmps33
  go_wp2_with (go_at_call 52; refine (along_ok d hd 57 _ sib_OfFn (enters_of Try.func57 (by kernel_rfl) rfl) w).mono ?_; rintro e w' ⟨v, rfl, hrow, hB⟩)
  go_ret2
  exact ⟨v, rfl, .of_own hrow, hB⟩

set_option maxRecDepth 100000 in
set_option maxHeartbeats 400000 in
theorem public_any (v : Value) (xs : List Nd) (x : Int) (w : World) (hm : xs.length ≤ 100) (hx : (Lit.int .i64 x).wf = true) (h : TreeAt w v xs) :
    Calls Try.prog 14 #[v, .int .i64 x] w fun e w' => e = .returned (.tuple #[.int .i64 ((ofF xs x).getD 0), .bool (ofF xs x).isSome]) ∧ Below w.heap.size w w' := by
  obtain ⟨a, cap, rfl, hr, hw⟩ := h
  have ht : TreeAt (w.alloc (.cells #[.slice a xs.length cap] 24)) (.agg #[.slice a xs.length cap]) xs := ⟨a, cap, rfl, hr.below ((Below.refl _ _).alloc (Nat.le_refl _) _), hw⟩
  have HT := Lib.hid (of_tree _ xs _ hm ht)
  have hB0 : Below w.heap.size w (w.alloc (.cells #[.slice a xs.length cap] 24)) := (Below.refl _ _).alloc (Nat.le_refl _) _
  clear hr hw ht hm
  have hok : (K3).ok x := hx
  generalize xs.length = n at *
  go_enter Try.func14, Try.ntmps14
  go_wp2_with (first
    | (go_at_call 36; refine HT.out.mono ?_; rintro e w' ⟨m, rfl, hlm, hM, hB⟩)
    | (at_lookup; refine wpList_look rfl (.tmp 8) (.tmp 9) 59 rfl keyed3 Try.underlying59 (zero3 _) rfl hM (x := x) hok rfl ?_))
  go_ret2
  refine ⟨?_, hB0.trans (hB.mono (by simp))⟩
  cases ofF xs x <;> rfl

open Go.Sort in
theorem sort_own {w : World} {base g cap : Nat} {rs : List Int} (hs : rs.length ≤ 100) (h : w.ownsRow base 3 1 (.slice (some ⟨g, 0, none⟩) rs.length cap) rs.length (rs.map (Value.int .i64))) :
    Calls Try.prog 42 #[.slice (some ⟨g, 0, none⟩) rs.length cap] w fun e w' => e = .returned (.tuple #[]) ∧
      w'.ownsRow base 3 1 (.slice (some ⟨g, 0, none⟩) rs.length cap) rs.length ((rs.mergeSort fun x y => decide (x ≤ y)).map (Value.int .i64)) ∧ w.grownBy w' (some g) := by
  rcases h.2 with ⟨e, _⟩ | ⟨g', c', cur, e, hg0, hg1, hn, hcm, hcs, htake⟩
  · cases e
  cases e
  rw [Nat.mul_one] at htake
  refine (Try.slices_Sort_int g 0 cap rs w (holds_of_blockI hg1 htake) (Array.getElem?_eq_some_iff.1 hg1).1 (by omega)).mono ?_
  rintro e w' ⟨rfl, n, os, rfl⟩
  exact ⟨rfl, ownsRow_sortedI (List.length_mergeSort rs) hg0 hg1 hn hcm hcs, grownBy_sortedI _⟩


open Go.Sort in
theorem compact_own {w : World} {base g cap n : Nat} {rs : List Int} (h : w.ownsRow base 3 1 (.slice (some ⟨g, 0, none⟩) n cap) n (rs.map (Value.int .i64))) :
    Calls Try.prog 43 #[.slice (some ⟨g, 0, none⟩) n cap] w fun e w' => ∃ v, e = .returned v ∧ IntsAt w' v (Lib.compact rs) ∧ w.grownBy w' (some g) := by
  have hl := h.1
  simp at hl
  subst hl
  rcases h.2 with ⟨e, _⟩ | ⟨g', c', cur, e, hg0, hg1, hn, hcm, hcs, htake⟩
  · cases e
  cases e
  rw [Nat.mul_one] at htake
  refine (Try.slices_Compact_int g 0 cap rs w (holds_of_blockI hg1 htake) (by simp only [maxLen] at hcm; omega) hn).mono ?_
  rintro e w' ⟨rfl, q, rfl⟩
  have hlen := Lib.compact_length_le rs
  have hh := heap_sortedI (n := q) (os := #[]) (Lib.compact rs ++ List.replicate (rs.length - (Lib.compact rs).length) 0).toArray hg1
  have hgr := grownBy_sortedI (w := w) (g := g) (n := q) (os := #[]) (Lib.compact rs ++ List.replicate (rs.length - (Lib.compact rs).length) 0).toArray
  simp only [grow, Array.append_empty] at hh hgr
  refine ⟨_, rfl, ⟨_, cap, g, 0, rfl, .inl rfl, fun i x hx => ?_⟩, hgr⟩
  have hi := (List.getElem?_eq_some_iff.1 hx).1
  have hi' : i < cur.size := by omega
  simp only [World.cell?, hh, Nat.zero_add]
  simp [putCells, hi, hi', List.getElem?_append_left hi]
  rw [if_pos (by omega), (List.getElem?_eq_some_iff.1 hx).2]

/-- keytree.Members. -/
def memRaw (xs : List Nd) : List Int := (xs.filter fun n => decide (512 ≤ n.1) && decide (n.1 ≤ 1023)).map fun n => n.1 - 512
def memL (xs : List Nd) : List Int := Lib.compact ((memRaw xs).mergeSort fun x y => decide (x ≤ y))

theorem memRaw_snoc (xs : List Nd) (n : Nd) : memRaw (xs ++ [n]) = memRaw xs ++ if 512 ≤ n.1 ∧ n.1 ≤ 1023 then [n.1 - 512] else [] := by
  unfold memRaw
  rw [List.filter_append, List.map_append]
  congr 1
  by_cases h : 512 ≤ n.1 ∧ n.1 ≤ 1023
  · rw [if_pos h]; simp [List.filter, h.1, h.2]
  · rw [if_neg h]
    have : (decide (512 ≤ n.1) && decide (n.1 ≤ 1023)) = false := by simp; omega
    simp [List.filter, this]
theorem memRaw_length (xs : List Nd) : (memRaw xs).length ≤ xs.length := by unfold memRaw; rw [List.length_map]; exact List.length_filter_le _ _

theorem cell_one_new' (w : World) (o : Obj) (x : Value) (t : TypeId) : ∀ j u, [x][j]? = some u → ((w.alloc o).alloc (.cells #[x] t)).cell? ((⟨w.heap.size + 1, 0, none⟩ : Addr).add j) = some u := by
  have := cell_one_new (w.alloc o) x t
  rwa [World.size_alloc] at this

set_option maxRecDepth 100000 in
set_option maxHeartbeats 1000000 in
theorem members_any (v : Value) (xs : List Nd) (w : World) (hm : xs.length ≤ 100) (h : TreeAt w v xs) :
    Calls Try.prog 19 #[v] w fun e w' => ∃ v', e = .returned v' ∧ IntsAt w' v' (memL xs) ∧ Below w.heap.size w w' := by
  obtain ⟨a, cap, rfl, ⟨b, off, ha, hc⟩, hw⟩ := h
  obtain ⟨len, hlen⟩ : ∃ len, len = xs.length := ⟨_, rfl⟩
  rw [← hlen] at hm ⊢
  have HL := Lib.hid hlen
  have HC := Lib.hid hc
  have HA := Lib.hid ha
  have HW := Lib.hid hw
  clear hlen hc ha hw
  obtain ⟨i0, hi, hz0, hz1, hz2⟩ := info_parts info3
  go_enter Try.func19, Try.ntmps19
  go_wp2
  go_loopw [2, 8] (fun u i wr => ∃ k : Nat, k ≤ len ∧ i = .int .i64 k ∧ Hid (wr.ownsRow (w.heap.size + 1) 3 1 u (memRaw (xs.take k)).length ((memRaw (xs.take k)).map (Value.int .i64))) ∧ Below (w.heap.size + 1) (w.alloc (.cells #[.slice a len cap] 24)) wr) (fun _ i _ => len - (intOf i).toNat)
  case atStart => exact ⟨0, Nat.zero_le _, rfl, World.ownsRow_nil _ _ _ _, Below.refl _ _⟩
  case round =>
    obtain ⟨k, hk, rfl, hown, hB⟩ := hrel
    by_cases hlt : k < len
    · obtain ⟨n, hn⟩ : ∃ n, xs[k]? = some n := ⟨_, List.getElem?_eq_getElem (by rw [← HL.out]; exact hlt)⟩
      obtain ⟨h0, h1⟩ := HC.out k n hn
      have ha : a = some ⟨b, off, none⟩ := by
        rcases HA.out with h | h
        · exact h
        · subst h; simp at hn
      subst ha
      obtain ⟨n0, n1⟩ := n
      have wn : (Lit.int .i64 n0).wf = true := (HW.out _ (List.mem_of_getElem? hn)).1
      have hb : b < w.heap.size := lt_of_cell h0
      have g0 := (hB.cell (p := ⟨b, off + k * 2, none⟩) (by show b < _; omega)).trans ((((Below.refl w.heap.size w).alloc (Nat.le_refl _) _).cell (p := ⟨b, off + k * 2, none⟩) hb).trans h0)
      have g1 := (hB.cell (p := ⟨b, off + k * 2 + 1, none⟩) (by show b < _; omega)).trans ((((Below.refl w.heap.size w).alloc (Nat.le_refl _) _).cell (p := ⟨b, off + k * 2 + 1, none⟩) hb).trans h1)
      clear h0 h1
      have hs := take_snoc hn
      have hml := memRaw_length (xs.take k)
      rw [List.length_take] at hml
      have HS := Lib.hid hs
      have HN := Lib.hid hn
      clear hn hs
      by_cases q : 512 ≤ n0 ∧ n0 ≤ 1023
      · obtain ⟨q0, q1⟩ := q
        have e := memRaw_snoc (xs.take k) (n0, n1)
        rw [if_pos ⟨q0, q1⟩] at e
        have HE := Lib.hid e
        clear e
        go_wp2_with (at_builtin; refine wpList_append_own _ rfl (.tmp 20) (.tmp 24) 27 rfl (w.heap.size + 1) 3 i0 (.int .i64 0) 1 8 Try.underlying27 hi hz0 hz1 hz2 rfl (by decide) _ _ _ rfl ((hown.out.alloc _).alloc _) ⟨wr.heap.size + 1, 0, none⟩ 1 1 [.int .i64 (n0 - 512)] rfl rfl (cell_one_new' _ _ _ _) (fun x hx => by simp at hx; subst hx; rfl) (by unfold maxLen; omega) (by omega) (by have := hB.size; simp at this ⊢; omega) ?_; intro v' w3 hown' hgrow3 hnil3)
        have hg3 : ((wr.alloc (Obj.cells #[.int .i64 n0, .int .i64 n1] 48)).alloc (Obj.cells #[.int .i64 (n0 - 512)] 3)).grownBy w3 u2.ownBlock := hgrow3
        refine ⟨⟨k + 1, by omega, by go_num, ?_, ?_⟩, ?_⟩
        · unfold Hid
          rw [HS.out, HE.out, List.length_append, List.map_append]
          exact hown'
        · exact ((hB.alloc (by have := hB.size; simp at this; omega) _).alloc (by have := hB.size; simp at this ⊢; omega) _).grown hg3 (by have := hB.size; simp at this ⊢; omega) (fun j hj => (hown.out.lt j hj).1)
        · simp [intOf]; omega
      · have e := memRaw_snoc (xs.take k) (n0, n1)
        rw [if_neg q, List.append_nil] at e
        have HE := Lib.hid e
        clear e
        have hfin : (∃ j : Nat, j ≤ len ∧ Value.int .i64 ((k : Int) + 1) = .int .i64 j ∧ Hid ((wr.alloc (Obj.cells #[.int .i64 n0, .int .i64 n1] 48)).ownsRow (w.heap.size + 1) 3 1 u2 (memRaw (xs.take j)).length ((memRaw (xs.take j)).map (Value.int .i64))) ∧ Below (w.heap.size + 1) (w.alloc (.cells #[.slice (some ⟨b, off, none⟩) len cap] 24)) (wr.alloc (Obj.cells #[.int .i64 n0, .int .i64 n1] 48))) := by
          refine ⟨k + 1, by omega, by go_num, ?_, ?_⟩
          · unfold Hid
            rw [HS.out, HE.out]
            exact hown.out.alloc _
          · exact hB.alloc (by have := hB.size; simp at this; omega) _
        have HFIN := Lib.hid hfin
        clear hfin
        by_cases q0 : 512 ≤ n0
        · have q1 : ¬ n0 ≤ 1023 := by omega
          go_wp2
          exact ⟨HFIN.out, by simp [intOf]; omega⟩
        · go_wp2
          exact ⟨HFIN.out, by simp [intOf]; omega⟩
    · have hk' : k = len := by omega
      have e0 : xs.take k = xs := List.take_of_length_le (by rw [← HL.out]; omega)
      rw [e0] at hown
      have hr0 := memRaw_length xs
      rw [← HL.out] at hr0
      generalize hr : memRaw xs = rs at *
      have hme : memL xs = Lib.compact (rs.mergeSort fun x y => decide (x ≤ y)) := by unfold memL; rw [hr]
      have HME := Lib.hid hme
      clear hme e0 hr
      rcases hown.out.2 with ⟨rfl, h0⟩ | ⟨g, c2, cur, rfl, hg0, hg1, hn, hcm, hcs, htake⟩
      · have HO := Lib.hid hown
        clear hown
        have hr0 : rs = [] := List.eq_nil_of_length_eq_zero h0
        subst hr0
        go_wp2_with (first
          | (go_at_call 42; refine (Try.slices_Sort_int_none none 0 wr).mono ?_; rintro e w' ⟨rfl, hw⟩; rw [hw]; clear hw)
          | (go_at_call 43; refine (Try.slices_Compact_int_empty none 0 wr).mono ?_; rintro e w' ⟨rfl, hw⟩; rw [hw]; clear hw))
        go_ret
        refine ⟨_, rfl, ?_, ?_⟩
        · have he : Lib.compact (([] : List Int).mergeSort fun x y => decide (x ≤ y)) = [] := by simp [Lib.compact, Lib.compactUpTo]
          rw [HME.out, he]
          exact ⟨none, 0, 0, 0, rfl, .inr rfl, fun i x hx => by cases hx⟩
        · exact ((Below.refl _ _).alloc (Nat.le_refl _) _).trans (hB.mono (by omega))
      · have HO := Lib.hid hown
        have HS := Lib.hid (sort_own (w := wr) (base := w.heap.size + 1) (by omega) hown.out)
        clear hown
        generalize rs.length = m at *
        go_wp2_with (first
          | (go_at_call 42; refine HS.out.mono ?_; rintro e w1 ⟨rfl, hs1, hs2⟩; have HC2 := Lib.hid (compact_own hs1); clear hs1)
          | (go_at_call 43; refine HC2.out.mono ?_; rintro e w2 ⟨v2, rfl, hc1, hc2⟩))
        go_ret
        refine ⟨_, rfl, ?_, ?_⟩
        · rw [HME.out]; exact hc1
        · refine ((Below.refl w.heap.size w).alloc (Nat.le_refl _) (.cells #[.slice a len cap] 24)).trans (Below.mono (B := w.heap.size + 1) ?_ (Nat.le_succ _))
          exact (hB.grown hs2 (by have := hB.size; simp at this; omega) (fun j hj => by cases hj; exact hg0)).grown hc2 (by have := hB.size; have := hs2.size; simp at *; omega) (fun j hj => by cases hj; exact hg0)
end Go.Proofs.Ytofkmapokdcphaa
