import Derived.Test.YtofkmapokdcphaaU
import Derived.Test.YtofkmapokdcphaaHeld
namespace Go.Proofs.Ytofkmapokdcphaa
open Go Go.RowKit Go.Maps Go.My Go.Shelf

set_option maxRecDepth 100000 in
set_option maxHeartbeats 400000 in
theorem few_any (v : Value) (xs : List Nd) (w : World) (h : TreeAt w v xs) :
    Calls Try.prog 11 #[v] w fun e w' => e = .returned (.bool (decide (xs.length ≤ 80))) ∧ Below w.heap.size w w' := by
  obtain ⟨a, cap, rfl, hr, hw⟩ := h
  clear hr hw
  generalize xs.length = n
  have hd : decide ((n : Int) ≤ 80) = decide (n ≤ 80) := by
    by_cases h : n ≤ 80
    · rw [decide_eq_true h, decide_eq_true (by omega)]
    · rw [decide_eq_false h, decide_eq_false (by omega)]
  have HD := Lib.hid hd
  clear hd
  go_enter Try.func11, Try.ntmps11
  go_wp2
  go_ret
  exact ⟨ret_bool (by first | exact HD.out | simp), (Below.refl _ _).alloc (Nat.le_refl _) _⟩

set_option maxRecDepth 100000 in
set_option maxHeartbeats 1000000 in
theorem sameInts_any (v1 v2 : Value) (xs ys : List Int) (w : World) (hm : xs.length ≤ 2000) (h1 : IntsAt w v1 xs) (h2 : IntsAt w v2 ys) :
    Calls Try.prog 16 #[v1, v2] w fun e w' => e = .returned (.bool (decide (xs = ys))) ∧ Below w.heap.size w w' := by
  obtain ⟨a1, cap1, b1, off1, rfl, ha1, hc1⟩ := h1
  obtain ⟨a2, cap2, b2, off2, rfl, ha2, hc2⟩ := h2
  by_cases hl : xs.length = ys.length
  · obtain ⟨len, hlen⟩ : ∃ len, len = xs.length := ⟨_, rfl⟩
    rw [← hlen] at hl hm
    rw [← hl, ← hlen]
    have HL := Lib.hid hlen
    have HL2 := Lib.hid hl
    have HA1 := Lib.hid ha1
    have HA2 := Lib.hid ha2
    have HC1 := Lib.hid hc1
    have HC2 := Lib.hid hc2
    clear hlen hl ha1 ha2 hc1 hc2
    go_enter Try.func16, Try.ntmps16
    go_wp2
    go_loopw [5] (fun i wr => ∃ k : Nat, k ≤ len ∧ i = .int .i64 k ∧ Hid (∀ j, j < k → xs[j]? = ys[j]?) ∧ Below w.heap.size w wr) (fun i _ => len - (intOf i).toNat)
    case atStart => exact ⟨0, Nat.zero_le _, rfl, fun j hj => by omega, Below.refl _ _⟩
    case round =>
      obtain ⟨k, hk, rfl, hsame, hB⟩ := hrel
      by_cases hlt : k < len
      · obtain ⟨x, hx⟩ : ∃ x, xs[k]? = some x := ⟨_, List.getElem?_eq_getElem (by rw [← HL.out]; exact hlt)⟩
        obtain ⟨y, hy⟩ : ∃ y, ys[k]? = some y := ⟨_, List.getElem?_eq_getElem (by rw [← HL2.out]; exact hlt)⟩
        have e1 : a1 = some ⟨b1, off1, none⟩ := by
          rcases HA1.out with h | h
          · exact h
          · rw [h] at hx; cases hx
        have e2 : a2 = some ⟨b2, off2, none⟩ := by
          rcases HA2.out with h | h
          · exact h
          · rw [h] at hy; cases hy
        subst e1 e2
        have g1 := (hB.cell (p := ⟨b1, off1 + k, none⟩) (lt_of_cell (HC1.out k x hx))).trans (HC1.out k x hx)
        have g2 := (hB.cell (p := ⟨b2, off2 + k, none⟩) (lt_of_cell (HC2.out k y hy))).trans (HC2.out k y hy)
        have HX := Lib.hid hx
        have HY := Lib.hid hy
        clear hx hy
        have hk0 : (0 : Int) ≤ (k : Int) := by omega
        have hk1 : (k : Int) < (len : Int) := by omega
        by_cases hxy : x = y
        · subst hxy
          go_wp2
          go_quiet (fail)
          go_wp2
          refine ⟨⟨k + 1, by omega, by go_num, fun j hj => ?_, ⟨hB.os, hB.tape, hB.output, hB.size, hB.block⟩⟩, by simp [intOf]; omega⟩
          by_cases e : j < k
          · exact hsame.out j e
          · have e' : j = k := by omega
            rw [e', HX.out, HY.out]
        · have hne : (x != y) = true := by simpa using hxy
          have HXY := Lib.hid hxy
          clear hxy
          go_wp2
          go_quiet (fail)
          go_wp2
          go_ret
          refine ⟨ret_bool ?_, ⟨hB.os, hB.tape, hB.output, hB.size, hB.block⟩⟩
          symm
          apply decide_eq_false
          intro e
          have := HX.out
          rw [e, HY.out] at this
          exact HXY.out (Option.some.inj this).symm
      · have hk' : k = len := by omega
        go_wp2
        go_ret
        refine ⟨ret_bool ?_, hB⟩
        symm
        apply decide_eq_true
        apply List.ext_getElem?
        intro j
        by_cases hj : j < len
        · exact hsame.out j (by omega)
        · rw [List.getElem?_eq_none (by rw [← HL.out]; omega), List.getElem?_eq_none (by rw [← HL2.out]; omega)]
  · have hne : ¬ (xs.length : Int) = (ys.length : Int) := by omega
    have hne2 : ((xs.length : Int) != (ys.length : Int)) = true := by simpa using hne
    have HN : Hid (decide (xs = ys) = false) := decide_eq_false (fun e => hl (by rw [e]))
    clear ha1 ha2 hc1 hc2 hl
    go_enter Try.func16, Try.ntmps16
    go_wp2
    go_ret
    exact ⟨ret_bool HN.out.symm, Below.refl _ _⟩

set_option maxRecDepth 100000 in
set_option maxHeartbeats 1000000 in
theorem same_any (v1 v2 : Value) (xs ys : List Nd) (w : World) (hm : xs.length ≤ 2000) (h1 : TreeAt w v1 xs) (h2 : TreeAt w v2 ys) :
    Calls Try.prog 27 #[v1, v2] w fun e w' => e = .returned (.bool (decide (xs = ys))) ∧ Below w.heap.size w w' := by
  obtain ⟨a1, cap1, rfl, ⟨b1, off1, ha1, hc1⟩, _⟩ := h1
  obtain ⟨a2, cap2, rfl, ⟨b2, off2, ha2, hc2⟩, _⟩ := h2
  by_cases hl : xs.length = ys.length
  · obtain ⟨len, hlen⟩ : ∃ len, len = xs.length := ⟨_, rfl⟩
    rw [← hlen] at hl hm
    rw [← hl, ← hlen]
    have HL := Lib.hid hlen
    have HL2 := Lib.hid hl
    have HA1 := Lib.hid ha1
    have HA2 := Lib.hid ha2
    have HC1 := Lib.hid hc1
    have HC2 := Lib.hid hc2
    clear hlen hl ha1 ha2 hc1 hc2
    have hB0 : Below w.heap.size w ((w.alloc (.cells #[.slice a1 len cap1] 24)).alloc (.cells #[.slice a2 len cap2] 24)) := ((Below.refl _ _).alloc (Nat.le_refl _) _).alloc (by simp) _
    have hx1 := ((Boxed.new w 24 (.slice a1 len cap1)).alloc (.cells #[.slice a2 len cap2] 24)).cell
    have hx2 := (Boxed.new (w.alloc (.cells #[.slice a1 len cap1] 24)) 24 (.slice a2 len cap2)).cell
    simp only [World.size_alloc] at hx2
    go_enter Try.func27, Try.ntmps27
    go_wp2
    go_loopw [5] (fun i wr => ∃ (k : Nat), k ≤ len ∧ i = .int .i64 k ∧ Hid (∀ j, j < k → xs[j]? = ys[j]?) ∧ Below (w.heap.size + 2) ((w.alloc (.cells #[.slice a1 len cap1] 24)).alloc (.cells #[.slice a2 len cap2] 24)) wr) (fun i _ => len - (intOf i).toNat)
    case atStart => exact ⟨0, Nat.zero_le _, rfl, fun j hj => by omega, Below.refl _ _⟩
    case round =>
      obtain ⟨k, hk, rfl, hsame, hB⟩ := hrel
      by_cases hlt : k < len
      · obtain ⟨⟨x0, x1⟩, hx⟩ : ∃ x, xs[k]? = some x := ⟨_, List.getElem?_eq_getElem (by rw [← HL.out]; exact hlt)⟩
        obtain ⟨⟨y0, y1⟩, hy⟩ : ∃ y, ys[k]? = some y := ⟨_, List.getElem?_eq_getElem (by rw [← HL2.out]; exact hlt)⟩
        have e1 : a1 = some ⟨b1, off1, none⟩ := by
          rcases HA1.out with h | h
          · exact h
          · rw [h] at hx; cases hx
        have e2 : a2 = some ⟨b2, off2, none⟩ := by
          rcases HA2.out with h | h
          · exact h
          · rw [h] at hy; cases hy
        subst e1 e2
        obtain ⟨p1, p2⟩ := HC1.out k _ hx
        obtain ⟨p3, p4⟩ := HC2.out k _ hy
        have g1 := (hB.cell (p := ⟨b1, off1 + k * 2, none⟩) (by have := lt_of_cell p1; simp at this; show b1 < _; omega)).trans ((hB0.cell (p := ⟨b1, off1 + k * 2, none⟩) (lt_of_cell p1)).trans p1)
        have g2 := (hB.cell (p := ⟨b1, off1 + k * 2 + 1, none⟩) (by have := lt_of_cell p2; simp at this; show b1 < _; omega)).trans ((hB0.cell (p := ⟨b1, off1 + k * 2 + 1, none⟩) (lt_of_cell p2)).trans p2)
        have g3 := (hB.cell (p := ⟨b2, off2 + k * 2, none⟩) (by have := lt_of_cell p3; simp at this; show b2 < _; omega)).trans ((hB0.cell (p := ⟨b2, off2 + k * 2, none⟩) (lt_of_cell p3)).trans p3)
        have g4 := (hB.cell (p := ⟨b2, off2 + k * 2 + 1, none⟩) (by have := lt_of_cell p4; simp at this; show b2 < _; omega)).trans ((hB0.cell (p := ⟨b2, off2 + k * 2 + 1, none⟩) (lt_of_cell p4)).trans p4)
        have gx1 := (hB.cell (p := ⟨w.heap.size, 0, none⟩) (by show w.heap.size < _; omega)).trans hx1
        have gx2 := (hB.cell (p := ⟨w.heap.size + 1, 0, none⟩) (by show w.heap.size + 1 < _; omega)).trans hx2
        have HX := Lib.hid hx
        have HY := Lib.hid hy
        clear hx hy p1 p2 p3 p4
        have hk0 : (0 : Int) ≤ (k : Int) := by omega
        have hk1 : (k : Int) < (len : Int) := by omega
        by_cases hxy : (x0, x1) = (y0, y1)
        · obtain ⟨rfl, rfl⟩ := Prod.mk.inj hxy
          go_wp2
          refine wp_region_held_drew (S := fun w' => w'.cell? ⟨w.heap.size, 0, none⟩ = some (.slice (some ⟨b1, off1, none⟩) len cap1) ∧ w'.cell? ⟨w.heap.size + 1, 0, none⟩ = some (.slice (some ⟨b2, off2, none⟩) len cap2) ∧ w'.cell? ⟨b1, off1 + k * 2, none⟩ = some (.int .i64 x0) ∧ w'.cell? ⟨b1, off1 + k * 2 + 1, none⟩ = some (.int .i64 x1) ∧ w'.cell? ⟨b2, off2 + k * 2, none⟩ = some (.int .i64 x0) ∧ w'.cell? ⟨b2, off2 + k * 2 + 1, none⟩ = some (.int .i64 x1)) (by kernel_rfl) ⟨gx1, gx2, g1, g2, g3, g4⟩ (fun hHeld => ?_)
          refine takeT (i := 0) (v := (.pointer (some ⟨w.heap.size, 0, none⟩))) rfl (by kernel_rfl) (by kernel_rfl) (by kernel_rfl) (fun _ _ _ h => h) rfl ?_ (by assumption) ?_
          · intro w' hw'; go_split_ands; go_simp
          simp only [List.setIfInBounds_toArray, List.set_cons_zero, List.set_cons_succ]
          refine takeT (i := 1) (v := (.slice (some ⟨b1, off1, none⟩) len cap1)) rfl (by kernel_rfl) (by kernel_rfl) (by kernel_rfl) (fun _ _ _ h => h) rfl ?_ (by assumption) ?_
          · intro w' hw'; go_split_ands; go_simp
          simp only [List.setIfInBounds_toArray, List.set_cons_zero, List.set_cons_succ]
          refine takeT (i := 2) (v := (.int .i64 (k : Int))) rfl (by kernel_rfl) (by kernel_rfl) (by kernel_rfl) (fun _ _ _ h => h) rfl ?_ (by assumption) ?_
          · intro w' hw'; go_split_ands; go_simp
          simp only [List.setIfInBounds_toArray, List.set_cons_zero, List.set_cons_succ]
          refine takeT (i := 3) (v := (.pointer (some ⟨b1, off1 + k * 2, none⟩))) rfl (by kernel_rfl) (by kernel_rfl) (by kernel_rfl) (fun _ _ _ h => h) rfl ?_ (by assumption) ?_
          · intro w' hw'; go_split_ands; go_simp
          simp only [List.setIfInBounds_toArray, List.set_cons_zero, List.set_cons_succ]
          refine takeT (i := 4) (v := (.agg #[.int .i64 x0, .int .i64 x1])) rfl (by kernel_rfl) (by kernel_rfl) (by kernel_rfl) (fun _ _ _ h => h) rfl ?_ (by assumption) ?_
          · intro w' hw'; go_split_ands; go_simp
          simp only [List.setIfInBounds_toArray, List.set_cons_zero, List.set_cons_succ]
          refine takeT (i := 5) (v := (.pointer (some ⟨w.heap.size + 1, 0, none⟩))) rfl (by kernel_rfl) (by kernel_rfl) (by kernel_rfl) (fun _ _ _ h => h) rfl ?_ (by assumption) ?_
          · intro w' hw'; go_split_ands; go_simp
          simp only [List.setIfInBounds_toArray, List.set_cons_zero, List.set_cons_succ]
          refine takeT (i := 6) (v := (.slice (some ⟨b2, off2, none⟩) len cap2)) rfl (by kernel_rfl) (by kernel_rfl) (by kernel_rfl) (fun _ _ _ h => h) rfl ?_ (by assumption) ?_
          · intro w' hw'; go_split_ands; go_simp
          simp only [List.setIfInBounds_toArray, List.set_cons_zero, List.set_cons_succ]
          refine takeT (i := 7) (v := (.int .i64 (k : Int))) rfl (by kernel_rfl) (by kernel_rfl) (by kernel_rfl) (fun _ _ _ h => h) rfl ?_ (by assumption) ?_
          · intro w' hw'; go_split_ands; go_simp
          simp only [List.setIfInBounds_toArray, List.set_cons_zero, List.set_cons_succ]
          refine takeT (i := 8) (v := (.pointer (some ⟨b2, off2 + k * 2, none⟩))) rfl (by kernel_rfl) (by kernel_rfl) (by kernel_rfl) (fun _ _ _ h => h) rfl ?_ (by assumption) ?_
          · intro w' hw'; go_split_ands; go_simp
          simp only [List.setIfInBounds_toArray, List.set_cons_zero, List.set_cons_succ]
          refine takeT (i := 9) (v := (.agg #[.int .i64 x0, .int .i64 x1])) rfl (by kernel_rfl) (by kernel_rfl) (by kernel_rfl) (fun _ _ _ h => h) rfl ?_ (by assumption) ?_
          · intro w' hw'; go_split_ands; go_simp
          simp only [List.setIfInBounds_toArray, List.set_cons_zero, List.set_cons_succ]
          refine takeT (i := 10) (v := (.bool false)) rfl (by kernel_rfl) (by kernel_rfl) (by kernel_rfl) (fun _ _ _ h => h) rfl ?_ (by assumption) ?_
          · intro w' hw'; go_split_ands; go_simp
          simp only [List.setIfInBounds_toArray, List.set_cons_zero, List.set_cons_succ]
          refine wpAnyH_done (by kernel_rfl) ?_ _
          go_wp2
          refine ⟨⟨k + 1, by omega, by go_num, fun j hj => ?_, ⟨hB.os, hB.tape, hB.output, hB.size, hB.block⟩⟩, by simp [intOf]; omega⟩
          by_cases e : j < k
          · exact hsame.out j e
          · have e' : j = k := by omega
            rw [e', HX.out, HY.out]
        · have hne : ¬ (x0 = y0 ∧ x1 = y1) := fun h => hxy (by rw [h.1, h.2])
          go_wp2
          refine wp_region_held_drew (S := fun w' => w'.cell? ⟨w.heap.size, 0, none⟩ = some (.slice (some ⟨b1, off1, none⟩) len cap1) ∧ w'.cell? ⟨w.heap.size + 1, 0, none⟩ = some (.slice (some ⟨b2, off2, none⟩) len cap2) ∧ w'.cell? ⟨b1, off1 + k * 2, none⟩ = some (.int .i64 x0) ∧ w'.cell? ⟨b1, off1 + k * 2 + 1, none⟩ = some (.int .i64 x1) ∧ w'.cell? ⟨b2, off2 + k * 2, none⟩ = some (.int .i64 y0) ∧ w'.cell? ⟨b2, off2 + k * 2 + 1, none⟩ = some (.int .i64 y1)) (by kernel_rfl) ⟨gx1, gx2, g1, g2, g3, g4⟩ (fun hHeld => ?_)
          refine takeT (i := 0) (v := (.pointer (some ⟨w.heap.size, 0, none⟩))) rfl (by kernel_rfl) (by kernel_rfl) (by kernel_rfl) (fun _ _ _ h => h) rfl ?_ (by assumption) ?_
          · intro w' hw'; go_split_ands; go_simp
          simp only [List.setIfInBounds_toArray, List.set_cons_zero, List.set_cons_succ]
          refine takeT (i := 1) (v := (.slice (some ⟨b1, off1, none⟩) len cap1)) rfl (by kernel_rfl) (by kernel_rfl) (by kernel_rfl) (fun _ _ _ h => h) rfl ?_ (by assumption) ?_
          · intro w' hw'; go_split_ands; go_simp
          simp only [List.setIfInBounds_toArray, List.set_cons_zero, List.set_cons_succ]
          refine takeT (i := 2) (v := (.int .i64 (k : Int))) rfl (by kernel_rfl) (by kernel_rfl) (by kernel_rfl) (fun _ _ _ h => h) rfl ?_ (by assumption) ?_
          · intro w' hw'; go_split_ands; go_simp
          simp only [List.setIfInBounds_toArray, List.set_cons_zero, List.set_cons_succ]
          refine takeT (i := 3) (v := (.pointer (some ⟨b1, off1 + k * 2, none⟩))) rfl (by kernel_rfl) (by kernel_rfl) (by kernel_rfl) (fun _ _ _ h => h) rfl ?_ (by assumption) ?_
          · intro w' hw'; go_split_ands; go_simp
          simp only [List.setIfInBounds_toArray, List.set_cons_zero, List.set_cons_succ]
          refine takeT (i := 4) (v := (.agg #[.int .i64 x0, .int .i64 x1])) rfl (by kernel_rfl) (by kernel_rfl) (by kernel_rfl) (fun _ _ _ h => h) rfl ?_ (by assumption) ?_
          · intro w' hw'; go_split_ands; go_simp
          simp only [List.setIfInBounds_toArray, List.set_cons_zero, List.set_cons_succ]
          refine takeT (i := 5) (v := (.pointer (some ⟨w.heap.size + 1, 0, none⟩))) rfl (by kernel_rfl) (by kernel_rfl) (by kernel_rfl) (fun _ _ _ h => h) rfl ?_ (by assumption) ?_
          · intro w' hw'; go_split_ands; go_simp
          simp only [List.setIfInBounds_toArray, List.set_cons_zero, List.set_cons_succ]
          refine takeT (i := 6) (v := (.slice (some ⟨b2, off2, none⟩) len cap2)) rfl (by kernel_rfl) (by kernel_rfl) (by kernel_rfl) (fun _ _ _ h => h) rfl ?_ (by assumption) ?_
          · intro w' hw'; go_split_ands; go_simp
          simp only [List.setIfInBounds_toArray, List.set_cons_zero, List.set_cons_succ]
          refine takeT (i := 7) (v := (.int .i64 (k : Int))) rfl (by kernel_rfl) (by kernel_rfl) (by kernel_rfl) (fun _ _ _ h => h) rfl ?_ (by assumption) ?_
          · intro w' hw'; go_split_ands; go_simp
          simp only [List.setIfInBounds_toArray, List.set_cons_zero, List.set_cons_succ]
          refine takeT (i := 8) (v := (.pointer (some ⟨b2, off2 + k * 2, none⟩))) rfl (by kernel_rfl) (by kernel_rfl) (by kernel_rfl) (fun _ _ _ h => h) rfl ?_ (by assumption) ?_
          · intro w' hw'; go_split_ands; go_simp
          simp only [List.setIfInBounds_toArray, List.set_cons_zero, List.set_cons_succ]
          refine takeT (i := 9) (v := (.agg #[.int .i64 y0, .int .i64 y1])) rfl (by kernel_rfl) (by kernel_rfl) (by kernel_rfl) (fun _ _ _ h => h) rfl ?_ (by assumption) ?_
          · intro w' hw'; go_split_ands; go_simp
          simp only [List.setIfInBounds_toArray, List.set_cons_zero, List.set_cons_succ]
          refine takeT (i := 10) (v := (.bool true)) rfl (by kernel_rfl) (by kernel_rfl) (by kernel_rfl) (fun _ _ _ h => h) rfl ?_ (by assumption) ?_
          · intro w' hw'; go_split_ands; go_simp; exact fun h1 h2 => hne ⟨h1, h2⟩
          simp only [List.setIfInBounds_toArray, List.set_cons_zero, List.set_cons_succ]
          refine wpAnyH_done (by kernel_rfl) ?_ _
          go_wp2
          go_ret
          refine ⟨ret_bool ?_, hB0.trans (Below.mono (B := w.heap.size + 2) ⟨hB.os, hB.tape, hB.output, hB.size, hB.block⟩ (by omega))⟩
          symm
          apply decide_eq_false
          intro e
          have := HX.out
          rw [e, HY.out] at this
          exact hxy (Option.some.inj this).symm
      · have hk' : k = len := by omega
        have gx1 := (hB.cell (p := ⟨w.heap.size, 0, none⟩) (by show w.heap.size < _; omega)).trans hx1
        go_wp2
        go_ret
        refine ⟨ret_bool ?_, hB0.trans (hB.mono (by omega))⟩
        symm
        apply decide_eq_true
        apply List.ext_getElem?
        intro j
        by_cases hj : j < len
        · exact hsame.out j (by omega)
        · rw [List.getElem?_eq_none (by rw [← HL.out]; omega), List.getElem?_eq_none (by rw [← HL2.out]; omega)]
  · have hne : ¬ (xs.length : Int) = (ys.length : Int) := by omega
    have hne2 : ((xs.length : Int) != (ys.length : Int)) = true := by simpa using hne
    have HN : Hid (decide (xs = ys) = false) := decide_eq_false (fun e => hl (by rw [e]))
    clear ha1 ha2 hc1 hc2 hl
    go_enter Try.func27, Try.ntmps27
    go_wp2
    go_ret
    exact ⟨ret_bool HN.out.symm, ((Below.refl _ _).alloc (Nat.le_refl _) _).alloc (by simp) _⟩
end Go.Proofs.Ytofkmapokdcphaa
