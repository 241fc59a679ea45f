import Derived.Test.YtofkmapokdcphaaRk
import Derived.Sort.AtCall
import Derived.BigQuiet
namespace Go.Proofs.Ytofkmapokdcphaa
open Go Go.RowKit Go.Maps Go.My Go.Shelf

/-- The node ahead of a node is lower. -/
def prevB (xs : List Nd) (i : Nat) (n0 : Int) : Bool := decide (i = 0) || ((xs[i - 1]?).map fun p => decide (p.1 < n0)).getD false
/-- What the reference asks of a node, but for the leaf under it. -/
def preAt (xs : List Nd) (i : Nat) : Bool := ((xs[i]?).map fun n => decide (1 ≤ n.1) && decide (n.1 ≤ 1023) && prevB xs i n.1 && decide (chk n.2 = 0)).getD false
def MetR (xs : List Nd) (x : Int) : Prop := ∃ n ∈ xs, 512 ≤ n.1 ∧ Und n.1 x

theorem preAt_eq {xs : List Nd} {k : Nat} {n0 n1 : Int} (h : xs[k]? = some (n0, n1)) : preAt xs k = (decide (1 ≤ n0) && decide (n0 ≤ 1023) && prevB xs k n0 && decide (chk n1 = 0)) := by
  unfold preAt; rw [h]; rfl
theorem okAt_pre {xs : List Nd} {k : Nat} {n0 n1 : Int} (h : xs[k]? = some (n0, n1)) : okAt xs k = (preAt xs k && decide (n0 ∈ usedL xs)) := by
  rw [okAt_eq h, preAt_eq h]
  unfold prevB
  cases xs[k - 1]? <;> rfl
theorem prevB_zero {xs : List Nd} {k : Nat} {n0 : Int} (h : k = 0) : prevB xs k n0 = true := by simp [prevB, h]
theorem prevB_pos {xs : List Nd} {k : Nat} {n0 p0 p1 : Int} (h : xs[k - 1]? = some (p0, p1)) (hp : p0 < n0) : prevB xs k n0 = true := by
  unfold prevB; rw [h]; simp [hp]
theorem prevB_le {xs : List Nd} {k : Nat} {n0 p0 p1 : Int} (h : xs[k - 1]? = some (p0, p1)) (hk : 0 < k) (hp : n0 ≤ p0) : prevB xs k n0 = false := by
  unfold prevB; rw [h]; simp; omega
theorem bad_pre {xs : List Nd} {k : Nat} (hk : k < xs.length) (h : preAt xs k = false) : checkL xs = 210 := by
  refine checkL_bad hk ?_
  obtain ⟨⟨n0, n1⟩, hn⟩ : ∃ n, xs[k]? = some n := ⟨_, List.getElem?_eq_getElem hk⟩
  rw [okAt_pre hn, h]; rfl
theorem bad_met {xs : List Nd} {k : Nat} {n0 n1 : Int} (hk : k < xs.length) (hn : xs[k]? = some (n0, n1)) (h : ¬ MetR xs n0) : checkL xs = 210 := by
  refine checkL_bad hk ?_
  rw [okAt_pre hn, decide_eq_false, Bool.and_false]
  intro hu
  obtain ⟨n, hm, a, b, c⟩ := (mem_usedL xs n0).1 hu
  exact h ⟨n, hm, a, (und_anc a b).2 c⟩
theorem good_all {xs : List Nd} (h : ∀ (j : Nat) (n : Nd), xs[j]? = some n → preAt xs j = true ∧ MetR xs n.1) : checkL xs = 0 := by
  refine checkL_good fun j hj => ?_
  obtain ⟨⟨n0, n1⟩, hn⟩ : ∃ n, xs[j]? = some n := ⟨_, List.getElem?_eq_getElem hj⟩
  obtain ⟨h1, m, hm, a, b⟩ := h j _ hn
  rw [okAt_pre hn, h1, Bool.true_and]
  refine decide_eq_true ((mem_usedL xs n0).2 ?_)
  obtain ⟨i, hi, e⟩ := List.mem_iff_getElem.1 hm
  have h2 := (h i m (by rw [List.getElem?_eq_getElem hi, e])).1
  rw [preAt_eq (n0 := m.1) (n1 := m.2) (by rw [List.getElem?_eq_getElem hi, e])] at h2
  simp at h2
  exact ⟨m, hm, a, h2.1.1.2, (und_anc a h2.1.1.2).1 b⟩

theorem check04_q (a : Int) (w : World) : Calls Try.prog 40 #[.int .i64 a] w fun e w' => e = .returned (.int .i64 (chk a)) ∧ w' = w := (check04_any a w).mono fun _ _ h => ⟨h.1, h.2.symm⟩
noncomputable def undB (n a : Int) : Bool := @decide (Und n a) (Classical.propDecidable _)
theorem undB_iff {n a : Int} : undB n a = true ↔ Und n a := by unfold undB; simp
theorem under41_q (n a : Int) (w : World) (h : (Lit.int .i64 n).wf = true) : Calls Try.prog 41 #[.int .i64 n, .int .i64 a] w fun e w' => e = .returned (.bool (undB n a)) ∧ w' = w := by
  refine (under41 n a w h).mono ?_
  rintro e w' ⟨b, rfl, hb, rfl⟩
  refine ⟨ret_bool ?_, rfl⟩
  rw [Bool.eq_iff_iff, hb, undB_iff]

/-- A block that holds a node. -/
def Boxed2 (w : World) (b : Nat) (x : Int) : Prop := w.cell? ⟨b, 0, none⟩ = some (.int .i64 x)

set_option maxRecDepth 100000 in
set_option maxHeartbeats 4000000 in
theorem check18 (v : Value) (xs : List Nd) (w : World) (hm : xs.length ≤ 100) (h : TreeAt w v xs) :
    Calls Try.prog 18 #[v] w fun e w' => e = .returned (.int .i64 (checkL xs)) ∧ Below w.heap.size w w' := by
  obtain ⟨a, cap, rfl, ⟨b, off, ha, hc⟩, hw⟩ := h
  obtain ⟨len, hlen⟩ : ∃ len, len = xs.length := ⟨_, rfl⟩
  rw [← hlen] at hm ⊢
  have HL := Lib.hid hlen
  have HC := Lib.hid hc
  have HA := Lib.hid ha
  have HW := Lib.hid hw
  clear hlen hc ha hw
  go_enter Try.func18, Try.ntmps18
  go_wp2
  go_loopw [3] (fun u wr => ∃ k : Nat, k ≤ len ∧ u = .int .i64 k ∧ Hid (∀ j n, j < k → xs[j]? = some n → preAt xs j = true ∧ MetR xs n.1) ∧ Boxed wr w.heap.size 24 (.slice a len cap) ∧ Below w.heap.size w wr) (fun u _ => len - (intOf u).toNat)
  case atStart => exact ⟨0, Nat.zero_le _, rfl, fun j m hj => by omega, Boxed.new w 24 _, (Below.refl _ _).alloc (Nat.le_refl _) _⟩
  case round =>
    obtain ⟨k, hk, rfl, hall, hb, hB⟩ := hrel
    by_cases hlt : k < len
    · obtain ⟨⟨n0, n1⟩, hn⟩ : ∃ n, xs[k]? = some n := ⟨_, List.getElem?_eq_getElem (by rw [← HL.out]; exact hlt)⟩
      have ha : a = some ⟨b, off, none⟩ := by
        rcases HA.out with h | h
        · exact h
        · rw [h] at hn; cases hn
      subst ha
      obtain ⟨h0, h1⟩ := HC.out k _ hn
      have hwr : w.heap.size < wr.heap.size := hb.lt
      have gb := hb.cell
      have g0 := cell_kept h0 hB
      have g1 := cell_kept h1 hB
      have gb' := cell_old gb (.cells #[.int .i64 n0, .int .i64 n1] 48)
      have gn0 : (wr.alloc (.cells #[.int .i64 n0, .int .i64 n1] 48)).cell? ⟨wr.heap.size, 0, none⟩ = some (.int .i64 n0) := cell_at_new wr _ _ 0
      have gn1 : (wr.alloc (.cells #[.int .i64 n0, .int .i64 n1] 48)).cell? ⟨wr.heap.size, 1, none⟩ = some (.int .i64 n1) := cell_at_new wr _ _ 1
      have hk0 : (0 : Int) ≤ (k : Int) := by omega
      have hk1 : (k : Int) < (len : Int) := by omega
      have HN := Lib.hid hn
      have KC := Lib.hid fun W => check04_q n1 W
      have HB := Lib.hid hB
      have HB1 := Lib.hid (hB.alloc (by omega) (.cells #[.int .i64 n0, .int .i64 n1] 48))
      have HBX := Lib.hid hb
      clear hn h0 h1 hB hb
      have hpe := Lib.hid (preAt_eq HN.out)
      by_cases q1 : n0 < 1
      · have d1 : decide (n0 < 1) = true := decide_eq_true q1
        have hbad := Lib.hid (bad_pre (xs := xs) (k := k) (by rw [← HL.out]; exact hlt) (by rw [hpe.out]; simp; omega))
        go_wp2
        go_quiet (fail)
        go_wp2
        go_ret
        exact ⟨ret_int hbad.out.symm, ⟨HB1.out.os, HB1.out.tape, HB1.out.output, HB1.out.size, HB1.out.block⟩⟩
      have d1 : decide (n0 < 1) = false := decide_eq_false q1
      by_cases q2 : 1023 < n0
      · have d2 : decide (1023 < n0) = true := decide_eq_true q2
        have hbad := Lib.hid (bad_pre (xs := xs) (k := k) (by rw [← HL.out]; exact hlt) (by rw [hpe.out]; simp; omega))
        go_wp2
        go_quiet (fail)
        go_wp2
        go_ret
        exact ⟨ret_int hbad.out.symm, ⟨HB1.out.os, HB1.out.tape, HB1.out.output, HB1.out.size, HB1.out.block⟩⟩
      have d2 : decide (1023 < n0) = false := decide_eq_false q2
      have hprev : (k = 0 ∧ decide ((0 : Int) < (k : Int)) = false) ∨ (0 < k ∧ decide ((0 : Int) < (k : Int)) = true ∧ ∃ p0 p1, xs[k - 1]? = some (p0, p1)) := by
        rcases Nat.eq_zero_or_pos k with h | h
        · exact .inl ⟨h, decide_eq_false (by omega)⟩
        · refine .inr ⟨h, decide_eq_true (by omega), ?_⟩
          obtain ⟨⟨p0, p1⟩, hp⟩ : ∃ n, xs[k - 1]? = some n := ⟨_, List.getElem?_eq_getElem (by have := HL.out; omega)⟩
          exact ⟨p0, p1, hp⟩
      rcases hprev with ⟨hkz, d0⟩ | ⟨hkp, d0, p0, p1, hp⟩
      · have HKZ := Lib.hid hkz
        clear hkz
        have dz : decide (0 < k) = false := decide_eq_false (by have := HKZ.out; omega)
        have hck : chk n1 = 0 ∨ chk n1 = 40 := by unfold chk; split <;> simp
        rcases hck with q3 | q3
        · rw [q3] at KC
          have hgood := Lib.hid (show preAt xs k = true by rw [hpe.out]; rw [prevB_zero HKZ.out]; simp [q3]; omega)
          go_wp2
          go_quiet (first | (go_at_call 40; refine Calls.quiet_of_same (KC.out _)))
          go_wp2
          have HBq : Hid (Below w.heap.size w ((wr.alloc (.cells #[.int .i64 n0, .int .i64 n1] 48)).drewN nq)) := ⟨HB1.out.os, HB1.out.tape, HB1.out.output, HB1.out.size, HB1.out.block⟩
          have HBb : Hid (Boxed ((wr.alloc (.cells #[.int .i64 n0, .int .i64 n1] 48)).drewN nq) w.heap.size 24 (.slice (some ⟨b, off, none⟩) len cap)) := HBX.out.alloc _
          have HNx : Hid (Boxed2 ((wr.alloc (.cells #[.int .i64 n0, .int .i64 n1] 48)).drewN nq) wr.heap.size n0) := cell_at_new wr _ _ 0
          generalize (wr.alloc (.cells #[.int .i64 n0, .int .i64 n1] 48)).drewN nq = W1 at *
          go_loopw [5, 6] (fun u i wr2 => ∃ (mt : Bool) (j : Nat), j ≤ len ∧ u = .bool mt ∧ i = .int .i64 j ∧ Hid (mt = true ↔ ∃ i n, i < j ∧ xs[i]? = some n ∧ 512 ≤ n.1 ∧ Und n.1 n0) ∧ Hid (∃ q, wr2 = W1.drewN q)) (fun _ i _ => len - (intOf i).toNat)
          case atStart => exact ⟨false, 0, Nat.zero_le _, rfl, rfl, (by constructor; (intro h; cases h); (rintro ⟨i, n, hi, _⟩; omega)), ⟨0, rfl⟩⟩
          case round =>
            obtain ⟨mt, j, hj, rfl, rfl, hmt, hq⟩ := hrel
            by_cases hjl : j < len
            · obtain ⟨⟨m0, m1⟩, hmj⟩ : ∃ n, xs[j]? = some n := ⟨_, List.getElem?_eq_getElem (by rw [← HL.out]; exact hjl)⟩
              obtain ⟨q, hqe⟩ := hq.out
              have hce : ∀ p u, W1.cell? p = some u → wr.cell? p = some u := fun p u h => by rw [hqe]; exact h
              have gm0 := hce _ _ (cell_kept (HC.out j _ hmj).1 HBq.out)
              have gb2 := hce _ _ HBb.out.cell
              have gx2 := hce _ _ HNx.out
              clear hce
              have hj0 : (0 : Int) ≤ (j : Int) := by omega
              have hj1 : (j : Int) < (len : Int) := by omega
              have hmw : (Lit.int .i64 m0).wf = true := (HW.out _ (List.mem_of_getElem? hmj)).1
              have KU := Lib.hid fun W => under41_q m0 n0 W hmw
              have HMJ := Lib.hid hmj
              have HQE := Lib.hid hqe
              clear hmj hq hmw hqe
              cases mt with
              | true =>
                go_wp2
                go_quiet (fail)
                go_wp2
                refine ⟨⟨true, j + 1, by omega, rfl, by go_num, ⟨fun _ => ?_, fun _ => rfl⟩, ⟨q + nq, by rw [HQE.out, World.drewN_drewN]⟩⟩, by simp [intOf]; omega⟩
                obtain ⟨i, n, hi, r⟩ := hmt.out.1 (by first | rfl | trivial)
                exact ⟨i, n, by omega, r⟩
              | false =>
                by_cases h5 : 512 ≤ m0
                · have d5' : decide (512 ≤ m0) = true := decide_eq_true h5
                  go_wp2
                  go_quiet (first | (go_at_call 41; refine Calls.quiet_of_same (KU.out _)))
                  go_wp2
                  refine ⟨⟨undB m0 n0, j + 1, by omega, rfl, by go_num, ⟨fun h => ⟨j, (m0, m1), by omega, HMJ.out, h5, undB_iff.1 h⟩, ?_⟩, ⟨q + nq, by rw [HQE.out, World.drewN_drewN]⟩⟩, by simp [intOf]; omega⟩
                  rintro ⟨i, n, hi, hin, r1, r2⟩
                  by_cases hij : i < j
                  · have := hmt.out.2 ⟨i, n, hij, hin, r1, r2⟩; cases this
                  · have : i = j := by omega
                    rw [this, HMJ.out] at hin
                    cases hin
                    exact undB_iff.2 r2
                · have d5' : decide (512 ≤ m0) = false := decide_eq_false h5
                  go_wp2
                  go_quiet (fail)
                  go_wp2
                  refine ⟨⟨false, j + 1, by omega, rfl, by go_num, ⟨(fun h => by cases h), ?_⟩, ⟨q + nq, by rw [HQE.out, World.drewN_drewN]⟩⟩, by simp [intOf]; omega⟩
                  rintro ⟨i, n, hi, hin, r1, r2⟩
                  by_cases hij : i < j
                  · exact hmt.out.2 ⟨i, n, hij, hin, r1, r2⟩
                  · have : i = j := by omega
                    rw [this, HMJ.out] at hin
                    cases hin
                    exact absurd r1 (by show ¬ 512 ≤ m0; omega)
            · have hj' : j = len := by omega
              subst hj'
              have gb2 := HBb.out.cell
              obtain ⟨q, rfl⟩ := hq.out
              clear hq
              have hfin : Hid (Below w.heap.size w (W1.drewN q)) := ⟨HBq.out.os, HBq.out.tape, HBq.out.output, HBq.out.size, HBq.out.block⟩
              cases mt with
              | true =>
                go_wp2
                refine ⟨⟨k + 1, by omega, by go_num, fun i n hi hin => ?_, HBb.out, hfin.out⟩, by simp [intOf]; omega⟩
                by_cases hik : i < k
                · exact hall.out i n hik hin
                · have : i = k := by omega
                  subst this
                  rw [HN.out] at hin
                  cases hin
                  obtain ⟨t, n, ht, htn, r1, r2⟩ := hmt.out.1 (by first | rfl | trivial)
                  exact ⟨hgood.out, n, List.mem_of_getElem? htn, r1, r2⟩
              | false =>
                have hbad := Lib.hid (bad_met (xs := xs) (k := k) (by rw [← HL.out]; exact hlt) HN.out (fun ⟨n, hn, r1, r2⟩ => by
                  obtain ⟨i, hi, e⟩ := List.mem_iff_getElem.1 hn
                  have := hmt.out.2 ⟨i, n, by rw [HL.out]; exact hi, by rw [List.getElem?_eq_getElem hi, e], r1, r2⟩
                  cases this))
                go_wp2
                go_ret
                exact ⟨ret_int hbad.out.symm, hfin.out⟩
        · rw [q3] at KC
          have hbad := Lib.hid (bad_pre (xs := xs) (k := k) (by rw [← HL.out]; exact hlt) (by rw [hpe.out]; simp [q3]))
          go_wp2
          go_quiet (first | (go_at_call 40; refine Calls.quiet_of_same (KC.out _)))
          go_wp2
          go_ret
          exact ⟨ret_int hbad.out.symm, ⟨HB1.out.os, HB1.out.tape, HB1.out.output, HB1.out.size, HB1.out.block⟩⟩
      · have hp2 : (0 : Int) ≤ (k : Int) - 1 := by omega
        have hp3 : (k : Int) - 1 < (len : Int) := by omega
        have dz : decide (0 < k) = true := decide_eq_true hkp
        have hk1t : ((k : Int) - 1).toNat = k - 1 := by omega
        have gp := cell_old (cell_kept (HC.out (k - 1) _ hp).1 HB.out) (.cells #[.int .i64 n0, .int .i64 n1] 48)
        have HP := Lib.hid hp
        clear hp
        by_cases q5 : n0 ≤ p0
        · have d5 : decide (n0 ≤ p0) = true := decide_eq_true q5
          have hbad := Lib.hid (bad_pre (xs := xs) (k := k) (by rw [← HL.out]; exact hlt) (by rw [hpe.out]; rw [prevB_le HP.out hkp q5]; simp))
          go_wp2
          go_quiet (fail)
          go_wp2
          go_ret
          exact ⟨ret_int hbad.out.symm, ⟨HB1.out.os, HB1.out.tape, HB1.out.output, HB1.out.size, HB1.out.block⟩⟩
        have d5 : decide (n0 ≤ p0) = false := decide_eq_false q5
        have hck : chk n1 = 0 ∨ chk n1 = 40 := by unfold chk; split <;> simp
        rcases hck with q3 | q3
        · rw [q3] at KC
          have hgood := Lib.hid (show preAt xs k = true by rw [hpe.out]; rw [prevB_pos HP.out (by omega)]; simp [q3]; omega)
          go_wp2
          go_quiet (first | (go_at_call 40; refine Calls.quiet_of_same (KC.out _)))
          go_wp2
          have HBq : Hid (Below w.heap.size w ((wr.alloc (.cells #[.int .i64 n0, .int .i64 n1] 48)).drewN nq)) := ⟨HB1.out.os, HB1.out.tape, HB1.out.output, HB1.out.size, HB1.out.block⟩
          have HBb : Hid (Boxed ((wr.alloc (.cells #[.int .i64 n0, .int .i64 n1] 48)).drewN nq) w.heap.size 24 (.slice (some ⟨b, off, none⟩) len cap)) := HBX.out.alloc _
          have HNx : Hid (Boxed2 ((wr.alloc (.cells #[.int .i64 n0, .int .i64 n1] 48)).drewN nq) wr.heap.size n0) := cell_at_new wr _ _ 0
          generalize (wr.alloc (.cells #[.int .i64 n0, .int .i64 n1] 48)).drewN nq = W1 at *
          go_loopw [5, 6] (fun u i wr2 => ∃ (mt : Bool) (j : Nat), j ≤ len ∧ u = .bool mt ∧ i = .int .i64 j ∧ Hid (mt = true ↔ ∃ i n, i < j ∧ xs[i]? = some n ∧ 512 ≤ n.1 ∧ Und n.1 n0) ∧ Hid (∃ q, wr2 = W1.drewN q)) (fun _ i _ => len - (intOf i).toNat)
          case atStart => exact ⟨false, 0, Nat.zero_le _, rfl, rfl, (by constructor; (intro h; cases h); (rintro ⟨i, n, hi, _⟩; omega)), ⟨0, rfl⟩⟩
          case round =>
            obtain ⟨mt, j, hj, rfl, rfl, hmt, hq⟩ := hrel
            by_cases hjl : j < len
            · obtain ⟨⟨m0, m1⟩, hmj⟩ : ∃ n, xs[j]? = some n := ⟨_, List.getElem?_eq_getElem (by rw [← HL.out]; exact hjl)⟩
              obtain ⟨q, hqe⟩ := hq.out
              have hce : ∀ p u, W1.cell? p = some u → wr.cell? p = some u := fun p u h => by rw [hqe]; exact h
              have gm0 := hce _ _ (cell_kept (HC.out j _ hmj).1 HBq.out)
              have gb2 := hce _ _ HBb.out.cell
              have gx2 := hce _ _ HNx.out
              clear hce
              have hj0 : (0 : Int) ≤ (j : Int) := by omega
              have hj1 : (j : Int) < (len : Int) := by omega
              have hmw : (Lit.int .i64 m0).wf = true := (HW.out _ (List.mem_of_getElem? hmj)).1
              have KU := Lib.hid fun W => under41_q m0 n0 W hmw
              have HMJ := Lib.hid hmj
              have HQE := Lib.hid hqe
              clear hmj hq hmw hqe
              cases mt with
              | true =>
                go_wp2
                go_quiet (fail)
                go_wp2
                refine ⟨⟨true, j + 1, by omega, rfl, by go_num, ⟨fun _ => ?_, fun _ => rfl⟩, ⟨q + nq, by rw [HQE.out, World.drewN_drewN]⟩⟩, by simp [intOf]; omega⟩
                obtain ⟨i, n, hi, r⟩ := hmt.out.1 (by first | rfl | trivial)
                exact ⟨i, n, by omega, r⟩
              | false =>
                by_cases h5 : 512 ≤ m0
                · have d5' : decide (512 ≤ m0) = true := decide_eq_true h5
                  go_wp2
                  go_quiet (first | (go_at_call 41; refine Calls.quiet_of_same (KU.out _)))
                  go_wp2
                  refine ⟨⟨undB m0 n0, j + 1, by omega, rfl, by go_num, ⟨fun h => ⟨j, (m0, m1), by omega, HMJ.out, h5, undB_iff.1 h⟩, ?_⟩, ⟨q + nq, by rw [HQE.out, World.drewN_drewN]⟩⟩, by simp [intOf]; omega⟩
                  rintro ⟨i, n, hi, hin, r1, r2⟩
                  by_cases hij : i < j
                  · have := hmt.out.2 ⟨i, n, hij, hin, r1, r2⟩; cases this
                  · have : i = j := by omega
                    rw [this, HMJ.out] at hin
                    cases hin
                    exact undB_iff.2 r2
                · have d5' : decide (512 ≤ m0) = false := decide_eq_false h5
                  go_wp2
                  go_quiet (fail)
                  go_wp2
                  refine ⟨⟨false, j + 1, by omega, rfl, by go_num, ⟨(fun h => by cases h), ?_⟩, ⟨q + nq, by rw [HQE.out, World.drewN_drewN]⟩⟩, by simp [intOf]; omega⟩
                  rintro ⟨i, n, hi, hin, r1, r2⟩
                  by_cases hij : i < j
                  · exact hmt.out.2 ⟨i, n, hij, hin, r1, r2⟩
                  · have : i = j := by omega
                    rw [this, HMJ.out] at hin
                    cases hin
                    exact absurd r1 (by show ¬ 512 ≤ m0; omega)
            · have hj' : j = len := by omega
              subst hj'
              have gb2 := HBb.out.cell
              obtain ⟨q, rfl⟩ := hq.out
              clear hq
              have hfin : Hid (Below w.heap.size w (W1.drewN q)) := ⟨HBq.out.os, HBq.out.tape, HBq.out.output, HBq.out.size, HBq.out.block⟩
              cases mt with
              | true =>
                go_wp2
                refine ⟨⟨k + 1, by omega, by go_num, fun i n hi hin => ?_, HBb.out, hfin.out⟩, by simp [intOf]; omega⟩
                by_cases hik : i < k
                · exact hall.out i n hik hin
                · have : i = k := by omega
                  subst this
                  rw [HN.out] at hin
                  cases hin
                  obtain ⟨t, n, ht, htn, r1, r2⟩ := hmt.out.1 (by first | rfl | trivial)
                  exact ⟨hgood.out, n, List.mem_of_getElem? htn, r1, r2⟩
              | false =>
                have hbad := Lib.hid (bad_met (xs := xs) (k := k) (by rw [← HL.out]; exact hlt) HN.out (fun ⟨n, hn, r1, r2⟩ => by
                  obtain ⟨i, hi, e⟩ := List.mem_iff_getElem.1 hn
                  have := hmt.out.2 ⟨i, n, by rw [HL.out]; exact hi, by rw [List.getElem?_eq_getElem hi, e], r1, r2⟩
                  cases this))
                go_wp2
                go_ret
                exact ⟨ret_int hbad.out.symm, hfin.out⟩
        · rw [q3] at KC
          have hbad := Lib.hid (bad_pre (xs := xs) (k := k) (by rw [← HL.out]; exact hlt) (by rw [hpe.out]; simp [q3]))
          go_wp2
          go_quiet (first | (go_at_call 40; refine Calls.quiet_of_same (KC.out _)))
          go_wp2
          go_ret
          exact ⟨ret_int hbad.out.symm, ⟨HB1.out.os, HB1.out.tape, HB1.out.output, HB1.out.size, HB1.out.block⟩⟩
    · have hk' : k = len := by omega
      subst hk'
      have gb := hb.cell
      have hg := Lib.hid (good_all (xs := xs) fun j n hj => hall.out j n (by have := (List.getElem?_eq_some_iff.1 hj).1; have := HL.out; omega) hj)
      go_wp2
      go_ret
      exact ⟨ret_int hg.out.symm, hB⟩
end Go.Proofs.Ytofkmapokdcphaa
