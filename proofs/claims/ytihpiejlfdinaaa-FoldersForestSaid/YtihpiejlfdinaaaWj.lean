import Derived.Test.YtihpiejlfdinaaaWi
namespace Go.Proofs.Ytihpiejlfdinaaa.PF
open Go Go.RowKit Go.Maps Go.My Go.Shelf Go.Sort Go.Proofs.YtihpiejlfdinaaaW.PrintWords

/-! ### Find -/

/-- A row of one's own: none, or one that begins a block. -/
theorem row_of_R {w : World} {base : Nat} {v : Value} {xs : List S29} (h : Kd.R k29 29 w base (fun _ => True) v xs) :
    (v = .slice none 0 0 ∧ xs = []) ∨ ∃ g cap, v = .slice (some ⟨g, 0, none⟩) xs.length cap ∧ base ≤ g ∧ RowAt w g xs := by
  obtain ⟨_, inner, ho, hl, hr⟩ := h
  rcases ho.2 with ⟨rfl, h0⟩ | ⟨g, cap, cur, rfl, hg, hh, _⟩
  · exact .inl ⟨rfl, List.length_eq_zero_iff.1 h0⟩
  · refine .inr ⟨g, cap, rfl, hg, (Array.getElem?_eq_some_iff.1 hh).1, fun j x hx i u hu => ?_⟩
    have hi : i < 5 := (List.getElem?_eq_some_iff.1 hu).1
    have hj := (List.getElem?_eq_some_iff.1 hx).1
    have hM := k29_openM (hr j x hx)
    have hM : (inner.drop (j * 5)).take 5 = cellsOf x := hM
    have e : inner[j * 5 + i]? = some u := by
      rw [← hu, ← hM, List.getElem?_take_of_lt hi, List.getElem?_drop]
    have hsz : xs.length * k29.sz = xs.length * 5 := rfl
    refine ⟨?_, by simp [World.frozen?, hh]⟩
    have hc := World.ownsRow.cellAt (size := 5) ho (j * 5 + i) (by omega)
    rw [hc, e]

def predF (at_ : Int) (n : ByteArray) (x : S29) : Bool := decide (x.f3 = at_) && decide (x.f4.data.toList = n.data.toList)

theorem clo41 (at_ : Int) (n : ByteArray) (b4 b8 : Nat) (x : S29) (W : World) (h4 : W.cell? ⟨b4, 0, none⟩ = some (.int .i64 at_)) (h8 : W.cell? ⟨b8, 0, none⟩ = some (.string n)) :
    Calls Try.prog 41 #[x.val, .pointer (some ⟨b4, 0, none⟩), .pointer (some ⟨b8, 0, none⟩)] W fun e w' => e = .returned (.bool (predF at_ n x)) ∧ Below W.heap.size W w' := by
  obtain ⟨t, d, f, p, nm⟩ := x
  unfold S29.val predF
  have c4 := cell_old h4 (.cells #[.int .i64 t, .int .i64 d, .int .i64 f, .int .i64 p, .string nm] 29)
  have c8 := cell_old h8 (.cells #[.int .i64 t, .int .i64 d, .int .i64 f, .int .i64 p, .string nm] 29)
  have hB : Below W.heap.size W (W.alloc (.cells #[.int .i64 t, .int .i64 d, .int .i64 f, .int .i64 p, .string nm] 29)) := (Below.refl _ _).alloc (Nat.le_refl _) _
  have HB := Lib.hid hB
  have he : (nm.toList == n.toList) = decide (nm.data.toList = n.data.toList) := by
    rw [ByteArray.toList_eq, ByteArray.toList_eq]
    by_cases h : nm.data.toList = n.data.toList
    · rw [decide_eq_true h, beq_iff_eq]; exact h
    · rw [decide_eq_false h, beq_eq_false_iff_ne]; exact h
  have HE := Lib.hid he
  clear he hB
  by_cases e : p = at_
  · have d0 : (p == at_) = true := by simpa using e
    have HP := Lib.hid e
    clear e
    go_enter Try.func41, Try.ntmps41
    go_wp2
    go_ret
    refine ⟨ret_bool ?_, HB.out⟩
    rw [HE.out, HP.out]; simp
  · have d0 : (p == at_) = false := by simpa using e
    have HP := Lib.hid e
    clear e
    go_enter Try.func41, Try.ntmps41
    go_wp2
    go_ret
    refine ⟨ret_bool ?_, HB.out⟩
    rw [decide_eq_false HP.out]; rfl

theorem find_first {xs : List S29} {p : S29 → Bool} {k : Nat} {x : S29} (hx : xs[k]? = some x) (hp : p x = true) (h : ∀ j y, j < k → xs[j]? = some y → p y = false) : xs.find? p = some x := by
  induction xs generalizing k with
  | nil => cases hx
  | cons y ys ih =>
    rw [List.find?_cons]
    cases k with
    | zero => cases hx; rw [hp]
    | succ k =>
      rw [h 0 y (by omega) rfl]
      exact ih (k := k) (by simpa using hx) (fun j z hj hz => h (j + 1) z (by omega) (by simpa using hz))
/-- IndexFunc's answer in find?'s words. -/
theorem idx_find (p : S29 → Bool) (xs : List S29) : (Lib.idxBy (fun _ y => p y) xs default = -1 ∧ xs.find? p = none) ∨ ∃ (k : Nat) (x : S29), Lib.idxBy (fun _ y => p y) xs default = (k : Int) ∧ xs[k]? = some x ∧ xs.find? p = some x := by
  rcases idxByFrom_spec (fun _ y => p y) default xs 0 with ⟨e1, hall⟩ | ⟨k0, hk0, e1, ht, hall⟩
  · left
    refine ⟨e1, List.find?_eq_none.2 fun x hx => ?_⟩
    obtain ⟨j, hj, rfl⟩ := List.mem_iff_getElem.1 hx
    have h1 := hall j hj
    rw [getElem!_pos xs j hj] at h1
    rw [h1]; simp
  · right
    have hx0 : xs[k0]? = some xs[k0]! := by rw [List.getElem?_eq_getElem hk0, getElem!_pos xs k0 hk0]
    refine ⟨k0, xs[k0]!, by unfold Lib.idxBy; rw [e1]; simp, hx0, find_first hx0 ht fun j y hj hy => ?_⟩
    have := hall j hj
    rwa [getElem!_of hy] at this

theorem findP_snoc {t : List S29} : ∀ {ns : List ByteArray} {n : ByteArray} {a b : Int}, findP t a ns = some b → findP t a (ns ++ [n]) = findAt t b n
  | [], n, a, b, h => by cases h; unfold findP; simp only [List.nil_append, findP]; cases findAt t a n <;> rfl
  | m :: ns, n, a, b, h => by
    rw [List.cons_append]
    unfold findP at h ⊢
    cases hm : findAt t a m with
    | none => rw [hm] at h; cases h
    | some c => rw [hm] at h; simp only at h ⊢; exact findP_snoc h
theorem findP_stop {t : List S29} : ∀ {ns : List ByteArray} {k : Nat} {n : ByteArray} {a b : Int}, findP t a (ns.take k) = some b → ns[k]? = some n → findAt t b n = none → findP t a ns = none
  | [], k, n, a, b, _, h, _ => by cases h
  | m :: ns, 0, n, a, b, h, hn, h0 => by
    cases h
    cases hn
    unfold findP
    rw [h0]
  | m :: ns, k + 1, n, a, b, h, hn, h0 => by
    rw [List.take_succ_cons] at h
    unfold findP at h ⊢
    cases hm : findAt t a m with
    | none => rfl
    | some c => rw [hm] at h; simp only at h ⊢; exact findP_stop h (by simpa using hn) h0

theorem res_find {fn : Func} {p u : Tmp} (h : fn.results = #[.cell p 3, .tmp u]) (tmps : Array Value) (w : World) (g : Nat) (v : Value) (hp : tmps.getD p undef = .pointer (some ⟨g, 0, none⟩)) (hb : Boxed w g 3 v) :
    (results fn tmps).run Try.prog w = .ok (.tuple #[v, tmps.getD u undef]) w := by
  have hl := hb.cell
  rw [results_cell_tmp h, hp]
  simp [asAddr, loadVar, hl]

open Go.Proofs.YtihpiejlfdinaaaW.PrintMore in
attribute [local go_sem] max2_int max_two in
set_option maxRecDepth 100000 in
set_option maxHeartbeats 4000000 in
theorem find24 (A : Option Addr) (c : Nat) (l : List S29) (A1 : Option Addr) (c1 : Nat) (ns : List ByteArray) (w : World) (hl : l.length ≤ 100) (h : Kd.C k29 w A l.length l) (hn : Kd.C Kd.string w A1 ns.length ns) :
    Calls Try.prog 24 #[.slice A l.length c, .slice A1 ns.length c1] w fun e w' => e = .returned (.tuple #[.int .i64 (findR (treeP (growF l)) ns).1, .bool (findR (treeP (growF l)) ns).2]) ∧ Below w.heap.size w w' := by
  have hmx := hn.2.1
  have hnc : ∀ k n, ns[k]? = some n → ∃ ad, A1 = some ad ∧ w.cell? (ad.add k) = some (.string n) := fun k n hk => by
    have hp : 0 < ns.length := by have := (List.getElem?_eq_some_iff.1 hk).1; omega
    obtain ⟨ad, e, hc⟩ := hn.2.2 hp
    obtain ⟨cs, _, hK, hcell⟩ := hc k n hk
    have hK : cs = [.string n] := hK
    subst hK
    refine ⟨ad, e, ?_⟩
    have := hcell 0 _ rfl
    rwa [show k * Kd.string.sz + 0 = k from Nat.mul_one k] at this
  have HNC := Lib.hid hnc
  have hlen24 : (growF l |> treeP).length ≤ 16 := by
    unfold treeP
    exact Nat.le_trans (List.length_filterMap_le _ _) (keysF_length _)
  have hT := Lib.hid (tree14 A c l (w.alloc (.cells #[.int .i64 0] 3)) hl (Kd.C_alloc h _))
  generalize treeP (growF l) = tr at *
  obtain ⟨n, hn'⟩ : ∃ n, n = l.length := ⟨_, rfl⟩
  obtain ⟨m, hm⟩ : ∃ m, m = ns.length := ⟨_, rfl⟩
  rw [← hn'] at hT ⊢
  rw [← hm] at hmx ⊢
  have HM := Lib.hid hm
  have hb0 := Boxed.new w 3 (.int .i64 0)
  clear hm hn' hnc hn h hl
  go_enter Try.func24, Try.ntmps24
  go_wp2_with (go_at_call 14; refine hT.out.mono ?_; rintro e w1 ⟨vt, rfl, hR, hB1⟩; have HR := Lib.hid hR; have hb1 : Boxed w1 w.heap.size 3 (.int .i64 0) := (hB1.block _ (by simp)).trans hb0; have cb1 := hb1.cell; have fb1 := hb1.frozen)
  have hb1s := hb1.set (.int .i64 (-1))
  have hsz1 : w.heap.size + 1 ≤ w1.heap.size := by have := hB1.size; simp at this; omega
  have hBw : Below w.heap.size w w1 := ((Below.refl _ w).alloc (Nat.le_refl _) _).trans (hB1.mono (by simp))
  have hCs : Chg (fun j => j = w.heap.size) w1 (w1.setCell ⟨w.heap.size, 0, none⟩ (.int .i64 (-1))) := Chg.setCell (p := ⟨w.heap.size, 0, none⟩) (Chg.refl (fun j => j = w.heap.size) w1) (.inl rfl) _
  have HBW := Lib.hid hBw
  have HCS := Lib.hid hCs
  have hrow : (vt = .slice none 0 0 ∧ tr = []) ∨ ∃ g cap, vt = .slice (some ⟨g, 0, none⟩) tr.length cap ∧ g ≠ w.heap.size ∧ RowAt w1 g tr := by
    rcases row_of_R HR.out with h | ⟨g, cap, e, hg, hrow⟩
    · exact .inl h
    · exact .inr ⟨g, cap, e, by simp at hg; omega, hrow⟩
  have hidx : ∀ (W : World) (a : Int) (n : ByteArray) (b8 : Nat), Chg (fun j => j = w.heap.size) w1 W → W.cell? ⟨w.heap.size, 0, none⟩ = some (.int .i64 a) → W.cell? ⟨b8, 0, none⟩ = some (.string n) →
      Calls Try.prog 40 #[vt, .func (.func 41) #[] #[.pointer (some ⟨w.heap.size, 0, none⟩), .pointer (some ⟨b8, 0, none⟩)]] W fun e w' => e = .returned (.int .i64 (Lib.idxBy (fun _ y => predF a n y) tr default)) ∧ Below W.heap.size W w' := by
    intro W a n b8 hC h4 h8
    rcases hrow with ⟨rfl, rfl⟩ | ⟨g, cap, rfl, hg, hR⟩
    · refine (index40_nil 0 W _).mono ?_
      rintro e w' ⟨rfl, rfl⟩
      exact ⟨rfl, Below.refl _ _⟩
    · have hRW := hR.chg hC hg
      have h := AnyQ.slices_IndexFunc Try.index40 5 Try.isAgg29 Try.sizeOf29 cellsOf (fun _ => rfl) (predF a n) 41 #[.pointer (some ⟨w.heap.size, 0, none⟩), .pointer (some ⟨b8, 0, none⟩)] (enters_of Try.func41 (by kernel_rfl) rfl) g 0 tr.length cap tr W
        (fun W' x hb => (clo41 a n w.heap.size b8 x W' (cellK h4 hb) (cellK h8 hb)).mono fun e w' h => ⟨h.1, hb.trans (h.2.mono hb.size)⟩) (Nat.le_refl _) (by omega) hRW.1
        (fun j hj i v hv => by
          have hx : tr[j]? = some tr[j]! := by rw [List.getElem?_eq_getElem hj, getElem!_pos tr j hj]
          rw [Nat.zero_add]
          exact (hRW.2 j _ hx i v hv).1)
      rw [List.take_length] at h
      exact h
  have HIDX := Lib.hid hidx
  have HROW := Lib.hid hrow
  clear hidx hrow hBw hCs hB1 HR hR cb1 fb1 hb1
  go_loopg [14] m (fun gg s14 wr => ∃ (k : Nat) (a : Int), s14 = .int .i64 k ∧ k ≤ m ∧ m - k ≤ gg ∧ Boxed wr w.heap.size 3 (.int .i64 a) ∧ Hid (findP tr (-1) (ns.take k) = some a) ∧ Hid (Chg (fun j => j = w.heap.size) w1 wr))
  case atStart => exact ⟨0, -1, rfl, by omega, by omega, hb1s, rfl, HCS.out⟩
  case round =>
    obtain ⟨k, a, rfl, hkm, hgg, hbx, hf, hC⟩ := hrel
    have cbx := hbx.cell
    have fbx := hbx.frozen
    by_cases hlt : k < m
    · obtain ⟨nm, hnm⟩ : ∃ nm, ns[k]? = some nm := ⟨_, List.getElem?_eq_getElem (by rw [← HM.out]; exact hlt)⟩
      obtain ⟨ad, rfl, hcell⟩ := HNC.out k nm hnm
      have hlt0 := lt_of_cell hcell
      have g0 : wr.cell? (ad.add k) = some (.string nm) := (hC.out.cell (cellK hcell HBW.out) (fun e => by omega))
      have hCn := hC.out.alloc (.cells #[.string nm] 9)
      have hbx2 := hbx.alloc (.cells #[.string nm] 9)
      have cn : (wr.alloc (.cells #[.string nm] 9)).cell? ⟨wr.heap.size, 0, none⟩ = some (.string nm) := (Boxed.new wr 9 _).cell
      have hcall := HIDX.out (wr.alloc (.cells #[.string nm] 9)) a nm wr.heap.size hCn hbx2.cell cn
      have hkb : (k : Int) < 9223372036854775807 := by omega
      have dlt : decide ((k : Int) < (m : Int)) = true := decide_eq_true (by omega)
      have HNM := Lib.hid hnm
      have HCN := Lib.hid hCn
      have hlt1 : w.heap.size < (wr.alloc (.cells #[.string nm] 9)).heap.size := hbx2.lt
      clear hnm hcell hCn hlt0
      rcases idx_find (predF a nm) tr with ⟨ei, ef⟩ | ⟨k0, x, ei, hx, ef⟩
      · rw [ei] at hcall
        have HCALL := Lib.hid hcall
        have hres : Hid (findR tr ns = (0, false)) := by
          unfold Hid findR
          have h0 : findAt tr a nm = none := by unfold findAt; rw [show (tr.find? fun p => decide (p.f3 = a) && decide (p.f4.data.toList = nm.data.toList)) = none from ef]; rfl
          rw [findP_stop hf.out HNM.out h0]
        clear hcall ei ef
        go_wp2_with (go_at_call 40; refine HCALL.out.mono ?_; rintro e w3 ⟨rfl, hB3⟩; have hb3 : Boxed w3 w.heap.size 3 (.int .i64 a) := (hB3.block _ hlt1).trans hbx2; have cb3 := hb3.cell; have fb3 := hb3.frozen)
        refine bodyPost_ret (res_find rfl _ _ w.heap.size _ rfl (hb3.set _)) rfl ?_
        rw [hres.out]
        refine ⟨rfl, ?_⟩
        have h1 := (HCN.out.trans (Chg.of_below' hB3) (fun _ h => h.elim))
        have h2 : Chg (fun j => j = w.heap.size) w1 (w3.setCell ⟨w.heap.size, 0, none⟩ (.int .i64 0)) := h1.setCell (p := ⟨w.heap.size, 0, none⟩) (.inl rfl) _
        exact HBW.out.trans (Chg.below h2 (fun j h => by omega) (by omega))
      · rw [ei] at hcall
        have HCALL := Lib.hid hcall
        have hfa : Hid (findP tr (-1) (ns.take (k + 1)) = some x.f2) := by
          unfold Hid
          rw [take_snoc HNM.out, findP_snoc hf.out]
          unfold findAt
          rw [show (tr.find? fun p => decide (p.f3 = a) && decide (p.f4.data.toList = nm.data.toList)) = some x from ef]; rfl
        have hk0 := (List.getElem?_eq_some_iff.1 hx).1
        rcases HROW.out with ⟨_, rfl⟩ | ⟨g, cap, rfl, hg, hR⟩
        · cases hx
        · have HRW := Lib.hid hR
          have HX := Lib.hid hx
          have HG2 := Lib.hid hg
          have dk : decide ((k0 : Int) < 0) = false := decide_eq_false (by omega)
          have hk1 : (k0 : Int) < (tr.length : Int) := by omega
          have hk2 : (0 : Int) ≤ (k0 : Int) := by omega
          have HL24 := Lib.hid hlen24
          clear hcall ei ef hx hR hg hlen24
          go_wp2_with (go_at_call 40; refine HCALL.out.mono ?_; rintro e w3 ⟨rfl, hB3⟩; have hb3 : Boxed w3 w.heap.size 3 (.int .i64 a) := (hB3.block _ hlt1).trans hbx2; have cb3 := hb3.cell; have fb3 := hb3.frozen; have h1 := Lib.hid (HCN.out.trans (Chg.of_below' hB3) (fun _ h => h.elim)); obtain ⟨r0, r1, r2, r3, r4⟩ := (HRW.out.chg h1.out HG2.out).get HX.out)
          go_roundg (m - (k + 1))
          case measure => omega
          case rel => exact ⟨k + 1, x.f2, by go_num, by omega, Nat.le_refl _, hb3.set _, hfa.out, h1.out.setCell (p := ⟨w.heap.size, 0, none⟩) (.inl rfl) _⟩
    · have hk' : k = m := by omega
      subst hk'
      have dlt : decide ((k : Int) < (k : Int)) = false := decide_eq_false (by omega)
      rw [show ns.take k = ns from List.take_of_length_le (by rw [HM.out]; exact Nat.le_refl _)] at hf
      have hres : Hid (findR tr ns = (max a 0, decide (0 < k))) := by
        unfold Hid findR
        rw [hf.out, HM.out]
      have HC := Lib.hid hC.out
      clear hC hf
      go_wp2
      all_goals
        refine bodyPost_ret (res_find rfl _ _ w.heap.size _ rfl (hbx.set _)) rfl ?_
        rw [hres.out]
        refine ⟨?_, ?_⟩
        · refine congrArg Ending.returned (congrArg Value.tuple ?_)
          have e : max a 0 = a ∨ max a 0 = 0 := by omega
          first
            | (rw [show max a 0 = a by omega]; rfl)
            | (rw [show max a 0 = 0 by omega]; rfl)
        · have h2 := HC.out.setCell (p := ⟨w.heap.size, 0, none⟩) (.inl rfl)
          exact HBW.out.trans (Chg.below (h2 _) (fun j h => by omega) (by omega))
end Go.Proofs.Ytihpiejlfdinaaa.PF
