import Derived.Test.YtofkmapokdcphaaY
import Derived.Test.YtofkmapokdcphaaPm
import Derived.Sort.AtCall
namespace Go.Proofs.Ytofkmapokdcphaa
open Go Go.RowKit Go.Maps Go.My Go.Shelf

/-- A call of Set | Remove that gives the tree ys. -/
def SetTo (xs : List Nd) (d p : Int) (ys : List Nd) (er : Int) : Prop := ∀ W v, TreeAt W v xs → Calls Try.prog 21 #[v, .int .i64 d, .int .i64 p] W fun e w' => ∃ v', e = .returned (.tuple #[v', .int .i64 er]) ∧ TreeAt w' v' ys ∧ Below W.heap.size W w'
def RemTo (xs : List Nd) (d : Int) (ys : List Nd) (er : Int) : Prop := ∀ W v, TreeAt W v xs → Calls Try.prog 23 #[v, .int .i64 d] W fun e w' => ∃ v', e = .returned (.tuple #[v', .int .i64 er]) ∧ TreeAt w' v' ys ∧ Below W.heap.size W w'

theorem setTo {xs ys : List Nd} {d p er : Int} (hm : xs.length ≤ 100) (hd : (Lit.int .i64 d).wf = true) (hp : (Lit.int .i64 p).wf = true) (h : setL xs d p = (ys, er)) : SetTo xs d p ys er := by
  intro W v hv
  have := set_any v xs d p W hm hv hd hp
  rw [h] at this
  exact this
theorem remTo {xs ys : List Nd} {d er : Int} (hm : xs.length ≤ 100) (h : removeL xs d = (ys, er)) : RemTo xs d ys er := by
  intro W v hv
  have := remove_any v xs d W hm hv
  rw [h] at this
  exact this

theorem cell_old {w : World} {p : Addr} {v : Value} (h : w.cell? p = some v) (o : Obj) : (w.alloc o).cell? p = some v := (((Below.refl _ w).alloc (Nat.le_refl _) o).cell (lt_of_cell h)).trans h
theorem cell_kept {w w' : World} {p : Addr} {v : Value} (h : w.cell? p = some v) (hB : Below w.heap.size w w') : w'.cell? p = some v := (hB.cell (lt_of_cell h)).trans h
theorem cell_step {w w' : World} {o : Obj} {p : Addr} {v : Value} (h : w.cell? p = some v) (hB : Below (w.alloc o).heap.size (w.alloc o) w') : w'.cell? p = some v := cell_kept (cell_old h o) hB
theorem cell_new {w w' : World} {t : TypeId} {v : Value} (hB : Below (w.alloc (.cells #[v] t)).heap.size (w.alloc (.cells #[v] t)) w') : w'.cell? ⟨w.heap.size, 0, none⟩ = some v := cell_kept (Boxed.new w t v).cell hB
theorem TreeAt.step {w w' : World} {o : Obj} {v : Value} {xs : List Nd} (h : TreeAt w v xs) (hB : Below (w.alloc o).heap.size (w.alloc o) w') : TreeAt w' v xs := (h.box o).below hB

set_option maxRecDepth 100000 in
set_option maxHeartbeats 4000000 in
theorem exch_walk (v : Value) (xs X Y U R S : List Nd) (a b p q : Int) (w : World) (hm : xs.length ≤ 80) (h : TreeAt w v xs) (hab : a ≠ b)
    (kX : SetTo xs a p X 0) (kY : SetTo xs b q Y 0) (kU : SetTo X b q U 0) (kV : SetTo Y a p U 0) (kR : RemTo U a R 0) (kS : RemTo X a S 0) (kW : SetTo S b q R 0) (hS : S.length ≤ xs.length) (hU : U.length ≤ 100) (hR : R.length ≤ 100) :
    Calls Try.prog 6 #[v, .int .i64 a, .int .i64 b, .int .i64 p, .int .i64 q] w fun e w' => e = .returned (.bool true) ∧ Below w.heap.size w w' := by
  have KX := Lib.hid kX; have KY := Lib.hid kY; have KU := Lib.hid kU; have KV := Lib.hid kV; have KR := Lib.hid kR; have KS := Lib.hid kS; have KW := Lib.hid kW
  have HS := Lib.hid hS
  have KF := Lib.hid fun W v (hv : TreeAt W v xs) => few_any v xs W hv
  have hd : decide (xs.length ≤ 80) = true := decide_eq_true hm
  rw [hd] at KF
  have hab' : (a == b) = false := by simpa using hab
  have hT0 := h.box (.cells #[match v with | .agg cs => cs.getD 0 undef | u => u] 24)
  have HT := Lib.hid h
  obtain ⟨a0, c0, rfl⟩ := h.form
  have hbx := Boxed.new w 24 (.slice a0 xs.length c0)
  have hB0 : Below w.heap.size w (w.alloc (.cells #[.slice a0 xs.length c0] 24)) := (Below.refl _ _).alloc (Nat.le_refl _) _
  clear kX kY kU kV kR kS kW h hd hT0
  generalize hn : xs.length = n at *
  go_enter Try.func6, Try.ntmps6
  go_wp2_with (first
    | (go_at_call 10; refine (sane_any _).mono ?_; rintro e w1 ⟨rfl, hB1⟩; have hB1' := below_step hB0 hB0.size hB1; have x1 := cell_kept hbx.cell hB1)
    | (go_at_call 11; refine (KF.out w1 _ (HT.out.below hB1')).mono ?_; rintro e w2 ⟨rfl, hB2⟩; have hB2' := below_step hB1' hB1'.size hB2; have x2 := cell_kept x1 hB2; have T2x := HT.out.below hB2'; have HT2 := Lib.hid T2x)
    | (go_at_call_has 21 a0; go_at_call_has 21 (Value.int IntKind.i64 a); refine (KX.out _ _ (HT2.out)).mono ?_; rintro e w3 ⟨vX, rfl, hTX, hB3⟩; have hB3' := below_step hB2' hB2'.size hB3; have x3 := cell_kept x2 hB3; have Tt3 := Lib.hid (HT2.out.below hB3); have TX3 := Lib.hid hTX; obtain ⟨aX, cX, rfl⟩ := hTX.form; clear hTX; have ob3 := cell_old x3 (.cells #[.slice aX X.length cX] 24))
    | (go_at_call_has 21 a0; go_at_call_has 21 (Value.int IntKind.i64 b); refine (KY.out _ _ (Tt3.out.box _)).mono ?_; rintro e w4 ⟨vY, rfl, hTY, hB4⟩; have hB4' := below_step' hB3' hB3'.size hB4; have x4 := cell_step x3 hB4; have Tt4 := Lib.hid (Tt3.out.step hB4); have cX4 := cell_new hB4; have TX4 := Lib.hid (TX3.out.step hB4); have TY4 := Lib.hid hTY; obtain ⟨aY, cY, rfl⟩ := hTY.form; clear hTY; have ob4 := cell_old x4 (.cells #[.slice aY Y.length cY] 24); have obX4 := cell_old cX4 (.cells #[.slice aY Y.length cY] 24))
    | (go_at_call_has 21 aX; go_at_call_has 21 (Value.int IntKind.i64 b); refine (KU.out _ _ (TX4.out.box _)).mono ?_; rintro e w5 ⟨vU, rfl, hTU, hB5⟩; have hB5' := below_step' hB4' hB4'.size hB5; have x5 := cell_step x4 hB5; have Tt5 := Lib.hid (Tt4.out.step hB5); have cX5 := cell_step cX4 hB5; have TX5 := Lib.hid (TX4.out.step hB5); have cY5 := cell_new hB5; have TY5 := Lib.hid (TY4.out.step hB5); have TU5 := Lib.hid hTU; obtain ⟨aU, cU, rfl⟩ := hTU.form; clear hTU; have ob5 := cell_old x5 (.cells #[.slice aU U.length cU] 24); have obX5 := cell_old cX5 (.cells #[.slice aU U.length cU] 24); have obY5 := cell_old cY5 (.cells #[.slice aU U.length cU] 24))
    | (go_at_call_has 21 aY; go_at_call_has 21 (Value.int IntKind.i64 a); refine (KV.out _ _ (TY5.out.box _)).mono ?_; rintro e w6 ⟨vV, rfl, hTV, hB6⟩; have hB6' := below_step' hB5' hB5'.size hB6; have x6 := cell_step x5 hB6; have Tt6 := Lib.hid (Tt5.out.step hB6); have cX6 := cell_step cX5 hB6; have TX6 := Lib.hid (TX5.out.step hB6); have cY6 := cell_step cY5 hB6; have TY6 := Lib.hid (TY5.out.step hB6); have cU6 := cell_new hB6; have TU6 := Lib.hid (TU5.out.step hB6); have TV6 := Lib.hid hTV; obtain ⟨aV, cV, rfl⟩ := hTV.form; clear hTV; have ob6 := cell_old x6 (.cells #[.slice aV U.length cV] 24); have obX6 := cell_old cX6 (.cells #[.slice aV U.length cV] 24); have obY6 := cell_old cY6 (.cells #[.slice aV U.length cV] 24); have obU6 := cell_old cU6 (.cells #[.slice aV U.length cV] 24))
    | (go_at_call_has 23 aU; go_at_call_has 23 (Value.int IntKind.i64 a); refine (KR.out _ _ (TU6.out.box _)).mono ?_; rintro e w7 ⟨vR, rfl, hTR, hB7⟩; have hB7' := below_step' hB6' hB6'.size hB7; have x7 := cell_step x6 hB7; have Tt7 := Lib.hid (Tt6.out.step hB7); have cX7 := cell_step cX6 hB7; have TX7 := Lib.hid (TX6.out.step hB7); have cY7 := cell_step cY6 hB7; have TY7 := Lib.hid (TY6.out.step hB7); have cU7 := cell_step cU6 hB7; have TU7 := Lib.hid (TU6.out.step hB7); have cV7 := cell_new hB7; have TV7 := Lib.hid (TV6.out.step hB7); have TR7 := Lib.hid hTR; obtain ⟨aR, cR, rfl⟩ := hTR.form; clear hTR; have ob7 := cell_old x7 (.cells #[.slice aR R.length cR] 24); have obX7 := cell_old cX7 (.cells #[.slice aR R.length cR] 24); have obY7 := cell_old cY7 (.cells #[.slice aR R.length cR] 24); have obU7 := cell_old cU7 (.cells #[.slice aR R.length cR] 24); have obV7 := cell_old cV7 (.cells #[.slice aR R.length cR] 24))
    | (go_at_call_has 23 aX; go_at_call_has 23 (Value.int IntKind.i64 a); refine (KS.out _ _ (TX7.out.box _)).mono ?_; rintro e w8 ⟨vS, rfl, hTS, hB8⟩; have hB8' := below_step' hB7' hB7'.size hB8; have x8 := cell_step x7 hB8; have Tt8 := Lib.hid (Tt7.out.step hB8); have cX8 := cell_step cX7 hB8; have TX8 := Lib.hid (TX7.out.step hB8); have cY8 := cell_step cY7 hB8; have TY8 := Lib.hid (TY7.out.step hB8); have cU8 := cell_step cU7 hB8; have TU8 := Lib.hid (TU7.out.step hB8); have cV8 := cell_step cV7 hB8; have TV8 := Lib.hid (TV7.out.step hB8); have cR8 := cell_new hB8; have TR8 := Lib.hid (TR7.out.step hB8); have TS8 := Lib.hid hTS; obtain ⟨aS, cS, rfl⟩ := hTS.form; clear hTS; have ob8 := cell_old x8 (.cells #[.slice aS S.length cS] 24); have obX8 := cell_old cX8 (.cells #[.slice aS S.length cS] 24); have obY8 := cell_old cY8 (.cells #[.slice aS S.length cS] 24); have obU8 := cell_old cU8 (.cells #[.slice aS S.length cS] 24); have obV8 := cell_old cV8 (.cells #[.slice aS S.length cS] 24); have obR8 := cell_old cR8 (.cells #[.slice aS S.length cS] 24))
    | (go_at_call_has 21 aS; go_at_call_has 21 (Value.int IntKind.i64 b); refine (KW.out _ _ (TS8.out.box _)).mono ?_; rintro e w9 ⟨vW, rfl, hTW, hB9⟩; have hB9' := below_step' hB8' hB8'.size hB9; have x9 := cell_step x8 hB9; have Tt9 := Lib.hid (Tt8.out.step hB9); have cX9 := cell_step cX8 hB9; have TX9 := Lib.hid (TX8.out.step hB9); have cY9 := cell_step cY8 hB9; have TY9 := Lib.hid (TY8.out.step hB9); have cU9 := cell_step cU8 hB9; have TU9 := Lib.hid (TU8.out.step hB9); have cV9 := cell_step cV8 hB9; have TV9 := Lib.hid (TV8.out.step hB9); have cR9 := cell_step cR8 hB9; have TR9 := Lib.hid (TR8.out.step hB9); have cS9 := cell_new hB9; have TS9 := Lib.hid (TS8.out.step hB9); have TW9 := Lib.hid hTW; obtain ⟨aW, cW, rfl⟩ := hTW.form; clear hTW; have ob9 := cell_old x9 (.cells #[.slice aW R.length cW] 24); have obX9 := cell_old cX9 (.cells #[.slice aW R.length cW] 24); have obY9 := cell_old cY9 (.cells #[.slice aW R.length cW] 24); have obU9 := cell_old cU9 (.cells #[.slice aW R.length cW] 24); have obV9 := cell_old cV9 (.cells #[.slice aW R.length cW] 24); have obR9 := cell_old cR9 (.cells #[.slice aW R.length cW] 24); have obS9 := cell_old cS9 (.cells #[.slice aW R.length cW] 24))
    | (go_at_call_has 27 aU; refine (same_yes _ _ _ U (by omega) (TU9.out.box _) (TV9.out.box _)).mono ?_; rintro e w10 ⟨rfl, hB10⟩; have hB10' := below_step' hB9' hB9'.size hB10; have x10 := cell_step x9 hB10; have cR10 := cell_step cR9 hB10; have cW10 := cell_new hB10; have cS10 := cell_step cS9 hB10; have TR10 := Lib.hid (TR9.out.step hB10); have TW10 := Lib.hid (TW9.out.step hB10))
    | (go_at_call_has 27 aR; refine (same_yes _ _ _ R (by omega) TR10.out TW10.out).mono ?_; rintro e w11 ⟨rfl, hB11⟩; have hB11' := below_step hB10' hB10'.size hB11; have x11 := cell_kept x10 hB11; have cS11 := cell_kept cS10 hB11))
  go_ret
  exact ⟨rfl, hB11'⟩

set_option maxRecDepth 100000 in
set_option maxHeartbeats 2000000 in
theorem exch_many (v : Value) (xs : List Nd) (a b p q : Int) (w : World) (hm : ¬ xs.length ≤ 80) (h : TreeAt w v xs) :
    Calls Try.prog 6 #[v, .int .i64 a, .int .i64 b, .int .i64 p, .int .i64 q] w fun e w' => e = .returned (.bool true) ∧ Below w.heap.size w w' := by
  have KF := Lib.hid fun W v (hv : TreeAt W v xs) => few_any v xs W hv
  have hd : decide (xs.length ≤ 80) = false := decide_eq_false hm
  rw [hd] at KF
  have HT := Lib.hid h
  obtain ⟨a0, c0, rfl⟩ := h.form
  have hbx := Boxed.new w 24 (.slice a0 xs.length c0)
  have hB0 : Below w.heap.size w (w.alloc (.cells #[.slice a0 xs.length c0] 24)) := (Below.refl _ _).alloc (Nat.le_refl _) _
  clear h hd
  generalize hn : xs.length = n at *
  go_enter Try.func6, Try.ntmps6
  go_wp2_with (first
    | (go_at_call 10; refine (sane_any _).mono ?_; rintro e w1 ⟨rfl, hB1⟩; have hB1' := below_step hB0 hB0.size hB1; have x1 := cell_kept hbx.cell hB1)
    | (go_at_call 11; refine (KF.out w1 _ (HT.out.below hB1')).mono ?_; rintro e w2 ⟨rfl, hB2⟩; have hB2' := below_step hB1' hB1'.size hB2))
  go_ret
  exact ⟨rfl, hB2'⟩

set_option maxRecDepth 100000 in
set_option maxHeartbeats 2000000 in
theorem exch_eq (v : Value) (xs : List Nd) (a p q : Int) (w : World) (hm : xs.length ≤ 80) (h : TreeAt w v xs) :
    Calls Try.prog 6 #[v, .int .i64 a, .int .i64 a, .int .i64 p, .int .i64 q] w fun e w' => e = .returned (.bool true) ∧ Below w.heap.size w w' := by
  have KF := Lib.hid fun W v (hv : TreeAt W v xs) => few_any v xs W hv
  have hd : decide (xs.length ≤ 80) = true := decide_eq_true hm
  rw [hd] at KF
  have HT := Lib.hid h
  obtain ⟨a0, c0, rfl⟩ := h.form
  have hbx := Boxed.new w 24 (.slice a0 xs.length c0)
  have hB0 : Below w.heap.size w (w.alloc (.cells #[.slice a0 xs.length c0] 24)) := (Below.refl _ _).alloc (Nat.le_refl _) _
  clear h hd
  generalize hn : xs.length = n at *
  go_enter Try.func6, Try.ntmps6
  go_wp2_with (first
    | (go_at_call 10; refine (sane_any _).mono ?_; rintro e w1 ⟨rfl, hB1⟩; have hB1' := below_step hB0 hB0.size hB1; have x1 := cell_kept hbx.cell hB1)
    | (go_at_call 11; refine (KF.out w1 _ (HT.out.below hB1')).mono ?_; rintro e w2 ⟨rfl, hB2⟩; have hB2' := below_step hB1' hB1'.size hB2))
  go_ret
  exact ⟨rfl, hB2'⟩

set_option maxRecDepth 100000 in
set_option maxHeartbeats 2000000 in
theorem exch_err (v : Value) (xs X Y : List Nd) (a b p q e1 e2 : Int) (w : World) (hm : xs.length ≤ 80) (h : TreeAt w v xs) (hab : a ≠ b) (kX : SetTo xs a p X e1) (kY : SetTo xs b q Y e2) (he : e1 ≠ 0 ∨ e2 ≠ 0) :
    Calls Try.prog 6 #[v, .int .i64 a, .int .i64 b, .int .i64 p, .int .i64 q] w fun e w' => e = .returned (.bool true) ∧ Below w.heap.size w w' := by
  have KX := Lib.hid kX; have KY := Lib.hid kY
  have KF := Lib.hid fun W v (hv : TreeAt W v xs) => few_any v xs W hv
  have hd : decide (xs.length ≤ 80) = true := decide_eq_true hm
  rw [hd] at KF
  have hab' : (a == b) = false := by simpa using hab
  have HT := Lib.hid h
  obtain ⟨a0, c0, rfl⟩ := h.form
  have hbx := Boxed.new w 24 (.slice a0 xs.length c0)
  have hB0 : Below w.heap.size w (w.alloc (.cells #[.slice a0 xs.length c0] 24)) := (Below.refl _ _).alloc (Nat.le_refl _) _
  have hcase : e1 ≠ 0 ∨ (e1 = 0 ∧ e2 ≠ 0) := by omega
  clear kX kY h hd he
  generalize hn : xs.length = n at *
  rcases hcase with he | ⟨rfl, he⟩
  all_goals
    have hne := he
    rw [← bne_iff_ne] at hne
    go_enter Try.func6, Try.ntmps6
    go_wp2_with (first
      | (go_at_call 10; refine (sane_any _).mono ?_; rintro e w1 ⟨rfl, hB1⟩; have hB1' := below_step hB0 hB0.size hB1; have x1 := cell_kept hbx.cell hB1)
      | (go_at_call 11; refine (KF.out w1 _ (HT.out.below hB1')).mono ?_; rintro e w2 ⟨rfl, hB2⟩; have hB2' := below_step hB1' hB1'.size hB2; have x2 := cell_kept x1 hB2; have T2x := HT.out.below hB2'; have HT2 := Lib.hid T2x)
      | (go_at_call_has 21 (Value.int IntKind.i64 a); refine (KX.out _ _ HT2.out).mono ?_; rintro e w3 ⟨vX, rfl, hTX, hB3⟩; have hB3' := below_step hB2' hB2'.size hB3; have x3 := cell_kept x2 hB3; have Tt3 := Lib.hid (HT2.out.below hB3); obtain ⟨aX, cX, rfl⟩ := hTX.form; have ob3 := cell_old x3 (.cells #[.slice aX X.length cX] 24); clear hTX)
      | (go_at_call_has 21 (Value.int IntKind.i64 b); refine (KY.out _ _ (Tt3.out.box _)).mono ?_; rintro e w4 ⟨vY, rfl, hTY, hB4⟩; have hB4' := below_step' hB3' hB3'.size hB4; obtain ⟨aY, cY, rfl⟩ := hTY.form; clear hTY))
    go_ret
    exact ⟨rfl, by first | exact hB4'.alloc hB4'.size _ | exact hB4'⟩

/-- KeytreeExchange. -/
theorem exchange_any (v : Value) (xs : List Nd) (a b p q : Int) (w : World) (h : TreeAt w v xs) (ha : (Lit.int .i64 a).wf = true) (hb : (Lit.int .i64 b).wf = true) (hp : (Lit.int .i64 p).wf = true) (hq : (Lit.int .i64 q).wf = true) :
    Calls Try.prog 6 #[v, .int .i64 a, .int .i64 b, .int .i64 p, .int .i64 q] w fun e w' => e = .returned (.bool true) ∧ Below w.heap.size w w' := by
  by_cases hm : xs.length ≤ 80
  case neg => exact exch_many v xs a b p q w hm h
  by_cases hab : a = b
  · subst hab; exact exch_eq v xs a p q w hm h
  by_cases he : (setL xs a p).2 ≠ 0 ∨ (setL xs b q).2 ≠ 0
  · exact exch_err v xs (setL xs a p).1 (setL xs b q).1 a b p q _ _ w hm h hab (setTo (by omega) ha hp rfl) (setTo (by omega) hb hq rfl) he
  · have e1 : (setL xs a p).2 = 0 := Classical.byContradiction fun c => he (.inl c)
    have e2 : (setL xs b q).2 = 0 := Classical.byContradiction fun c => he (.inr c)
    obtain ⟨hc, a0, a1, cp⟩ := setL_err e1
    obtain ⟨_, b0, b1, cq⟩ := setL_err e2
    have hV := valid_of hc
    have hF := treeL_of hc
    have hx : xs.length = (treeL (ofF xs)).length := by rw [hF]
    have hkey : ∀ x c, ofF xs x = some c → x ∈ xs.map (·.1) := fun x c hx => List.mem_map.2 ⟨(x, c), ofF_some hx, rfl⟩
    have hlX : (treeL (setF2 (ofF xs) a p)).length ≤ xs.length + 1 := by
      have := treeL_length (F := setF2 (ofF xs) a p) ((512 + a) :: xs.map (·.1)) (by
        intro x c hx
        rw [setF2_at] at hx
        by_cases e : x = 512 + a
        · simp [e]
        · rw [if_neg e] at hx
          split at hx
          · cases hx
          · exact List.mem_cons_of_mem _ (hkey x c hx))
      simpa using this
    have hlY : (treeL (setF2 (ofF xs) b q)).length ≤ xs.length + 1 := by
      have := treeL_length (F := setF2 (ofF xs) b q) ((512 + b) :: xs.map (·.1)) (by
        intro x c hx
        rw [setF2_at] at hx
        by_cases e : x = 512 + b
        · simp [e]
        · rw [if_neg e] at hx
          split at hx
          · cases hx
          · exact List.mem_cons_of_mem _ (hkey x c hx))
      simpa using this
    have hlU : (treeL (setF2 (setF2 (ofF xs) a p) b q)).length ≤ xs.length + 2 := by
      have := treeL_length (F := setF2 (setF2 (ofF xs) a p) b q) ((512 + b) :: (512 + a) :: xs.map (·.1)) (by
        intro x c hx
        rw [setF2_at] at hx
        by_cases e : x = 512 + b
        · simp [e]
        · rw [if_neg e] at hx
          split at hx
          · cases hx
          · rw [setF2_at] at hx
            by_cases e : x = 512 + a
            · simp [e]
            · rw [if_neg e] at hx
              split at hx
              · cases hx
              · exact List.mem_cons_of_mem _ (List.mem_cons_of_mem _ (hkey x c hx)))
      simpa using this
    have hlS : (treeL (chF (setF2 (ofF xs) a p) a)).length ≤ xs.length := by
      rw [exch3]
      have := treeL_length (F := chF (ofF xs) a) (xs.map (·.1)) (by
        intro x c hx
        unfold chF chL at hx
        split at hx
        · cases hx
        · exact hkey x c hx)
      simpa using this
    have hlR : (treeL (chF (setF2 (setF2 (ofF xs) a p) b q) a)).length ≤ xs.length + 2 := by
      have := treeL_length (F := chF (setF2 (setF2 (ofF xs) a p) b q) a) ((512 + b) :: (512 + a) :: xs.map (·.1)) (by
        intro x c hx
        unfold chF chL at hx
        split at hx
        · cases hx
        · rw [setF2_at] at hx
          by_cases e : x = 512 + b
          · simp [e]
          · rw [if_neg e] at hx
            split at hx
            · cases hx
            · rw [setF2_at] at hx
              by_cases e : x = 512 + a
              · simp [e]
              · rw [if_neg e] at hx
                split at hx
                · cases hx
                · exact List.mem_cons_of_mem _ (List.mem_cons_of_mem _ (hkey x c hx)))
      simpa using this
    have v1 := setF2_valid hV a0 a1 cp
    have v2 := setF2_valid hV b0 b1 cq
    have v3 := setF2_valid v1 b0 b1 cq
    have v4 := chF_valid v1 a0 a1
    have k1 := setL_ok hV a0 a1 cp
    have k2 := setL_ok hV b0 b1 cq
    rw [hF] at k1 k2
    have k3 := setL_ok v1 b0 b1 cq
    have k4 := setL_ok v2 a0 a1 cp
    rw [← exch1 (ofF xs) p q a0 a1 b0 b1 hab] at k4
    have na : ¬ (512 + a) ∈ anc b := fun h => by have := anc_leaf' b0 b1 (by omega) h; omega
    have k5 := removeL_ok v3 a0 a1 (by rw [setF2_at, if_neg (by omega), if_neg na, setF2_at, if_pos rfl]; rfl)
    have k6 := removeL_ok v1 a0 a1 (by rw [setF2_at, if_pos rfl]; rfl)
    have k7 := setL_ok v4 b0 b1 cq
    rw [← exch2 (ofF xs) p q a0 a1 b0 b1 hab] at k7
    exact exch_walk v xs _ _ _ _ _ a b p q w hm h hab (setTo (by omega) ha hp k1) (setTo (by omega) hb hq k2) (setTo (by omega) hb hq k3) (setTo (by omega) ha hp k4) (remTo (by omega) k5) (remTo (by omega) k6) (setTo (by omega) hb hq k7) hlS (by omega) (by omega)
end Go.Proofs.Ytofkmapokdcphaa
