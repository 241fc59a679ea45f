import Derived.Test.YtofkmapokdcphaaSt6
namespace Go.Proofs.Ytofkmapokdcphaa
open Go Go.RowKit Go.Maps Go.My Go.Shelf

set_option maxRecDepth 100000 in
set_option maxHeartbeats 4000000 in
theorem sp_walk (v vp : Value) (xs S1 S2 S3 : List Nd) (ps : List Int) (d p EA EC EX : Int) (w : World) (hm : xs.length ≤ 80) (hmp : ps.length ≤ 20) (hd : (Lit.int .i64 d).wf = true) (hp : (Lit.int .i64 p).wf = true) (hpw : ∀ p ∈ ps, (Lit.int .i64 p).wf = true)
    (h : TreeAt w v xs) (hps : IntsAt w vp ps) (e1 : setL xs d p = (S1, EA)) (e2 : removeL xs d = (S2, EC)) (e3 : renewL xs d ps = (S3, EX)) (l1 : S1.length ≤ 2000) (l2 : S2.length ≤ 2000) (l3 : S3.length ≤ 2000) :
    Calls Try.prog 4 #[v, .int .i64 d, .int .i64 p, vp] w fun e w' => e = .returned (.bool true) ∧ Below w.heap.size w w' := by
  have KF := Lib.hid fun W v (hv : TreeAt W v xs) => few_any v xs W hv
  have KA := Lib.hid fun W v (hv : TreeAt W v xs) => set_any v xs d p W (by omega) hv hd hp
  have KB := Lib.hid fun W v (hv : TreeAt W v xs) => set22 v xs d p W (by omega) hd hp hv
  have KC := Lib.hid fun W v (hv : TreeAt W v xs) => remove_any v xs d W (by omega) hv
  have KD := Lib.hid fun W v (hv : TreeAt W v xs) => remove24 v xs d W (by omega) hd hv
  have KX := Lib.hid fun W v (hv : TreeAt W v xs) (hq : IntsAt W vp ps) => renew_any v vp xs ps d W (by omega) (by omega) hv hq hpw
  have KY := Lib.hid fun W v (hv : TreeAt W v xs) (hq : IntsAt W vp ps) => renew26 v vp xs ps d W hm (by omega) hv hq hpw
  have hdd : decide (xs.length ≤ 80) = true := decide_eq_true hm
  rw [hdd] at KF
  simp only [e1] at KA KB
  simp only [e2] at KC KD
  simp only [e3] at KX KY
  have HT := Lib.hid h
  have HP := Lib.hid hps
  obtain ⟨a0, c0, rfl⟩ := h.form
  obtain ⟨aP, cP, rfl⟩ := hps.form
  have hbx := Boxed.new w 24 (.slice a0 xs.length c0)
  have hB0 : Below w.heap.size w (w.alloc (.cells #[.slice a0 xs.length c0] 24)) := (Below.refl _ _).alloc (Nat.le_refl _) _
  have dp : decide (20 < ps.length) = false := decide_eq_false (by omega)
  clear h hdd hps e1 e2 e3 hd hp hpw hm
  generalize xs.length = n at *
  generalize ps.length = np at *
  go_enter Try.func4, Try.ntmps4
  go_wp2_with (first
    | (go_at_call 10; refine (sane_any _).mono ?_; rintro e w1 ⟨rfl, hB1⟩; have hB1' := below_step hB0 hB0.size hB1; have x1 := cell_kept hbx.cell hB1)
    | (go_at_call 11; refine (KF.out w1 _ (HT.out.below hB1')).mono ?_; rintro e w2 ⟨rfl, hB2⟩; have hB2' := below_step hB1' hB1'.size hB2; have x2 := cell_kept x1 hB2; have T2x := HT.out.below hB2'; have HT2 := Lib.hid T2x)
    | (go_at_call 21; refine (KA.out _ _ HT2.out).mono ?_; rintro e w3 ⟨vA, rfl, hTA, hB3⟩; have hB3' := below_step hB2' hB2'.size hB3; have x3 := cell_kept x2 hB3; have Tt3 := Lib.hid (HT2.out.below hB3); have TA3 := Lib.hid hTA; obtain ⟨aA, cA, rfl⟩ := hTA.form; clear hTA; have ob3 := cell_old x3 (.cells #[.slice aA S1.length cA] 24))
    | (go_at_call 22; refine (KB.out _ _ (Tt3.out.box _)).mono ?_; rintro e w4 ⟨vB, rfl, hTB, hB4⟩; have hB4' := below_step' hB3' hB3'.size hB4; have x4 := cell_step x3 hB4; have Tt4 := Lib.hid (Tt3.out.step hB4); have cA4 := cell_new hB4; have TA4 := Lib.hid (TA3.out.step hB4); have TB4 := Lib.hid hTB; obtain ⟨aB, cB, rfl⟩ := hTB.form; clear hTB; have ob4 := cell_old x4 (.cells #[.slice aB S1.length cB] 24); have obA4 := cell_old cA4 (.cells #[.slice aB S1.length cB] 24))
    | (go_at_call 23; refine (KC.out _ _ (Tt4.out.box _)).mono ?_; rintro e w5 ⟨vC, rfl, hTC, hB5⟩; have hB5' := below_step' hB4' hB4'.size hB5; have x5 := cell_step x4 hB5; have Tt5 := Lib.hid (Tt4.out.step hB5); have cA5 := cell_step cA4 hB5; have TA5 := Lib.hid (TA4.out.step hB5); have cB5 := cell_new hB5; have TB5 := Lib.hid (TB4.out.step hB5); have TC5 := Lib.hid hTC; obtain ⟨aC, cC, rfl⟩ := hTC.form; clear hTC; have ob5 := cell_old x5 (.cells #[.slice aC S2.length cC] 24); have obA5 := cell_old cA5 (.cells #[.slice aC S2.length cC] 24); have obB5 := cell_old cB5 (.cells #[.slice aC S2.length cC] 24))
    | (go_at_call 24; refine (KD.out _ _ (Tt5.out.box _)).mono ?_; rintro e w6 ⟨vD, rfl, hTD, hB6⟩; have hB6' := below_step' hB5' hB5'.size hB6; have x6 := cell_step x5 hB6; have Tt6 := Lib.hid (Tt5.out.step hB6); have cA6 := cell_step cA5 hB6; have TA6 := Lib.hid (TA5.out.step hB6); have cB6 := cell_step cB5 hB6; have TB6 := Lib.hid (TB5.out.step hB6); have cC6 := cell_new hB6; have TC6 := Lib.hid (TC5.out.step hB6); have TD6 := Lib.hid hTD; obtain ⟨aD, cD, rfl⟩ := hTD.form; clear hTD; have ob6 := cell_old x6 (.cells #[.slice aD S2.length cD] 24); have obA6 := cell_old cA6 (.cells #[.slice aD S2.length cD] 24); have obB6 := cell_old cB6 (.cells #[.slice aD S2.length cD] 24); have obC6 := cell_old cC6 (.cells #[.slice aD S2.length cD] 24))
    | (go_at_call 25; refine (KX.out _ _ (Tt6.out.box _) (HP.out.below ((hB6').alloc hB6'.size _))).mono ?_; rintro e w7 ⟨vX, rfl, hTX, hB7⟩; have hB7' := below_step' hB6' hB6'.size hB7; have x7 := cell_step x6 hB7; have Tt7 := Lib.hid (Tt6.out.step hB7); have cA7 := cell_step cA6 hB7; have TA7 := Lib.hid (TA6.out.step hB7); have cB7 := cell_step cB6 hB7; have TB7 := Lib.hid (TB6.out.step hB7); have cC7 := cell_step cC6 hB7; have TC7 := Lib.hid (TC6.out.step hB7); have cD7 := cell_new hB7; have TD7 := Lib.hid (TD6.out.step hB7); have TX7 := Lib.hid hTX; obtain ⟨aX, cX, rfl⟩ := hTX.form; clear hTX; have ob7 := cell_old x7 (.cells #[.slice aX S3.length cX] 24); have obA7 := cell_old cA7 (.cells #[.slice aX S3.length cX] 24); have obB7 := cell_old cB7 (.cells #[.slice aX S3.length cX] 24); have obC7 := cell_old cC7 (.cells #[.slice aX S3.length cX] 24); have obD7 := cell_old cD7 (.cells #[.slice aX S3.length cX] 24))
    | (go_at_call 26; refine (KY.out _ _ (Tt7.out.box _) (HP.out.below ((hB7').alloc hB7'.size _))).mono ?_; rintro e w8 ⟨vY, rfl, hTY, hB8⟩; have hB8' := below_step' hB7' hB7'.size hB8; have x8 := cell_step x7 hB8; have Tt8 := Lib.hid (Tt7.out.step hB8); have cA8 := cell_step cA7 hB8; have TA8 := Lib.hid (TA7.out.step hB8); have cB8 := cell_step cB7 hB8; have TB8 := Lib.hid (TB7.out.step hB8); have cC8 := cell_step cC7 hB8; have TC8 := Lib.hid (TC7.out.step hB8); have cD8 := cell_step cD7 hB8; have TD8 := Lib.hid (TD7.out.step hB8); have cX8 := cell_new hB8; have TX8 := Lib.hid (TX7.out.step hB8); have TY8 := Lib.hid hTY; obtain ⟨aY, cY, rfl⟩ := hTY.form; clear hTY; have ob8 := cell_old x8 (.cells #[.slice aY S3.length cY] 24); have obA8 := cell_old cA8 (.cells #[.slice aY S3.length cY] 24); have obB8 := cell_old cB8 (.cells #[.slice aY S3.length cY] 24); have obC8 := cell_old cC8 (.cells #[.slice aY S3.length cY] 24); have obD8 := cell_old cD8 (.cells #[.slice aY S3.length cY] 24); have obX8 := cell_old cX8 (.cells #[.slice aY S3.length cY] 24))
    | (go_at_call_has 27 aA; refine (same_yes _ _ _ S1 (by omega) (TA8.out.box _) (TB8.out.box _)).mono ?_; rintro e w9 ⟨rfl, hB9⟩; have hB9' := below_step' hB8' hB8'.size hB9; have cC9 := cell_step cC8 hB9; have TC9 := Lib.hid (TC8.out.step hB9); have cD9 := cell_step cD8 hB9; have TD9 := Lib.hid (TD8.out.step hB9); have cX9 := cell_step cX8 hB9; have TX9 := Lib.hid (TX8.out.step hB9); have cY9 := cell_new hB9; have TY9 := Lib.hid (TY8.out.step hB9))
    | (go_at_call_has 27 aC; refine (same_yes _ _ _ S2 (by omega) TC9.out TD9.out).mono ?_; rintro e w10 ⟨rfl, hB10⟩; have hB10' := below_step hB9' hB9'.size hB10; have cC10 := cell_kept cC9 hB10; have TC10 := Lib.hid (TC9.out.below hB10); have cD10 := cell_kept cD9 hB10; have TD10 := Lib.hid (TD9.out.below hB10); have cX10 := cell_kept cX9 hB10; have TX10 := Lib.hid (TX9.out.below hB10); have cY10 := cell_kept cY9 hB10; have TY10 := Lib.hid (TY9.out.below hB10))
    | (go_at_call_has 27 aX; refine (same_yes _ _ _ S3 (by omega) TX10.out TY10.out).mono ?_; rintro e w11 ⟨rfl, hB11⟩; have hB11' := below_step hB10' hB10'.size hB11; have cC11 := cell_kept cC10 hB11; have TC11 := Lib.hid (TC10.out.below hB11); have cD11 := cell_kept cD10 hB11; have TD11 := Lib.hid (TD10.out.below hB11); have cX11 := cell_kept cX10 hB11; have TX11 := Lib.hid (TX10.out.below hB11); have cY11 := cell_kept cY10 hB11; have TY11 := Lib.hid (TY10.out.below hB11)))
  go_ret
  exact ⟨rfl, hB11'⟩

set_option maxRecDepth 100000 in
set_option maxHeartbeats 2000000 in
theorem sp_many (v vp : Value) (xs : List Nd) (ps : List Int) (d p : Int) (w : World) (hm : ¬ xs.length ≤ 80 ∨ xs.length ≤ 80 ∧ 20 < ps.length) (h : TreeAt w v xs) (hps : IntsAt w vp ps) :
    Calls Try.prog 4 #[v, .int .i64 d, .int .i64 p, vp] w fun e w' => e = .returned (.bool true) ∧ Below w.heap.size w w' := by
  have KF := Lib.hid fun W v (hv : TreeAt W v xs) => few_any v xs W hv
  have HT := Lib.hid h
  obtain ⟨a0, c0, rfl⟩ := h.form
  obtain ⟨aP, cP, rfl⟩ := hps.form
  have hbx := Boxed.new w 24 (.slice a0 xs.length c0)
  have hB0 : Below w.heap.size w (w.alloc (.cells #[.slice a0 xs.length c0] 24)) := (Below.refl _ _).alloc (Nat.le_refl _) _
  rcases hm with hm | ⟨hm, hp⟩
  · have hd : decide (xs.length ≤ 80) = false := decide_eq_false hm
    rw [hd] at KF
    clear h hd hps hm
    generalize xs.length = n at *
    generalize ps.length = np at *
    go_enter Try.func4, Try.ntmps4
    go_wp2_with (first
      | (go_at_call 10; refine (sane_any _).mono ?_; rintro e w1 ⟨rfl, hB1⟩; have hB1' := below_step hB0 hB0.size hB1; have x1 := cell_kept hbx.cell hB1)
      | (go_at_call 11; refine (KF.out w1 _ (HT.out.below hB1')).mono ?_; rintro e w2 ⟨rfl, hB2⟩; have hB2' := below_step hB1' hB1'.size hB2))
    go_ret
    exact ⟨rfl, hB2'⟩
  · have hd : decide (xs.length ≤ 80) = true := decide_eq_true hm
    rw [hd] at KF
    have dp : decide (20 < ps.length) = true := decide_eq_true hp
    clear h hd hps hm
    generalize xs.length = n at *
    generalize ps.length = np at *
    go_enter Try.func4, Try.ntmps4
    go_wp2_with (first
      | (go_at_call 10; refine (sane_any _).mono ?_; rintro e w1 ⟨rfl, hB1⟩; have hB1' := below_step hB0 hB0.size hB1; have x1 := cell_kept hbx.cell hB1)
      | (go_at_call 11; refine (KF.out w1 _ (HT.out.below hB1')).mono ?_; rintro e w2 ⟨rfl, hB2⟩; have hB2' := below_step hB1' hB1'.size hB2))
    go_ret
    exact ⟨rfl, hB2'⟩

theorem treeL_le (f : Int → Option Int) : (treeL f).length ≤ 1024 := by
  unfold treeL
  exact Nat.le_trans (List.length_filterMap_le _ _) (by rw [List.length_range]; exact Nat.le_refl _)

theorem treeL_le2 (f : Int → Option Int) (e : Int) : ((treeL f, e) : List Nd × Int).1.length ≤ 2000 := by
  have h := treeL_le f
  generalize treeL f = T at *
  exact Nat.le_trans h (by decide)
theorem nil_le {e : Int} : (([], e) : List Nd × Int).1.length ≤ 2000 := Nat.zero_le _
theorem ite_le {c : Prop} [Decidable c] {a b : List Nd × Int} (ha : a.1.length ≤ 2000) (hb : b.1.length ≤ 2000) : (if c then a else b).1.length ≤ 2000 := by
  split
  · exact ha
  · exact hb

theorem setSpec_any (v vp : Value) (xs : List Nd) (ps : List Int) (d p : Int) (w : World) (h : TreeAt w v xs) (hps : IntsAt w vp ps) (hd : (Lit.int .i64 d).wf = true) (hp : (Lit.int .i64 p).wf = true) (hpw : ∀ p ∈ ps, (Lit.int .i64 p).wf = true) :
    Calls Try.prog 4 #[v, .int .i64 d, .int .i64 p, vp] w fun e w' => e = .returned (.bool true) ∧ Below w.heap.size w w' := by
  by_cases hm : xs.length ≤ 80
  case neg => exact sp_many v vp xs ps d p w (.inl hm) h hps
  by_cases hl : ps.length ≤ 20
  case neg => exact sp_many v vp xs ps d p w (.inr ⟨hm, by omega⟩) h hps
  refine sp_walk v vp xs (setL xs d p).1 (removeL xs d).1 (renewL xs d ps).1 ps d p _ _ _ w hm hl hd hp hpw h hps rfl rfl rfl ?_ ?_ ?_
  · unfold setL
    exact ite_le nil_le (ite_le nil_le (ite_le nil_le (treeL_le2 _ _)))
  · unfold removeL
    exact ite_le nil_le (ite_le nil_le (treeL_le2 _ _))
  · unfold renewL
    exact ite_le nil_le (ite_le nil_le (ite_le nil_le (treeL_le2 _ _)))
end Go.Proofs.Ytofkmapokdcphaa
