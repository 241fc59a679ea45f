import Derived.Test.YtofkmapokdcphaaRk3
namespace Go.Proofs.Ytofkmapokdcphaa
open Go Go.RowKit Go.Maps Go.My Go.Shelf

set_option maxRecDepth 100000 in
set_option maxHeartbeats 4000000 in
theorem cs_walk (v : Value) (xs : List Nd) (node : Int) (w : World) (hm : xs.length ≤ 80) (hnd : (Lit.int .i64 node).wf = true) (h : TreeAt w v xs) :
    Calls Try.prog 3 #[v, .int .i64 node] w fun e w' => e = .returned (.bool true) ∧ Below w.heap.size w w' := by
  have KF := Lib.hid fun W v (hv : TreeAt W v xs) => few_any v xs W hv
  have K12 := Lib.hid fun W v (hv : TreeAt W v xs) => resolution_any v xs node W (by omega) hv
  have K13 := Lib.hid fun W v (hv : TreeAt W v xs) => resolution13 v xs node W (by omega) hv
  have K14 := Lib.hid fun W v (hv : TreeAt W v xs) => public_any v xs node W (by omega) hnd hv
  have K15 := Lib.hid fun W v (hv : TreeAt W v xs) => public15 v xs node W (by omega) hv
  have K17 := Lib.hid fun W v (hv : TreeAt W v xs) => check17_any v xs W (by omega) hv
  have K18 := Lib.hid fun W v (hv : TreeAt W v xs) => check18 v xs W (by omega) hv
  have K19 := Lib.hid fun W v (hv : TreeAt W v xs) => members_any v xs W (by omega) hv
  have K20 := Lib.hid fun W v (hv : TreeAt W v xs) => members20 v xs W (by omega) hv
  have hdd : decide (xs.length ≤ 80) = true := decide_eq_true hm
  rw [hdd] at KF
  have hml : (memL xs).length ≤ 2000 := Nat.le_trans (memL_length xs) (by omega)
  have hrl : (resL xs node).1.length ≤ 2000 := by
    unfold resL
    split
    · simp
    · split
      · simp
      · exact Nat.le_trans (resF_length _ _ _) (by decide)
  generalize memL xs = M at *
  generalize (resL xs node).1 = L at *
  generalize (resL xs node).2 = ev at *
  generalize checkL xs = cv at *
  generalize (ofF xs node).getD 0 = pv at *
  generalize (ofF xs node).isSome = ob at *
  have HT := Lib.hid h
  obtain ⟨a0, c0, rfl⟩ := h.form
  have hB0 : Below w.heap.size w (w.alloc (.cells #[.slice a0 xs.length c0] 24)) := (Below.refl _ _).alloc (Nat.le_refl _) _
  have hbx := (Boxed.new w 24 (.slice a0 xs.length c0)).cell
  have eo : (ob == ob) = true := by cases ob <;> rfl
  clear h hm hnd hdd
  generalize xs.length = n at *
  go_enter Try.func3, Try.ntmps3
  go_upto_region 9 with (first
    | (go_at_call 10; refine (sane_any _).mono ?_; rintro e w1 ⟨rfl, hB1⟩; have hB1' := below_step hB0 hB0.size hB1; have x1 := cell_kept hbx hB1)
    | (go_at_call 11; refine (KF.out w1 _ (HT.out.below hB1')).mono ?_; rintro e w2 ⟨rfl, hB2⟩; have hB2' := below_step hB1' hB1'.size hB2; have x2 := cell_kept x1 hB2)
    | (go_at_call 12; refine (K12.out w2 _ (HT.out.below hB2')).mono ?_; rintro e w3 ⟨va, rfl, hIa, hB3⟩; have hB3' := below_step hB2' hB2'.size hB3; have x3 := cell_kept x2 hB3; have HIa := Lib.hid hIa; obtain ⟨aa, ca, rfl⟩ := hIa.form; clear hIa)
    | (go_at_call 13; refine (K13.out w3 _ (HT.out.below hB3')).mono ?_; rintro e w4 ⟨vb, rfl, hIb, hB4⟩; have hB4' := below_step hB3' hB3'.size hB4; have x4 := cell_kept x3 hB4; have HIb := Lib.hid hIb; obtain ⟨ab, cb, rfl⟩ := hIb.form; clear hIb)
    | (go_at_call 14; refine (K14.out w4 _ (HT.out.below hB4')).mono ?_; rintro e w5 ⟨rfl, hB5⟩; have hB5' := below_step hB4' hB4'.size hB5; have x5 := cell_kept x4 hB5)
    | (go_at_call 15; refine (K15.out w5 _ (HT.out.below hB5')).mono ?_; rintro e w6 ⟨rfl, hB6⟩; have hB6' := below_step hB5' hB5'.size hB6; have x6 := cell_kept x5 hB6))
  have HB6 := Lib.hid hB6'
  have hs6 : w.heap.size ≤ w6.heap.size := hB6'.size
  have hIa6 := ((HIa.out.below hB4).below hB5).below hB6
  have hIb6 := ((HIb.out.below hB5).below hB6)
  have HMK := Lib.hid fun (V : World) (hV : Below w6.heap.size w6 V) => (show V.cell? ⟨w.heap.size, 0, none⟩ = some (.slice a0 n c0) ∧ Below w6.heap.size w6 V from ⟨cell_kept x6 hV, hV⟩)
  have HTK := Lib.hid fun (V : World) (hV : V.cell? ⟨w.heap.size, 0, none⟩ = some (.slice a0 n c0) ∧ Below w6.heap.size w6 V) => (HT.out.below hB6').below hV.2
  have HAK := Lib.hid fun (V : World) (hV : V.cell? ⟨w.heap.size, 0, none⟩ = some (.slice a0 n c0) ∧ Below w6.heap.size w6 V) => hIa6.below hV.2
  have HBK := Lib.hid fun (V : World) (hV : V.cell? ⟨w.heap.size, 0, none⟩ = some (.slice a0 n c0) ∧ Below w6.heap.size w6 V) => hIb6.below hV.2
  have HFK := Lib.hid fun (V : World) (hV : V.cell? ⟨w.heap.size, 0, none⟩ = some (.slice a0 n c0) ∧ Below w6.heap.size w6 V) => below_step hB6' hs6 hV.2
  clear hB0 hB1 hB2 hB3 hB4 hB5 hB6 hB1' hB2' hB3' hB4' hB5' hB6' x1 x2 x3 x4 x5 hIa6 hIb6 HIa HIb
  go_region_held3 (fun w' => w'.cell? ⟨w.heap.size, 0, none⟩ = some (.slice a0 n c0) ∧ Below w6.heap.size w6 w')
    (first | exact HMK.out _ (Below.refl _ _).drew | exact HMK.out _ (keep2Call (by assumption) (by assumption)))
    (first
      | (go_at_call_has 16 aa; refine (sameInts_yes _ _ _ L hrl (HAK.out _ (by assumption)) (HBK.out _ (by assumption))).mono ?_; rintro e w44 ⟨rfl, hB44⟩)
      | (go_at_call 17; refine (K17.out _ _ (HTK.out _ (by assumption))).mono ?_; rintro e w62 ⟨rfl, hB62⟩)
      | (go_at_call 18; refine (K18.out _ _ (HTK.out _ (by assumption))).mono ?_; rintro e w64 ⟨rfl, hB64⟩)
      | (go_at_call 19; refine (K19.out _ _ (HTK.out _ (by assumption))).mono ?_; rintro e w69 ⟨v69, rfl, hI69, hB69⟩)
      | (go_at_call 20; refine (K20.out _ _ (HTK.out _ (by assumption))).mono ?_; rintro e w71 ⟨v71, rfl, hI71, hB71⟩)
      | (go_at_call_has 16 v69; refine (sameInts_yes _ _ _ M hml (by first | exact hI69 | exact hI69.below hB71) (by first | exact hI71 | exact hI71.below hB69)).mono ?_; rintro e w72 ⟨rfl, hB72⟩))
  all_goals
    go_wp2
    go_ret
    exact ⟨rfl, HFK.out _ (by assumption)⟩

set_option maxRecDepth 100000 in
set_option maxHeartbeats 2000000 in
theorem cs_many (v : Value) (xs : List Nd) (node : Int) (w : World) (hm : ¬ xs.length ≤ 80) (h : TreeAt w v xs) :
    Calls Try.prog 3 #[v, .int .i64 node] w fun e w' => e = .returned (.bool true) ∧ Below w.heap.size w w' := by
  have KF := Lib.hid fun W v (hv : TreeAt W v xs) => few_any v xs W hv
  have hd : decide (xs.length ≤ 80) = false := decide_eq_false hm
  rw [hd] at KF
  have HT := Lib.hid h
  obtain ⟨a0, c0, rfl⟩ := h.form
  have hbx := Boxed.new w 24 (.slice a0 xs.length c0)
  have hB0 : Below w.heap.size w (w.alloc (.cells #[.slice a0 xs.length c0] 24)) := (Below.refl _ _).alloc (Nat.le_refl _) _
  clear h hd
  generalize hn : xs.length = n at *
  go_enter Try.func3, Try.ntmps3
  go_wp2_with (first
    | (go_at_call 10; refine (sane_any _).mono ?_; rintro e w1 ⟨rfl, hB1⟩; have hB1' := below_step hB0 hB0.size hB1; have x1 := cell_kept hbx.cell hB1)
    | (go_at_call 11; refine (KF.out w1 _ (HT.out.below hB1')).mono ?_; rintro e w2 ⟨rfl, hB2⟩; have hB2' := below_step hB1' hB1'.size hB2))
  go_ret
  exact ⟨rfl, hB2'⟩

theorem checkSpec_any (v : Value) (xs : List Nd) (node : Int) (w : World) (hnd : (Lit.int .i64 node).wf = true) (h : TreeAt w v xs) :
    Calls Try.prog 3 #[v, .int .i64 node] w fun e w' => e = .returned (.bool true) ∧ Below w.heap.size w w' := by
  by_cases hm : xs.length ≤ 80
  · exact cs_walk v xs node w hm hnd h
  · exact cs_many v xs node w hm h
end Go.Proofs.Ytofkmapokdcphaa
