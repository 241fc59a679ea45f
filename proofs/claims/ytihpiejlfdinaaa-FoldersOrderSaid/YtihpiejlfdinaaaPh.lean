-- Printed for this claim by wip/tools/standin.py through the kit's print.py (stand-ins for functions whose contracts are proved by hand).
import Derived.Test.YtihpiejlfdinaaaPz
import Derived.Test.YtihpiejlfdinaaaPa
import Derived.Test.YtihpiejlfdinaaaPc
import Derived.Test.YtihpiejlfdinaaaSt
namespace Go.Proofs.Ytihpiejlfdinaaa.PF
open Go.RowKit Go.Proofs.YtihpiejlfdinaaaW.PrintWords Go.Proofs.YtihpiejlfdinaaaW.PrintLast Go.Proofs.YtihpiejlfdinaaaW.PrintMore
attribute [local go_sem] max2_int min2_int max_two min_two max_three min_three max_four min_four   -- for this text's walks alone
set_option linter.unusedVariables false
set_option linter.unusedSimpArgs false
section

/-! ### chartroomlaw27_FoldersOrder: function 8 -/
def chartroomlaw27_FoldersOrder.j0 : Nat → List (S29) → List (S29) → Int → Bool → Option (Bool)
  | 0, _, _, _, _ => none
  | k + 1, x0, x1, x2, x19 => if x19 = true then (some true) else (if (IntKind.u64.wrap ((x0.length : Int))) = 0 then (none) else ((some (([] : List (S29)) : List (S29))).bind fun y415 => (if 0 ≤ (wrap64 (Int.tmod x2 (IntKind.u64.wrap ((x0.length : Int))))) then (if (wrap64 (Int.tmod x2 (IntKind.u64.wrap ((x0.length : Int))))) ≤ (x0.length : Int) then ((some (x0.drop ((wrap64 (Int.tmod x2 (IntKind.u64.wrap ((x0.length : Int))))) : Int).toNat : List (S29))).bind fun y418 => (if y415.length + y418.length < 2932031007402 then ((some (y415 ++ y418 : List (S29))).bind fun y422 => (if y422.length + x1.length < 2932031007402 then ((some (y422 ++ x1 : List (S29))).bind fun y425 => ((some (x0.take ((wrap64 (Int.tmod x2 (IntKind.u64.wrap ((x0.length : Int))))) : Int).toNat : List (S29))).bind fun y428 => (if y425.length + y428.length < 2932031007402 then ((some (y425 ++ y428 : List (S29))).bind fun y432 => (if (wrap64 (Int.tmod x2 (IntKind.u64.wrap ((x0.length : Int))))) < (x0.length : Int) then (if y432.length < 2932031007402 then ((folders_Tree.f (y432 ++ [(⟨(rd_T29 x0 (wrap64 (Int.tmod x2 (IntKind.u64.wrap ((x0.length : Int)))))).f0, (rd_T29 x0 (wrap64 (Int.tmod x2 (IntKind.u64.wrap ((x0.length : Int)))))).f1, (rd_T29 x0 (wrap64 (Int.tmod x2 (IntKind.u64.wrap ((x0.length : Int)))))).f2, (rd_T29 x0 (wrap64 (Int.tmod x2 (IntKind.u64.wrap ((x0.length : Int)))))).f3, (rd_T29 x0 (wrap64 (Int.tmod x2 (IntKind.u64.wrap ((x0.length : Int)))))).f4⟩ : S29)])).bind fun t439 => ((some (([] : List (S29)) : List (S29))).bind fun y442 => (if y442.length + x0.length < 2932031007402 then ((some (y442 ++ x0 : List (S29))).bind fun y445 => (if y445.length + x1.length < 2932031007402 then ((folders_Tree.f (y445 ++ x1)).bind fun t451 => ((chartroomref27_Same.f k t439 t451).bind fun t454 => (some t454))) else (none))) else (none)))) else (none)) else (none))) else (none)))) else (none))) else (none))) else (none)) else (none))))
def chartroomlaw27_FoldersOrder.f (k : Nat) (l0 : List (S29)) (l1 : List (S29)) (a2 : Int) : Option (Bool) := (chartroomlaw27_sane.f k).bind fun t413 => (if t413 = true then ((chartroomlaw27_few.f l0 l1).bind fun t414 => (if t414 = true then (chartroomlaw27_FoldersOrder.j0 k l0 l1 a2 ((l0.length : Int) == 0)) else (chartroomlaw27_FoldersOrder.j0 k l0 l1 a2 true))) else (some false))
theorem chartroomlaw27_FoldersOrder.mono_l : ∀ k, (∀ y0 y1 y2 y3, LeO (chartroomlaw27_FoldersOrder.j0 k y0 y1 y2 y3) (chartroomlaw27_FoldersOrder.j0 (k + 1) y0 y1 y2 y3))
  | 0 => fun _ _ _ _ r h => by simp [chartroomlaw27_FoldersOrder.j0] at h
  | k + 1 => by
    have ih0 := chartroomlaw27_FoldersOrder.mono_l k
    · intro y0 y1 y2 y3
      unfold chartroomlaw27_FoldersOrder.j0
      repeat' first
      | (with_reducible exact ih0 _ _ _ _)
      | (with_reducible exact chartroomlaw27_sane.mono _)
      | (with_reducible exact chartroomref27_Same.mono _ _ _)
      | (with_reducible exact LeO.refl _)
      | (with_reducible exact LeO.none _)
      | (with_reducible refine LeO.ite ?_ ?_)
      | (with_reducible refine LeO.bind ?_ (fun _ => ?_))
      | exact ih0 _ _ _ _
      | exact chartroomlaw27_sane.mono _
      | exact chartroomref27_Same.mono _ _ _
      | exact LeO.none _
      | refine LeO.ite ?_ ?_
      | refine LeO.bind ?_ (fun _ => ?_)
theorem chartroomlaw27_FoldersOrder.mono : ∀ a0 a1 a2 k, LeO (chartroomlaw27_FoldersOrder.f k a0 a1 a2) (chartroomlaw27_FoldersOrder.f (k + 1) a0 a1 a2) := by
  intro a0 a1 a2 k
  have ih0 := chartroomlaw27_FoldersOrder.mono_l k
  unfold chartroomlaw27_FoldersOrder.f
  repeat' first
      | (with_reducible exact ih0 _ _ _ _)
      | (with_reducible exact chartroomlaw27_sane.mono _)
      | (with_reducible exact chartroomref27_Same.mono _ _ _)
      | (with_reducible exact LeO.refl _)
      | (with_reducible exact LeO.none _)
      | (with_reducible refine LeO.ite ?_ ?_)
      | (with_reducible refine LeO.bind ?_ (fun _ => ?_))
      | exact ih0 _ _ _ _
      | exact chartroomlaw27_sane.mono _
      | exact chartroomref27_Same.mono _ _ _
      | exact LeO.none _
      | refine LeO.ite ?_ ?_
      | refine LeO.bind ?_ (fun _ => ?_)
def chartroomlaw27_FoldersOrder.T6 : Bool × List (List Nat × List Nat) := (true, [([], []), ([], []), ([], []), ([1, 2], [1, 2]), ([0, 3], [0, 3]), ([], []), ([4, 5, 4], [4, 5]), ([], []), ([], []), ([7, 8], [7, 8]), ([6, 9, 6], [6, 9]), ([10, 10, 0, 1, 2, 3, 4, 5, 6, 7, 8, 9, 10], [10])])
def chartroomlaw27_FoldersOrder.B6 : List Nat := [0, 0, 0, 6, 15, 0, 63, 0, 0, 384, 1023, 2047]
theorem chartroomlaw27_FoldersOrder.tab6 : rtab .any (opsOf Try.f8 6) = chartroomlaw27_FoldersOrder.T6 := by kernel_rfl
theorem chartroomlaw27_FoldersOrder.bits6 : waitsOk chartroomlaw27_FoldersOrder.T6.2 chartroomlaw27_FoldersOrder.B6 = true := by kernel_rfl
set_option maxHeartbeats 8000000 in
set_option maxRecDepth 100000 in
theorem chartroomlaw27_FoldersOrder.calls (k : Nat) (A0 : Option Addr) (c0 : Nat) (l0 : List (S29)) (A1 : Option Addr) (c1 : Nat) (l1 : List (S29)) (a2 : Int) (r : Bool) (w : World) (hr0 : Kd.C k29 w A0 l0.length l0) (hc0 : l0.length ≤ c0) (hr1 : Kd.C k29 w A1 l1.length l1) (hc1 : l1.length ≤ c1) (h : chartroomlaw27_FoldersOrder.f k l0 l1 a2 = some r) :
    Calls Try.prog 8 #[.slice A0 l0.length c0, .slice A1 l1.length c1, .int .u64 a2] w fun e w' => e = .returned (.bool r) ∧ Below w.heap.size w w' := by
  have hu29 := Try.underlying29
  have HR0 := Aside0.mk hr0
  have HC0 := Aside0.mk hc0
  clear hr0 hc0
  have HR1 := Aside0.mk hr1
  have HC1 := Aside0.mk hc1
  clear hr1 hc1
  have HB := Aside0.mk (Below.refl w.heap.size w)
  have H : ((chartroomlaw27_sane.f k).bind fun t413 => (if t413 = true then ((chartroomlaw27_few.f l0 l1).bind fun t414 => (if t414 = true then (chartroomlaw27_FoldersOrder.j0 k l0 l1 a2 ((l0.length : Int) == 0)) else (chartroomlaw27_FoldersOrder.j0 k l0 l1 a2 true))) else (some false))) = some r := h
  clear h
  replace H := Option.bind_eq_some_iff.mp H
  obtain ⟨t413, A40, H⟩ := H
  replace H : (if t413 = true then ((chartroomlaw27_few.f l0 l1).bind fun t414 => (if t414 = true then (chartroomlaw27_FoldersOrder.j0 k l0 l1 a2 ((l0.length : Int) == 0)) else (chartroomlaw27_FoldersOrder.j0 k l0 l1 a2 true))) else (some false)) = some r := H
  have A4 := Aside0.mk A40
  clear A40
  by_cases c5 : t413 = true
  · subst c5
    have H1 : ((chartroomlaw27_few.f l0 l1).bind fun t414 => (if t414 = true then (chartroomlaw27_FoldersOrder.j0 k l0 l1 a2 ((l0.length : Int) == 0)) else (chartroomlaw27_FoldersOrder.j0 k l0 l1 a2 true))) = some r := by rw [if_pos rfl] at H; exact H
    clear H
    have H := H1
    clear H1
    have HC6 := Aside0.mk H
    clear H
    go_enter Try.func8, Try.ntmps8
    go_upto_region 3 with (first | ((with_reducible refine gate_callee (f := 10) rfl ?_); refine goesL_ (some 9) rfl rfl Try.func10 (by kernel_rfl) rfl #[] rfl (by (try simp only [List.map_toArray, List.map_cons, List.map_nil]); first | done | rfl | (simp only [List.length_drop, List.length_take]; rfl)) ?_; (with_reducible refine (chartroomlaw27_sane.calls k  true _ A4.out).mono ?_); rintro e w7 ⟨rfl, hb⟩; refine ⟨_, rfl, ?_⟩; have n0_ := Aside0.mk (below_step (by repeat (first | (with_reducible first | exact HB.out | apply below_alloc | apply pw_below_drewN | apply below_drew1) | exact HB.out)) hb); clear HB; have HB := n0_; clear n0_; (try clear hb); (try clear hb2); (try clear hk); (try clear hi)))
    (try simp only [Act.put, List.setIfInBounds_toArray, List.set_cons_zero, List.set_cons_succ])
    go_cut [19] (fun v19 wc => ∃ (kq : Nat) (x19_5 : Bool), v19 = .bool x19_5 ∧ Aside0 (chartroomlaw27_FoldersOrder.j0 kq l0 l1 a2 x19_5 = some r) ∧ Aside0 (kq ≤ k) ∧ Aside0 (Below w.heap.size w wc))
    case first =>
      have H := HC6.out
      clear HC6
      replace H := Option.bind_eq_some_iff.mp H
      obtain ⟨t414, A80, H⟩ := H
      replace H : (if t414 = true then (chartroomlaw27_FoldersOrder.j0 k l0 l1 a2 ((l0.length : Int) == 0)) else (chartroomlaw27_FoldersOrder.j0 k l0 l1 a2 true)) = some r := H
      have A8 := Aside0.mk A80
      clear A80
      by_cases c9 : t414 = true
      · subst c9
        have H1 : (chartroomlaw27_FoldersOrder.j0 k l0 l1 a2 ((l0.length : Int) == 0)) = some r := by rw [if_pos rfl] at H; exact H
        clear H
        have H := H1
        clear H1
        have H' := Aside0.mk H
        clear H
        go_wp2_with (first | ((with_reducible refine gate_callee (f := 11) rfl ?_); refine goesL_ (some 13) rfl rfl Try.func11 (by kernel_rfl) rfl #[.slice A0 l0.length c0, .slice A1 l1.length c1] rfl (by (try simp only [List.map_toArray, List.map_cons, List.map_nil]); first | done | rfl | (simp only [List.length_drop, List.length_take]; rfl)) ?_; (with_reducible refine (chartroomlaw27_few.calls _ _ l0 _ _ l1 true _ ?side1 ?side2 ?side3 ?side4 A8.out).mono ?_); (case side1 => repeat (first | exact (Kd.C_below HR0.out HB.out) | (with_reducible refine Kd.C_alloc ?_ _) | (with_reducible refine Kd.C_drewN ?_ _) | (with_reducible refine Kd.C_drew ?_))); (case side2 => exact HC0.out); (case side3 => repeat (first | exact (Kd.C_below HR1.out HB.out) | (with_reducible refine Kd.C_alloc ?_ _) | (with_reducible refine Kd.C_drewN ?_ _) | (with_reducible refine Kd.C_drew ?_))); (case side4 => exact HC1.out); rintro e w' ⟨rfl, ⟨nd, rfl⟩⟩; refine ⟨_, rfl, ?_⟩))
        go_meet
        case rel => exact ⟨_, (((l0.length : Int) == 0)), (by first | rfl | (simp; done) | (simp [*]; done)), H', ⟨by first | omega | exact Nat.le_refl _⟩, ⟨by repeat (first | (with_reducible first | exact HB.out | apply below_alloc | apply pw_below_drewN | apply below_drew1) | exact HB.out)⟩⟩
      · replace c9 := Bool.eq_false_iff.mpr c9
        subst c9
        have H1 : (chartroomlaw27_FoldersOrder.j0 k l0 l1 a2 true) = some r := by rw [if_neg (show ¬ (false = true) by decide)] at H; exact H
        clear H
        have H := H1
        clear H1
        have H' := Aside0.mk H
        clear H
        go_wp2_with (first | ((with_reducible refine gate_callee (f := 11) rfl ?_); refine goesL_ (some 13) rfl rfl Try.func11 (by kernel_rfl) rfl #[.slice A0 l0.length c0, .slice A1 l1.length c1] rfl (by (try simp only [List.map_toArray, List.map_cons, List.map_nil]); first | done | rfl | (simp only [List.length_drop, List.length_take]; rfl)) ?_; (with_reducible refine (chartroomlaw27_few.calls _ _ l0 _ _ l1 false _ ?side1 ?side2 ?side3 ?side4 A8.out).mono ?_); (case side1 => repeat (first | exact (Kd.C_below HR0.out HB.out) | (with_reducible refine Kd.C_alloc ?_ _) | (with_reducible refine Kd.C_drewN ?_ _) | (with_reducible refine Kd.C_drew ?_))); (case side2 => exact HC0.out); (case side3 => repeat (first | exact (Kd.C_below HR1.out HB.out) | (with_reducible refine Kd.C_alloc ?_ _) | (with_reducible refine Kd.C_drewN ?_ _) | (with_reducible refine Kd.C_drew ?_))); (case side4 => exact HC1.out); rintro e w' ⟨rfl, ⟨nd, rfl⟩⟩; refine ⟨_, rfl, ?_⟩))
        go_meet
        case rel => exact ⟨_, (true), (by first | rfl | (simp; done) | (simp [*]; done)), H', ⟨by first | omega | exact Nat.le_refl _⟩, ⟨by repeat (first | (with_reducible first | exact HB.out | apply below_alloc | apply pw_below_drewN | apply below_drew1) | exact HB.out)⟩⟩
    case rest =>
      clear HC6
      try clear c1
      try clear p2
      try clear c5
      try clear c8
      try clear c9
      obtain ⟨kq, x19_5, rfl, HA, HJ5, HB⟩ := hcut
      cases kq with
      | zero => exact absurd HA.out (by simp [chartroomlaw27_FoldersOrder.j0])
      | succ kj5 =>
        have H := HA.out
        clear HA
        simp only [chartroomlaw27_FoldersOrder.j0] at H
        by_cases c10 : x19_5 = true
        · subst c10
          have H1 : (some true) = some r := by rw [if_pos rfl] at H; exact H
          clear H
          have H := H1
          clear H1
          obtain rfl := Option.some.inj H
          go_wp2
          go_ret
          exact ⟨by first | rfl | (simp [errW_none, errW_some] <;> rfl) | (simp [*, errW_none, errW_some] <;> rfl), by repeat (first | (with_reducible first | exact HB.out | apply below_alloc | apply pw_below_drewN | apply below_drew1) | exact HB.out)⟩
        · replace c10 := Bool.eq_false_iff.mpr c10
          subst c10
          have H1 : (if (IntKind.u64.wrap ((l0.length : Int))) = 0 then (none) else ((some (([] : List (S29)) : List (S29))).bind fun y415 => (if 0 ≤ (wrap64 (Int.tmod a2 (IntKind.u64.wrap ((l0.length : Int))))) then (if (wrap64 (Int.tmod a2 (IntKind.u64.wrap ((l0.length : Int))))) ≤ (l0.length : Int) then ((some (l0.drop ((wrap64 (Int.tmod a2 (IntKind.u64.wrap ((l0.length : Int))))) : Int).toNat : List (S29))).bind fun y418 => (if y415.length + y418.length < 2932031007402 then ((some (y415 ++ y418 : List (S29))).bind fun y422 => (if y422.length + l1.length < 2932031007402 then ((some (y422 ++ l1 : List (S29))).bind fun y425 => ((some (l0.take ((wrap64 (Int.tmod a2 (IntKind.u64.wrap ((l0.length : Int))))) : Int).toNat : List (S29))).bind fun y428 => (if y425.length + y428.length < 2932031007402 then ((some (y425 ++ y428 : List (S29))).bind fun y432 => (if (wrap64 (Int.tmod a2 (IntKind.u64.wrap ((l0.length : Int))))) < (l0.length : Int) then (if y432.length < 2932031007402 then ((folders_Tree.f (y432 ++ [(⟨(rd_T29 l0 (wrap64 (Int.tmod a2 (IntKind.u64.wrap ((l0.length : Int)))))).f0, (rd_T29 l0 (wrap64 (Int.tmod a2 (IntKind.u64.wrap ((l0.length : Int)))))).f1, (rd_T29 l0 (wrap64 (Int.tmod a2 (IntKind.u64.wrap ((l0.length : Int)))))).f2, (rd_T29 l0 (wrap64 (Int.tmod a2 (IntKind.u64.wrap ((l0.length : Int)))))).f3, (rd_T29 l0 (wrap64 (Int.tmod a2 (IntKind.u64.wrap ((l0.length : Int)))))).f4⟩ : S29)])).bind fun t439 => ((some (([] : List (S29)) : List (S29))).bind fun y442 => (if y442.length + l0.length < 2932031007402 then ((some (y442 ++ l0 : List (S29))).bind fun y445 => (if y445.length + l1.length < 2932031007402 then ((folders_Tree.f (y445 ++ l1)).bind fun t451 => ((chartroomref27_Same.f kj5 t439 t451).bind fun t454 => (some t454))) else (none))) else (none)))) else (none)) else (none))) else (none)))) else (none))) else (none))) else (none)) else (none)))) = some r := by rw [if_neg (show ¬ (false = true) by decide)] at H; exact H
          clear H
          have H := H1
          clear H1
          by_cases c11 : (IntKind.u64.wrap ((l0.length : Int))) = 0
          · rw [if_pos c11] at H
            exact absurd H (by simp)
          · rw [if_neg c11] at H
            have c11b0 : ((IntKind.u64.wrap ((l0.length : Int))) == 0) = false := beq_eq_false_iff_ne.mpr c11
            have c11b1 : ((IntKind.u64.wrap ((l0.length : Int))) != 0) = true := bne_iff_ne.mpr c11
            obtain ⟨y415, hy415⟩ : ∃ y_ : List (S29), y_ = (([] : List (S29))) := ⟨_, rfl⟩
            replace H : (if 0 ≤ (wrap64 (Int.tmod a2 (IntKind.u64.wrap ((l0.length : Int))))) then (if (wrap64 (Int.tmod a2 (IntKind.u64.wrap ((l0.length : Int))))) ≤ (l0.length : Int) then ((some (l0.drop ((wrap64 (Int.tmod a2 (IntKind.u64.wrap ((l0.length : Int))))) : Int).toNat : List (S29))).bind fun y418 => (if y415.length + y418.length < 2932031007402 then ((some (y415 ++ y418 : List (S29))).bind fun y422 => (if y422.length + l1.length < 2932031007402 then ((some (y422 ++ l1 : List (S29))).bind fun y425 => ((some (l0.take ((wrap64 (Int.tmod a2 (IntKind.u64.wrap ((l0.length : Int))))) : Int).toNat : List (S29))).bind fun y428 => (if y425.length + y428.length < 2932031007402 then ((some (y425 ++ y428 : List (S29))).bind fun y432 => (if (wrap64 (Int.tmod a2 (IntKind.u64.wrap ((l0.length : Int))))) < (l0.length : Int) then (if y432.length < 2932031007402 then ((folders_Tree.f (y432 ++ [(⟨(rd_T29 l0 (wrap64 (Int.tmod a2 (IntKind.u64.wrap ((l0.length : Int)))))).f0, (rd_T29 l0 (wrap64 (Int.tmod a2 (IntKind.u64.wrap ((l0.length : Int)))))).f1, (rd_T29 l0 (wrap64 (Int.tmod a2 (IntKind.u64.wrap ((l0.length : Int)))))).f2, (rd_T29 l0 (wrap64 (Int.tmod a2 (IntKind.u64.wrap ((l0.length : Int)))))).f3, (rd_T29 l0 (wrap64 (Int.tmod a2 (IntKind.u64.wrap ((l0.length : Int)))))).f4⟩ : S29)])).bind fun t439 => ((some (([] : List (S29)) : List (S29))).bind fun y442 => (if y442.length + l0.length < 2932031007402 then ((some (y442 ++ l0 : List (S29))).bind fun y445 => (if y445.length + l1.length < 2932031007402 then ((folders_Tree.f (y445 ++ l1)).bind fun t451 => ((chartroomref27_Same.f kj5 t439 t451).bind fun t454 => (some t454))) else (none))) else (none)))) else (none)) else (none))) else (none)))) else (none))) else (none))) else (none)) else (none)) = some r := by first | (rw [hy415]; with_reducible exact H) | (have H2_ := (Option.bind_some _ _).symm.trans H; rw [hy415]; with_reducible exact H2_) | (have H2_ := (Option.bind_some _ _).symm.trans H; with_reducible exact H2_) | with_reducible exact H | (rw [hy415]; exact H) | exact H
            have Ny415 := Aside0.mk hy415
            clear hy415
            obtain ⟨ji12, hji12⟩ : ∃ j_ : Int, (wrap64 (Int.tmod a2 (IntKind.u64.wrap ((l0.length : Int))))) = j_ := ⟨_, rfl⟩
            replace H : (if 0 ≤ (ji12) then (if (ji12) ≤ (l0.length : Int) then ((some (l0.drop ((ji12) : Int).toNat : List (S29))).bind fun y418 => (if y415.length + y418.length < 2932031007402 then ((some (y415 ++ y418 : List (S29))).bind fun y422 => (if y422.length + l1.length < 2932031007402 then ((some (y422 ++ l1 : List (S29))).bind fun y425 => ((some (l0.take ((ji12) : Int).toNat : List (S29))).bind fun y428 => (if y425.length + y428.length < 2932031007402 then ((some (y425 ++ y428 : List (S29))).bind fun y432 => (if (ji12) < (l0.length : Int) then (if y432.length < 2932031007402 then ((folders_Tree.f (y432 ++ [(⟨(rd_T29 l0 (ji12)).f0, (rd_T29 l0 (ji12)).f1, (rd_T29 l0 (ji12)).f2, (rd_T29 l0 (ji12)).f3, (rd_T29 l0 (ji12)).f4⟩ : S29)])).bind fun t439 => ((some (([] : List (S29)) : List (S29))).bind fun y442 => (if y442.length + l0.length < 2932031007402 then ((some (y442 ++ l0 : List (S29))).bind fun y445 => (if y445.length + l1.length < 2932031007402 then ((folders_Tree.f (y445 ++ l1)).bind fun t451 => ((chartroomref27_Same.f kj5 t439 t451).bind fun t454 => (some t454))) else (none))) else (none)))) else (none)) else (none))) else (none)))) else (none))) else (none))) else (none)) else (none)) = some r := by first | (rw [hji12] at H; exact H) | (simp only [hji12] at H ⊢; exact H)
            have hji12w : (IntKind.i64.wrap (Int.tmod a2 (IntKind.u64.wrap ((l0.length : Int))))) = ji12 := (i64_w _).trans hji12
            by_cases c13 : 0 ≤ (ji12)
            · rw [if_pos c13] at H
              have c13b0 := eq_true c13
              have c13b1 : decide (0 ≤ (ji12)) = true := decide_eq_true c13
              clear c13
              by_cases c14 : (ji12) ≤ (l0.length : Int)
              · rw [if_pos c14] at H
                have c14b0 := eq_true c14
                have c14b1 : decide ((ji12) ≤ (l0.length : Int)) = true := decide_eq_true c14
                clear c14
                obtain ⟨y418, hy418⟩ : ∃ y_ : List (S29), y_ = (l0.drop ((ji12) : Int).toNat) := ⟨_, rfl⟩
                replace H : (if y415.length + y418.length < 2932031007402 then ((some (y415 ++ y418 : List (S29))).bind fun y422 => (if y422.length + l1.length < 2932031007402 then ((some (y422 ++ l1 : List (S29))).bind fun y425 => ((some (l0.take ((ji12) : Int).toNat : List (S29))).bind fun y428 => (if y425.length + y428.length < 2932031007402 then ((some (y425 ++ y428 : List (S29))).bind fun y432 => (if (ji12) < (l0.length : Int) then (if y432.length < 2932031007402 then ((folders_Tree.f (y432 ++ [(⟨(rd_T29 l0 (ji12)).f0, (rd_T29 l0 (ji12)).f1, (rd_T29 l0 (ji12)).f2, (rd_T29 l0 (ji12)).f3, (rd_T29 l0 (ji12)).f4⟩ : S29)])).bind fun t439 => ((some (([] : List (S29)) : List (S29))).bind fun y442 => (if y442.length + l0.length < 2932031007402 then ((some (y442 ++ l0 : List (S29))).bind fun y445 => (if y445.length + l1.length < 2932031007402 then ((folders_Tree.f (y445 ++ l1)).bind fun t451 => ((chartroomref27_Same.f kj5 t439 t451).bind fun t454 => (some t454))) else (none))) else (none)))) else (none)) else (none))) else (none)))) else (none))) else (none)) = some r := by first | (rw [hy418]; with_reducible exact H) | (have H2_ := (Option.bind_some _ _).symm.trans H; rw [hy418]; with_reducible exact H2_) | (have H2_ := (Option.bind_some _ _).symm.trans H; with_reducible exact H2_) | with_reducible exact H | (rw [hy418]; exact H) | exact H
                have Ny418 := Aside0.mk hy418
                clear hy418
                by_cases c15 : y415.length + y418.length < 2932031007402
                · rw [if_pos c15] at H
                  have LMc15 := Aside0.mk c15
                  clear c15
                  obtain ⟨y422, hy422⟩ : ∃ y_ : List (S29), y_ = (y415 ++ y418) := ⟨_, rfl⟩
                  replace H : (if y422.length + l1.length < 2932031007402 then ((some (y422 ++ l1 : List (S29))).bind fun y425 => ((some (l0.take ((ji12) : Int).toNat : List (S29))).bind fun y428 => (if y425.length + y428.length < 2932031007402 then ((some (y425 ++ y428 : List (S29))).bind fun y432 => (if (ji12) < (l0.length : Int) then (if y432.length < 2932031007402 then ((folders_Tree.f (y432 ++ [(⟨(rd_T29 l0 (ji12)).f0, (rd_T29 l0 (ji12)).f1, (rd_T29 l0 (ji12)).f2, (rd_T29 l0 (ji12)).f3, (rd_T29 l0 (ji12)).f4⟩ : S29)])).bind fun t439 => ((some (([] : List (S29)) : List (S29))).bind fun y442 => (if y442.length + l0.length < 2932031007402 then ((some (y442 ++ l0 : List (S29))).bind fun y445 => (if y445.length + l1.length < 2932031007402 then ((folders_Tree.f (y445 ++ l1)).bind fun t451 => ((chartroomref27_Same.f kj5 t439 t451).bind fun t454 => (some t454))) else (none))) else (none)))) else (none)) else (none))) else (none)))) else (none)) = some r := by first | (rw [hy422]; with_reducible exact H) | (have H2_ := (Option.bind_some _ _).symm.trans H; rw [hy422]; with_reducible exact H2_) | (have H2_ := (Option.bind_some _ _).symm.trans H; with_reducible exact H2_) | with_reducible exact H | (rw [hy422]; exact H) | exact H
                  have Ny422 := Aside0.mk hy422
                  clear hy422
                  by_cases c16 : y422.length + l1.length < 2932031007402
                  · rw [if_pos c16] at H
                    have LMc16 := Aside0.mk c16
                    clear c16
                    obtain ⟨y425, hy425⟩ : ∃ y_ : List (S29), y_ = (y422 ++ l1) := ⟨_, rfl⟩
                    replace H : ((some (l0.take ((ji12) : Int).toNat : List (S29))).bind fun y428 => (if y425.length + y428.length < 2932031007402 then ((some (y425 ++ y428 : List (S29))).bind fun y432 => (if (ji12) < (l0.length : Int) then (if y432.length < 2932031007402 then ((folders_Tree.f (y432 ++ [(⟨(rd_T29 l0 (ji12)).f0, (rd_T29 l0 (ji12)).f1, (rd_T29 l0 (ji12)).f2, (rd_T29 l0 (ji12)).f3, (rd_T29 l0 (ji12)).f4⟩ : S29)])).bind fun t439 => ((some (([] : List (S29)) : List (S29))).bind fun y442 => (if y442.length + l0.length < 2932031007402 then ((some (y442 ++ l0 : List (S29))).bind fun y445 => (if y445.length + l1.length < 2932031007402 then ((folders_Tree.f (y445 ++ l1)).bind fun t451 => ((chartroomref27_Same.f kj5 t439 t451).bind fun t454 => (some t454))) else (none))) else (none)))) else (none)) else (none))) else (none))) = some r := by first | (rw [hy425]; with_reducible exact H) | (have H2_ := (Option.bind_some _ _).symm.trans H; rw [hy425]; with_reducible exact H2_) | (have H2_ := (Option.bind_some _ _).symm.trans H; with_reducible exact H2_) | with_reducible exact H | (rw [hy425]; exact H) | exact H
                    have Ny425 := Aside0.mk hy425
                    clear hy425
                    have c17b0 := eq_true (of_decide_eq_true (by first | (with_reducible assumption) | assumption) : 0 ≤ (ji12))
                    have c18b0 := eq_true (of_decide_eq_true (by first | (with_reducible assumption) | assumption) : (ji12) ≤ (l0.length : Int))
                    obtain ⟨y428, hy428⟩ : ∃ y_ : List (S29), y_ = (l0.take ((ji12) : Int).toNat) := ⟨_, rfl⟩
                    replace H : (if y425.length + y428.length < 2932031007402 then ((some (y425 ++ y428 : List (S29))).bind fun y432 => (if (ji12) < (l0.length : Int) then (if y432.length < 2932031007402 then ((folders_Tree.f (y432 ++ [(⟨(rd_T29 l0 (ji12)).f0, (rd_T29 l0 (ji12)).f1, (rd_T29 l0 (ji12)).f2, (rd_T29 l0 (ji12)).f3, (rd_T29 l0 (ji12)).f4⟩ : S29)])).bind fun t439 => ((some (([] : List (S29)) : List (S29))).bind fun y442 => (if y442.length + l0.length < 2932031007402 then ((some (y442 ++ l0 : List (S29))).bind fun y445 => (if y445.length + l1.length < 2932031007402 then ((folders_Tree.f (y445 ++ l1)).bind fun t451 => ((chartroomref27_Same.f kj5 t439 t451).bind fun t454 => (some t454))) else (none))) else (none)))) else (none)) else (none))) else (none)) = some r := by first | (rw [hy428]; with_reducible exact H) | (have H2_ := (Option.bind_some _ _).symm.trans H; rw [hy428]; with_reducible exact H2_) | (have H2_ := (Option.bind_some _ _).symm.trans H; with_reducible exact H2_) | with_reducible exact H | (rw [hy428]; exact H) | exact H
                    have Ny428 := Aside0.mk hy428
                    clear hy428
                    by_cases c19 : y425.length + y428.length < 2932031007402
                    · rw [if_pos c19] at H
                      have LMc19 := Aside0.mk c19
                      clear c19
                      obtain ⟨y432, hy432⟩ : ∃ y_ : List (S29), y_ = (y425 ++ y428) := ⟨_, rfl⟩
                      replace H : (if (ji12) < (l0.length : Int) then (if y432.length < 2932031007402 then ((folders_Tree.f (y432 ++ [(⟨(rd_T29 l0 (ji12)).f0, (rd_T29 l0 (ji12)).f1, (rd_T29 l0 (ji12)).f2, (rd_T29 l0 (ji12)).f3, (rd_T29 l0 (ji12)).f4⟩ : S29)])).bind fun t439 => ((some (([] : List (S29)) : List (S29))).bind fun y442 => (if y442.length + l0.length < 2932031007402 then ((some (y442 ++ l0 : List (S29))).bind fun y445 => (if y445.length + l1.length < 2932031007402 then ((folders_Tree.f (y445 ++ l1)).bind fun t451 => ((chartroomref27_Same.f kj5 t439 t451).bind fun t454 => (some t454))) else (none))) else (none)))) else (none)) else (none)) = some r := by first | (rw [hy432]; with_reducible exact H) | (have H2_ := (Option.bind_some _ _).symm.trans H; rw [hy432]; with_reducible exact H2_) | (have H2_ := (Option.bind_some _ _).symm.trans H; with_reducible exact H2_) | with_reducible exact H | (rw [hy432]; exact H) | exact H
                      have Ny432 := Aside0.mk hy432
                      clear hy432
                      by_cases c20 : (ji12) < (l0.length : Int)
                      · rw [if_pos c20] at H
                        have c20b0 : decide ((ji12) < (l0.length : Int)) = true := decide_eq_true c20
                        clear c20
                        by_cases c21 : y432.length < 2932031007402
                        · rw [if_pos c21] at H
                          have LMc21 := Aside0.mk c21
                          clear c21
                          obtain ⟨y436, hy436⟩ : ∃ y_ : List (S29), y_ = (y432 ++ [(⟨(rd_T29 l0 (ji12)).f0, (rd_T29 l0 (ji12)).f1, (rd_T29 l0 (ji12)).f2, (rd_T29 l0 (ji12)).f3, (rd_T29 l0 (ji12)).f4⟩ : S29)]) := ⟨_, rfl⟩
                          replace H : ((folders_Tree.f y436).bind fun t439 => ((some (([] : List (S29)) : List (S29))).bind fun y442 => (if y442.length + l0.length < 2932031007402 then ((some (y442 ++ l0 : List (S29))).bind fun y445 => (if y445.length + l1.length < 2932031007402 then ((folders_Tree.f (y445 ++ l1)).bind fun t451 => ((chartroomref27_Same.f kj5 t439 t451).bind fun t454 => (some t454))) else (none))) else (none)))) = some r := by first | (rw [hy436]; with_reducible exact H) | (have H2_ := (Option.bind_some _ _).symm.trans H; rw [hy436]; with_reducible exact H2_) | (have H2_ := (Option.bind_some _ _).symm.trans H; with_reducible exact H2_) | with_reducible exact H | (rw [hy436]; exact H) | exact H
                          have Ny436 := Aside0.mk hy436
                          clear hy436
                          replace H := Option.bind_eq_some_iff.mp H
                          obtain ⟨t439, A220, H⟩ := H
                          replace H : ((some (([] : List (S29)) : List (S29))).bind fun y442 => (if y442.length + l0.length < 2932031007402 then ((some (y442 ++ l0 : List (S29))).bind fun y445 => (if y445.length + l1.length < 2932031007402 then ((folders_Tree.f (y445 ++ l1)).bind fun t451 => ((chartroomref27_Same.f kj5 t439 t451).bind fun t454 => (some t454))) else (none))) else (none))) = some r := H
                          have A22 := Aside0.mk A220
                          clear A220
                          obtain ⟨y442, hy442⟩ : ∃ y_ : List (S29), y_ = (([] : List (S29))) := ⟨_, rfl⟩
                          replace H : (if y442.length + l0.length < 2932031007402 then ((some (y442 ++ l0 : List (S29))).bind fun y445 => (if y445.length + l1.length < 2932031007402 then ((folders_Tree.f (y445 ++ l1)).bind fun t451 => ((chartroomref27_Same.f kj5 t439 t451).bind fun t454 => (some t454))) else (none))) else (none)) = some r := by first | (rw [hy442]; with_reducible exact H) | (have H2_ := (Option.bind_some _ _).symm.trans H; rw [hy442]; with_reducible exact H2_) | (have H2_ := (Option.bind_some _ _).symm.trans H; with_reducible exact H2_) | with_reducible exact H | (rw [hy442]; exact H) | exact H
                          have Ny442 := Aside0.mk hy442
                          clear hy442
                          by_cases c23 : y442.length + l0.length < 2932031007402
                          · rw [if_pos c23] at H
                            have LMc23 := Aside0.mk c23
                            clear c23
                            obtain ⟨y445, hy445⟩ : ∃ y_ : List (S29), y_ = (y442 ++ l0) := ⟨_, rfl⟩
                            replace H : (if y445.length + l1.length < 2932031007402 then ((folders_Tree.f (y445 ++ l1)).bind fun t451 => ((chartroomref27_Same.f kj5 t439 t451).bind fun t454 => (some t454))) else (none)) = some r := by first | (rw [hy445]; with_reducible exact H) | (have H2_ := (Option.bind_some _ _).symm.trans H; rw [hy445]; with_reducible exact H2_) | (have H2_ := (Option.bind_some _ _).symm.trans H; with_reducible exact H2_) | with_reducible exact H | (rw [hy445]; exact H) | exact H
                            have Ny445 := Aside0.mk hy445
                            clear hy445
                            by_cases c24 : y445.length + l1.length < 2932031007402
                            · rw [if_pos c24] at H
                              have LMc24 := Aside0.mk c24
                              clear c24
                              obtain ⟨y448, hy448⟩ : ∃ y_ : List (S29), y_ = (y445 ++ l1) := ⟨_, rfl⟩
                              replace H : ((folders_Tree.f y448).bind fun t451 => ((chartroomref27_Same.f kj5 t439 t451).bind fun t454 => (some t454))) = some r := by first | (rw [hy448]; with_reducible exact H) | (have H2_ := (Option.bind_some _ _).symm.trans H; rw [hy448]; with_reducible exact H2_) | (have H2_ := (Option.bind_some _ _).symm.trans H; with_reducible exact H2_) | with_reducible exact H | (rw [hy448]; exact H) | exact H
                              have Ny448 := Aside0.mk hy448
                              clear hy448
                              replace H := Option.bind_eq_some_iff.mp H
                              obtain ⟨t451, A250, H⟩ := H
                              replace H : ((chartroomref27_Same.f kj5 t439 t451).bind fun t454 => (some t454)) = some r := H
                              have A25 := Aside0.mk A250
                              clear A250
                              replace H := Option.bind_eq_some_iff.mp H
                              obtain ⟨t454, A260, H⟩ := H
                              replace H : (some t454) = some r := H
                              have A26 := Aside0.mk A260
                              clear A260
                              obtain rfl := Option.some.inj H
                              try go_wp2
                              have n0_ := Aside0.mk (below_drew1 HB.out)
                              clear HB
                              have HB := n0_
                              clear n0_
                              have q28 : ((ji12) : Int) ≤ ((l0.length : Int) : Int) := of_decide_eq_true (by first | (with_reducible assumption) | assumption)
                              obtain ⟨i028, hi028, _, hsz28, _⟩ := info_parts info29
                              have hroom28 : l0.length ≤ c0 := HC0.out
                              have hC28 : Kd.C k29 _ A0 l0.length l0 := HR0.out
                              have q028 : (0 : Int) ≤ ((ji12) : Int) := of_decide_eq_true (by first | (with_reducible assumption) | assumption)
                              have hcut28 := cut_from (P := Try.prog) 22 29 .i64 Try.underlying22 hi028 5 hsz28 A0 l0.length c0 (ji12) q028 q28
                              have hr28 := Kd.C_drop (m := ((ji12) : Int).toNat) (c := c0) hC28 (by omega) hroom28
                              obtain ⟨A28, hA28⟩ : ∃ A1, A1 = (if c0 = ((ji12) : Int).toNat then A0 else (A0 : Option Addr).map (·.add (((ji12) : Int).toNat * 5))) := ⟨_, rfl⟩
                              obtain ⟨c28, hc28⟩ : ∃ c1, c1 = c0 - ((ji12) : Int).toNat := ⟨_, rfl⟩
                              have hy28 : y418.length = l0.length - ((ji12) : Int).toNat := (by rw [Ny418.out, List.length_drop] <;> omega)
                              rw [show (l0).drop ((ji12) : Int).toNat = y418 from Ny418.out.symm] at hr28
                              replace hr28 : Kd.C k29 _ A28 y418.length y418 := (by rw [hA28]; exact hr28)
                              rw [← hy28, ← hA28, ← hc28] at hcut28
                              have HR421 := Aside0.mk hr28
                              have HC421 := Aside0.mk (show y418.length ≤ c28 from by rw [hy28, hc28]; exact Nat.sub_le_sub_right hroom28 _)
                              clear hr28 hC28 hroom28 hi028 hsz28 hc28
                              have KY28 := Aside0.mk hy28
                              have KA28 := Aside0.mk hA28
                              clear hy28 hA28
                              replace q28 := eq_true q28
                              have q29 : ((ji12) : Int) ≤ ((l0.length : Int) : Int) := of_decide_eq_true (by first | (with_reducible assumption) | assumption)
                              obtain ⟨i029, hi029, _, hsz29, _⟩ := info_parts info29
                              have hroom29 : l0.length ≤ c0 := HC0.out
                              have hC29 : Kd.C k29 _ A0 l0.length l0 := HR0.out
                              have hcut29 := cut_to (P := Try.prog) 22 29 .i64 Try.underlying22 hi029 A0 l0.length c0 (ji12) (of_decide_eq_true (by first | (with_reducible assumption) | assumption)) q29 hroom29
                              have hr29 := Kd.C_take (m := ((ji12) : Int).toNat) hC29 (by omega)
                              have hy29 : y428.length = ((ji12) : Int).toNat := (by rw [Ny428.out, List.length_take]; omega)
                              rw [← Ny428.out] at hr29
                              rw [← hy29] at hcut29
                              have HR431 := Aside0.mk hr29
                              have HC431 := Aside0.mk (show y428.length ≤ c0 from by omega)
                              clear hr29 hC29 hroom29 hi029 hsz29
                              have KY29 := Aside0.mk hy29
                              clear hy29
                              replace q29 := eq_true q29
                              refine start_ (n := 12) (S := fun w' => True) (ds := []) #[false, false, false, false, false, false, false, false, false, false, false, false] (by kernel_rfl) rfl rfl trivial (fun hHeld => ?_); refine with_tabW chartroomlaw27_FoldersOrder.tab6 chartroomlaw27_FoldersOrder.bits6 (fun HT_ HW_ => ?_)
                              generalize wc.drew = w27 at HB HR421 HR431 hHeld ⊢
                              refine pure_ (i := 1) (N := some 27) (v := ?_) (a' := ?_) #[false, true, false, false, false, false, false, false, false, false, false, false] rfl rfl (any_of HT_.out (by kernel_rfl)) (fun _ _ _ h => h) (Or.inl ⟨by rfl, ?_⟩) ?_ ?_
                              rotate_left
                              · intro w'
                                go_simp
                                with_reducible rfl
                              rotate_left
                              · simp only [Act.put, List.setIfInBounds_toArray, List.set_cons_zero, List.set_cons_succ, i64_w, i32_w]
                                rfl
                              refine pure_ (i := 2) (N := some 28) (v := ?_) (a' := ?_) #[false, true, true, false, false, false, false, false, false, false, false, false] rfl rfl (any_of HT_.out (by kernel_rfl)) (fun _ _ _ h => h) (Or.inl ⟨by rfl, ?_⟩) ?_ ?_
                              rotate_left
                              · intro w'
                                go_simp
                                with_reducible rfl
                              rotate_left
                              · simp only [Act.put, List.setIfInBounds_toArray, List.set_cons_zero, List.set_cons_succ, i64_w, i32_w]
                                rfl
                              refine pure_ (i := 3) (N := some 29) (v := ?_) (a' := ?_) #[false, true, true, true, false, false, false, false, false, false, false, false] rfl rfl (any_of HT_.out (by kernel_rfl)) (fun _ _ _ h => h) (Or.inl ⟨by rfl, ?_⟩) ?_ ?_
                              rotate_left
                              · intro w'
                                go_simp
                                with_reducible rfl
                              rotate_left
                              · simp only [Act.put, List.setIfInBounds_toArray, List.set_cons_zero, List.set_cons_succ, i64_w, i32_w]
                                rfl
                              refine pure_ (i := 5) (N := some 31) (v := ?_) (a' := ?_) #[false, true, true, true, false, true, false, false, false, false, false, false] rfl rfl (any_of HT_.out (by kernel_rfl)) (fun _ _ _ h => h) (Or.inl ⟨by rfl, ?_⟩) ?_ ?_
                              rotate_left
                              · intro w'
                                go_simp
                                with_reducible rfl
                              rotate_left
                              · simp only [Act.put, List.setIfInBounds_toArray, List.set_cons_zero, List.set_cons_succ, i64_w, i32_w]
                                rfl
                              refine pure_ (i := 7) (N := some 33) (v := ?_) (a' := ?_) #[false, true, true, true, false, true, false, true, false, false, false, false] rfl rfl (any_of HT_.out (by kernel_rfl)) (fun _ _ _ h => h) (Or.inl ⟨by rfl, ?_⟩) ?_ ?_
                              rotate_left
                              · intro w'
                                go_simp
                                with_reducible rfl
                              rotate_left
                              · simp only [Act.put, List.setIfInBounds_toArray, List.set_cons_zero, List.set_cons_succ, i64_w, i32_w]
                                rfl
                              refine pure_ (i := 8) (N := some 34) (v := ?_) (a' := ?_) #[false, true, true, true, false, true, false, true, true, false, false, false] rfl rfl (any_of HT_.out (by kernel_rfl)) (fun _ _ _ h => h) (Or.inl ⟨by rfl, ?_⟩) ?_ ?_
                              rotate_left
                              · intro w'
                                go_simp
                                with_reducible rfl
                              rotate_left
                              · simp only [Act.put, List.setIfInBounds_toArray, List.set_cons_zero, List.set_cons_succ, i64_w, i32_w]
                                rfl
                              refine pure_ (i := 9) (N := some 35) (v := ?_) (a' := ?_) #[false, true, true, true, false, true, false, true, true, true, false, false] rfl rfl (any_of HT_.out (by kernel_rfl)) (fun _ _ _ h => h) (Or.inl ⟨by rfl, ?_⟩) ?_ ?_
                              rotate_left
                              · intro w'
                                go_simp
                                with_reducible rfl
                              rotate_left
                              · simp only [Act.put, List.setIfInBounds_toArray, List.set_cons_zero, List.set_cons_succ, i64_w, i32_w]
                                rfl
                              refine one_ (i := 0) (N := some 26) #[true, true, true, true, false, true, false, true, true, true, false, false] rfl rfl (one_of HT_.out (by kernel_rfl)) (by decide) (fun K hK => ?_)
                              refine Kd.R_lit_step k29 _ 29 ?hg (N := 26) ?hd (xs := ([] : List (S29))) (inner := []) (ok := fun _ => True) (okp := fun _ => True) ?hr ?hp (fun _ hk => hk) trivial (Below.refl _ _) (Nat.le_refl _) (by simp) ?_; (case hd => rfl); (case hg => rfl); (case hr => first | (go_simp; done) | (go_simp; rfl)); (case hp => exact (Reps.none _ _))
                              intro v416 w30 ho31 hb hg_ hnew_
                              clear hg_ hnew_
                              (first | rw [← Ny415.out] at ho31 | (simp only [Int.reduceToNat] at ho31; rw [← Ny415.out] at ho31))
                              have n0_ := Aside0.mk (Kd.R_lower ho31 (below_size (by repeat (first | (with_reducible first | exact HB.out | apply below_alloc | apply pw_below_drewN | apply below_drew1) | exact HB.out))))
                              have n1_ := Aside0.mk (below_step (by repeat (first | (with_reducible first | exact HB.out | apply below_alloc | apply pw_below_drewN | apply below_drew1) | exact HB.out)) hb)
                              clear HB
                              have HO417 := n0_
                              have HB := n1_
                              clear n0_ n1_
                              clear hb ho31
                              refine hK.out _ _ trivial (fun hHeld => ?_)
                              clear hK K
                              refine norm_ (a' := ?_) ?_ ?_
                              rotate_left
                              · show Act.put _ (some 26) _ = _
                                simp only [Act.put, List.setIfInBounds_toArray, List.set_cons_zero, List.set_cons_succ, i64_w, i32_w]
                                rfl
                              refine one_ (i := 4) (N := some 30) #[true, true, true, true, true, true, false, true, true, true, false, false] rfl rfl (one_of HT_.out (by kernel_rfl)) (by decide) (fun K hK => ?_)
                              refine Kd.R_append_rows_step k29 (w0 := w) w.heap.size (by rfl) (.tmp 26) (.tmp 29) 22 29 (.agg #[(.int .i64 0), (.int .i64 0), (.int .i64 0), (.int .i64 0), (.string ⟨#[]⟩)]) 48 rfl Try.underlying22 info29 rfl (by decide) (by omega) v416 y415 y418 _ _ _ (fun _ => True) (fun _ => False) rfl rfl ?aO ?aR (fun _ _ h => h) (fun _ h => h.elim) ?aF ?aB ?aS ?aL ?_
                              (case aR => repeat (first | exact (Kd.C_below HR421.out HB.out) | (with_reducible refine Kd.C_alloc ?_ _) | (with_reducible refine Kd.C_drewN ?_ _) | (with_reducible refine Kd.C_drew ?_)))
                              (case aB => exact (by repeat (first | (with_reducible first | exact HB.out | apply below_alloc | apply pw_below_drewN | apply below_drew1) | exact HB.out)))
                              (case aF => exact (fun _ _ => trivial))
                              (case aO => exact (by (with_reducible repeat (first | apply Kd.R_alloc | apply Kd.R_drewN | apply Kd.R_drew)); exact HO417.out))
                              (case aS => exact (below_size (by repeat (first | (with_reducible first | exact HB.out | apply below_alloc | apply pw_below_drewN | apply below_drew1) | exact HB.out))))
                              (case aL => have := LMc15.out; omega)
                              intro v423 w32 ho hb hg hat
                              rw [← Ny422.out] at ho
                              have n0_ := Aside0.mk (hb)
                              have n1_ := Aside0.mk (ho)
                              clear HB
                              clear HO417
                              have HB := n0_
                              have HO424 := n1_
                              clear n0_ n1_
                              clear ho hb hg hat
                              refine hK.out _ _ trivial (fun hHeld => ?_)
                              clear hK K
                              refine norm_ (a' := ?_) ?_ ?_
                              rotate_left
                              · show Act.put _ (some 30) _ = _
                                simp only [Act.put, List.setIfInBounds_toArray, List.set_cons_zero, List.set_cons_succ, i64_w, i32_w]
                                rfl
                              refine one_ (i := 6) (N := some 32) #[true, true, true, true, true, true, true, true, true, true, false, false] rfl rfl (one_of HT_.out (by kernel_rfl)) (by decide) (fun K hK => ?_)
                              refine Kd.R_append_rows_step k29 (w0 := w) w.heap.size (by rfl) (.tmp 30) (.tmp 31) 22 29 (.agg #[(.int .i64 0), (.int .i64 0), (.int .i64 0), (.int .i64 0), (.string ⟨#[]⟩)]) 48 rfl Try.underlying22 info29 rfl (by decide) (by omega) v423 y422 l1 _ _ _ (fun _ => True) (fun _ => False) rfl rfl ?aO ?aR (fun _ _ h => h) (fun _ h => h.elim) ?aF ?aB ?aS ?aL ?_
                              (case aR => repeat (first | exact (Kd.C_below HR1.out HB.out) | (with_reducible refine Kd.C_alloc ?_ _) | (with_reducible refine Kd.C_drewN ?_ _) | (with_reducible refine Kd.C_drew ?_)))
                              (case aB => exact (by repeat (first | (with_reducible first | exact HB.out | apply below_alloc | apply pw_below_drewN | apply below_drew1) | exact HB.out)))
                              (case aF => exact (fun _ _ => trivial))
                              (case aO => exact (by (with_reducible repeat (first | apply Kd.R_alloc | apply Kd.R_drewN | apply Kd.R_drew)); exact HO424.out))
                              (case aS => exact (below_size (by repeat (first | (with_reducible first | exact HB.out | apply below_alloc | apply pw_below_drewN | apply below_drew1) | exact HB.out))))
                              (case aL => have := LMc16.out; omega)
                              intro v426 w33 ho hb hg hat
                              rw [← Ny425.out] at ho
                              have n0_ := Aside0.mk (hb)
                              have n1_ := Aside0.mk (ho)
                              clear HB
                              clear HO424
                              have HB := n0_
                              have HO427 := n1_
                              clear n0_ n1_
                              clear ho hb hg hat
                              refine hK.out _ _ trivial (fun hHeld => ?_)
                              clear hK K
                              refine norm_ (a' := ?_) ?_ ?_
                              rotate_left
                              · show Act.put _ (some 32) _ = _
                                simp only [Act.put, List.setIfInBounds_toArray, List.set_cons_zero, List.set_cons_succ, i64_w, i32_w]
                                rfl
                              refine one_ (i := 10) (N := some 36) #[true, true, true, true, true, true, true, true, true, true, true, false] rfl rfl (one_of HT_.out (by kernel_rfl)) (by decide) (fun K hK => ?_)
                              refine Kd.R_append_rows_step k29 (w0 := w) w.heap.size (by rfl) (.tmp 32) (.tmp 35) 22 29 (.agg #[(.int .i64 0), (.int .i64 0), (.int .i64 0), (.int .i64 0), (.string ⟨#[]⟩)]) 48 rfl Try.underlying22 info29 rfl (by decide) (by omega) v426 y425 y428 _ _ _ (fun _ => True) (fun _ => False) rfl rfl ?aO ?aR (fun _ _ h => h) (fun _ h => h.elim) ?aF ?aB ?aS ?aL ?_
                              (case aR => repeat (first | exact (Kd.C_below HR431.out HB.out) | (with_reducible refine Kd.C_alloc ?_ _) | (with_reducible refine Kd.C_drewN ?_ _) | (with_reducible refine Kd.C_drew ?_)))
                              (case aB => exact (by repeat (first | (with_reducible first | exact HB.out | apply below_alloc | apply pw_below_drewN | apply below_drew1) | exact HB.out)))
                              (case aF => exact (fun _ _ => trivial))
                              (case aO => exact (by (with_reducible repeat (first | apply Kd.R_alloc | apply Kd.R_drewN | apply Kd.R_drew)); exact HO427.out))
                              (case aS => exact (below_size (by repeat (first | (with_reducible first | exact HB.out | apply below_alloc | apply pw_below_drewN | apply below_drew1) | exact HB.out))))
                              (case aL => have := LMc19.out; omega)
                              intro v433 w34 ho hb hg hat
                              rw [← Ny432.out] at ho
                              have n0_ := Aside0.mk (hb)
                              have n1_ := Aside0.mk (ho)
                              clear HB
                              clear HO427
                              have HB := n0_
                              have HO434 := n1_
                              clear n0_ n1_
                              clear ho hb hg hat
                              refine hK.out _ _ trivial (fun hHeld => ?_)
                              clear hK K
                              refine norm_ (a' := ?_) ?_ ?_
                              rotate_left
                              · show Act.put _ (some 36) _ = _
                                simp only [Act.put, List.setIfInBounds_toArray, List.set_cons_zero, List.set_cons_succ, i64_w, i32_w]
                                rfl
                              refine pure_ (i := 11) (N := some 8) (v := ?_) (a' := ?_) #[true, true, true, true, true, true, true, true, true, true, true, true] rfl rfl (any_of HT_.out (by kernel_rfl)) (fun _ _ _ h => h) (Or.inl ⟨by rfl, ?_⟩) ?_ ?_
                              rotate_left
                              · intro w'
                                go_simp
                                with_reducible rfl
                              rotate_left
                              · simp only [Act.put, List.setIfInBounds_toArray, List.set_cons_zero, List.set_cons_succ, i64_w, i32_w]
                                rfl
                              refine done_ (done_of HT_.out (by kernel_rfl)) ?_
                              have p435 : 0 ≤ ((ji12) : Int) := of_decide_eq_true (by first | (with_reducible assumption) | assumption)
                              have q435 : (ji12) < (l0.length : Int) := of_decide_eq_true (by first | (with_reducible assumption) | assumption)
                              obtain ⟨ad435, e435, hx435_0, hx435_1, hx435_2, hx435_3, hx435_4⟩ := at_T29 HR0.out (ji12) p435 q435
                              cases e435
                              replace hx435_0 := (HB.out.cell (World.block_lt_of_cell? w _ hx435_0)).trans hx435_0
                              replace hx435_1 := (HB.out.cell (World.block_lt_of_cell? w _ hx435_1)).trans hx435_1
                              replace hx435_2 := (HB.out.cell (World.block_lt_of_cell? w _ hx435_2)).trans hx435_2
                              replace hx435_3 := (HB.out.cell (World.block_lt_of_cell? w _ hx435_3)).trans hx435_3
                              replace hx435_4 := (HB.out.cell (World.block_lt_of_cell? w _ hx435_4)).trans hx435_4
                              replace p435 := eq_true p435
                              replace q435 := eq_true q435
                              try go_wp2_with (first | ((with_reducible refine gate_builtin (b := .append) (xs := #[.tmp 37, .tmp 42]) rfl ?_); (try (refine gate_guard (by rfl) ?_; dsimp only)); at_builtin; refine Kd.R_append k29 (w0 := w) w.heap.size rfl (.tmp 37) (.tmp 42) 22 29 (.agg #[(.int .i64 0), (.int .i64 0), (.int .i64 0), (.int .i64 0), (.string ⟨#[]⟩)]) 48 rfl Try.underlying22 info29 rfl (by decide) (by omega) v433 y432 (⟨(rd_T29 l0 (ji12)).f0, (rd_T29 l0 (ji12)).f1, (rd_T29 l0 (ji12)).f2, (rd_T29 l0 (ji12)).f3, (rd_T29 l0 (ji12)).f4⟩ : S29) [.int .i64 ((rd_T29 l0 (ji12)).f0), .int .i64 ((rd_T29 l0 (ji12)).f1), .int .i64 ((rd_T29 l0 (ji12)).f2), .int .i64 ((rd_T29 l0 (ji12)).f3), .string ((rd_T29 l0 (ji12)).f4)] (fun _ => True) (fun _ => False) rfl rfl ?aP (fun _ hk => hk.elim) ?aF ?aO ?aB ?aS ?aL ?_; (case aP => exact k29_mkM _ _ _ (⟨(rd_T29 l0 (ji12)).f0, (rd_T29 l0 (ji12)).f1, (rd_T29 l0 (ji12)).f2, (rd_T29 l0 (ji12)).f3, (rd_T29 l0 (ji12)).f4⟩ : S29)); (case aB => exact (by repeat (first | (with_reducible first | exact HB.out | apply below_alloc | apply pw_below_drewN | apply below_drew1) | exact HB.out))); (case aF => exact (fun _ _ => trivial)); (case aO => exact (by (with_reducible repeat (first | apply Kd.R_alloc | apply Kd.R_drewN | apply Kd.R_drew)); exact HO434.out)); (case aS => exact (below_size (by repeat (first | (with_reducible first | exact HB.out | apply below_alloc | apply pw_below_drewN | apply below_drew1) | exact HB.out)))); (case aL => have := LMc21.out; omega); intro v437 w35 ho hb hg hat; rw [← Ny436.out] at ho; have n0_ := Aside0.mk (hb); have n1_ := Aside0.mk (ho); clear HB; clear HO434; have HB := n0_; have HO438 := n1_; clear n0_ n1_; clear ho hb hg hat; obtain ⟨Ao36, co36, eo36⟩ := Kd.R_slice HO438.out; subst eo36) | ((with_reducible refine gate_callee (f := 14) rfl ?_); refine goesL_ (some 45) rfl rfl Try.func14 (by kernel_rfl) rfl #[.slice Ao36 y436.length co36] rfl (by (try simp only [List.map_toArray, List.map_cons, List.map_nil]); first | done | rfl | (simp only [List.length_drop, List.length_take]; rfl)) ?_; (with_reducible refine (folders_Tree.calls _ _ y436 t439 _ ?side1 ?side2 A22.out).mono ?_); (case side1 => repeat (first | exact (Kd.R_reads' HO438.out).2.2 | (with_reducible refine Kd.C_alloc ?_ _) | (with_reducible refine Kd.C_drewN ?_ _) | (with_reducible refine Kd.C_drew ?_))); (case side2 => exact (Kd.R_reads' HO438.out).2.1); rintro e w37 ⟨v440, rfl, ho0, hb⟩; refine ⟨_, rfl, ?_⟩; have n0_ := Aside0.mk (Kd.R_elder' (by (with_reducible repeat (first | apply Kd.R_alloc | apply Kd.R_drewN | apply Kd.R_drew)); exact HO438.out) (Kd.R_base ho0) hb); have n1_ := Aside0.mk (Kd.R_lower (Kd.R_new' ho0 (Kd.R_lt (by (with_reducible repeat (first | apply Kd.R_alloc | apply Kd.R_drewN | apply Kd.R_drew)); exact HO438.out))) (below_size (by repeat (first | (with_reducible first | exact HB.out | apply below_alloc | apply pw_below_drewN | apply below_drew1) | exact HB.out)))); have n2_ := Aside0.mk (below_step (by repeat (first | (with_reducible first | exact HB.out | apply below_alloc | apply pw_below_drewN | apply below_drew1) | exact HB.out)) hb); clear HO438; clear HB; have HO438 := n0_; have HO441 := n1_; have HB := n2_; clear n0_ n1_ n2_; (try clear hb); (try clear hb2); (try clear hk); (try clear hi); (try clear ho0)) | ((with_reducible refine gate_dst (N := 46) rfl ?_); (try (refine gate_guard (by rfl) ?_; dsimp only)); refine Kd.R_lit k29 _ 29 ?hg (N := 46) ?hd (xs := ([] : List (S29))) (inner := []) (ok := fun _ => True) (okp := fun _ => True) ?hr ?hp (fun _ hk => hk) trivial (Below.refl _ _) (Nat.le_refl _) (by simp) ?_; (case hd => rfl); (case hg => rfl); (case hr => first | (go_simp; done) | (go_simp; rfl)); (case hp => exact (Reps.none _ _)); intro v443 w38 ho39 hb hg_ hnew_; clear hg_ hnew_; (first | rw [← Ny442.out] at ho39 | (simp only [Int.reduceToNat] at ho39; rw [← Ny442.out] at ho39)); have n0_ := Aside0.mk (Kd.R_elder' (by (with_reducible repeat (first | apply Kd.R_alloc | apply Kd.R_drewN | apply Kd.R_drew)); exact HO438.out) (Kd.R_base ho39) hb); have n1_ := Aside0.mk (Kd.R_elder' (by (with_reducible repeat (first | apply Kd.R_alloc | apply Kd.R_drewN | apply Kd.R_drew)); exact HO441.out) (Kd.R_base ho39) hb); have n2_ := Aside0.mk (Kd.R_lower (Kd.R_new' (Kd.R_new' ho39 (Kd.R_lt (by (with_reducible repeat (first | apply Kd.R_alloc | apply Kd.R_drewN | apply Kd.R_drew)); exact HO438.out))) (Kd.R_lt (by (with_reducible repeat (first | apply Kd.R_alloc | apply Kd.R_drewN | apply Kd.R_drew)); exact HO441.out))) (below_size (by repeat (first | (with_reducible first | exact HB.out | apply below_alloc | apply pw_below_drewN | apply below_drew1) | exact HB.out)))); have n3_ := Aside0.mk (below_step (by repeat (first | (with_reducible first | exact HB.out | apply below_alloc | apply pw_below_drewN | apply below_drew1) | exact HB.out)) hb); clear HO438; clear HO441; clear HB; have HO438 := n0_; have HO441 := n1_; have HO444 := n2_; have HB := n3_; clear n0_ n1_ n2_ n3_; clear hb ho39) | ((with_reducible refine gate_builtin (b := .append) (xs := #[.tmp 46, .tmp 47]) rfl ?_); (try (refine gate_guard (by rfl) ?_; dsimp only)); at_builtin; refine Kd.R_append_rows k29 (w0 := w) w.heap.size rfl (.tmp 46) (.tmp 47) 22 29 (.agg #[(.int .i64 0), (.int .i64 0), (.int .i64 0), (.int .i64 0), (.string ⟨#[]⟩)]) 48 rfl Try.underlying22 info29 rfl (by decide) (by omega) v443 y442 l0 _ _ _ (fun k_ => some k_ ≠ (.slice Ao36 y436.length co36 : Value).ownBlock ∧ some k_ ≠ (v440 : Value).ownBlock) (fun _ => False) rfl rfl ?aO ?aR (fun _ _ h => h) (fun _ h => h.elim) ?aF ?aB ?aS ?aL ?_; (case aR => repeat (first | exact (Kd.C_below HR0.out HB.out) | (with_reducible refine Kd.C_alloc ?_ _) | (with_reducible refine Kd.C_drewN ?_ _) | (with_reducible refine Kd.C_drew ?_))); (case aB => exact (by repeat (first | (with_reducible first | exact HB.out | apply below_alloc | apply pw_below_drewN | apply below_drew1) | exact HB.out))); (case aF => exact (fun k_ hk => ⟨Kd.fresh' (Kd.R_lt (by (with_reducible repeat (first | apply Kd.R_alloc | apply Kd.R_drewN | apply Kd.R_drew)); exact HO438.out)) k_ hk, Kd.fresh' (Kd.R_lt (by (with_reducible repeat (first | apply Kd.R_alloc | apply Kd.R_drewN | apply Kd.R_drew)); exact HO441.out)) k_ hk⟩)); (case aO => exact (by (with_reducible repeat (first | apply Kd.R_alloc | apply Kd.R_drewN | apply Kd.R_drew)); exact Kd.R_mono HO444.out (fun _ hk => ⟨hk.1.2, hk.2⟩))); (case aS => exact (below_size (by repeat (first | (with_reducible first | exact HB.out | apply below_alloc | apply pw_below_drewN | apply below_drew1) | exact HB.out)))); (case aL => have := LMc23.out; omega); intro v446 w40 ho hb hg hat; rw [← Ny445.out] at ho; have n0_ := Aside0.mk (Kd.R_after (ok := (fun k_ => some k_ ≠ (v440 : Value).ownBlock)) (by (with_reducible repeat (first | apply Kd.R_alloc | apply Kd.R_drewN | apply Kd.R_drew)); exact Kd.R_mono HO438.out (fun _ hk => ⟨hk.1.2, hk.2⟩)) hg hat); have n1_ := Aside0.mk (Kd.R_after (ok := (fun k_ => some k_ ≠ (.slice Ao36 y436.length co36 : Value).ownBlock)) (by (with_reducible repeat (first | apply Kd.R_alloc | apply Kd.R_drewN | apply Kd.R_drew)); exact Kd.R_mono HO441.out (fun _ hk => ⟨hk.1.2, hk.2⟩)) hg hat); have n2_ := Aside0.mk (hb); have n3_ := Aside0.mk (ho); clear HO438; clear HO441; clear HB; clear HO444; have HO438 := n0_; have HO441 := n1_; have HB := n2_; have HO447 := n3_; clear n0_ n1_ n2_ n3_; clear ho hb hg hat) | ((with_reducible refine gate_builtin (b := .append) (xs := #[.tmp 48, .tmp 49]) rfl ?_); (try (refine gate_guard (by rfl) ?_; dsimp only)); at_builtin; refine Kd.R_append_rows k29 (w0 := w) w.heap.size rfl (.tmp 48) (.tmp 49) 22 29 (.agg #[(.int .i64 0), (.int .i64 0), (.int .i64 0), (.int .i64 0), (.string ⟨#[]⟩)]) 48 rfl Try.underlying22 info29 rfl (by decide) (by omega) v446 y445 l1 _ _ _ (fun k_ => some k_ ≠ (.slice Ao36 y436.length co36 : Value).ownBlock ∧ some k_ ≠ (v440 : Value).ownBlock) (fun _ => False) rfl rfl ?aO ?aR (fun _ _ h => h) (fun _ h => h.elim) ?aF ?aB ?aS ?aL ?_; (case aR => repeat (first | exact (Kd.C_below HR1.out HB.out) | (with_reducible refine Kd.C_alloc ?_ _) | (with_reducible refine Kd.C_drewN ?_ _) | (with_reducible refine Kd.C_drew ?_))); (case aB => exact (by repeat (first | (with_reducible first | exact HB.out | apply below_alloc | apply pw_below_drewN | apply below_drew1) | exact HB.out))); (case aF => exact (fun k_ hk => ⟨Kd.fresh' (Kd.R_lt (by (with_reducible repeat (first | apply Kd.R_alloc | apply Kd.R_drewN | apply Kd.R_drew)); exact HO438.out)) k_ hk, Kd.fresh' (Kd.R_lt (by (with_reducible repeat (first | apply Kd.R_alloc | apply Kd.R_drewN | apply Kd.R_drew)); exact HO441.out)) k_ hk⟩)); (case aO => exact (by (with_reducible repeat (first | apply Kd.R_alloc | apply Kd.R_drewN | apply Kd.R_drew)); exact HO447.out)); (case aS => exact (below_size (by repeat (first | (with_reducible first | exact HB.out | apply below_alloc | apply pw_below_drewN | apply below_drew1) | exact HB.out)))); (case aL => have := LMc24.out; omega); intro v449 w41 ho hb hg hat; rw [← Ny448.out] at ho; have n0_ := Aside0.mk (Kd.R_after (ok := (fun k_ => some k_ ≠ (v440 : Value).ownBlock)) (by (with_reducible repeat (first | apply Kd.R_alloc | apply Kd.R_drewN | apply Kd.R_drew)); exact HO438.out) hg hat); have n1_ := Aside0.mk (Kd.R_after (ok := (fun k_ => some k_ ≠ (.slice Ao36 y436.length co36 : Value).ownBlock)) (by (with_reducible repeat (first | apply Kd.R_alloc | apply Kd.R_drewN | apply Kd.R_drew)); exact HO441.out) hg hat); have n2_ := Aside0.mk (hb); have n3_ := Aside0.mk (ho); clear HO438; clear HO441; clear HB; clear HO447; have HO438 := n0_; have HO441 := n1_; have HB := n2_; have HO450 := n3_; clear n0_ n1_ n2_ n3_; clear ho hb hg hat; obtain ⟨Ao42, co42, eo42⟩ := Kd.R_slice HO450.out; subst eo42) | ((with_reducible refine gate_callee (f := 14) rfl ?_); refine goesL_ (some 51) rfl rfl Try.func14 (by kernel_rfl) rfl #[.slice Ao42 y448.length co42] rfl (by (try simp only [List.map_toArray, List.map_cons, List.map_nil]); first | done | rfl | (simp only [List.length_drop, List.length_take]; rfl)) ?_; (with_reducible refine (folders_Tree.calls _ _ y448 t451 _ ?side1 ?side2 A25.out).mono ?_); (case side1 => repeat (first | exact (Kd.R_reads' HO450.out).2.2 | (with_reducible refine Kd.C_alloc ?_ _) | (with_reducible refine Kd.C_drewN ?_ _) | (with_reducible refine Kd.C_drew ?_))); (case side2 => exact (Kd.R_reads' HO450.out).2.1); rintro e w43 ⟨v452, rfl, ho0, hb⟩; refine ⟨_, rfl, ?_⟩; have n0_ := Aside0.mk (Kd.R_elder' (by (with_reducible repeat (first | apply Kd.R_alloc | apply Kd.R_drewN | apply Kd.R_drew)); exact HO438.out) (Kd.R_base ho0) hb); have n1_ := Aside0.mk (Kd.R_elder' (by (with_reducible repeat (first | apply Kd.R_alloc | apply Kd.R_drewN | apply Kd.R_drew)); exact HO441.out) (Kd.R_base ho0) hb); have n2_ := Aside0.mk (Kd.R_elder' (by (with_reducible repeat (first | apply Kd.R_alloc | apply Kd.R_drewN | apply Kd.R_drew)); exact HO450.out) (Kd.R_base ho0) hb); have n3_ := Aside0.mk (Kd.R_lower (Kd.R_new' (Kd.R_new' (Kd.R_new' ho0 (Kd.R_lt (by (with_reducible repeat (first | apply Kd.R_alloc | apply Kd.R_drewN | apply Kd.R_drew)); exact HO438.out))) (Kd.R_lt (by (with_reducible repeat (first | apply Kd.R_alloc | apply Kd.R_drewN | apply Kd.R_drew)); exact HO441.out))) (Kd.R_lt (by (with_reducible repeat (first | apply Kd.R_alloc | apply Kd.R_drewN | apply Kd.R_drew)); exact HO450.out))) (below_size (by repeat (first | (with_reducible first | exact HB.out | apply below_alloc | apply pw_below_drewN | apply below_drew1) | exact HB.out)))); have n4_ := Aside0.mk (below_step (by repeat (first | (with_reducible first | exact HB.out | apply below_alloc | apply pw_below_drewN | apply below_drew1) | exact HB.out)) hb); clear HO438; clear HO441; clear HO450; clear HB; have HO438 := n0_; have HO441 := n1_; have HO450 := n2_; have HO453 := n3_; have HB := n4_; clear n0_ n1_ n2_ n3_ n4_; (try clear hb); (try clear hb2); (try clear hk); (try clear hi); (try clear ho0); obtain ⟨Ao44, co44, eo44⟩ := Kd.R_slice HO441.out; subst eo44; obtain ⟨Ao45, co45, eo45⟩ := Kd.R_slice HO453.out; subst eo45) | ((with_reducible refine gate_callee (f := 18) rfl ?_); refine goesL_ (some 52) rfl rfl Try.func18 (by kernel_rfl) rfl #[.slice Ao44 t439.length co44, .slice Ao45 t451.length co45] rfl (by (try simp only [List.map_toArray, List.map_cons, List.map_nil]); first | done | rfl | (simp only [List.length_drop, List.length_take]; rfl)) ?_; (with_reducible refine (chartroomref27_Same.calls kj5 _ _ t439 _ _ t451 t454 _ ?side1 ?side2 ?side3 ?side4 A26.out).mono ?_); (case side1 => repeat (first | exact (Kd.R_reads' HO441.out).2.2 | (with_reducible refine Kd.C_alloc ?_ _) | (with_reducible refine Kd.C_drewN ?_ _) | (with_reducible refine Kd.C_drew ?_))); (case side2 => exact (Kd.R_reads' HO441.out).2.1); (case side3 => repeat (first | exact (Kd.R_reads' HO453.out).2.2 | (with_reducible refine Kd.C_alloc ?_ _) | (with_reducible refine Kd.C_drewN ?_ _) | (with_reducible refine Kd.C_drew ?_))); (case side4 => exact (Kd.R_reads' HO453.out).2.1); rintro e w' ⟨rfl, ⟨nd, rfl⟩⟩; refine ⟨_, rfl, ?_⟩))
                              go_ret
                              exact ⟨by first | rfl | (simp [errW_none, errW_some] <;> rfl) | (simp only [← hji12]; first | rfl | (simp [errW_none, errW_some] <;> rfl)) | (simp [*, errW_none, errW_some] <;> rfl), by repeat (first | (with_reducible first | exact HB.out | apply below_alloc | apply pw_below_drewN | apply below_drew1) | exact HB.out)⟩
                            · rw [if_neg c24] at H
                              exact absurd H (by simp)
                          · rw [if_neg c23] at H
                            exact absurd H (by simp)
                        · rw [if_neg c21] at H
                          exact absurd H (by simp)
                      · rw [if_neg c20] at H
                        exact absurd H (by simp)
                    · rw [if_neg c19] at H
                      exact absurd H (by simp)
                  · rw [if_neg c16] at H
                    exact absurd H (by simp)
                · rw [if_neg c15] at H
                  exact absurd H (by simp)
              · rw [if_neg c14] at H
                exact absurd H (by simp)
            · rw [if_neg c13] at H
              exact absurd H (by simp)
  · replace c5 := Bool.eq_false_iff.mpr c5
    subst c5
    have H1 : (some false) = some r := by rw [if_neg (show ¬ (false = true) by decide)] at H; exact H
    clear H
    have H := H1
    clear H1
    obtain rfl := Option.some.inj H
    go_enter Try.func8, Try.ntmps8
    go_wp2_with (first | ((with_reducible refine gate_callee (f := 10) rfl ?_); refine goesL_ (some 9) rfl rfl Try.func10 (by kernel_rfl) rfl #[] rfl (by (try simp only [List.map_toArray, List.map_cons, List.map_nil]); first | done | rfl | (simp only [List.length_drop, List.length_take]; rfl)) ?_; (with_reducible refine (chartroomlaw27_sane.calls k  false _ A4.out).mono ?_); rintro e w46 ⟨rfl, hb⟩; refine ⟨_, rfl, ?_⟩; have n0_ := Aside0.mk (below_step (by repeat (first | (with_reducible first | exact HB.out | apply below_alloc | apply pw_below_drewN | apply below_drew1) | exact HB.out)) hb); clear HB; have HB := n0_; clear n0_; (try clear hb); (try clear hb2); (try clear hk); (try clear hi)))
    go_ret
    exact ⟨by first | rfl | (simp [errW_none, errW_some] <;> rfl) | (simp [*, errW_none, errW_some] <;> rfl), by repeat (first | (with_reducible first | exact HB.out | apply below_alloc | apply pw_below_drewN | apply below_drew1) | exact HB.out)⟩

end
end Go.Proofs.Ytihpiejlfdinaaa.PF
