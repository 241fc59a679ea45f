-- Printed for this claim by wip/tools/standin.py through the kit's print.py (stand-ins for functions whose contracts are proved by hand).
import Derived.Test.YtihpiejlfdinaaaPz
import Derived.Test.YtihpiejlfdinaaaPc
import Derived.Test.YtihpiejlfdinaaaPa
import Derived.Test.YtihpiejlfdinaaaSt
namespace Go.Proofs.Ytihpiejlfdinaaa.PF
open Go.RowKit Go.Proofs.YtihpiejlfdinaaaW.PrintWords Go.Proofs.YtihpiejlfdinaaaW.PrintLast Go.Proofs.YtihpiejlfdinaaaW.PrintMore
attribute [local go_sem] max2_int min2_int max_two min_two max_three min_three max_four min_four   -- for this text's walks alone
set_option linter.unusedVariables false
set_option linter.unusedSimpArgs false
section

/-! ### chartroomlaw27_FoldersBothWays: function 3 -/
mutual
def chartroomlaw27_FoldersBothWays.l0 : Nat → List (S29) → Int → Int → List Int → List Int → Bool → List (S29) → Int → Option (Bool)
  | 0, _, _, _, _, _, _, _, _ => none
  | k + 1, x0, x7, x8, x9, x10, x11, x12, x13 => if x13 < (x12.length : Int) then (if x11 = true then (chartroomlaw27_FoldersBothWays.l0 k x0 x7 x8 x9 x10 true x12 (wrap64 (x13 + 1))) else (if 0 ≤ x13 then (chartroomlaw27_FoldersBothWays.l0 k x0 x7 x8 x9 x10 (((rd_T29 x12 x13).f2) == x7) x12 (wrap64 (x13 + 1))) else (none))) else ((chartroomref27_Has.f k x9 x7).bind fun t230 => (if (x11 != t230) = true then (chartroomlaw27_FoldersBothWays.j1 k x0 x7 x8 x9 true) else (if x7 = x8 then ((chartroomref27_Has.f k x10 x8).bind fun t231 => (chartroomlaw27_FoldersBothWays.j1 k x0 x7 x8 x9 t231)) else ((chartroomref27_Has.f k x9 x8).bind fun t232 => ((chartroomref27_Has.f k x10 x7).bind fun t233 => (if (t232 != t233) = true then (chartroomlaw27_FoldersBothWays.j1 k x0 x7 x8 x9 true) else ((chartroomref27_Has.f k x10 x8).bind fun t234 => (chartroomlaw27_FoldersBothWays.j1 k x0 x7 x8 x9 t234))))))))
def chartroomlaw27_FoldersBothWays.j1 : Nat → List (S29) → Int → Int → List Int → Bool → Option (Bool)
  | 0, _, _, _, _, _ => none
  | k + 1, x0, x7, x8, x9, x72 => if x72 = true then (some false) else (if x7 = x8 then (chartroomlaw27_FoldersBothWays.j2 k x0 x8 x9 true) else ((chartroomref27_Has.f k x9 x8).bind fun t235 => (chartroomlaw27_FoldersBothWays.j2 k x0 x8 x9 (!t235))))
def chartroomlaw27_FoldersBothWays.j2 : Nat → List (S29) → Int → List Int → Bool → Option (Bool)
  | 0, _, _, _, _ => none
  | k + 1, x0, x8, x9, x81 => if x81 = true then (some true) else ((folders_Below.f x0 x8).bind fun t236 => (chartroomlaw27_FoldersBothWays.l1 k x9 t236 0))
def chartroomlaw27_FoldersBothWays.l1 : Nat → List Int → List Int → Int → Option (Bool)
  | 0, _, _, _ => none
  | k + 1, x9, x14, x15 => if x15 < (x14.length : Int) then (if 0 ≤ x15 then ((chartroomref27_Has.f k x9 (rd x14 x15)).bind fun t240 => (if t240 = true then (chartroomlaw27_FoldersBothWays.l1 k x9 x14 (wrap64 (x15 + 1))) else (some false))) else (none)) else (some (decide ((x14.length : Int) < (x9.length : Int))))
end
def chartroomlaw27_FoldersBothWays.f (k : Nat) (l0 : List (S29)) (a1 : Int) (a2 : Int) : Option (Bool) := (chartroomlaw27_sane.f k).bind fun t218 => (if t218 = true then ((chartroomlaw27_few.f l0 ([] : List (S29))).bind fun t219 => (if t219 = true then ((folders_Below.f l0 (Go.bits .and .i64 a1 15)).bind fun t220 => ((folders_Above.f l0 (Go.bits .and .i64 a2 15)).bind fun t223 => ((folders_Tree.f l0).bind fun t226 => (chartroomlaw27_FoldersBothWays.l0 k l0 (Go.bits .and .i64 a1 15) (Go.bits .and .i64 a2 15) t220 t223 false t226 0)))) else (some true))) else (some false))
theorem chartroomlaw27_FoldersBothWays.mono_l : ∀ k, (∀ y0 y1 y2 y3 y4 y5 y6 y7, LeO (chartroomlaw27_FoldersBothWays.l0 k y0 y1 y2 y3 y4 y5 y6 y7) (chartroomlaw27_FoldersBothWays.l0 (k + 1) y0 y1 y2 y3 y4 y5 y6 y7)) ∧ (∀ y0 y1 y2 y3 y4, LeO (chartroomlaw27_FoldersBothWays.j1 k y0 y1 y2 y3 y4) (chartroomlaw27_FoldersBothWays.j1 (k + 1) y0 y1 y2 y3 y4)) ∧ (∀ y0 y1 y2 y3, LeO (chartroomlaw27_FoldersBothWays.j2 k y0 y1 y2 y3) (chartroomlaw27_FoldersBothWays.j2 (k + 1) y0 y1 y2 y3)) ∧ (∀ y0 y1 y2, LeO (chartroomlaw27_FoldersBothWays.l1 k y0 y1 y2) (chartroomlaw27_FoldersBothWays.l1 (k + 1) y0 y1 y2))
  | 0 => ⟨fun _ _ _ _ _ _ _ _ r h => by simp [chartroomlaw27_FoldersBothWays.l0] at h, fun _ _ _ _ _ r h => by simp [chartroomlaw27_FoldersBothWays.j1] at h, fun _ _ _ _ r h => by simp [chartroomlaw27_FoldersBothWays.j2] at h, fun _ _ _ r h => by simp [chartroomlaw27_FoldersBothWays.l1] at h⟩
  | k + 1 => by
    obtain ⟨ih0, ih1, ih2, ih3⟩ := chartroomlaw27_FoldersBothWays.mono_l k
    refine ⟨?_, ?_, ?_, ?_⟩
    · intro y0 y1 y2 y3 y4 y5 y6 y7
      unfold chartroomlaw27_FoldersBothWays.l0
      repeat' first
      | (with_reducible exact ih0 _ _ _ _ _ _ _ _)
      | (with_reducible exact ih1 _ _ _ _ _)
      | (with_reducible exact ih2 _ _ _ _)
      | (with_reducible exact ih3 _ _ _)
      | (with_reducible exact chartroomlaw27_sane.mono _)
      | (with_reducible exact chartroomref27_Has.mono _ _ _)
      | (with_reducible exact LeO.refl _)
      | (with_reducible exact LeO.none _)
      | (with_reducible refine LeO.ite ?_ ?_)
      | (with_reducible refine LeO.bind ?_ (fun _ => ?_))
      | exact ih0 _ _ _ _ _ _ _ _
      | exact ih1 _ _ _ _ _
      | exact ih2 _ _ _ _
      | exact ih3 _ _ _
      | exact chartroomlaw27_sane.mono _
      | exact chartroomref27_Has.mono _ _ _
      | exact LeO.none _
      | refine LeO.ite ?_ ?_
      | refine LeO.bind ?_ (fun _ => ?_)
    · intro y0 y1 y2 y3 y4
      unfold chartroomlaw27_FoldersBothWays.j1
      repeat' first
      | (with_reducible exact ih0 _ _ _ _ _ _ _ _)
      | (with_reducible exact ih1 _ _ _ _ _)
      | (with_reducible exact ih2 _ _ _ _)
      | (with_reducible exact ih3 _ _ _)
      | (with_reducible exact chartroomlaw27_sane.mono _)
      | (with_reducible exact chartroomref27_Has.mono _ _ _)
      | (with_reducible exact LeO.refl _)
      | (with_reducible exact LeO.none _)
      | (with_reducible refine LeO.ite ?_ ?_)
      | (with_reducible refine LeO.bind ?_ (fun _ => ?_))
      | exact ih0 _ _ _ _ _ _ _ _
      | exact ih1 _ _ _ _ _
      | exact ih2 _ _ _ _
      | exact ih3 _ _ _
      | exact chartroomlaw27_sane.mono _
      | exact chartroomref27_Has.mono _ _ _
      | exact LeO.none _
      | refine LeO.ite ?_ ?_
      | refine LeO.bind ?_ (fun _ => ?_)
    · intro y0 y1 y2 y3
      unfold chartroomlaw27_FoldersBothWays.j2
      repeat' first
      | (with_reducible exact ih0 _ _ _ _ _ _ _ _)
      | (with_reducible exact ih1 _ _ _ _ _)
      | (with_reducible exact ih2 _ _ _ _)
      | (with_reducible exact ih3 _ _ _)
      | (with_reducible exact chartroomlaw27_sane.mono _)
      | (with_reducible exact chartroomref27_Has.mono _ _ _)
      | (with_reducible exact LeO.refl _)
      | (with_reducible exact LeO.none _)
      | (with_reducible refine LeO.ite ?_ ?_)
      | (with_reducible refine LeO.bind ?_ (fun _ => ?_))
      | exact ih0 _ _ _ _ _ _ _ _
      | exact ih1 _ _ _ _ _
      | exact ih2 _ _ _ _
      | exact ih3 _ _ _
      | exact chartroomlaw27_sane.mono _
      | exact chartroomref27_Has.mono _ _ _
      | exact LeO.none _
      | refine LeO.ite ?_ ?_
      | refine LeO.bind ?_ (fun _ => ?_)
    · intro y0 y1 y2
      unfold chartroomlaw27_FoldersBothWays.l1
      repeat' first
      | (with_reducible exact ih0 _ _ _ _ _ _ _ _)
      | (with_reducible exact ih1 _ _ _ _ _)
      | (with_reducible exact ih2 _ _ _ _)
      | (with_reducible exact ih3 _ _ _)
      | (with_reducible exact chartroomlaw27_sane.mono _)
      | (with_reducible exact chartroomref27_Has.mono _ _ _)
      | (with_reducible exact LeO.refl _)
      | (with_reducible exact LeO.none _)
      | (with_reducible refine LeO.ite ?_ ?_)
      | (with_reducible refine LeO.bind ?_ (fun _ => ?_))
      | exact ih0 _ _ _ _ _ _ _ _
      | exact ih1 _ _ _ _ _
      | exact ih2 _ _ _ _
      | exact ih3 _ _ _
      | exact chartroomlaw27_sane.mono _
      | exact chartroomref27_Has.mono _ _ _
      | exact LeO.none _
      | refine LeO.ite ?_ ?_
      | refine LeO.bind ?_ (fun _ => ?_)
theorem chartroomlaw27_FoldersBothWays.mono : ∀ a0 a1 a2 k, LeO (chartroomlaw27_FoldersBothWays.f k a0 a1 a2) (chartroomlaw27_FoldersBothWays.f (k + 1) a0 a1 a2) := by
  intro a0 a1 a2 k
  obtain ⟨ih0, ih1, ih2, ih3⟩ := chartroomlaw27_FoldersBothWays.mono_l k
  unfold chartroomlaw27_FoldersBothWays.f
  repeat' first
      | (with_reducible exact ih0 _ _ _ _ _ _ _ _)
      | (with_reducible exact ih1 _ _ _ _ _)
      | (with_reducible exact ih2 _ _ _ _)
      | (with_reducible exact ih3 _ _ _)
      | (with_reducible exact chartroomlaw27_sane.mono _)
      | (with_reducible exact chartroomref27_Has.mono _ _ _)
      | (with_reducible exact LeO.refl _)
      | (with_reducible exact LeO.none _)
      | (with_reducible refine LeO.ite ?_ ?_)
      | (with_reducible refine LeO.bind ?_ (fun _ => ?_))
      | exact ih0 _ _ _ _ _ _ _ _
      | exact ih1 _ _ _ _ _
      | exact ih2 _ _ _ _
      | exact ih3 _ _ _
      | exact chartroomlaw27_sane.mono _
      | exact chartroomref27_Has.mono _ _ _
      | exact LeO.none _
      | refine LeO.ite ?_ ?_
      | refine LeO.bind ?_ (fun _ => ?_)
set_option maxHeartbeats 8000000 in
set_option maxRecDepth 100000 in
theorem chartroomlaw27_FoldersBothWays.calls (k : Nat) (A0 : Option Addr) (c0 : Nat) (l0 : List (S29)) (a1 : Int) (a2 : Int) (r : Bool) (w : World) (hr0 : Kd.C k29 w A0 l0.length l0) (hc0 : l0.length ≤ c0) (h : chartroomlaw27_FoldersBothWays.f k l0 a1 a2 = some r) :
    Calls Try.prog 3 #[.slice A0 l0.length c0, .int .i64 a1, .int .i64 a2] w fun e w' => e = .returned (.bool r) ∧ Below w.heap.size w w' := by
  have HR0 := Aside0.mk hr0
  have HC0 := Aside0.mk hc0
  clear hr0 hc0
  have HB := Aside0.mk (Below.refl w.heap.size w)
  have H : ((chartroomlaw27_sane.f k).bind fun t218 => (if t218 = true then ((chartroomlaw27_few.f l0 ([] : List (S29))).bind fun t219 => (if t219 = true then ((folders_Below.f l0 (Go.bits .and .i64 a1 15)).bind fun t220 => ((folders_Above.f l0 (Go.bits .and .i64 a2 15)).bind fun t223 => ((folders_Tree.f l0).bind fun t226 => (chartroomlaw27_FoldersBothWays.l0 k l0 (Go.bits .and .i64 a1 15) (Go.bits .and .i64 a2 15) t220 t223 false t226 0)))) else (some true))) else (some false))) = some r := h
  clear h
  replace H := Option.bind_eq_some_iff.mp H
  obtain ⟨t218, A40, H⟩ := H
  replace H : (if t218 = true then ((chartroomlaw27_few.f l0 ([] : List (S29))).bind fun t219 => (if t219 = true then ((folders_Below.f l0 (Go.bits .and .i64 a1 15)).bind fun t220 => ((folders_Above.f l0 (Go.bits .and .i64 a2 15)).bind fun t223 => ((folders_Tree.f l0).bind fun t226 => (chartroomlaw27_FoldersBothWays.l0 k l0 (Go.bits .and .i64 a1 15) (Go.bits .and .i64 a2 15) t220 t223 false t226 0)))) else (some true))) else (some false)) = some r := H
  have A4 := Aside0.mk A40
  clear A40
  by_cases c5 : t218 = true
  · subst c5
    have H1 : ((chartroomlaw27_few.f l0 ([] : List (S29))).bind fun t219 => (if t219 = true then ((folders_Below.f l0 (Go.bits .and .i64 a1 15)).bind fun t220 => ((folders_Above.f l0 (Go.bits .and .i64 a2 15)).bind fun t223 => ((folders_Tree.f l0).bind fun t226 => (chartroomlaw27_FoldersBothWays.l0 k l0 (Go.bits .and .i64 a1 15) (Go.bits .and .i64 a2 15) t220 t223 false t226 0)))) else (some true))) = some r := by rw [if_pos rfl] at H; exact H
    clear H
    have H := H1
    clear H1
    replace H := Option.bind_eq_some_iff.mp H
    obtain ⟨t219, A60, H⟩ := H
    replace H : (if t219 = true then ((folders_Below.f l0 (Go.bits .and .i64 a1 15)).bind fun t220 => ((folders_Above.f l0 (Go.bits .and .i64 a2 15)).bind fun t223 => ((folders_Tree.f l0).bind fun t226 => (chartroomlaw27_FoldersBothWays.l0 k l0 (Go.bits .and .i64 a1 15) (Go.bits .and .i64 a2 15) t220 t223 false t226 0)))) else (some true)) = some r := H
    have A6 := Aside0.mk A60
    clear A60
    by_cases c7 : t219 = true
    · subst c7
      have H1 : ((folders_Below.f l0 (Go.bits .and .i64 a1 15)).bind fun t220 => ((folders_Above.f l0 (Go.bits .and .i64 a2 15)).bind fun t223 => ((folders_Tree.f l0).bind fun t226 => (chartroomlaw27_FoldersBothWays.l0 k l0 (Go.bits .and .i64 a1 15) (Go.bits .and .i64 a2 15) t220 t223 false t226 0)))) = some r := by rw [if_pos rfl] at H; exact H
      clear H
      have H := H1
      clear H1
      replace H := Option.bind_eq_some_iff.mp H
      obtain ⟨t220, A80, H⟩ := H
      replace H : ((folders_Above.f l0 (Go.bits .and .i64 a2 15)).bind fun t223 => ((folders_Tree.f l0).bind fun t226 => (chartroomlaw27_FoldersBothWays.l0 k l0 (Go.bits .and .i64 a1 15) (Go.bits .and .i64 a2 15) t220 t223 false t226 0))) = some r := H
      have A8 := Aside0.mk A80
      clear A80
      replace H := Option.bind_eq_some_iff.mp H
      obtain ⟨t223, A90, H⟩ := H
      replace H : ((folders_Tree.f l0).bind fun t226 => (chartroomlaw27_FoldersBothWays.l0 k l0 (Go.bits .and .i64 a1 15) (Go.bits .and .i64 a2 15) t220 t223 false t226 0)) = some r := H
      have A9 := Aside0.mk A90
      clear A90
      replace H := Option.bind_eq_some_iff.mp H
      obtain ⟨t226, A100, H⟩ := H
      replace H : (chartroomlaw27_FoldersBothWays.l0 k l0 (Go.bits .and .i64 a1 15) (Go.bits .and .i64 a2 15) t220 t223 false t226 0) = some r := H
      have A10 := Aside0.mk A100
      clear A100
      have H' := Aside0.mk H
      clear H
      go_enter Try.func3, Try.ntmps3
      go_wp2_with (first | ((with_reducible refine gate_callee (f := 10) rfl ?_); refine goesL_ (some 16) rfl rfl Try.func10 (by kernel_rfl) rfl #[] rfl (by (try simp only [List.map_toArray, List.map_cons, List.map_nil]); first | done | rfl | (simp only [List.length_drop, List.length_take]; rfl)) ?_; (with_reducible refine (chartroomlaw27_sane.calls k  true _ A4.out).mono ?_); rintro e w11 ⟨rfl, hb⟩; refine ⟨_, rfl, ?_⟩; have n0_ := Aside0.mk (below_step (by repeat (first | (with_reducible first | exact HB.out | apply below_alloc | apply pw_below_drewN | apply below_drew1) | exact HB.out)) hb); clear HB; have HB := n0_; clear n0_; (try clear hb); (try clear hb2); (try clear hk); (try clear hi)) | ((with_reducible refine gate_callee (f := 11) rfl ?_); refine goesL_ (some 19) rfl rfl Try.func11 (by kernel_rfl) rfl #[.slice A0 l0.length c0, .slice none 0 0] rfl (by (try simp only [List.map_toArray, List.map_cons, List.map_nil]); first | done | rfl | (simp only [List.length_drop, List.length_take]; rfl)) ?_; (refine (chartroomlaw27_few.calls _ _ l0 _ _ ([] : List (S29)) true _ ?side1 ?side2 ?side3 ?side4 A6.out).mono ?_); (case side1 => repeat (first | exact (Kd.C_below HR0.out HB.out) | (with_reducible refine Kd.C_alloc ?_ _) | (with_reducible refine Kd.C_drewN ?_ _) | (with_reducible refine Kd.C_drew ?_))); (case side2 => exact HC0.out); (case side3 => exact Kd.C_nil _ _); (case side4 => exact Nat.le_refl _); rintro e w' ⟨rfl, ⟨nd, rfl⟩⟩; refine ⟨_, rfl, ?_⟩) | ((with_reducible refine gate_callee (f := 12) rfl ?_); refine goesL_ (some 27) rfl rfl Try.func12 (by kernel_rfl) rfl #[.slice A0 l0.length c0, .int .i64 (Go.bits .and .i64 a1 15)] rfl (by (try simp only [List.map_toArray, List.map_cons, List.map_nil]); first | done | rfl | (simp only [List.length_drop, List.length_take]; rfl)) ?_; (with_reducible refine (folders_Below.calls _ _ l0 (Go.bits .and .i64 a1 15) t220 _ ?side1 ?side2 A8.out).mono ?_); (case side1 => repeat (first | exact (Kd.C_below HR0.out (by repeat (first | (with_reducible first | exact HB.out | apply below_alloc | apply pw_below_drewN | apply below_drew1) | exact HB.out))) | (with_reducible refine Kd.C_alloc ?_ _) | (with_reducible refine Kd.C_drewN ?_ _) | (with_reducible refine Kd.C_drew ?_))); (case side2 => exact HC0.out); rintro e w12 ⟨v221, rfl, ho0, hb⟩; refine ⟨_, rfl, ?_⟩; have n0_ := Aside0.mk (Kd.R_lower ho0 (below_size (by repeat (first | (with_reducible first | exact HB.out | apply below_alloc | apply pw_below_drewN | apply below_drew1) | exact HB.out)))); have n1_ := Aside0.mk (below_step (by repeat (first | (with_reducible first | exact HB.out | apply below_alloc | apply pw_below_drewN | apply below_drew1) | exact HB.out)) hb); clear HB; have HO222 := n0_; have HB := n1_; clear n0_ n1_; (try clear hb); (try clear hb2); (try clear hk); (try clear hi); (try clear ho0)) | ((with_reducible refine gate_callee (f := 13) rfl ?_); refine goesL_ (some 30) rfl rfl Try.func13 (by kernel_rfl) rfl #[.slice A0 l0.length c0, .int .i64 (Go.bits .and .i64 a2 15)] rfl (by (try simp only [List.map_toArray, List.map_cons, List.map_nil]); first | done | rfl | (simp only [List.length_drop, List.length_take]; rfl)) ?_; (with_reducible refine (folders_Above.calls _ _ l0 (Go.bits .and .i64 a2 15) t223 _ ?side1 ?side2 A9.out).mono ?_); (case side1 => repeat (first | exact (Kd.C_below HR0.out HB.out) | (with_reducible refine Kd.C_alloc ?_ _) | (with_reducible refine Kd.C_drewN ?_ _) | (with_reducible refine Kd.C_drew ?_))); (case side2 => exact HC0.out); rintro e w13 ⟨v224, rfl, ho0, hb⟩; refine ⟨_, rfl, ?_⟩; have n0_ := Aside0.mk (Kd.R_elder' (by (with_reducible repeat (first | apply Kd.R_alloc | apply Kd.R_drewN | apply Kd.R_drew)); exact HO222.out) (Kd.R_base ho0) hb); have n1_ := Aside0.mk (Kd.R_lower (Kd.R_new' ho0 (Kd.R_lt (by (with_reducible repeat (first | apply Kd.R_alloc | apply Kd.R_drewN | apply Kd.R_drew)); exact HO222.out))) (below_size (by repeat (first | (with_reducible first | exact HB.out | apply below_alloc | apply pw_below_drewN | apply below_drew1) | exact HB.out)))); have n2_ := Aside0.mk (below_step (by repeat (first | (with_reducible first | exact HB.out | apply below_alloc | apply pw_below_drewN | apply below_drew1) | exact HB.out)) hb); clear HO222; clear HB; have HO222 := n0_; have HO225 := n1_; have HB := n2_; clear n0_ n1_ n2_; (try clear hb); (try clear hb2); (try clear hk); (try clear hi); (try clear ho0)) | ((with_reducible refine gate_callee (f := 14) rfl ?_); refine goesL_ (some 32) rfl rfl Try.func14 (by kernel_rfl) rfl #[.slice A0 l0.length c0] rfl (by (try simp only [List.map_toArray, List.map_cons, List.map_nil]); first | done | rfl | (simp only [List.length_drop, List.length_take]; rfl)) ?_; (with_reducible refine (folders_Tree.calls _ _ l0 t226 _ ?side1 ?side2 A10.out).mono ?_); (case side1 => repeat (first | exact (Kd.C_below HR0.out HB.out) | (with_reducible refine Kd.C_alloc ?_ _) | (with_reducible refine Kd.C_drewN ?_ _) | (with_reducible refine Kd.C_drew ?_))); (case side2 => exact HC0.out); rintro e w14 ⟨v227, rfl, ho0, hb⟩; refine ⟨_, rfl, ?_⟩; have n0_ := Aside0.mk (Kd.R_below (by (with_reducible repeat (first | apply Kd.R_alloc | apply Kd.R_drewN | apply Kd.R_drew)); exact HO222.out) hb); have n1_ := Aside0.mk (Kd.R_below (by (with_reducible repeat (first | apply Kd.R_alloc | apply Kd.R_drewN | apply Kd.R_drew)); exact HO225.out) hb); have n2_ := Aside0.mk (Kd.R_lower ho0 (below_size (by repeat (first | (with_reducible first | exact HB.out | apply below_alloc | apply pw_below_drewN | apply below_drew1) | exact HB.out)))); have n3_ := Aside0.mk (below_step (by repeat (first | (with_reducible first | exact HB.out | apply below_alloc | apply pw_below_drewN | apply below_drew1) | exact HB.out)) hb); clear HO222; clear HO225; clear HB; have HO222 := n0_; have HO225 := n1_; have HO228 := n2_; have HB := n3_; clear n0_ n1_ n2_ n3_; (try clear hb); (try clear hb2); (try clear hk); (try clear hi); (try clear ho0)))
      go_loopg [11, 13] k (fun kq v11 v13 w' => ∃ (x11_1 : Bool) (x13_1 : Int), v11 = .bool x11_1 ∧ v13 = .int .i64 x13_1 ∧ Aside0 (chartroomlaw27_FoldersBothWays.l0 kq l0 (Go.bits .and .i64 a1 15) (Go.bits .and .i64 a2 15) t220 t223 x11_1 t226 x13_1 = some r) ∧ Aside0 (kq ≤ k) ∧ Aside0 (Kd.R (Kd.int .i64) 3 w' w.heap.size (fun k_ => some k_ ≠ (v224 : Value).ownBlock) v221 t220) ∧ Aside0 (Kd.R (Kd.int .i64) 3 w' w.heap.size (fun k_ => some k_ ≠ (v221 : Value).ownBlock) v224 t223) ∧ Aside0 (Kd.R k29 29 w' w.heap.size (fun _ => True) v227 t226) ∧ Aside0 (Below w.heap.size w w'))
      case atStart => exact ⟨(false), (0), (by first | rfl | (simp; done) | (simp [*]; done)), (by first | rfl | (simp; done) | (simp [*]; done)), H', ⟨Nat.le_refl _⟩, ⟨by (with_reducible repeat (first | apply Kd.R_alloc | apply Kd.R_drewN | apply Kd.R_drew)); exact Kd.R_mono HO222.out (fun _ hk => hk.2)⟩, ⟨by (with_reducible repeat (first | apply Kd.R_alloc | apply Kd.R_drewN | apply Kd.R_drew)); exact Kd.R_mono HO225.out (fun _ hk => hk.2)⟩, ⟨by (with_reducible repeat (first | apply Kd.R_alloc | apply Kd.R_drewN | apply Kd.R_drew)); exact HO228.out⟩, ⟨by repeat (first | (with_reducible first | exact HB.out | apply below_alloc | apply pw_below_drewN | apply below_drew1) | exact HB.out)⟩⟩
      case round =>
        clear H'
        try clear c1
        try clear p2
        try clear c3
        try clear c5
        try clear c7
        try clear c10
        try clear c11
        try clear c12
        try clear c13
        try clear c14
        obtain ⟨x11_1, x13_1, rfl, rfl, HA, HK1, HO_9, HO_10, HO_12, HB⟩ := hrel
        cases gk with
        | zero => exact absurd HA.out (by simp [chartroomlaw27_FoldersBothWays.l0])
        | succ k1 =>
          have H := HA.out
          clear HA
          simp only [chartroomlaw27_FoldersBothWays.l0] at H
          by_cases c15 : x13_1 < (t226.length : Int)
          · rw [if_pos c15] at H
            have c15b0 : decide (x13_1 < (t226.length : Int)) = true := decide_eq_true c15
            clear c15
            by_cases c16 : x11_1 = true
            · subst c16
              have H1 : (chartroomlaw27_FoldersBothWays.l0 k1 l0 (Go.bits .and .i64 a1 15) (Go.bits .and .i64 a2 15) t220 t223 true t226 (wrap64 (x13_1 + 1))) = some r := by rw [if_pos rfl] at H; exact H
              clear H
              have H := H1
              clear H1
              have H' := Aside0.mk H
              clear H
              obtain ⟨Ao17, co17, eo17⟩ := Kd.R_slice HO_12.out
              subst eo17
              go_wp2
              go_roundg k1
              case measure => have := HK1.out; omega
              case rel => exact ⟨(true), (wrap64 (x13_1 + 1)), (by first | rfl | (simp; done) | (simp [*]; done)), (by first | rfl | (simp; done) | (simp [*]; done)), H', ⟨by have := HK1.out; omega⟩, ⟨by (with_reducible repeat (first | apply Kd.R_alloc | apply Kd.R_drewN | apply Kd.R_drew)); exact HO_9.out⟩, ⟨by (with_reducible repeat (first | apply Kd.R_alloc | apply Kd.R_drewN | apply Kd.R_drew)); exact HO_10.out⟩, ⟨by (with_reducible repeat (first | apply Kd.R_alloc | apply Kd.R_drewN | apply Kd.R_drew)); exact HO_12.out⟩, ⟨by repeat (first | (with_reducible first | exact HB.out | apply below_alloc | apply pw_below_drewN | apply below_drew1) | exact HB.out)⟩⟩
            · replace c16 := Bool.eq_false_iff.mpr c16
              subst c16
              have H1 : (if 0 ≤ x13_1 then (chartroomlaw27_FoldersBothWays.l0 k1 l0 (Go.bits .and .i64 a1 15) (Go.bits .and .i64 a2 15) t220 t223 (((rd_T29 t226 x13_1).f2) == (Go.bits .and .i64 a1 15)) t226 (wrap64 (x13_1 + 1))) else (none)) = some r := by rw [if_neg (show ¬ (false = true) by decide)] at H; exact H
              clear H
              have H := H1
              clear H1
              by_cases c18 : 0 ≤ x13_1
              · rw [if_pos c18] at H
                have c18b0 : decide (0 ≤ x13_1) = true := decide_eq_true c18
                clear c18
                have H' := Aside0.mk H
                clear H
                obtain ⟨Ao19, co19, eo19⟩ := Kd.R_slice HO_12.out
                subst eo19
                have p229 : 0 ≤ (x13_1 : Int) := of_decide_eq_true (by first | (with_reducible assumption) | assumption)
                have q229 : x13_1 < (t226.length : Int) := of_decide_eq_true (by first | (with_reducible assumption) | assumption)
                obtain ⟨ad229, e229, hx229_0, hx229_1, hx229_2, hx229_3, hx229_4⟩ := at_T29 (Kd.R_reads' HO_12.out).2.2 x13_1 p229 q229
                cases e229
                replace p229 := eq_true p229
                replace q229 := eq_true q229
                go_wp2
                go_roundg k1
                case measure => have := HK1.out; omega
                case rel => exact ⟨((((rd_T29 t226 x13_1).f2) == (Go.bits .and .i64 a1 15))), (wrap64 (x13_1 + 1)), (by first | rfl | (simp; done) | (simp [*]; done)), (by first | rfl | (simp; done) | (simp [*]; done)), H', ⟨by have := HK1.out; omega⟩, ⟨by (with_reducible repeat (first | apply Kd.R_alloc | apply Kd.R_drewN | apply Kd.R_drew)); exact HO_9.out⟩, ⟨by (with_reducible repeat (first | apply Kd.R_alloc | apply Kd.R_drewN | apply Kd.R_drew)); exact HO_10.out⟩, ⟨by (with_reducible repeat (first | apply Kd.R_alloc | apply Kd.R_drewN | apply Kd.R_drew)); exact HO_12.out⟩, ⟨by repeat (first | (with_reducible first | exact HB.out | apply below_alloc | apply pw_below_drewN | apply below_drew1) | exact HB.out)⟩⟩
              · rw [if_neg c18] at H
                exact absurd H (by simp)
          · rw [if_neg c15] at H
            have c15b0 : decide (x13_1 < (t226.length : Int)) = false := decide_eq_false c15
            clear c15
            have HC20 := Aside0.mk H
            clear H
            obtain ⟨Ao21, co21, eo21⟩ := Kd.R_slice HO_12.out
            subst eo21
            go_upto_region 13 with (fail)
            go_cut [72] (fun v72 wc => ∃ (kq : Nat) (x72_19 : Bool), v72 = .bool x72_19 ∧ Aside0 (chartroomlaw27_FoldersBothWays.j1 kq l0 (Go.bits .and .i64 a1 15) (Go.bits .and .i64 a2 15) t220 x72_19 = some r) ∧ Aside0 (kq ≤ k1) ∧ Aside0 (Kd.R (Kd.int .i64) 3 wc w.heap.size (fun _ => True) v221 t220) ∧ Aside0 (Below w.heap.size w wc))
            case first =>
              have H := HC20.out
              clear HC20
              replace H := Option.bind_eq_some_iff.mp H
              obtain ⟨t230, A220, H⟩ := H
              replace H : (if (x11_1 != t230) = true then (chartroomlaw27_FoldersBothWays.j1 k1 l0 (Go.bits .and .i64 a1 15) (Go.bits .and .i64 a2 15) t220 true) else (if (Go.bits .and .i64 a1 15) = (Go.bits .and .i64 a2 15) then ((chartroomref27_Has.f k1 t223 (Go.bits .and .i64 a2 15)).bind fun t231 => (chartroomlaw27_FoldersBothWays.j1 k1 l0 (Go.bits .and .i64 a1 15) (Go.bits .and .i64 a2 15) t220 t231)) else ((chartroomref27_Has.f k1 t220 (Go.bits .and .i64 a2 15)).bind fun t232 => ((chartroomref27_Has.f k1 t223 (Go.bits .and .i64 a1 15)).bind fun t233 => (if (t232 != t233) = true then (chartroomlaw27_FoldersBothWays.j1 k1 l0 (Go.bits .and .i64 a1 15) (Go.bits .and .i64 a2 15) t220 true) else ((chartroomref27_Has.f k1 t223 (Go.bits .and .i64 a2 15)).bind fun t234 => (chartroomlaw27_FoldersBothWays.j1 k1 l0 (Go.bits .and .i64 a1 15) (Go.bits .and .i64 a2 15) t220 t234))))))) = some r := H
              have A22 := Aside0.mk A220
              clear A220
              by_cases c23 : (x11_1 != t230) = true
              · rw [if_pos c23] at H
                have c23b0 : (x11_1 != t230) = true := c23
                (try (have c23b1 : decide (x11_1 = t230) = false := by simpa using c23))
                (try (have c23b2 : (x11_1 == t230) = false := by simpa using c23))
                (try (have c23b3 : ¬ (x11_1 = t230) := by simpa using c23))
                clear c23
                (first | rw [c23b0] | (simp only [i64_w, i32_w]; rw [c23b0]) | skip)
                have H' := Aside0.mk H
                clear H
                obtain ⟨Ao24, co24, eo24⟩ := Kd.R_slice HO_9.out
                subst eo24
                go_wp2_with (first | ((with_reducible refine gate_callee (f := 15) rfl ?_); refine goesL_ (some 52) rfl rfl Try.func15 (by kernel_rfl) rfl #[.slice Ao24 t220.length co24, .int .i64 (Go.bits .and .i64 a1 15)] rfl (by (try simp only [List.map_toArray, List.map_cons, List.map_nil]); first | done | rfl | (simp only [List.length_drop, List.length_take]; rfl)) ?_; (with_reducible refine (chartroomref27_Has.calls k1 _ _ t220 (Go.bits .and .i64 a1 15) t230 _ ?side1 ?side2 A22.out).mono ?_); (case side1 => repeat (first | exact (Kd.R_reads' HO_9.out).2.2 | (with_reducible refine Kd.C_alloc ?_ _) | (with_reducible refine Kd.C_drewN ?_ _) | (with_reducible refine Kd.C_drew ?_))); (case side2 => exact (Kd.R_reads' HO_9.out).2.1); rintro e w' ⟨rfl, ⟨nd, rfl⟩⟩; refine ⟨_, rfl, ?_⟩))
                go_meet
                case rel => exact ⟨_, (true), (by first | rfl | (simp; done) | (simp [*]; done)), H', ⟨by have := HK1.out; first | omega | exact Nat.le_refl _⟩, ⟨by (with_reducible repeat (first | apply Kd.R_alloc | apply Kd.R_drewN | apply Kd.R_drew)); exact Kd.R_mono HO_9.out (fun _ hk => trivial)⟩, ⟨by repeat (first | (with_reducible first | exact HB.out | apply below_alloc | apply pw_below_drewN | apply below_drew1) | exact HB.out)⟩⟩
              · rw [if_neg c23] at H
                have c23b0 : (x11_1 != t230) = false := by simpa using c23
                (try (have c23b1 : decide (x11_1 = t230) = true := by simpa using c23))
                (try (have c23b2 : (x11_1 == t230) = true := by simpa using c23))
                clear c23
                (first | rw [c23b0] | (simp only [i64_w, i32_w]; rw [c23b0]) | skip)
                by_cases c25 : (Go.bits .and .i64 a1 15) = (Go.bits .and .i64 a2 15)
                · rw [if_pos c25] at H
                  have c25b0 : ((Go.bits .and .i64 a1 15) == (Go.bits .and .i64 a2 15)) = true := beq_iff_eq.mpr c25
                  have c25b1 : ((Go.bits .and .i64 a1 15) != (Go.bits .and .i64 a2 15)) = false := bne_eq_false_iff_eq.mpr c25
                  clear c25
                  replace H := Option.bind_eq_some_iff.mp H
                  obtain ⟨t231, A260, H⟩ := H
                  replace H : (chartroomlaw27_FoldersBothWays.j1 k1 l0 (Go.bits .and .i64 a1 15) (Go.bits .and .i64 a2 15) t220 t231) = some r := H
                  have A26 := Aside0.mk A260
                  clear A260
                  have H' := Aside0.mk H
                  clear H
                  obtain ⟨Ao27, co27, eo27⟩ := Kd.R_slice HO_9.out
                  subst eo27
                  go_wp2_with (first | ((with_reducible refine gate_callee (f := 15) rfl ?_); refine goesL_ (some 52) rfl rfl Try.func15 (by kernel_rfl) rfl #[.slice Ao27 t220.length co27, .int .i64 (Go.bits .and .i64 a1 15)] rfl (by (try simp only [List.map_toArray, List.map_cons, List.map_nil]); first | done | rfl | (simp only [List.length_drop, List.length_take]; rfl)) ?_; (with_reducible refine (chartroomref27_Has.calls k1 _ _ t220 (Go.bits .and .i64 a1 15) t230 _ ?side1 ?side2 A22.out).mono ?_); (case side1 => repeat (first | exact (Kd.R_reads' HO_9.out).2.2 | (with_reducible refine Kd.C_alloc ?_ _) | (with_reducible refine Kd.C_drewN ?_ _) | (with_reducible refine Kd.C_drew ?_))); (case side2 => exact (Kd.R_reads' HO_9.out).2.1); rintro e w' ⟨rfl, ⟨nd, rfl⟩⟩; refine ⟨_, rfl, ?_⟩; obtain ⟨Ao28, co28, eo28⟩ := Kd.R_slice HO_10.out; subst eo28) | (go_at_call 15; (with_reducible refine (chartroomref27_Has.calls k1 _ _ t223 (Go.bits .and .i64 a2 15) t231 _ ?side1 ?side2 A26.out).mono ?_); (case side1 => repeat (first | exact (Kd.R_reads' HO_10.out).2.2 | (with_reducible refine Kd.C_alloc ?_ _) | (with_reducible refine Kd.C_drewN ?_ _) | (with_reducible refine Kd.C_drew ?_))); (case side2 => exact (Kd.R_reads' HO_10.out).2.1); rintro e w' ⟨rfl, ⟨nd, rfl⟩⟩))
                  go_meet
                  case rel => exact ⟨_, (t231), (by first | rfl | (simp; done) | (simp [*]; done)), H', ⟨by have := HK1.out; first | omega | exact Nat.le_refl _⟩, ⟨by (with_reducible repeat (first | apply Kd.R_alloc | apply Kd.R_drewN | apply Kd.R_drew)); exact Kd.R_mono HO_9.out (fun _ hk => trivial)⟩, ⟨by repeat (first | (with_reducible first | exact HB.out | apply below_alloc | apply pw_below_drewN | apply below_drew1) | exact HB.out)⟩⟩
                · rw [if_neg c25] at H
                  have c25b0 : ((Go.bits .and .i64 a1 15) == (Go.bits .and .i64 a2 15)) = false := beq_eq_false_iff_ne.mpr c25
                  have c25b1 : ((Go.bits .and .i64 a1 15) != (Go.bits .and .i64 a2 15)) = true := bne_iff_ne.mpr c25
                  replace H := Option.bind_eq_some_iff.mp H
                  obtain ⟨t232, A290, H⟩ := H
                  replace H : ((chartroomref27_Has.f k1 t223 (Go.bits .and .i64 a1 15)).bind fun t233 => (if (t232 != t233) = true then (chartroomlaw27_FoldersBothWays.j1 k1 l0 (Go.bits .and .i64 a1 15) (Go.bits .and .i64 a2 15) t220 true) else ((chartroomref27_Has.f k1 t223 (Go.bits .and .i64 a2 15)).bind fun t234 => (chartroomlaw27_FoldersBothWays.j1 k1 l0 (Go.bits .and .i64 a1 15) (Go.bits .and .i64 a2 15) t220 t234)))) = some r := H
                  have A29 := Aside0.mk A290
                  clear A290
                  replace H := Option.bind_eq_some_iff.mp H
                  obtain ⟨t233, A300, H⟩ := H
                  replace H : (if (t232 != t233) = true then (chartroomlaw27_FoldersBothWays.j1 k1 l0 (Go.bits .and .i64 a1 15) (Go.bits .and .i64 a2 15) t220 true) else ((chartroomref27_Has.f k1 t223 (Go.bits .and .i64 a2 15)).bind fun t234 => (chartroomlaw27_FoldersBothWays.j1 k1 l0 (Go.bits .and .i64 a1 15) (Go.bits .and .i64 a2 15) t220 t234))) = some r := H
                  have A30 := Aside0.mk A300
                  clear A300
                  by_cases c31 : (t232 != t233) = true
                  · rw [if_pos c31] at H
                    have c31b0 : (t232 != t233) = true := c31
                    (try (have c31b1 : decide (t232 = t233) = false := by simpa using c31))
                    (try (have c31b2 : (t232 == t233) = false := by simpa using c31))
                    (try (have c31b3 : ¬ (t232 = t233) := by simpa using c31))
                    clear c31
                    have H' := Aside0.mk H
                    clear H
                    obtain ⟨Ao32, co32, eo32⟩ := Kd.R_slice HO_9.out
                    subst eo32
                    go_wp2_with (first | ((with_reducible refine gate_callee (f := 15) rfl ?_); refine goesL_ (some 52) rfl rfl Try.func15 (by kernel_rfl) rfl #[.slice Ao32 t220.length co32, .int .i64 (Go.bits .and .i64 a1 15)] rfl (by (try simp only [List.map_toArray, List.map_cons, List.map_nil]); first | done | rfl | (simp only [List.length_drop, List.length_take]; rfl)) ?_; (with_reducible refine (chartroomref27_Has.calls k1 _ _ t220 (Go.bits .and .i64 a1 15) t230 _ ?side1 ?side2 A22.out).mono ?_); (case side1 => repeat (first | exact (Kd.R_reads' HO_9.out).2.2 | (with_reducible refine Kd.C_alloc ?_ _) | (with_reducible refine Kd.C_drewN ?_ _) | (with_reducible refine Kd.C_drew ?_))); (case side2 => exact (Kd.R_reads' HO_9.out).2.1); rintro e w' ⟨rfl, ⟨nd, rfl⟩⟩; refine ⟨_, rfl, ?_⟩) | (go_at_call 15; (with_reducible refine (chartroomref27_Has.calls k1 _ _ t220 (Go.bits .and .i64 a2 15) t232 _ ?side1 ?side2 A29.out).mono ?_); (case side1 => repeat (first | exact (Kd.R_reads' HO_9.out).2.2 | (with_reducible refine Kd.C_alloc ?_ _) | (with_reducible refine Kd.C_drewN ?_ _) | (with_reducible refine Kd.C_drew ?_))); (case side2 => exact (Kd.R_reads' HO_9.out).2.1); rintro e w' ⟨rfl, ⟨nd, rfl⟩⟩; obtain ⟨Ao33, co33, eo33⟩ := Kd.R_slice HO_10.out; subst eo33) | (go_at_call 15; (with_reducible refine (chartroomref27_Has.calls k1 _ _ t223 (Go.bits .and .i64 a1 15) t233 _ ?side1 ?side2 A30.out).mono ?_); (case side1 => repeat (first | exact (Kd.R_reads' HO_10.out).2.2 | (with_reducible refine Kd.C_alloc ?_ _) | (with_reducible refine Kd.C_drewN ?_ _) | (with_reducible refine Kd.C_drew ?_))); (case side2 => exact (Kd.R_reads' HO_10.out).2.1); rintro e w' ⟨rfl, ⟨nd, rfl⟩⟩))
                    go_meet
                    case rel => exact ⟨_, (true), (by first | rfl | (simp; done) | (simp [*]; done)), H', ⟨by have := HK1.out; first | omega | exact Nat.le_refl _⟩, ⟨by (with_reducible repeat (first | apply Kd.R_alloc | apply Kd.R_drewN | apply Kd.R_drew)); exact Kd.R_mono HO_9.out (fun _ hk => trivial)⟩, ⟨by repeat (first | (with_reducible first | exact HB.out | apply below_alloc | apply pw_below_drewN | apply below_drew1) | exact HB.out)⟩⟩
                  · rw [if_neg c31] at H
                    have c31b0 : (t232 != t233) = false := by simpa using c31
                    (try (have c31b1 : decide (t232 = t233) = true := by simpa using c31))
                    (try (have c31b2 : (t232 == t233) = true := by simpa using c31))
                    clear c31
                    replace H := Option.bind_eq_some_iff.mp H
                    obtain ⟨t234, A340, H⟩ := H
                    replace H : (chartroomlaw27_FoldersBothWays.j1 k1 l0 (Go.bits .and .i64 a1 15) (Go.bits .and .i64 a2 15) t220 t234) = some r := H
                    have A34 := Aside0.mk A340
                    clear A340
                    have H' := Aside0.mk H
                    clear H
                    obtain ⟨Ao35, co35, eo35⟩ := Kd.R_slice HO_9.out
                    subst eo35
                    go_wp2_with (first | ((with_reducible refine gate_callee (f := 15) rfl ?_); refine goesL_ (some 52) rfl rfl Try.func15 (by kernel_rfl) rfl #[.slice Ao35 t220.length co35, .int .i64 (Go.bits .and .i64 a1 15)] rfl (by (try simp only [List.map_toArray, List.map_cons, List.map_nil]); first | done | rfl | (simp only [List.length_drop, List.length_take]; rfl)) ?_; (with_reducible refine (chartroomref27_Has.calls k1 _ _ t220 (Go.bits .and .i64 a1 15) t230 _ ?side1 ?side2 A22.out).mono ?_); (case side1 => repeat (first | exact (Kd.R_reads' HO_9.out).2.2 | (with_reducible refine Kd.C_alloc ?_ _) | (with_reducible refine Kd.C_drewN ?_ _) | (with_reducible refine Kd.C_drew ?_))); (case side2 => exact (Kd.R_reads' HO_9.out).2.1); rintro e w' ⟨rfl, ⟨nd, rfl⟩⟩; refine ⟨_, rfl, ?_⟩) | (go_at_call 15; (with_reducible refine (chartroomref27_Has.calls k1 _ _ t220 (Go.bits .and .i64 a2 15) t232 _ ?side1 ?side2 A29.out).mono ?_); (case side1 => repeat (first | exact (Kd.R_reads' HO_9.out).2.2 | (with_reducible refine Kd.C_alloc ?_ _) | (with_reducible refine Kd.C_drewN ?_ _) | (with_reducible refine Kd.C_drew ?_))); (case side2 => exact (Kd.R_reads' HO_9.out).2.1); rintro e w' ⟨rfl, ⟨nd, rfl⟩⟩; obtain ⟨Ao36, co36, eo36⟩ := Kd.R_slice HO_10.out; subst eo36) | (go_at_call 15; (with_reducible refine (chartroomref27_Has.calls k1 _ _ t223 (Go.bits .and .i64 a1 15) t233 _ ?side1 ?side2 A30.out).mono ?_); (case side1 => repeat (first | exact (Kd.R_reads' HO_10.out).2.2 | (with_reducible refine Kd.C_alloc ?_ _) | (with_reducible refine Kd.C_drewN ?_ _) | (with_reducible refine Kd.C_drew ?_))); (case side2 => exact (Kd.R_reads' HO_10.out).2.1); rintro e w' ⟨rfl, ⟨nd, rfl⟩⟩) | (go_at_call 15; (with_reducible refine (chartroomref27_Has.calls k1 _ _ t223 (Go.bits .and .i64 a2 15) t234 _ ?side1 ?side2 A34.out).mono ?_); (case side1 => repeat (first | exact (Kd.R_reads' HO_10.out).2.2 | (with_reducible refine Kd.C_alloc ?_ _) | (with_reducible refine Kd.C_drewN ?_ _) | (with_reducible refine Kd.C_drew ?_))); (case side2 => exact (Kd.R_reads' HO_10.out).2.1); rintro e w' ⟨rfl, ⟨nd, rfl⟩⟩))
                    go_meet
                    case rel => exact ⟨_, (t234), (by first | rfl | (simp; done) | (simp [*]; done)), H', ⟨by have := HK1.out; first | omega | exact Nat.le_refl _⟩, ⟨by (with_reducible repeat (first | apply Kd.R_alloc | apply Kd.R_drewN | apply Kd.R_drew)); exact Kd.R_mono HO_9.out (fun _ hk => trivial)⟩, ⟨by repeat (first | (with_reducible first | exact HB.out | apply below_alloc | apply pw_below_drewN | apply below_drew1) | exact HB.out)⟩⟩
            case rest =>
              clear HC20
              try clear c1
              try clear c2
              try clear p2
              try clear q2
              try clear hx2
              try clear c3
              try clear c5
              try clear p6
              try clear c7
              try clear c10
              try clear c11
              try clear c12
              try clear c13
              try clear c14
              try clear c15
              try clear c15b0
              try clear c16
              try clear c18
              try clear c18b0
              try clear p22
              try clear q22
              try clear hx22
              try clear c23
              try clear c23b0
              try clear c23b1
              try clear c23b2
              try clear c25
              try clear c25b0
              try clear c25b1
              try clear c31
              try clear c31b0
              try clear c31b1
              try clear c31b2
              try clear hx229_0
              try clear hx229_1
              try clear hx229_2
              try clear hx229_3
              try clear hx229_4
              try clear p2
              try clear p229
              try clear q229
              obtain ⟨kq, x72_19, rfl, HA, HJ19, HO_9, HB⟩ := hcut
              cases kq with
              | zero => exact absurd HA.out (by simp [chartroomlaw27_FoldersBothWays.j1])
              | succ kj19 =>
                have H := HA.out
                clear HA
                simp only [chartroomlaw27_FoldersBothWays.j1] at H
                by_cases c37 : x72_19 = true
                · subst c37
                  have H1 : (some false) = some r := by rw [if_pos rfl] at H; exact H
                  clear H
                  have H := H1
                  clear H1
                  obtain rfl := Option.some.inj H
                  go_wp2
                  go_ret
                  exact ⟨by first | rfl | (simp [errW_none, errW_some] <;> rfl) | (simp [*, errW_none, errW_some] <;> rfl), by repeat (first | (with_reducible first | exact HB.out | apply below_alloc | apply pw_below_drewN | apply below_drew1) | exact HB.out)⟩
                · replace c37 := Bool.eq_false_iff.mpr c37
                  subst c37
                  have H1 : (if (Go.bits .and .i64 a1 15) = (Go.bits .and .i64 a2 15) then (chartroomlaw27_FoldersBothWays.j2 kj19 l0 (Go.bits .and .i64 a2 15) t220 true) else ((chartroomref27_Has.f kj19 t220 (Go.bits .and .i64 a2 15)).bind fun t235 => (chartroomlaw27_FoldersBothWays.j2 kj19 l0 (Go.bits .and .i64 a2 15) t220 (!t235)))) = some r := by rw [if_neg (show ¬ (false = true) by decide)] at H; exact H
                  clear H
                  have H := H1
                  clear H1
                  have HC38 := Aside0.mk H
                  clear H
                  go_upto_region 15 with (fail)
                  go_cut [81] (fun v81 wc => ∃ (kq : Nat) (x81_37 : Bool), v81 = .bool x81_37 ∧ Aside0 (chartroomlaw27_FoldersBothWays.j2 kq l0 (Go.bits .and .i64 a2 15) t220 x81_37 = some r) ∧ Aside0 (kq ≤ kj19) ∧ Aside0 (Kd.R (Kd.int .i64) 3 wc w.heap.size (fun _ => True) v221 t220) ∧ Aside0 (Below w.heap.size w wc))
                  case first =>
                    have H := HC38.out
                    clear HC38
                    by_cases c39 : (Go.bits .and .i64 a1 15) = (Go.bits .and .i64 a2 15)
                    · rw [if_pos c39] at H
                      have c39b0 : ((Go.bits .and .i64 a1 15) == (Go.bits .and .i64 a2 15)) = true := beq_iff_eq.mpr c39
                      have c39b1 : ((Go.bits .and .i64 a1 15) != (Go.bits .and .i64 a2 15)) = false := bne_eq_false_iff_eq.mpr c39
                      clear c39
                      (first | rw [c39b0] | (simp only [i64_w, i32_w]; rw [c39b0]) | skip)
                      have H' := Aside0.mk H
                      clear H
                      go_wp2
                      go_meet
                      case rel => exact ⟨_, (true), (by first | rfl | (simp; done) | (simp [*]; done)), H', ⟨by have := HK1.out; have := HJ19.out; first | omega | exact Nat.le_refl _⟩, ⟨by (with_reducible repeat (first | apply Kd.R_alloc | apply Kd.R_drewN | apply Kd.R_drew)); exact HO_9.out⟩, ⟨by repeat (first | (with_reducible first | exact HB.out | apply below_alloc | apply pw_below_drewN | apply below_drew1) | exact HB.out)⟩⟩
                    · rw [if_neg c39] at H
                      have c39b0 : ((Go.bits .and .i64 a1 15) == (Go.bits .and .i64 a2 15)) = false := beq_eq_false_iff_ne.mpr c39
                      have c39b1 : ((Go.bits .and .i64 a1 15) != (Go.bits .and .i64 a2 15)) = true := bne_iff_ne.mpr c39
                      (first | rw [c39b0] | (simp only [i64_w, i32_w]; rw [c39b0]) | skip)
                      replace H := Option.bind_eq_some_iff.mp H
                      obtain ⟨t235, A400, H⟩ := H
                      replace H : (chartroomlaw27_FoldersBothWays.j2 kj19 l0 (Go.bits .and .i64 a2 15) t220 (!t235)) = some r := H
                      have A40 := Aside0.mk A400
                      clear A400
                      have H' := Aside0.mk H
                      clear H
                      obtain ⟨Ao41, co41, eo41⟩ := Kd.R_slice HO_9.out
                      subst eo41
                      go_wp2_with (first | (go_at_call 15; (with_reducible refine (chartroomref27_Has.calls kj19 _ _ t220 (Go.bits .and .i64 a2 15) t235 _ ?side1 ?side2 A40.out).mono ?_); (case side1 => repeat (first | exact (Kd.R_reads' HO_9.out).2.2 | (with_reducible refine Kd.C_alloc ?_ _) | (with_reducible refine Kd.C_drewN ?_ _) | (with_reducible refine Kd.C_drew ?_))); (case side2 => exact (Kd.R_reads' HO_9.out).2.1); rintro e w' ⟨rfl, ⟨nd, rfl⟩⟩))
                      go_meet
                      case rel => exact ⟨_, (!t235), (by first | rfl | (simp; done) | (simp [*]; done)), H', ⟨by have := HK1.out; have := HJ19.out; first | omega | exact Nat.le_refl _⟩, ⟨by (with_reducible repeat (first | apply Kd.R_alloc | apply Kd.R_drewN | apply Kd.R_drew)); exact HO_9.out⟩, ⟨by repeat (first | (with_reducible first | exact HB.out | apply below_alloc | apply pw_below_drewN | apply below_drew1) | exact HB.out)⟩⟩
                  case rest =>
                    clear HC38
                    try clear c1
                    try clear c2
                    try clear p2
                    try clear q2
                    try clear hx2
                    try clear c3
                    try clear c5
                    try clear p6
                    try clear c7
                    try clear c10
                    try clear c11
                    try clear c12
                    try clear c13
                    try clear c14
                    try clear c15
                    try clear c15b0
                    try clear c16
                    try clear c18
                    try clear c18b0
                    try clear p22
                    try clear q22
                    try clear hx22
                    try clear c23
                    try clear c23b0
                    try clear c23b1
                    try clear c23b2
                    try clear c25
                    try clear c25b0
                    try clear c25b1
                    try clear c31
                    try clear c31b0
                    try clear c31b1
                    try clear c31b2
                    try clear c37
                    try clear c39
                    try clear c39b0
                    try clear c39b1
                    try clear hx229_0
                    try clear hx229_1
                    try clear hx229_2
                    try clear hx229_3
                    try clear hx229_4
                    try clear p2
                    try clear p22
                    try clear p229
                    try clear p6
                    try clear q2
                    try clear q22
                    try clear q229
                    obtain ⟨kq, x81_37, rfl, HA, HJ37, HO_9, HB⟩ := hcut
                    cases kq with
                    | zero => exact absurd HA.out (by simp [chartroomlaw27_FoldersBothWays.j2])
                    | succ kj37 =>
                      have H := HA.out
                      clear HA
                      simp only [chartroomlaw27_FoldersBothWays.j2] at H
                      by_cases c42 : x81_37 = true
                      · subst c42
                        have H1 : (some true) = some r := by rw [if_pos rfl] at H; exact H
                        clear H
                        have H := H1
                        clear H1
                        obtain rfl := Option.some.inj H
                        go_wp2
                        go_ret
                        exact ⟨by first | rfl | (simp [errW_none, errW_some] <;> rfl) | (simp [*, errW_none, errW_some] <;> rfl), by repeat (first | (with_reducible first | exact HB.out | apply below_alloc | apply pw_below_drewN | apply below_drew1) | exact HB.out)⟩
                      · replace c42 := Bool.eq_false_iff.mpr c42
                        subst c42
                        have H1 : ((folders_Below.f l0 (Go.bits .and .i64 a2 15)).bind fun t236 => (chartroomlaw27_FoldersBothWays.l1 kj37 t220 t236 0)) = some r := by rw [if_neg (show ¬ (false = true) by decide)] at H; exact H
                        clear H
                        have H := H1
                        clear H1
                        replace H := Option.bind_eq_some_iff.mp H
                        obtain ⟨t236, A430, H⟩ := H
                        replace H : (chartroomlaw27_FoldersBothWays.l1 kj37 t220 t236 0) = some r := H
                        have A43 := Aside0.mk A430
                        clear A430
                        have H' := Aside0.mk H
                        clear H
                        go_wp2_with (first | ((with_reducible refine gate_callee (f := 12) rfl ?_); refine goesL_ (some 84) rfl rfl Try.func12 (by kernel_rfl) rfl #[.slice A0 l0.length c0, .int .i64 (Go.bits .and .i64 a2 15)] rfl (by (try simp only [List.map_toArray, List.map_cons, List.map_nil]); first | done | rfl | (simp only [List.length_drop, List.length_take]; rfl)) ?_; (with_reducible refine (folders_Below.calls _ _ l0 (Go.bits .and .i64 a2 15) t236 _ ?side1 ?side2 A43.out).mono ?_); (case side1 => repeat (first | exact (Kd.C_below HR0.out HB.out) | (with_reducible refine Kd.C_alloc ?_ _) | (with_reducible refine Kd.C_drewN ?_ _) | (with_reducible refine Kd.C_drew ?_))); (case side2 => exact HC0.out); rintro e w44 ⟨v237, rfl, ho0, hb⟩; refine ⟨_, rfl, ?_⟩; have n0_ := Aside0.mk (Kd.R_elder' (by (with_reducible repeat (first | apply Kd.R_alloc | apply Kd.R_drewN | apply Kd.R_drew)); exact HO_9.out) (Kd.R_base ho0) hb); have n1_ := Aside0.mk (Kd.R_lower (Kd.R_new' ho0 (Kd.R_lt (by (with_reducible repeat (first | apply Kd.R_alloc | apply Kd.R_drewN | apply Kd.R_drew)); exact HO_9.out))) (below_size (by repeat (first | (with_reducible first | exact HB.out | apply below_alloc | apply pw_below_drewN | apply below_drew1) | exact HB.out)))); have n2_ := Aside0.mk (below_step (by repeat (first | (with_reducible first | exact HB.out | apply below_alloc | apply pw_below_drewN | apply below_drew1) | exact HB.out)) hb); clear HO_9; clear HB; have HO_9 := n0_; have HO238 := n1_; have HB := n2_; clear n0_ n1_ n2_; (try clear hb); (try clear hb2); (try clear hk); (try clear hi); (try clear ho0)))
                        go_loopg [15] kj37 (fun kq v15 w' => ∃ (x15_4 : Int), v15 = .int .i64 x15_4 ∧ Aside0 (chartroomlaw27_FoldersBothWays.l1 kq t220 t236 x15_4 = some r) ∧ Aside0 (kq ≤ kj37) ∧ Aside0 (Kd.R (Kd.int .i64) 3 w' w.heap.size (fun k_ => some k_ ≠ (v237 : Value).ownBlock) v221 t220) ∧ Aside0 (Kd.R (Kd.int .i64) 3 w' w.heap.size (fun k_ => some k_ ≠ (v221 : Value).ownBlock) v237 t236) ∧ Aside0 (Below w.heap.size w w'))
                        case atStart => exact ⟨(0), (by first | rfl | (simp; done) | (simp [*]; done)), H', ⟨Nat.le_refl _⟩, ⟨by (with_reducible repeat (first | apply Kd.R_alloc | apply Kd.R_drewN | apply Kd.R_drew)); exact Kd.R_mono HO_9.out (fun _ hk => hk.2)⟩, ⟨by (with_reducible repeat (first | apply Kd.R_alloc | apply Kd.R_drewN | apply Kd.R_drew)); exact Kd.R_mono HO238.out (fun _ hk => hk.2)⟩, ⟨by repeat (first | (with_reducible first | exact HB.out | apply below_alloc | apply pw_below_drewN | apply below_drew1) | exact HB.out)⟩⟩
                        case round =>
                          clear H'
                          try clear c1
                          try clear c2
                          try clear p2
                          try clear q2
                          try clear hx2
                          try clear c3
                          try clear c4
                          try clear c5
                          try clear p6
                          try clear c7
                          try clear c10
                          try clear c11
                          try clear c12
                          try clear c13
                          try clear c14
                          try clear c15
                          try clear c15b0
                          try clear c16
                          try clear c18
                          try clear c18b0
                          try clear p22
                          try clear q22
                          try clear hx22
                          try clear c23
                          try clear c23b0
                          try clear c23b1
                          try clear c23b2
                          try clear c25
                          try clear c25b0
                          try clear c25b1
                          try clear c31
                          try clear c31b0
                          try clear c31b1
                          try clear c31b2
                          try clear c37
                          try clear c39
                          try clear c39b0
                          try clear c39b1
                          try clear c42
                          try clear hx229_0
                          try clear hx229_1
                          try clear hx229_2
                          try clear hx229_3
                          try clear hx229_4
                          try clear p2
                          try clear p22
                          try clear p229
                          try clear p6
                          try clear q2
                          try clear q22
                          try clear q229
                          obtain ⟨x15_4, rfl, HA, HK4, HO_9, HO_14, HB⟩ := hrel
                          cases gk with
                          | zero => exact absurd HA.out (by simp [chartroomlaw27_FoldersBothWays.l1])
                          | succ k4 =>
                            have H := HA.out
                            clear HA
                            simp only [chartroomlaw27_FoldersBothWays.l1] at H
                            by_cases c45 : x15_4 < (t236.length : Int)
                            · rw [if_pos c45] at H
                              have c45b0 : decide (x15_4 < (t236.length : Int)) = true := decide_eq_true c45
                              clear c45
                              by_cases c46 : 0 ≤ x15_4
                              · rw [if_pos c46] at H
                                have c46b0 : decide (0 ≤ x15_4) = true := decide_eq_true c46
                                clear c46
                                replace H := Option.bind_eq_some_iff.mp H
                                obtain ⟨t240, A470, H⟩ := H
                                replace H : (if t240 = true then (chartroomlaw27_FoldersBothWays.l1 k4 t220 t236 (wrap64 (x15_4 + 1))) else (some false)) = some r := H
                                have A47 := Aside0.mk A470
                                clear A470
                                by_cases c48 : t240 = true
                                · subst c48
                                  have H1 : (chartroomlaw27_FoldersBothWays.l1 k4 t220 t236 (wrap64 (x15_4 + 1))) = some r := by rw [if_pos rfl] at H; exact H
                                  clear H
                                  have H := H1
                                  clear H1
                                  have H' := Aside0.mk H
                                  clear H
                                  obtain ⟨Ao49, co49, eo49⟩ := Kd.R_slice HO_14.out
                                  subst eo49
                                  have p239 : 0 ≤ (x15_4 : Int) := of_decide_eq_true (by first | (with_reducible assumption) | assumption)
                                  have q239 : x15_4 < (t236.length : Int) := of_decide_eq_true (by first | (with_reducible assumption) | assumption)
                                  obtain ⟨ad239, e239, hx239_0⟩ := Kd.at_int (Kd.R_reads' HO_14.out).2.2 x15_4 p239 q239
                                  cases e239
                                  replace p239 := eq_true p239
                                  replace q239 := eq_true q239
                                  obtain ⟨Ao50, co50, eo50⟩ := Kd.R_slice HO_9.out
                                  subst eo50
                                  go_wp2_with (first | ((with_reducible refine gate_callee (f := 15) rfl ?_); refine goesL_ (some 96) rfl rfl Try.func15 (by kernel_rfl) rfl #[.slice Ao50 t220.length co50, .int .i64 (rd t236 x15_4)] rfl (by (try simp only [List.map_toArray, List.map_cons, List.map_nil]); first | done | rfl | (simp only [List.length_drop, List.length_take]; rfl)) ?_; (with_reducible refine (chartroomref27_Has.calls k4 _ _ t220 (rd t236 x15_4) true _ ?side1 ?side2 A47.out).mono ?_); (case side1 => repeat (first | exact (Kd.R_reads' HO_9.out).2.2 | (with_reducible refine Kd.C_alloc ?_ _) | (with_reducible refine Kd.C_drewN ?_ _) | (with_reducible refine Kd.C_drew ?_))); (case side2 => exact (Kd.R_reads' HO_9.out).2.1); rintro e w' ⟨rfl, ⟨nd, rfl⟩⟩; refine ⟨_, rfl, ?_⟩))
                                  go_roundg k4
                                  case measure => have := HK1.out; have := HJ19.out; have := HJ37.out; have := HK4.out; omega
                                  case rel => exact ⟨(wrap64 (x15_4 + 1)), (by first | rfl | (simp; done) | (simp [*]; done)), H', ⟨by have := HK1.out; have := HJ19.out; have := HJ37.out; have := HK4.out; omega⟩, ⟨by (with_reducible repeat (first | apply Kd.R_alloc | apply Kd.R_drewN | apply Kd.R_drew)); exact HO_9.out⟩, ⟨by (with_reducible repeat (first | apply Kd.R_alloc | apply Kd.R_drewN | apply Kd.R_drew)); exact HO_14.out⟩, ⟨by repeat (first | (with_reducible first | exact HB.out | apply below_alloc | apply pw_below_drewN | apply below_drew1) | exact HB.out)⟩⟩
                                · replace c48 := Bool.eq_false_iff.mpr c48
                                  subst c48
                                  have H1 : (some false) = some r := by rw [if_neg (show ¬ (false = true) by decide)] at H; exact H
                                  clear H
                                  have H := H1
                                  clear H1
                                  obtain rfl := Option.some.inj H
                                  obtain ⟨Ao51, co51, eo51⟩ := Kd.R_slice HO_14.out
                                  subst eo51
                                  have p239 : 0 ≤ (x15_4 : Int) := of_decide_eq_true (by first | (with_reducible assumption) | assumption)
                                  have q239 : x15_4 < (t236.length : Int) := of_decide_eq_true (by first | (with_reducible assumption) | assumption)
                                  obtain ⟨ad239, e239, hx239_0⟩ := Kd.at_int (Kd.R_reads' HO_14.out).2.2 x15_4 p239 q239
                                  cases e239
                                  replace p239 := eq_true p239
                                  replace q239 := eq_true q239
                                  obtain ⟨Ao52, co52, eo52⟩ := Kd.R_slice HO_9.out
                                  subst eo52
                                  go_wp2_with (first | ((with_reducible refine gate_callee (f := 15) rfl ?_); refine goesL_ (some 96) rfl rfl Try.func15 (by kernel_rfl) rfl #[.slice Ao52 t220.length co52, .int .i64 (rd t236 x15_4)] rfl (by (try simp only [List.map_toArray, List.map_cons, List.map_nil]); first | done | rfl | (simp only [List.length_drop, List.length_take]; rfl)) ?_; (with_reducible refine (chartroomref27_Has.calls k4 _ _ t220 (rd t236 x15_4) false _ ?side1 ?side2 A47.out).mono ?_); (case side1 => repeat (first | exact (Kd.R_reads' HO_9.out).2.2 | (with_reducible refine Kd.C_alloc ?_ _) | (with_reducible refine Kd.C_drewN ?_ _) | (with_reducible refine Kd.C_drew ?_))); (case side2 => exact (Kd.R_reads' HO_9.out).2.1); rintro e w' ⟨rfl, ⟨nd, rfl⟩⟩; refine ⟨_, rfl, ?_⟩))
                                  go_ret
                                  exact ⟨by first | rfl | (simp [errW_none, errW_some] <;> rfl) | (simp [*, errW_none, errW_some] <;> rfl), by repeat (first | (with_reducible first | exact HB.out | apply below_alloc | apply pw_below_drewN | apply below_drew1) | exact HB.out)⟩
                              · rw [if_neg c46] at H
                                exact absurd H (by simp)
                            · rw [if_neg c45] at H
                              have c45b0 : decide (x15_4 < (t236.length : Int)) = false := decide_eq_false c45
                              clear c45
                              obtain rfl := Option.some.inj H
                              obtain ⟨Ao53, co53, eo53⟩ := Kd.R_slice HO_14.out
                              subst eo53
                              obtain ⟨Ao54, co54, eo54⟩ := Kd.R_slice HO_9.out
                              subst eo54
                              go_wp2
                              go_ret
                              exact ⟨by first | rfl | (simp [errW_none, errW_some] <;> rfl) | (simp [*, errW_none, errW_some] <;> rfl), by repeat (first | (with_reducible first | exact HB.out | apply below_alloc | apply pw_below_drewN | apply below_drew1) | exact HB.out)⟩
    · replace c7 := Bool.eq_false_iff.mpr c7
      subst c7
      have H1 : (some true) = some r := by rw [if_neg (show ¬ (false = true) by decide)] at H; exact H
      clear H
      have H := H1
      clear H1
      obtain rfl := Option.some.inj H
      go_enter Try.func3, Try.ntmps3
      go_wp2_with (first | ((with_reducible refine gate_callee (f := 10) rfl ?_); refine goesL_ (some 16) rfl rfl Try.func10 (by kernel_rfl) rfl #[] rfl (by (try simp only [List.map_toArray, List.map_cons, List.map_nil]); first | done | rfl | (simp only [List.length_drop, List.length_take]; rfl)) ?_; (with_reducible refine (chartroomlaw27_sane.calls k  true _ A4.out).mono ?_); rintro e w55 ⟨rfl, hb⟩; refine ⟨_, rfl, ?_⟩; have n0_ := Aside0.mk (below_step (by repeat (first | (with_reducible first | exact HB.out | apply below_alloc | apply pw_below_drewN | apply below_drew1) | exact HB.out)) hb); clear HB; have HB := n0_; clear n0_; (try clear hb); (try clear hb2); (try clear hk); (try clear hi)) | ((with_reducible refine gate_callee (f := 11) rfl ?_); refine goesL_ (some 19) rfl rfl Try.func11 (by kernel_rfl) rfl #[.slice A0 l0.length c0, .slice none 0 0] rfl (by (try simp only [List.map_toArray, List.map_cons, List.map_nil]); first | done | rfl | (simp only [List.length_drop, List.length_take]; rfl)) ?_; (refine (chartroomlaw27_few.calls _ _ l0 _ _ ([] : List (S29)) false _ ?side1 ?side2 ?side3 ?side4 A6.out).mono ?_); (case side1 => repeat (first | exact (Kd.C_below HR0.out HB.out) | (with_reducible refine Kd.C_alloc ?_ _) | (with_reducible refine Kd.C_drewN ?_ _) | (with_reducible refine Kd.C_drew ?_))); (case side2 => exact HC0.out); (case side3 => exact Kd.C_nil _ _); (case side4 => exact Nat.le_refl _); rintro e w' ⟨rfl, ⟨nd, rfl⟩⟩; refine ⟨_, rfl, ?_⟩))
      go_ret
      exact ⟨by first | rfl | (simp [errW_none, errW_some] <;> rfl) | (simp [*, errW_none, errW_some] <;> rfl), by repeat (first | (with_reducible first | exact HB.out | apply below_alloc | apply pw_below_drewN | apply below_drew1) | exact HB.out)⟩
  · replace c5 := Bool.eq_false_iff.mpr c5
    subst c5
    have H1 : (some false) = some r := by rw [if_neg (show ¬ (false = true) by decide)] at H; exact H
    clear H
    have H := H1
    clear H1
    obtain rfl := Option.some.inj H
    go_enter Try.func3, Try.ntmps3
    go_wp2_with (first | ((with_reducible refine gate_callee (f := 10) rfl ?_); refine goesL_ (some 16) rfl rfl Try.func10 (by kernel_rfl) rfl #[] rfl (by (try simp only [List.map_toArray, List.map_cons, List.map_nil]); first | done | rfl | (simp only [List.length_drop, List.length_take]; rfl)) ?_; (with_reducible refine (chartroomlaw27_sane.calls k  false _ A4.out).mono ?_); rintro e w56 ⟨rfl, hb⟩; refine ⟨_, rfl, ?_⟩; have n0_ := Aside0.mk (below_step (by repeat (first | (with_reducible first | exact HB.out | apply below_alloc | apply pw_below_drewN | apply below_drew1) | exact HB.out)) hb); clear HB; have HB := n0_; clear n0_; (try clear hb); (try clear hb2); (try clear hk); (try clear hi)))
    go_ret
    exact ⟨by first | rfl | (simp [errW_none, errW_some] <;> rfl) | (simp [*, errW_none, errW_some] <;> rfl), by repeat (first | (with_reducible first | exact HB.out | apply below_alloc | apply pw_below_drewN | apply below_drew1) | exact HB.out)⟩

end
end Go.Proofs.Ytihpiejlfdinaaa.PF
