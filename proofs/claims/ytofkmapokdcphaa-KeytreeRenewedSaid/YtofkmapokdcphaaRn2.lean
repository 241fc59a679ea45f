import Derived.Test.YtofkmapokdcphaaRn
namespace Go.Proofs.Ytofkmapokdcphaa
open Go Go.RowKit Go.Maps Go.My Go.Shelf

set_option maxRecDepth 100000 in
set_option maxHeartbeats 2000000 in
theorem rn_many (v : Value) (xs : List Nd) (q : Nat) (n2 : Int) (w : World) (hm : ¬ xs.length ≤ 80) (h : TreeAt w v xs) :
    Calls Try.prog 7 #[v, .int .u8 q, .int .i64 n2] w fun e w' => e = .returned (.bool true) ∧ Below w.heap.size w w' := by
  have KF := Lib.hid fun W v (hv : TreeAt W v xs) => few_any v xs W hv
  have hd : decide (xs.length ≤ 80) = false := decide_eq_false hm
  rw [hd] at KF
  have HT := Lib.hid h
  obtain ⟨a0, c0, rfl⟩ := h.form
  have hbx := Boxed.new w 24 (.slice a0 xs.length c0)
  have hB0 : Below w.heap.size w (w.alloc (.cells #[.slice a0 xs.length c0] 24)) := (Below.refl _ _).alloc (Nat.le_refl _) _
  clear h hd
  generalize hn : xs.length = n at *
  go_enter Try.func7, Try.ntmps7
  go_wp2_with (first
    | (go_at_call 10; refine (sane_any _).mono ?_; rintro e w1 ⟨rfl, hB1⟩; have hB1' := below_step hB0 hB0.size hB1; have x1 := cell_kept hbx.cell hB1)
    | (go_at_call 11; refine (KF.out w1 _ (HT.out.below hB1')).mono ?_; rintro e w2 ⟨rfl, hB2⟩; have hB2' := below_step hB1' hB1'.size hB2))
  go_ret
  exact ⟨rfl, hB2'⟩

set_option maxRecDepth 100000 in
set_option maxHeartbeats 2000000 in
theorem rn_bad (v : Value) (xs : List Nd) (q : Nat) (n2 : Int) (w : World) (hm : xs.length ≤ 80) (h : TreeAt w v xs) (hc : checkL xs ≠ 0) :
    Calls Try.prog 7 #[v, .int .u8 q, .int .i64 n2] w fun e w' => e = .returned (.bool true) ∧ Below w.heap.size w w' := by
  have KF := Lib.hid fun W v (hv : TreeAt W v xs) => few_any v xs W hv
  have KC := Lib.hid fun W v (hv : TreeAt W v xs) => check17_any v xs W (by omega) hv
  have hd : decide (xs.length ≤ 80) = true := decide_eq_true hm
  rw [hd] at KF
  rw [(checkL_or xs).resolve_left hc] at KC
  have HT := Lib.hid h
  obtain ⟨a0, c0, rfl⟩ := h.form
  have hbx := Boxed.new w 24 (.slice a0 xs.length c0)
  have hB0 : Below w.heap.size w (w.alloc (.cells #[.slice a0 xs.length c0] 24)) := (Below.refl _ _).alloc (Nat.le_refl _) _
  clear h hd hc
  generalize hn : xs.length = n at *
  go_enter Try.func7, Try.ntmps7
  go_wp2_with (first
    | (go_at_call 10; refine (sane_any _).mono ?_; rintro e w1 ⟨rfl, hB1⟩; have hB1' := below_step hB0 hB0.size hB1; have x1 := cell_kept hbx.cell hB1)
    | (go_at_call 11; refine (KF.out w1 _ (HT.out.below hB1')).mono ?_; rintro e w2 ⟨rfl, hB2⟩; have hB2' := below_step hB1' hB1'.size hB2; have x2 := cell_kept x1 hB2; have T2x := HT.out.below hB2'; have HT2 := Lib.hid T2x)
    | (go_at_call 17; refine (KC.out w2 _ HT2.out).mono ?_; rintro e w3 ⟨rfl, hB3⟩; have hB3' := below_step hB2' hB2'.size hB3))
  go_ret
  exact ⟨rfl, hB3'⟩

set_option maxRecDepth 100000 in
set_option maxHeartbeats 2000000 in
theorem rn_nil (v : Value) (q : Nat) (n2 : Int) (w : World) (h : TreeAt w v []) :
    Calls Try.prog 7 #[v, .int .u8 q, .int .i64 n2] w fun e w' => e = .returned (.bool true) ∧ Below w.heap.size w w' := by
  have KF := Lib.hid fun W v (hv : TreeAt W v []) => few_any v [] W hv
  have KC := Lib.hid fun W v (hv : TreeAt W v []) => check17_any v [] W (by decide) hv
  have KM := Lib.hid fun W v (hv : TreeAt W v []) => members_any v [] W (by decide) hv
  rw [show decide (([] : List Nd).length ≤ 80) = true from rfl] at KF
  rw [show checkL [] = 0 from rfl] at KC
  rw [show memL [] = [] by kernel_rfl] at KM
  have HT := Lib.hid h
  obtain ⟨a0, c0, rfl⟩ := h.form
  simp only [List.length_nil] at *
  have hbx := Boxed.new w 24 (.slice a0 0 c0)
  have hB0 : Below w.heap.size w (w.alloc (.cells #[.slice a0 0 c0] 24)) := (Below.refl _ _).alloc (Nat.le_refl _) _
  clear h
  go_enter Try.func7, Try.ntmps7
  go_wp2_with (first
    | (go_at_call 10; refine (sane_any _).mono ?_; rintro e w1 ⟨rfl, hB1⟩; have hB1' := below_step hB0 hB0.size hB1; have x1 := cell_kept hbx.cell hB1)
    | (go_at_call 11; refine (KF.out w1 _ (HT.out.below hB1')).mono ?_; rintro e w2 ⟨rfl, hB2⟩; have hB2' := below_step hB1' hB1'.size hB2; have x2 := cell_kept x1 hB2; have T2x := HT.out.below hB2'; have HT2 := Lib.hid T2x)
    | (go_at_call 17; refine (KC.out w2 _ HT2.out).mono ?_; rintro e w3 ⟨rfl, hB3⟩; have hB3' := below_step hB2' hB2'.size hB3; have x3 := cell_kept x2 hB3; have T3x := HT.out.below hB3'; have HT3 := Lib.hid T3x)
    | (go_at_call 19; refine (KM.out w3 _ HT3.out).mono ?_; rintro e w4 ⟨vM, rfl, hIM, hB4⟩; have hB4' := below_step hB3' hB3'.size hB4; have x4 := cell_kept x3 hB4; obtain ⟨aM, cM, rfl⟩ := hIM.form; simp only [List.length_nil]))
  go_ret
  exact ⟨rfl, hB4'⟩


theorem renewed_any (v : Value) (xs : List Nd) (q : Nat) (hq : q < 256) (n2 : Int) (w : World) (h : TreeAt w v xs) :
    Calls Try.prog 7 #[v, .int .u8 q, .int .i64 n2] w fun e w' => e = .returned (.bool true) ∧ Below w.heap.size w w' := by
  by_cases hm : xs.length ≤ 80
  case neg => exact rn_many v xs q n2 w hm h
  by_cases hc : checkL xs = 0
  case neg => exact rn_bad v xs q n2 w hm h hc
  cases hM : memL xs with
  | nil =>
    obtain rfl := memL_nil hc hM
    exact rn_nil v q n2 w h
  | cons m0 ms =>
    have hlen : 0 < (memL xs).length := by rw [hM]; simp
    clear hM
    have hlt := Nat.mod_lt q hlen
    obtain ⟨d, hd⟩ : ∃ d, (memL xs)[q % (memL xs).length]? = some d := ⟨_, List.getElem?_eq_getElem hlt⟩
    have hdm := List.mem_of_getElem? hd
    obtain ⟨d0, d1⟩ := memL_range xs d hdm
    obtain ⟨dn, rfl⟩ := Int.eq_ofNat_of_zero_le d0
    obtain ⟨bn, hbn, hbits⟩ := and1023 n2
    have hps : ∀ k, k < 10 → ((List.range 10).map fun k => pw 4 (bn * 16 + k))[k]? = some (pw 4 (bn * 16 + k)) := fun k hk => by
      rw [List.getElem?_map, List.getElem?_range hk]; rfl
    have hmem : ∀ p ∈ (List.range 10).map fun k => pw 4 (bn * 16 + k), ∃ k, p = pw 4 k := fun p hp => by
      obtain ⟨k, _, rfl⟩ := List.mem_map.1 hp
      exact ⟨_, rfl⟩
    have hpl : ((List.range 10).map fun k => pw 4 (bn * 16 + k)).length = 10 := by rw [List.length_map, List.length_range]
    generalize (List.range 10).map (fun k => pw 4 (bn * 16 + k)) = ps at *
    obtain ⟨X, Y, hR⟩ := ren_facts hm hc rfl hdm (by omega) hpl (fun p hp => by
      obtain ⟨k, rfl⟩ := hmem p hp
      exact chk_in (base_in k))
    exact rn_walk v xs X Y (memL xs) ps dn bn n2 _ _ q w hm h hc rfl rfl hlen hq hd (by omega) hbn hbits hpl hps (hps 0 (by omega)) (fun p hp => by
      obtain ⟨k, rfl⟩ := hmem p hp
      have := pw_bounds 4 k
      exact wf_small (by omega) (by omega)) hR
end Go.Proofs.Ytofkmapokdcphaa
