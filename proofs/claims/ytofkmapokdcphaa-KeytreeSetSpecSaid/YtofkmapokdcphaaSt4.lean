import Derived.Test.YtofkmapokdcphaaSt3
namespace Go.Proofs.Ytofkmapokdcphaa
open Go Go.RowKit Go.Maps Go.My Go.Shelf

theorem filt_und {xs : List Nd} {d : Int} (h0 : 0 ≤ d) (h1 : d < 512) : (xs.filter fun n => !undB (512 + d) n.1) = xs.filter fun n => !decide (n.1 ∈ anc d) := by
  congr 1
  funext n
  congr 1
  rw [Bool.eq_iff_iff, undB_iff, und_anc (by omega) (by omega), show 512 + d - 512 = d by omega, decide_eq_true_iff]

set_option maxRecDepth 100000 in
set_option maxHeartbeats 2000000 in
theorem set22 (v : Value) (xs : List Nd) (d p : Int) (w : World) (hm : xs.length ≤ 100) (hd : (Lit.int .i64 d).wf = true) (hp : (Lit.int .i64 p).wf = true) (h : TreeAt w v xs) :
    Calls Try.prog 22 #[v, .int .i64 d, .int .i64 p] w fun e w' => ∃ v', e = .returned (.tuple #[v', .int .i64 (setL xs d p).2]) ∧ TreeAt w' v' (setL xs d p).1 ∧ Below w.heap.size w w' := by
  have KC := Lib.hid fun W v (hv : TreeAt W v xs) => check18 v xs W hm hv
  have KD1 := Lib.hid fun (a : 0 ≤ d) (b : d < 512) W => device_yes d W a b
  have KD2 := Lib.hid fun (a : d < 0 ∨ 512 ≤ d) W => device_no d W a
  have K4 := Lib.hid fun W => check04_any p W
  have KW := Lib.hid fun (a : 0 ≤ d) (b : d < 512) W v (hv : TreeAt W v xs) => without49 v xs d W hm a b hv
  have HT := Lib.hid h
  obtain ⟨a0, c0, rfl⟩ := h.form
  have hbt := (Boxed.new w 24 (.slice a0 xs.length c0)).alloc b24
  have hbr := Boxed.new (w.alloc (.cells #[.slice a0 xs.length c0] 24)) 24 (.slice none 0 0)
  simp only [World.size_alloc] at hbr
  have hB0 : Below w.heap.size w ((w.alloc (.cells #[.slice a0 xs.length c0] 24)).alloc b24) := ((Below.refl _ _).alloc (Nat.le_refl _) _).alloc (by simp) _
  have hT0 := Lib.hid ((HT.out.box (.cells #[.slice a0 xs.length c0] 24)).box b24)
  rcases checkL_or xs with hc | hc
  case inr =>
    rw [hc] at KC
    have hr : setL xs d p = ([], 210) := by unfold setL; rw [if_pos (by simp [hc])]
    rw [hr]
    clear hc hr h hm
    generalize xs.length = n at *
    go_enter Try.func22, Try.ntmps22
    go_wp2_with (go_at_call 18; refine (KC.out _ _ hT0.out).mono ?_; rintro e w1 ⟨rfl, hB1⟩; have hb1 : Boxed w1 (w.heap.size + 1) 24 (.slice none 0 0) := (hB1.block _ (by simp)).trans hbr; have c1 := hb1.cell; have f1 := hb1.frozen)
    refine bodyPost_ret (results_tree rfl _ _ (w.heap.size + 1) _ rfl (hb1.set _)) rfl ?_
    exact ⟨_, rfl, treeAt_nil _, (hB0.trans (hB1.mono (by simp; omega))).setCell (p := ⟨w.heap.size + 1, 0, none⟩) (by simp) _⟩
  case inl =>
    rw [hc] at KC
    by_cases hdd : d < 0 ∨ 512 ≤ d
    · have hr : setL xs d p = ([], 200) := by unfold setL; rw [if_neg (by simp [hc]), if_pos hdd]
      rw [hr]
      have HD := Lib.hid hdd
      clear hc hr h hm hdd
      generalize xs.length = n at *
      go_enter Try.func22, Try.ntmps22
      go_wp2_with (first
        | (go_at_call 18; refine (KC.out _ _ hT0.out).mono ?_; rintro e w1 ⟨rfl, hB1⟩; have hb1 : Boxed w1 (w.heap.size + 1) 24 (.slice none 0 0) := (hB1.block _ (by simp)).trans hbr; have c1 := hb1.cell; have f1 := hb1.frozen)
        | (go_at_call 47; refine (KD2.out HD.out _).mono ?_; rintro e w2 ⟨rfl, rfl⟩))
      refine bodyPost_ret (results_tree rfl _ _ (w.heap.size + 1) _ rfl (hb1.set _)) rfl ?_
      exact ⟨_, rfl, treeAt_nil _, (hB0.trans (hB1.mono (by simp; omega))).setCell (p := ⟨w.heap.size + 1, 0, none⟩) (by simp) _⟩
    · have hd0 : 0 ≤ d := by omega
      have hd1 : d < 512 := by omega
      have hck : chk p = 0 ∨ chk p = 40 := by unfold chk; split <;> simp
      rcases hck with h4 | h4
      case inr =>
        rw [h4] at K4
        have hr : setL xs d p = ([], 50) := by unfold setL; rw [if_neg (by simp [hc]), if_neg hdd, if_pos (by simp [h4])]
        rw [hr]
        have HD := Lib.hid (And.intro hd0 hd1)
        clear hc hr h hm hdd hd0 hd1 h4
        generalize xs.length = n at *
        go_enter Try.func22, Try.ntmps22
        go_wp2_with (first
          | (go_at_call 18; refine (KC.out _ _ hT0.out).mono ?_; rintro e w1 ⟨rfl, hB1⟩; have hb1 : Boxed w1 (w.heap.size + 1) 24 (.slice none 0 0) := (hB1.block _ (by simp)).trans hbr; have c1 := hb1.cell; have f1 := hb1.frozen)
          | (go_at_call 47; refine (KD1.out HD.out.1 HD.out.2 _).mono ?_; rintro e w2 ⟨rfl, rfl⟩)
          | (go_at_call 40; refine (K4.out _).mono ?_; rintro e w2 ⟨rfl, rfl⟩))
        refine bodyPost_ret (results_tree rfl _ _ (w.heap.size + 1) _ rfl (hb1.set _)) rfl ?_
        exact ⟨_, rfl, treeAt_nil _, (hB0.trans (hB1.mono (by simp; omega))).setCell (p := ⟨w.heap.size + 1, 0, none⟩) (by simp) _⟩
      case inl =>
        rw [h4] at K4
        have hr : setL xs d p = (insL (512 + d, p) (xs.filter fun n => !undB (512 + d) n.1), 0) := by
          unfold setL
          rw [if_neg (by simp [hc]), if_neg hdd, if_neg (by simp [h4]), filt_und hd0 hd1, set_eq hc hd0 hd1 h4]
          rfl
        rw [hr]
        have hfl : (xs.filter fun n => !undB (512 + d) n.1).length ≤ 100 := Nat.le_trans (List.length_filter_le _ _) hm
        have KI := Lib.hid fun W v (hv : TreeAt W v (xs.filter fun n => !undB (512 + d) n.1)) => with48 v _ (512 + d) p W hfl (wf_small (by omega) (by omega)) hp hv
        have HD := Lib.hid (And.intro hd0 hd1)
        have hbt1 := hbt.cell
        generalize (xs.filter fun n => !undB (512 + d) n.1) = fx at *
        have hd2 : d ≤ 511 := by omega
        clear hc hr h hm hdd h4
        generalize xs.length = n at *
        go_enter Try.func22, Try.ntmps22
        go_wp2_with (first
          | (go_at_call 18; refine (KC.out _ _ hT0.out).mono ?_; rintro e w1 ⟨rfl, hB1⟩; have hb1 : Boxed w1 (w.heap.size + 1) 24 (.slice none 0 0) := (hB1.block _ (by simp)).trans hbr; have c1 := cell_kept hbt1 hB1; have hT1 := Lib.hid (hT0.out.below hB1))
          | (go_at_call 47; refine (KD1.out HD.out.1 HD.out.2 _).mono ?_; rintro e w2 ⟨rfl, rfl⟩)
          | (go_at_call 40; refine (K4.out _).mono ?_; rintro e w2 ⟨rfl, rfl⟩)
          | (go_at_call 49; refine (KW.out HD.out.1 HD.out.2 _ _ hT1.out).mono ?_; rintro e w3 ⟨v3, rfl, hT3, hB3⟩)
          | (go_at_call 48; refine (KI.out _ _ hT3).mono ?_; rintro e w4 ⟨v4, rfl, hT4, hB4⟩; have hB14 := below_step hB3 hB3.size hB4; have hb4 : Boxed w4 (w.heap.size + 1) 24 (.slice none 0 0) := (hB14.block _ hb1.lt).trans hb1; have c4 := hb4.cell; have f4 := hb4.frozen; have hs4 := (hB0.trans (hB1.mono (by simp; omega))).trans (hB14.mono (Nat.le_trans (by simp; omega) hB1.size)); obtain ⟨a4, k4, rfl⟩ := hT4.form))
        refine bodyPost_ret (results_tree rfl _ _ (w.heap.size + 1) _ rfl (hb4.set _)) rfl ?_
        exact ⟨_, rfl, hT4.store hb4, hs4.setCell (p := ⟨w.heap.size + 1, 0, none⟩) (by simp) _⟩
end Go.Proofs.Ytofkmapokdcphaa
