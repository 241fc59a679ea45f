import Derived.Test.YtofkmapokdcphaaSt4
namespace Go.Proofs.Ytofkmapokdcphaa
open Go Go.RowKit Go.Maps Go.My Go.Shelf

set_option maxRecDepth 100000 in
set_option maxHeartbeats 2000000 in
theorem remove24 (v : Value) (xs : List Nd) (d : Int) (w : World) (hm : xs.length ≤ 100) (hd : (Lit.int .i64 d).wf = true) (h : TreeAt w v xs) :
    Calls Try.prog 24 #[v, .int .i64 d] w fun e w' => ∃ v', e = .returned (.tuple #[v', .int .i64 (removeL xs d).2]) ∧ TreeAt w' v' (removeL xs d).1 ∧ Below w.heap.size w w' := by
  have KC := Lib.hid fun W v (hv : TreeAt W v xs) => check18 v xs W hm hv
  have KD1 := Lib.hid fun (a : 0 ≤ d) (b : d < 512) W => device_yes d W a b
  have KD2 := Lib.hid fun (a : d < 0 ∨ 512 ≤ d) W => device_no d W a
  have KB := Lib.hid fun W v (hv : TreeAt W v xs) => blank44 v xs (512 + d) W hm hv
  have KW := Lib.hid fun (a : 0 ≤ d) (b : d < 512) W v (hv : TreeAt W v xs) => without49 v xs d W hm a b hv
  have HT := Lib.hid h
  obtain ⟨a0, c0, rfl⟩ := h.form
  have hbt := (Boxed.new w 24 (.slice a0 xs.length c0)).alloc b24
  have hbr := Boxed.new (w.alloc (.cells #[.slice a0 xs.length c0] 24)) 24 (.slice none 0 0)
  simp only [World.size_alloc] at hbr
  have hB0 : Below w.heap.size w ((w.alloc (.cells #[.slice a0 xs.length c0] 24)).alloc b24) := ((Below.refl _ _).alloc (Nat.le_refl _) _).alloc (by simp) _
  have hT0 := Lib.hid ((HT.out.box (.cells #[.slice a0 xs.length c0] 24)).box b24)
  have hbt1 := hbt.cell
  rcases checkL_or xs with hc | hc
  case inr =>
    rw [hc] at KC
    have hr : removeL xs d = ([], 210) := by unfold removeL; rw [if_pos (by simp [hc])]
    rw [hr]
    clear hc hr h hm
    generalize xs.length = n at *
    go_enter Try.func24, Try.ntmps24
    go_wp2_with (go_at_call 18; refine (KC.out _ _ hT0.out).mono ?_; rintro e w1 ⟨rfl, hB1⟩; have hb1 : Boxed w1 (w.heap.size + 1) 24 (.slice none 0 0) := (hB1.block _ (by simp)).trans hbr; have c1 := hb1.cell; have f1 := hb1.frozen)
    refine bodyPost_ret (results_tree rfl _ _ (w.heap.size + 1) _ rfl (hb1.set _)) rfl ?_
    exact ⟨_, rfl, treeAt_nil _, (hB0.trans (hB1.mono (by simp; omega))).setCell (p := ⟨w.heap.size + 1, 0, none⟩) (by simp) _⟩
  case inl =>
    rw [hc] at KC
    by_cases hdd : d < 0 ∨ 512 ≤ d
    · have hr : removeL xs d = ([], 200) := by unfold removeL; rw [if_neg (by simp [hc]), if_pos (by omega)]
      rw [hr]
      have HD := Lib.hid hdd
      clear hc hr h hm hdd
      generalize xs.length = n at *
      go_enter Try.func24, Try.ntmps24
      go_wp2_with (first
        | (go_at_call 18; refine (KC.out _ _ hT0.out).mono ?_; rintro e w1 ⟨rfl, hB1⟩; have hb1 : Boxed w1 (w.heap.size + 1) 24 (.slice none 0 0) := (hB1.block _ (by simp)).trans hbr; have c1 := hb1.cell; have f1 := hb1.frozen)
        | (go_at_call 47; refine (KD2.out HD.out _).mono ?_; rintro e w2 ⟨rfl, rfl⟩))
      refine bodyPost_ret (results_tree rfl _ _ (w.heap.size + 1) _ rfl (hb1.set _)) rfl ?_
      exact ⟨_, rfl, treeAt_nil _, (hB0.trans (hB1.mono (by simp; omega))).setCell (p := ⟨w.heap.size + 1, 0, none⟩) (by simp) _⟩
    · have hd0 : 0 ≤ d := by omega
      have hd1 : d < 512 := by omega
      have HD := Lib.hid (And.intro hd0 hd1)
      have hd2 : d ≤ 511 := by omega
      cases ho : (ofF xs (512 + d)).isSome with
      | false =>
        have hr : removeL xs d = ([], 200) := by
          unfold removeL
          rw [if_neg (by simp [hc]), if_pos (.inr (.inr (by
            cases hx : ofF xs (512 + d) with
            | none => rfl
            | some y => rw [hx] at ho; cases ho)))]
        rw [hr]
        rw [ho] at KB
        clear hc hr h hm hdd ho
        generalize xs.length = n at *
        go_enter Try.func24, Try.ntmps24
        go_wp2_with (first
          | (go_at_call 18; refine (KC.out _ _ hT0.out).mono ?_; rintro e w1 ⟨rfl, hB1⟩; have hb1 : Boxed w1 (w.heap.size + 1) 24 (.slice none 0 0) := (hB1.block _ (by simp)).trans hbr; have c1 := cell_kept hbt1 hB1; have hT1 := Lib.hid (hT0.out.below hB1))
          | (go_at_call 47; refine (KD1.out HD.out.1 HD.out.2 _).mono ?_; rintro e w2 ⟨rfl, rfl⟩)
          | (go_at_call 44; refine (KB.out _ _ hT1.out).mono ?_; rintro e w3 ⟨rfl, hB3⟩; have hb3 : Boxed w3 (w.heap.size + 1) 24 (.slice none 0 0) := (hB3.block _ hb1.lt).trans hb1; have c3 := hb3.cell; have f3 := hb3.frozen; have hs3 := (hB0.trans (hB1.mono (by simp; omega))).trans (hB3.mono (Nat.le_trans (by simp; omega) hB1.size))))
        refine bodyPost_ret (results_tree rfl _ _ (w.heap.size + 1) _ rfl (hb3.set _)) rfl ?_
        exact ⟨_, rfl, treeAt_nil _, hs3.setCell (p := ⟨w.heap.size + 1, 0, none⟩) (by simp) _⟩
      | true =>
        have hr : removeL xs d = (xs.filter fun n => !undB (512 + d) n.1, 0) := by
          have hne : ¬ ofF xs (512 + d) = none := fun e => by rw [e] at ho; cases ho
          unfold removeL
          rw [if_neg (by simp [hc]), if_neg (by rintro (q | q | q); omega; omega; exact hne q), filt_und hd0 hd1, ← treeL_chF hc hd0 hd1]
        rw [hr]
        rw [ho] at KB
        generalize (xs.filter fun n => !undB (512 + d) n.1) = fx at *
        clear hc hr h hm hdd ho
        generalize xs.length = n at *
        go_enter Try.func24, Try.ntmps24
        go_wp2_with (first
          | (go_at_call 18; refine (KC.out _ _ hT0.out).mono ?_; rintro e w1 ⟨rfl, hB1⟩; have hb1 : Boxed w1 (w.heap.size + 1) 24 (.slice none 0 0) := (hB1.block _ (by simp)).trans hbr; have c1 := cell_kept hbt1 hB1; have hT1 := Lib.hid (hT0.out.below hB1))
          | (go_at_call 47; refine (KD1.out HD.out.1 HD.out.2 _).mono ?_; rintro e w2 ⟨rfl, rfl⟩)
          | (go_at_call 44; refine (KB.out _ _ hT1.out).mono ?_; rintro e w3 ⟨rfl, hB3⟩; have c3 := cell_kept c1 hB3; have hT3 := Lib.hid (hT1.out.below hB3))
          | (go_at_call 49; refine (KW.out HD.out.1 HD.out.2 _ _ hT3.out).mono ?_; rintro e w4 ⟨v4, rfl, hT4, hB4⟩; have hB14 := below_step hB3 hB3.size hB4; have hb4 : Boxed w4 (w.heap.size + 1) 24 (.slice none 0 0) := (hB14.block _ hb1.lt).trans hb1; have c4 := hb4.cell; have f4 := hb4.frozen; have hs4 := (hB0.trans (hB1.mono (by simp; omega))).trans (hB14.mono (Nat.le_trans (by simp; omega) hB1.size)); obtain ⟨a4, k4, rfl⟩ := hT4.form))
        refine bodyPost_ret (results_tree rfl _ _ (w.heap.size + 1) _ rfl (hb4.set _)) rfl ?_
        exact ⟨_, rfl, hT4.store hb4, hs4.setCell (p := ⟨w.heap.size + 1, 0, none⟩) (by simp) _⟩

theorem lvl_tab' : ∀ d : Nat, d < 512 → ∀ k : Nat, k < 10 → lvl (((512 + d) / 2 ^ k : Nat) : Int) = k := of_decide_eq_true (by kernel_rfl)

/-- What the reference's Renew lays into the tree, up to number k. -/
noncomputable def renUp (xs : List Nd) (d : Nat) (ps : List Int) : Nat → List Nd
  | 0 => xs.filter fun n => !undB (512 + d) n.1
  | k + 1 => insL ((((512 + d) / 2 ^ k : Nat) : Int), ps.getD k 0) (renUp xs d ps k)
theorem renUp_length (xs : List Nd) (d : Nat) (ps : List Int) : ∀ k, (renUp xs d ps k).length ≤ xs.length + k
  | 0 => List.length_filter_le _ _
  | k + 1 => by
    have := renUp_length xs d ps k
    unfold renUp
    rw [insL_length]
    omega
theorem renUp_mem {xs : List Nd} (h : checkL xs = 0) {d : Nat} (hd : d < 512) (ps : List Int) : ∀ k, k ≤ 10 → (((renUp xs d ps k).map (·.1)).Pairwise (· < ·)) ∧ ∀ x c, (x, c) ∈ renUp xs d ps k ↔ (chF (ofF xs) d x = some c ∨ ∃ j, j < k ∧ x = (((512 + d) / 2 ^ j : Nat) : Int) ∧ c = ps.getD j 0)
  | 0, _ => by
    unfold renUp
    rw [filt_und (by omega) (by omega)]
    refine ⟨filt_sorted h d, fun x c => ?_⟩
    rw [filt_mem h]
    constructor
    · exact .inl
    · rintro (h | ⟨j, hj, _⟩)
      · exact h
      · omega
  | k + 1, hk => by
    obtain ⟨h1, h2⟩ := renUp_mem h hd ps k (by omega)
    have hne : ∀ m ∈ renUp xs d ps k, m.1 ≠ (((512 + d) / 2 ^ k : Nat) : Int) := by
      rintro ⟨x, c⟩ hm e
      simp only at e
      rcases (h2 x c).1 hm with h3 | ⟨j, hj, e2, _⟩
      · unfold chF chL at h3
        rw [e, if_pos (List.mem_of_getElem? (anc_at' d k (by omega)))] at h3
        cases h3
      · have e3 := lvl_tab' d hd j (by omega)
        have e4 := lvl_tab' d hd k (by omega)
        rw [← e2, e, e4] at e3
        omega
    unfold renUp
    refine ⟨insL_sorted h1 hne, fun x c => ?_⟩
    rw [mem_insL, h2]
    constructor
    · rintro (q | q | ⟨j, hj, r⟩)
      · cases q; exact .inr ⟨k, by omega, rfl, rfl⟩
      · exact .inl q
      · exact .inr ⟨j, by omega, r⟩
    · rintro (q | ⟨j, hj, r1, r2⟩)
      · exact .inr (.inl q)
      · by_cases hjk : j = k
        · subst hjk; exact .inl (by rw [r1, r2])
        · exact .inr (.inr ⟨j, by omega, r1, r2⟩)
end Go.Proofs.Ytofkmapokdcphaa
