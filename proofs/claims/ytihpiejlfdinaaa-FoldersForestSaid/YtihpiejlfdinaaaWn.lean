import Derived.Test.YtihpiejlfdinaaaWm
/-
  FoldersFindSpec, for every list and path.
-/
namespace Go.Proofs.Ytihpiejlfdinaaa.PF
open Go Go.RowKit Go.Maps Go.My Go.Proofs.YtihpiejlfdinaaaW.PrintWords

set_option maxRecDepth 100000 in
set_option maxHeartbeats 1000000 in
theorem find7_few (A0 A1 : Option Addr) (n c0 m c1 : Nat) (w : World)
    (HS : Hid (∀ W : World, Calls Try.prog 10 #[] W fun e w' => e = .returned (.bool true) ∧ Below W.heap.size W w'))
    (HFew : Hid (∀ W : World, Below w.heap.size w W → Calls Try.prog 11 #[.slice A0 n c0, .slice none 0 0] W fun e w' => e = .returned (.bool false) ∧ Below W.heap.size W w')) :
    Calls Try.prog 7 #[.slice A0 n c0, .slice A1 m c1] w fun e w' => e = .returned (.bool true) ∧ Below w.heap.size w w' := by
  go_enter Try.func7, Try.ntmps7
  go_wp2_with (first
    | (go_at_call 10; refine (HS.out _).mono ?_; rintro e w1 ⟨rfl, hB1⟩; have HB1 := Lib.hid hB1; clear hB1)
    | (go_at_call 11; refine (HFew.out _ HB1.out).mono ?_; rintro e w2 ⟨rfl, hB2⟩; have HB2 := Lib.hid (below_go HB1.out hB2); clear hB2))
  go_ret
  exact ⟨rfl, HB2.out⟩
set_option maxRecDepth 100000 in
set_option maxHeartbeats 1000000 in
theorem find7_long (A0 A1 : Option Addr) (n c0 m c1 : Nat) (w : World) (hm : 20 < m)
    (HS : Hid (∀ W : World, Calls Try.prog 10 #[] W fun e w' => e = .returned (.bool true) ∧ Below W.heap.size W w'))
    (HFew : Hid (∀ W : World, Below w.heap.size w W → Calls Try.prog 11 #[.slice A0 n c0, .slice none 0 0] W fun e w' => e = .returned (.bool true) ∧ Below W.heap.size W w')) :
    Calls Try.prog 7 #[.slice A0 n c0, .slice A1 m c1] w fun e w' => e = .returned (.bool true) ∧ Below w.heap.size w w' := by
  have d0 : decide (20 < (m : Int)) = true := decide_eq_true (by omega)
  go_enter Try.func7, Try.ntmps7
  go_wp2_with (first
    | (go_at_call 10; refine (HS.out _).mono ?_; rintro e w1 ⟨rfl, hB1⟩; have HB1 := Lib.hid hB1; clear hB1)
    | (go_at_call 11; refine (HFew.out _ HB1.out).mono ?_; rintro e w2 ⟨rfl, hB2⟩; have HB2 := Lib.hid (below_go HB1.out hB2); clear hB2))
  go_ret
  exact ⟨rfl, HB2.out⟩

theorem few_calls {A : Option Addr} {c : Nat} {l : List S29} {w : World} (h : Kd.C k29 w A l.length l) (hc : l.length ≤ c) (W : World) (hb : Below w.heap.size w W) :
    Calls Try.prog 11 #[.slice A l.length c, .slice none 0 0] W fun e w' => e = .returned (.bool (decide (l.length ≤ 30))) ∧ Below W.heap.size W w' := by
  refine (chartroomlaw27_few.calls A c l none 0 [] (decide (l.length ≤ 30)) W (Kd.C_below h hb) hc (Kd.C_nil k29 W) (Nat.le_refl _) ?_).mono fun e w' h => ⟨h.1, h.2.below⟩
  rw [few_f]
  congr 1
  exact Bool.and_true _
theorem sane_calls (W : World) : Calls Try.prog 10 #[] W fun e w' => e = .returned (.bool true) ∧ Below W.heap.size W w' := chartroomlaw27_sane.calls 9 true W sane9

theorem findSpec_any (A0 : Option Addr) (c0 : Nat) (l : List S29) (A1 : Option Addr) (c1 : Nat) (ns : List ByteArray) (w : World) (hr0 : Kd.C k29 w A0 l.length l) (hc0 : l.length ≤ c0) (hr1 : Kd.C Kd.string w A1 ns.length ns) (hc1 : ns.length ≤ c1) :
    Calls Try.prog 7 #[.slice A0 l.length c0, .slice A1 ns.length c1] w fun e w' => e = .returned (.bool true) ∧ Below w.heap.size w w' := by
  by_cases hl : l.length ≤ 30
  case neg =>
    refine find7_few A0 A1 l.length c0 ns.length c1 w sane_calls fun W hb => ?_
    have := few_calls hr0 hc0 W hb
    rw [decide_eq_false hl] at this
    exact this
  have hfew : ∀ W : World, Below w.heap.size w W → Calls Try.prog 11 #[.slice A0 l.length c0, .slice none 0 0] W fun e w' => e = .returned (.bool true) ∧ Below W.heap.size W w' := fun W hb => by
    have := few_calls hr0 hc0 W hb
    rw [decide_eq_true hl] at this
    exact this
  by_cases hn : ns.length ≤ 20
  case neg => exact find7_long A0 A1 l.length c0 ns.length c1 w (by omega) sane_calls hfew
  have hF := growF_inv l
  have hwf : ∀ x, (growF l x).isSome = true → (Lit.int .i64 x).wf = true := fun x hx => by
    obtain ⟨q, hq⟩ := Option.isSome_iff_exists.1 hx
    obtain ⟨_, h0, h1, _⟩ := hF.keys x q hq
    exact wf_small (by omega) (by omega)
  have hfind : ∀ (W : World) (A : Option Addr) (c : Nat) (xs : List ByteArray), Below w.heap.size w W → xs.length ≤ c → Kd.C Kd.string W A xs.length xs → Calls Try.prog 24 #[.slice A0 l.length c0, .slice A xs.length c] W fun e w' => e = .returned (.tuple #[.int .i64 (findR (treeP (growF l)) xs).1, .bool (findR (treeP (growF l)) xs).2]) ∧ Below W.heap.size W w' := fun W A c xs hb hc hC => by
    refine folders_Find.calls A0 c0 l A c xs _ _ W (Kd.C_below hr0 hb) hc0 hC hc ?_
    unfold folders_Find.f
    rw [if_pos (by omega)]
  have href : ∀ (W : World) (A : Option Addr) (c : Nat) (xs : List ByteArray), Below w.heap.size w W → xs.length ≤ c → xs.length ≤ 100 → Kd.C Kd.string W A xs.length xs → Calls Try.prog 25 #[.slice A0 l.length c0, .slice A xs.length c] W fun e w' => e = .returned (.tuple #[.int .i64 (findR (treeP (growF l)) xs).1, .bool (findR (treeP (growF l)) xs).2]) ∧ Below W.heap.size W w' := fun W A c xs hb hc h100 hC => by
    refine chartroomref27_Find.calls 6200 A0 c0 l A c xs _ _ W (Kd.C_below hr0 hb) hc0 hC hc ?_
    rw [refFind_f (by omega) xs h100 (by omega)]
  refine find7_walk A0 A1 l.length c0 ns.length c1 w (treeP (growF l)) (upL (growF l)) (findR (treeP (growF l))) (findR (treeP (growF l)) ns).1 (findR (treeP (growF l)) ns).2 (treeP_length _) (fun y hy => hwf _ (by rw [(mem_treeP hF).1 hy]; rfl)) (fun x => hF.up_ends x) (fun x y hy => ?_) hn
    sane_calls hfew (fun W hb => hfind W A1 c1 ns hb hc1 (Kd.C_below hr1 hb)) (fun W hb => href W A1 c1 ns hb hc1 (by omega) (Kd.C_below hr1 hb)) ?_ ?_ ?_ ?_
  · obtain ⟨j, hj⟩ := (mem_upL hF).1 hy
    exact hwf y (steps_placed hF hj).2
  · intro W A k c xs hb hk hc h100 hC
    subst hk
    exact hfind W A c xs hb hc hC
  · intro W A k c xs hb hk hc h100 hC
    subst hk
    exact href W A c xs hb hc h100 hC
  · intro W hb
    refine (chartroomref27_Tree.calls 400 A0 c0 l (treeP (growF l)) W (Kd.C_below hr0 hb) hc0 (refTree_f (by omega) (by omega))).mono ?_
    rintro e w' ⟨v, rfl, hR, hB⟩
    obtain ⟨A, c, rfl⟩ := Kd.V_slice hR
    exact ⟨A, c, rfl, (Kd.V_reads' hR).2.2, hB⟩
  · intro W x hb hx
    refine (chartroomref27_Above.calls 400 A0 c0 l x (upL (growF l) x) W (Kd.C_below hr0 hb) hc0 (refAbove_f (by omega) x (by omega))).mono ?_
    rintro e w' ⟨v, rfl, hR, hB⟩
    obtain ⟨A, c, rfl, _, hC⟩ := Kd.R_reads hR
    exact ⟨A, c, rfl, hC, hB⟩
end Go.Proofs.Ytihpiejlfdinaaa.PF
