import Derived.Test.YtihpiejlfdinaaaWo
import Derived.Test.YtihpiejlfdinaaaWn
/-
  FoldersForest, for every list.
-/
namespace Go.Proofs.Ytihpiejlfdinaaa.PF
open Go Go.RowKit Go.Maps Go.My Go.Proofs.YtihpiejlfdinaaaW.PrintWords

theorem i64_of_wf {x : Int} (h : (Lit.int .i64 x).wf = true) : i64 x = true := by
  have h' : (decide (IntKind.i64.min ≤ x) && decide (x ≤ IntKind.i64.max)) = true := h
  rw [Bool.and_eq_true, decide_eq_true_eq, decide_eq_true_eq] at h'
  have h1 : IntKind.i64.min = -9223372036854775808 := by decide
  have h2 : IntKind.i64.max = 9223372036854775807 := by decide
  unfold i64 btw
  rw [decide_eq_true (by omega), decide_eq_true (by omega)]; rfl
theorem fold_mem : ∀ {l : List S29} {F : Forest} {x : Int} {q : S29}, l.foldl step F x = some q → F x = some q ∨ q ∈ l
  | [], F, x, q, h => .inl h
  | p :: l, F, x, q, h => by
    rw [List.foldl_cons] at h
    rcases fold_mem h with h | h
    · unfold step at h
      split at h
      · exact .inl h
      · by_cases e : x = p.f2
        · subst e
          rw [set_same] at h
          cases h
          exact .inr (by simp)
        · rw [set_other _ _ e] at h
          exact .inl h
    · exact .inr (by simp [h])

set_option maxRecDepth 100000 in
set_option maxHeartbeats 1000000 in
theorem forest9_few (A0 : Option Addr) (n c0 : Nat) (w : World)
    (HS : Hid (∀ W : World, Calls Try.prog 10 #[] W fun e w' => e = .returned (.bool true) ∧ Below W.heap.size W w'))
    (HFew : Hid (∀ W : World, Below w.heap.size w W → Calls Try.prog 11 #[.slice A0 n c0, .slice none 0 0] W fun e w' => e = .returned (.bool false) ∧ Below W.heap.size W w')) :
    Calls Try.prog 9 #[.slice A0 n c0] w fun e w' => e = .returned (.bool true) ∧ Below w.heap.size w w' := by
  go_enter Try.func9, Try.ntmps9
  go_wp2_with (first
    | (go_at_call 10; refine (HS.out _).mono ?_; rintro e w1 ⟨rfl, hB1⟩; have HB1 := Lib.hid hB1; clear hB1)
    | (go_at_call 11; refine (HFew.out _ HB1.out).mono ?_; rintro e w2 ⟨rfl, hB2⟩; have HB2 := Lib.hid (below_go HB1.out hB2); clear hB2))
  go_ret
  exact ⟨rfl, HB2.out⟩

theorem forest_any (A0 : Option Addr) (c0 : Nat) (l : List S29) (w : World) (hr0 : Kd.C k29 w A0 l.length l) (hc0 : l.length ≤ c0) :
    Calls Try.prog 9 #[.slice A0 l.length c0] w fun e w' => e = .returned (.bool true) ∧ Below w.heap.size w w' := by
  by_cases hl : l.length ≤ 30
  case neg =>
    refine forest9_few A0 l.length c0 w sane_calls fun W hb => ?_
    have := few_calls hr0 hc0 W hb
    rw [decide_eq_false hl] at this
    exact this
  have hfew : ∀ W : World, Below w.heap.size w W → Calls Try.prog 11 #[.slice A0 l.length c0, .slice none 0 0] W fun e w' => e = .returned (.bool true) ∧ Below W.heap.size W w' := fun W hb => by
    have := few_calls hr0 hc0 W hb
    rw [decide_eq_true hl] at this
    exact this
  have hF := growF_inv l
  refine forest9_walk A0 l.length c0 w l (growF l) hF rfl hl (fun y hy => ?_) hr0 sane_calls hfew ?_ ?_
  · rcases fold_mem ((mem_treeP hF).1 hy) with h | h
    · cases h
    · exact (mem_sortV.1 h).1
  · intro W hb
    refine (folders_Tree.calls A0 c0 l (treeP (growF l)) W (Kd.C_below hr0 hb) hc0 (folders_tree (by omega))).mono ?_
    rintro e w' ⟨v, rfl, hR, hB⟩
    obtain ⟨A, c, rfl, _, hC⟩ := Kd.R_reads hR
    exact ⟨A, c, rfl, hC, hB⟩
  · intro W x hb hx
    refine (folders_Above.calls A0 c0 l x (upL (growF l) x) W (Kd.C_below hr0 hb) hc0 (folders_above (by omega) (i64_of_wf hx))).mono ?_
    rintro e w' ⟨v, rfl, hR, hB⟩
    obtain ⟨A, c, rfl, _, hC⟩ := Kd.R_reads hR
    exact ⟨A, c, rfl, hC, hB⟩
end Go.Proofs.Ytihpiejlfdinaaa.PF
