import Derived.Test.YtofkmapokdcphaaV
import Derived.Test.YtofkmapokdcphaaW
import Derived.Deep.DeepCutAuto
import Derived.Deep.CutBlock
namespace Go.Proofs.Ytofkmapokdcphaa
open Go Go.RowKit Go.Maps Go.My Go.Shelf

def tenCells : Array Value := #[.int .i64 4, .int .i64 16, .int .i64 4, .int .i64 16, .int .i64 4, .int .i64 16, .int .i64 4, .int .i64 16, .int .i64 4, .int .i64 16]

set_option maxRecDepth 100000 in
theorem ten_any (w : World) : Calls Try.prog 34 #[] w fun e w' => e = .returned (.slice (some ⟨w.heap.size, 0, none⟩) 10 10) ∧ w' = w.alloc (.cells tenCells 3) := by
  go_enter Try.func34, Try.ntmps34
  go_wp2
  go_ret
  exact ⟨rfl, rfl⟩

theorem intsAt_lit (w : World) (xs : List Int) (c : Nat) (cs : Array Value) (t : TypeId) (h : cs = (xs.map (Value.int .i64)).toArray) : IntsAt (w.alloc (.cells cs t)) (.slice (some ⟨w.heap.size, 0, none⟩) xs.length c) xs := by
  refine ⟨_, c, w.heap.size, 0, rfl, .inl rfl, fun i x hx => ?_⟩
  rw [Nat.zero_add, cell_at_new, h]
  simp [hx]

theorem treeAt_lit (w : World) (xs : List Nd) (c : Nat) (cs : Array Value) (t : TypeId) (h : cs = (ndCells xs).toArray) (hw : ∀ n ∈ xs, (Lit.int .i64 n.1).wf = true ∧ (Lit.int .i64 n.2).wf = true) :
    TreeAt (w.alloc (.cells cs t)) (.agg #[.slice (some ⟨w.heap.size, 0, none⟩) xs.length c]) xs := by
  refine ⟨_, c, rfl, ⟨w.heap.size, 0, .inl rfl, fun i n hn => ?_⟩, hw⟩
  obtain ⟨e0, e1⟩ := ndCells_at xs i n hn
  rw [Nat.zero_add, cell_at_new, cell_at_new, h]
  exact ⟨by simpa using e0, by simpa using e1⟩

theorem tenAt (w : World) : IntsAt (w.alloc (.cells tenCells 3)) (.slice (some ⟨w.heap.size, 0, none⟩) 10 10) tenL := intsAt_lit w tenL 10 _ _ rfl

abbrev nilT : Value := .agg #[.slice none 0 0]
theorem S1 (W : World) : Calls Try.prog 12 #[nilT, .int .i64 1024] W fun e w' => ∃ v', e = .returned (.tuple #[v', .int .i64 200]) ∧ IntsAt w' v' [] ∧ Below W.heap.size W w' := by
  have h := resolution_any _ [] 1024 W (by decide) (treeAt_nil W)
  simp only [r1] at h
  exact h
theorem S2 (W : World) : Calls Try.prog 12 #[nilT, .int .i64 1] W fun e w' => ∃ v', e = .returned (.tuple #[v', .int .i64 0]) ∧ IntsAt w' v' [] ∧ Below W.heap.size W w' := by
  have h := resolution_any _ [] 1 W (by decide) (treeAt_nil W)
  simp only [r2] at h
  exact h
theorem S3 (W : World) : Calls Try.prog 23 #[nilT, .int .i64 0] W fun e w' => ∃ v', e = .returned (.tuple #[v', .int .i64 200]) ∧ TreeAt w' v' [] ∧ Below W.heap.size W w' := by
  have h := remove_any _ [] 0 W (by decide) (treeAt_nil W)
  simp only [r3] at h
  exact h
theorem S4 (W : World) : Calls Try.prog 21 #[nilT, .int .i64 3, .int .i64 4] W fun e w' => ∃ v', e = .returned (.tuple #[v', .int .i64 0]) ∧ TreeAt w' v' T1 ∧ Below W.heap.size W w' := by
  have h := set_any _ [] 3 4 W (by decide) (treeAt_nil W) (wf_small (by decide) (by decide)) (wf_small (by decide) (by decide))
  simp only [r4] at h
  exact h
theorem S5 (W : World) (v : Value) (hv : TreeAt W v T1) : Calls Try.prog 21 #[v, .int .i64 1, .int .i64 16] W fun e w' => ∃ v', e = .returned (.tuple #[v', .int .i64 0]) ∧ TreeAt w' v' T2 ∧ Below W.heap.size W w' := by
  have h := set_any v T1 1 16 W (by decide) hv (wf_small (by decide) (by decide)) (wf_small (by decide) (by decide))
  simp only [r5] at h
  exact h
theorem S6 (W : World) (v : Value) (hv : TreeAt W v T2) : Calls Try.prog 12 #[v, .int .i64 1] W fun e w' => ∃ v', e = .returned (.tuple #[v', .int .i64 0]) ∧ IntsAt w' v' [513, 515] ∧ Below W.heap.size W w' := by
  have h := resolution_any v T2 1 W (by decide) hv
  simp only [r6] at h
  exact h
theorem S7 (W : World) (v vp : Value) (hv : TreeAt W v T2) (hp : IntsAt W vp tenL) : Calls Try.prog 25 #[v, .int .i64 3, vp] W fun e w' => ∃ v', e = .returned (.tuple #[v', .int .i64 0]) ∧ TreeAt w' v' T3 ∧ Below W.heap.size W w' := by
  have h := renew_any v vp T2 tenL 3 W (by decide) (by decide) hv hp (by intro p hp; simp at hp; exact wf_small (by omega) (by omega))
  simp only [r7] at h
  exact h
theorem S8 (W : World) (v : Value) (hv : TreeAt W v T3) : Calls Try.prog 12 #[v, .int .i64 1] W fun e w' => ∃ v', e = .returned (.tuple #[v', .int .i64 0]) ∧ IntsAt w' v' [1] ∧ Below W.heap.size W w' := by
  have h := resolution_any v T3 1 W (by decide) hv
  simp only [r8] at h
  exact h
theorem S9 (W : World) (v : Value) (hv : TreeAt W v T3) : Calls Try.prog 14 #[v, .int .i64 515] W fun e w' => e = .returned (.tuple #[.int .i64 4, .bool true]) ∧ Below W.heap.size W w' := by
  have h := public_any v T3 515 W (by decide) (wf_small (by decide) (by decide)) hv
  simp only [r9] at h
  exact h
theorem S10 (W : World) (v : Value) (hv : TreeAt W v T3) : Calls Try.prog 19 #[v] W fun e w' => ∃ v', e = .returned v' ∧ IntsAt w' v' [1, 3] ∧ Below W.heap.size W w' := by
  have h := members_any v T3 W (by decide) hv
  simp only [r10] at h
  exact h
theorem S11 (W : World) (v : Value) (hv : TreeAt W v [(1, 4)]) : Calls Try.prog 17 #[v] W fun e w' => e = .returned (.int .i64 210) ∧ Below W.heap.size W w' := by
  have h := check17_any v [(1, 4)] W (by decide) hv
  simp only [c4] at h
  exact h
theorem S12 (W : World) : Calls Try.prog 17 #[nilT] W fun e w' => e = .returned (.int .i64 0) ∧ Below W.heap.size W w' := by
  have h := check17_any _ [] W (by decide) (treeAt_nil W)
  simp only [c0] at h
  exact h
end Go.Proofs.Ytofkmapokdcphaa
