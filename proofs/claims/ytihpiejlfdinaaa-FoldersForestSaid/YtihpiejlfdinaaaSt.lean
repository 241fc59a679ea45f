import Derived.Test.YtihpiejlfdinaaaWl
namespace Go.Proofs.Ytihpiejlfdinaaa.PF
open Go Go.RowKit Go.Maps Go.My Go.Proofs.YtihpiejlfdinaaaW.PrintWords Go.Proofs.YtihpiejlfdinaaaW.PrintLast Go.Proofs.YtihpiejlfdinaaaW.PrintMore
theorem wf_of_i64 {x : Int} (h : i64 x = true) : (Lit.int .i64 x).wf = true := by
  unfold i64 btw at h
  rw [Bool.and_eq_true, decide_eq_true_eq, decide_eq_true_eq] at h
  exact wf_small h.1 h.2
theorem folders_Below.calls (A0 : Option Addr) (c0 : Nat) (l0 : List (S29)) (a1 : Int) (r : List Int) (w : World) (hr0 : Kd.C k29 w A0 l0.length l0) (_hc0 : l0.length ≤ c0) (h : folders_Below.f l0 a1 = some r) :
    Calls Try.prog 12 #[.slice A0 l0.length c0, .int .i64 a1] w fun e w' => ∃ v0_ : Value, e = .returned (v0_) ∧ Kd.R (Kd.int .i64) 3 w' w.heap.size (fun _ => True) v0_ r ∧ Below w.heap.size w w' := by
  unfold folders_Below.f at h
  split at h
  · rename_i hl
    cases h
    exact below12 A0 c0 l0 a1 w hl.1 hr0 (wf_of_i64 hl.2)
  · cases h
theorem chartroomref27_ordered.calls (A0 : Option Addr) (c0 : Nat) (l0 : List (S29)) (r : List (S29)) (w : World) (hr0 : Kd.C k29 w A0 l0.length l0) (_hc0 : l0.length ≤ c0) (h : chartroomref27_ordered.f l0 = some r) :
    Calls Try.prog 36 #[.slice A0 l0.length c0] w fun e w' => ∃ v0_ : Value, e = .returned (v0_) ∧ Kd.R k29 29 w' w.heap.size (fun _ => True) v0_ r ∧ Below w.heap.size w w' := by
  unfold chartroomref27_ordered.f at h
  split at h
  · rename_i hl
    cases h
    exact ordered36 A0 c0 l0 w hl hr0
  · cases h
theorem folders_Above.calls (A0 : Option Addr) (c0 : Nat) (l0 : List (S29)) (a1 : Int) (r : List Int) (w : World) (hr0 : Kd.C k29 w A0 l0.length l0) (_hc0 : l0.length ≤ c0) (h : folders_Above.f l0 a1 = some r) :
    Calls Try.prog 13 #[.slice A0 l0.length c0, .int .i64 a1] w fun e w' => ∃ v0_ : Value, e = .returned (v0_) ∧ Kd.R (Kd.int .i64) 3 w' w.heap.size (fun _ => True) v0_ r ∧ Below w.heap.size w w' := by
  unfold folders_Above.f at h
  split at h
  · rename_i hl
    cases h
    exact above13 A0 c0 l0 a1 w hl.1 hr0 (wf_of_i64 hl.2)
  · cases h
theorem folders_Tree.calls (A0 : Option Addr) (c0 : Nat) (l0 : List (S29)) (r : List (S29)) (w : World) (hr0 : Kd.C k29 w A0 l0.length l0) (_hc0 : l0.length ≤ c0) (h : folders_Tree.f l0 = some r) :
    Calls Try.prog 14 #[.slice A0 l0.length c0] w fun e w' => ∃ v0_ : Value, e = .returned (v0_) ∧ Kd.R k29 29 w' w.heap.size (fun _ => True) v0_ r ∧ Below w.heap.size w w' := by
  unfold folders_Tree.f at h
  split at h
  · rename_i hl
    cases h
    exact tree14 A0 c0 l0 w hl hr0
  · cases h
theorem folders_Check.calls (a0_0 : Int) (a0_1 : Int) (a0_2 : Int) (a0_3 : Int) (a0_4 : ByteArray) (r : Int) (w : World) (h : folders_Check.f a0_0 a0_1 a0_2 a0_3 a0_4 = some r) :
    Calls Try.prog 16 #[.agg #[.int .i64 a0_0, .int .i64 a0_1, .int .i64 a0_2, .int .i64 a0_3, .string a0_4]] w fun e w' => e = .returned (.int .i64 r) ∧ Below w.heap.size w w' := by
  cases h
  exact check16 ⟨a0_0, a0_1, a0_2, a0_3, a0_4⟩ w
theorem folders_Find.calls (A0 : Option Addr) (c0 : Nat) (l0 : List (S29)) (A1 : Option Addr) (c1 : Nat) (l1 : List ByteArray) (r1 : Int) (r2 : Bool) (w : World) (hr0 : Kd.C k29 w A0 l0.length l0) (_hc0 : l0.length ≤ c0) (hr1 : Kd.C Kd.string w A1 l1.length l1) (_hc1 : l1.length ≤ c1) (h : folders_Find.f l0 l1 = some (r1, r2)) :
    Calls Try.prog 24 #[.slice A0 l0.length c0, .slice A1 l1.length c1] w fun e w' => e = .returned (.tuple #[.int .i64 r1, .bool r2]) ∧ Below w.heap.size w w' := by
  unfold folders_Find.f at h
  split at h
  · rename_i hl
    have := find24 A0 c0 l0 A1 c1 l1 w hl hr0 hr1
    rw [Option.some.inj h] at this
    exact this
  · cases h
end Go.Proofs.Ytihpiejlfdinaaa.PF
