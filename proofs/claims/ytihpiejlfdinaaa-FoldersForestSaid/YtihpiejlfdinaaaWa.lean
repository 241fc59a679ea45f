import Derived.Test.YtihpiejlfdinaaaDe
import Derived.WalkKit
import Derived.Lib.Hide
import Derived.Sort.AtCall
namespace Go.Proofs.Ytihpiejlfdinaaa.PF
open Go Go.RowKit


set_option maxRecDepth 100000 in
set_option maxHeartbeats 400000 in
theorem within34 (n lo hi : Int) (w : World) : Calls Try.prog 34 #[.int .i64 n, .int .i64 lo, .int .i64 hi] w fun e w' => e = .returned (.bool (btw n lo hi)) ∧ w = w' := by
  unfold btw
  by_cases h1 : lo ≤ n
  · by_cases h2 : n ≤ hi
    · rw [decide_eq_true h1, decide_eq_true h2]
      have d1 : decide (lo ≤ n) = true := decide_eq_true h1
      have d2 : decide (n ≤ hi) = true := decide_eq_true h2
      go_enter Try.func34, Try.ntmps34
      go_wp2
      go_ret
      exact ⟨rfl, rfl⟩
    · rw [decide_eq_true h1, decide_eq_false h2]
      have d1 : decide (lo ≤ n) = true := decide_eq_true h1
      have d2 : decide (n ≤ hi) = false := decide_eq_false h2
      go_enter Try.func34, Try.ntmps34
      go_wp2
      go_ret
      exact ⟨rfl, rfl⟩
  · rw [decide_eq_false h1]
    have d1 : decide (lo ≤ n) = false := decide_eq_false h1
    go_enter Try.func34, Try.ntmps34
    go_wp2
    go_ret
    exact ⟨rfl, rfl⟩

set_option maxRecDepth 100000 in
set_option maxHeartbeats 1000000 in
theorem check16 (x : S29) (w : World) : Calls Try.prog 16 #[x.val] w fun e w' => e = .returned (.int .i64 (if x.ok then 0 else 270)) ∧ Below w.heap.size w w' := by
  obtain ⟨t, d, f, p, n⟩ := x
  unfold S29.val S29.ok
  have K1 := Lib.hid fun W => within34 t 1 1099511627776 W
  have K2 := Lib.hid fun W => within34 d 0 511 W
  have K3 := Lib.hid fun W => within34 f 0 15 W
  have K4 := Lib.hid fun W => within34 p (-1) 15 W
  have K5 := Lib.hid fun W => within34 (n.size : Int) 1 64 W
  have hB : Below w.heap.size w (w.alloc (.cells #[.int .i64 t, .int .i64 d, .int .i64 f, .int .i64 p, .string n] 29)) := (Below.refl _ _).alloc (Nat.le_refl _) _
  have HB := Lib.hid hB
  clear hB
  simp only []
  generalize btw t 1 1099511627776 = b1 at *
  generalize btw d 0 511 = b2 at *
  generalize btw f 0 15 = b3 at *
  generalize btw p (-1) 15 = b4 at *
  generalize btw (n.size : Int) 1 64 = b5 at *
  cases b1 with
  | false =>
    go_enter Try.func16, Try.ntmps16
    go_wp2_with (go_at_call_has 34 (Value.int IntKind.i64 1099511627776); refine (K1.out _).mono ?_; rintro e w' ⟨rfl, rfl⟩)
    go_ret
    exact ⟨rfl, HB.out⟩
  | true =>
  cases b2 with
  | false =>
    go_enter Try.func16, Try.ntmps16
    go_wp2_with (first
      | (go_at_call_has 34 (Value.int IntKind.i64 1099511627776); refine (K1.out _).mono ?_; rintro e w' ⟨rfl, rfl⟩)
      | (go_at_call_has 34 (Value.int IntKind.i64 511); refine (K2.out _).mono ?_; rintro e w' ⟨rfl, rfl⟩))
    go_ret
    exact ⟨rfl, HB.out⟩
  | true =>
  cases b3 with
  | false =>
    go_enter Try.func16, Try.ntmps16
    go_wp2_with (first
      | (go_at_call_has 34 (Value.int IntKind.i64 1099511627776); refine (K1.out _).mono ?_; rintro e w' ⟨rfl, rfl⟩)
      | (go_at_call_has 34 (Value.int IntKind.i64 511); refine (K2.out _).mono ?_; rintro e w' ⟨rfl, rfl⟩)
      | (go_at_call_has 34 (Value.int IntKind.i64 0); refine (K3.out _).mono ?_; rintro e w' ⟨rfl, rfl⟩))
    go_ret
    exact ⟨rfl, HB.out⟩
  | true =>
  cases b4 with
  | false =>
    go_enter Try.func16, Try.ntmps16
    go_wp2_with (first
      | (go_at_call_has 34 (Value.int IntKind.i64 1099511627776); refine (K1.out _).mono ?_; rintro e w' ⟨rfl, rfl⟩)
      | (go_at_call_has 34 (Value.int IntKind.i64 511); refine (K2.out _).mono ?_; rintro e w' ⟨rfl, rfl⟩)
      | (go_at_call_has 34 (Value.int IntKind.i64 (-1)); refine (K4.out _).mono ?_; rintro e w' ⟨rfl, rfl⟩)
      | (go_at_call_has 34 (Value.int IntKind.i64 0); refine (K3.out _).mono ?_; rintro e w' ⟨rfl, rfl⟩))
    go_ret
    exact ⟨rfl, HB.out⟩
  | true =>
  cases b5
  all_goals
    go_enter Try.func16, Try.ntmps16
    go_wp2_with (first
      | (go_at_call_has 34 (Value.int IntKind.i64 1099511627776); refine (K1.out _).mono ?_; rintro e w' ⟨rfl, rfl⟩)
      | (go_at_call_has 34 (Value.int IntKind.i64 511); refine (K2.out _).mono ?_; rintro e w' ⟨rfl, rfl⟩)
      | (go_at_call_has 34 (Value.int IntKind.i64 (-1)); refine (K4.out _).mono ?_; rintro e w' ⟨rfl, rfl⟩)
      | (go_at_call_has 34 (Value.int IntKind.i64 64); refine (K5.out _).mono ?_; rintro e w' ⟨rfl, rfl⟩)
      | (go_at_call_has 34 (Value.int IntKind.i64 0); refine (K3.out _).mono ?_; rintro e w' ⟨rfl, rfl⟩))
    go_ret
    exact ⟨rfl, HB.out⟩
end Go.Proofs.Ytihpiejlfdinaaa.PF
