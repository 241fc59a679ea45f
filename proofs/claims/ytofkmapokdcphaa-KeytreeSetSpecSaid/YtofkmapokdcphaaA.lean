import Derived.Test.YtofkmapokdcphaaShelf
import Derived.Test.YtofkmapokdcphaaBase
namespace Go.Proofs.Ytofkmapokdcphaa
open Go Go.RowKit Go.Maps Go.My

theorem ret_int {k : IntKind} {a b : Int} (h : a = b) : Ending.returned (.int k a) = .returned (.int k b) := by rw [h]
theorem ret_bool {a b : Bool} (h : a = b) : Ending.returned (.bool a) = .returned (.bool b) := by rw [h]

/-! ### whole numbers: paths -/

set_option maxHeartbeats 400000 in
theorem leaf_ok (d : Int) (w : World) (h0 : 0 ≤ d) (h1 : d < 512) :
    Calls Try.prog 28 #[.int .i64 d] w fun e w' => e = .returned (.tuple #[.int .i64 (512 + d), .int .i64 0]) ∧ w = w' := by
  go_enter Try.func28, Try.ntmps28
  go_wp2
  go_ret2
  exact ⟨rfl, rfl⟩

set_option maxHeartbeats 400000 in
theorem leaf_no (d : Int) (w : World) (h : d < 0 ∨ 512 ≤ d) :
    Calls Try.prog 28 #[.int .i64 d] w fun e w' => e = .returned (.tuple #[.int .i64 0, .int .i64 200]) ∧ w = w' := by
  rcases h with h | h
  all_goals
    go_enter Try.func28, Try.ntmps28
    go_wp2
    go_ret2
    exact ⟨rfl, rfl⟩

theorem parent_any (n : Int) (w : World) (h0 : 0 ≤ n) (h1 : n < 1024) :
    Calls Try.prog 53 #[.int .i64 n] w fun e w' => e = .returned (.int .i64 (n / 2)) ∧ w = w' := by
  go_enter Try.func53, Try.ntmps53
  go_wp2
  go_ret
  exact ⟨rfl, rfl⟩

def sib (n : Int) : Int := if n % 2 = 0 then n + 1 else n - 1

theorem isNode_yes (n : Int) (w : World) (h0 : 1 ≤ n) (h1 : n < 1024) :
    Calls Try.prog 55 #[.int .i64 n] w fun e w' => e = .returned (.bool true) ∧ w = w' := by
  go_enter Try.func55, Try.ntmps55
  go_wp2
  go_ret
  exact ⟨rfl, rfl⟩

theorem isNode_no (n : Int) (w : World) (h : n < 1 ∨ 1024 ≤ n) :
    Calls Try.prog 55 #[.int .i64 n] w fun e w' => e = .returned (.bool false) ∧ w = w' := by
  rcases h with h | h
  · go_enter Try.func55, Try.ntmps55
    go_wp2
    go_ret
    exact ⟨rfl, rfl⟩
  · have h' : 1 ≤ n := by omega
    go_enter Try.func55, Try.ntmps55
    go_wp2
    go_ret
    exact ⟨ret_bool (decide_eq_false (by omega)), rfl⟩

def lvl (n : Int) : Int := 10 - (Lib.bitLen n.toNat : Int)

theorem sib_bits : ∀ n : Nat, n < 1024 → bits .xor .i64 (n : Int) 1 = sib n := of_decide_eq_true (by kernel_rfl)
theorem sib_bits' (n : Int) (h0 : 0 ≤ n) (h1 : n < 1024) : bits .xor .i64 n 1 = sib n := by
  have := sib_bits n.toNat (by omega)
  rwa [show ((n.toNat : Nat) : Int) = n by omega] at this

theorem sib_any (n : Int) (w : World) (h0 : 0 ≤ n) (h1 : n < 1024):
    Calls Try.prog 57 #[.int .i64 n] w fun e w' => e = .returned (.int .i64 (sib n)) ∧ w = w' := by
  go_enter Try.func57, Try.ntmps57
  go_wp2
  go_ret
  exact ⟨ret_int (sib_bits' n h0 h1), rfl⟩

theorem bitLen_le : ∀ n : Nat, n < 1024 → Lib.bitLen n ≤ 10 ∧ (1 ≤ n → 1 ≤ Lib.bitLen n) := of_decide_eq_true (by kernel_rfl)

theorem level_any (n : Int) (w : World) (h0 : 0 ≤ n) (h1 : n < 1024) :
    Calls Try.prog 56 #[.int .i64 n] w fun e w' => e = .returned (.int .i64 (lvl n)) ∧ w = w' := by
  have hb := (bitLen_le n.toNat (by omega)).1
  go_enter Try.func56, Try.ntmps56
  go_wp2_with (go_at_call 63; refine (Try.bits_Len _ _ (by omega) (by omega)).mono ?_; rintro e w' ⟨rfl, rfl⟩)
  go_ret
  exact ⟨rfl, rfl⟩

theorem lvl_bounds (n : Int) (h0 : 1 ≤ n) (h1 : n < 1024) : 0 ≤ lvl n ∧ lvl n ≤ 9 := by
  have hb := bitLen_le n.toNat (by omega)
  have := hb.2 (by omega)
  unfold lvl; omega

theorem Level_ok (n : Int) (w : World) (h0 : 1 ≤ n) (h1 : n < 1024) :
    Calls Try.prog 31 #[.int .i64 n] w fun e w' => e = .returned (.tuple #[.int .i64 (lvl n), .int .i64 0]) ∧ w = w' := by
  go_enter Try.func31, Try.ntmps31
  go_wp2_with (first
    | (go_at_call 55; refine (isNode_yes _ _ (by omega) (by omega)).mono ?_; rintro e w' ⟨rfl, rfl⟩)
    | (go_at_call 56; refine (level_any _ _ (by omega) (by omega)).mono ?_; rintro e w' ⟨rfl, rfl⟩))
  go_ret2
  exact ⟨rfl, rfl⟩

def lo (n : Int) : Int := n * 2 ^ (lvl n).toNat - 512
def hi (n : Int) : Int := (n + 1) * 2 ^ (lvl n).toNat - 512

theorem span_tab : ∀ n : Nat, n < 1024 → 1 ≤ n → 0 ≤ lo n ∧ lo n < hi n ∧ hi n ≤ 512 := of_decide_eq_true (by kernel_rfl)
theorem span (n : Int) (h0 : 1 ≤ n) (h1 : n < 1024) : 0 ≤ lo n ∧ lo n < hi n ∧ hi n ≤ 512 := by
  have := span_tab n.toNat (by omega) (by omega)
  rwa [show ((n.toNat : Nat) : Int) = n by omega] at this

theorem under_no (n : Int) (w : World) (h : n < 1 ∨ 1024 ≤ n) :
    Calls Try.prog 32 #[.int .i64 n] w fun e w' => e = .returned (.tuple #[.int .i64 0, .int .i64 0, .int .i64 200]) ∧ w = w' := by
  go_enter Try.func32, Try.ntmps32
  go_wp2_with (go_at_call 55; refine (isNode_no _ _ h).mono ?_; rintro e w' ⟨rfl, rfl⟩)
  go_ret3
  exact ⟨rfl, rfl⟩

theorem under_ok (n : Int) (w : World) (h0 : 1 ≤ n) (h1 : n < 1024) :
    Calls Try.prog 32 #[.int .i64 n] w fun e w' => e = .returned (.tuple #[.int .i64 (lo n), .int .i64 (hi n), .int .i64 0]) ∧ ∃ k, w' = w.drewN k := by
  obtain ⟨hl0, hl1⟩ := lvl_bounds n h0 h1
  go_enter Try.func32, Try.ntmps32
  go_wp2_with (first
    | (go_at_call 55; refine (isNode_yes _ _ (by omega) (by omega)).mono ?_; rintro e w' ⟨rfl, rfl⟩)
    | (go_at_call 56; refine (level_any _ _ (by omega) (by omega)).mono ?_; rintro e w' ⟨rfl, rfl⟩))
  go_quiet (fail)
  go_wp2
  go_ret3
  have hs := span n h0 h1
  refine ⟨?_, _, rfl⟩
  have e1 : wrap64 (n * 2 ^ (lvl n).toNat) = n * 2 ^ (lvl n).toNat := IntWalk.wrap64_in _ ⟨by unfold lo at hs; omega, by unfold lo hi at hs; omega⟩
  have e2 : wrap64 ((n + 1) * 2 ^ (lvl n).toNat) = (n + 1) * 2 ^ (lvl n).toNat := IntWalk.wrap64_in _ ⟨by unfold lo hi at hs; omega, by unfold lo hi at hs; omega⟩
  rw [e1, e2]
  have e3 : wrap64 (n * 2 ^ (lvl n).toNat - 512) = lo n := IntWalk.wrap64_in _ ⟨by unfold lo at hs; omega, by unfold lo hi at hs; omega⟩
  have e4 : wrap64 ((n + 1) * 2 ^ (lvl n).toNat - 512) = hi n := IntWalk.wrap64_in _ ⟨by unfold lo hi at hs; omega, by unfold lo hi at hs; omega⟩
  rw [e3, e4]
  rfl

theorem Level_no (n : Int) (w : World) (h : n < 1 ∨ 1024 ≤ n) :
    Calls Try.prog 31 #[.int .i64 n] w fun e w' => e = .returned (.tuple #[.int .i64 0, .int .i64 200]) ∧ w = w' := by
  go_enter Try.func31, Try.ntmps31
  go_wp2_with (go_at_call 55; refine (isNode_no _ _ h).mono ?_; rintro e w' ⟨rfl, rfl⟩)
  go_ret2
  exact ⟨rfl, rfl⟩

end Go.Proofs.Ytofkmapokdcphaa
