import Derived.Test.YtofkmapokdcphaaA
namespace Go.Proofs.Ytofkmapokdcphaa
open Go Go.RowKit Go.Maps Go.My

/-! ### whole numbers: the group -/

theorem sum_any (a b m : Int) (w : World) (a0 : 0 ≤ a) (a1 : a < m) (b0 : 0 ≤ b) (b1 : b < m) (hm : m ≤ 4611686018427387904) :
    Calls Try.prog 89 #[.int .i64 a, .int .i64 b, .int .i64 m] w fun e w' => e = .returned (.int .i64 ((a + b) % m)) ∧ w = w' := by
  by_cases h : m ≤ a + b
  · have e : (a + b) % m = a + b - m := by rw [← Int.sub_emod_right, Int.emod_eq_of_lt (by omega) (by omega)]
    have E := Lib.hid e
    clear e
    go_enter Try.func89, Try.ntmps89
    go_wp2
    go_ret
    exact ⟨ret_int E.out.symm, rfl⟩
  · have e : (a + b) % m = a + b := Int.emod_eq_of_lt (by omega) (by omega)
    have E := Lib.hid e
    clear e
    go_enter Try.func89, Try.ntmps89
    go_wp2
    go_ret
    exact ⟨ret_int E.out.symm, rfl⟩

theorem emul (x y m : Int) : (x % m * y) % m = (x * y) % m := by rw [Int.mul_emod, Int.emod_emod, ← Int.mul_emod]
theorem emul2 (c x y m : Int) : (c + x % m * y) % m = (c + x * y) % m := by rw [Int.add_emod, emul, ← Int.add_emod]
theorem prod_odd (A B C m : Int) (h : B % 2 = 1) : ((C + A) % m + (A + A) % m * (B / 2)) % m = (C + A * B) % m := by
  have e : A * B = A + (A + A) * (B / 2) := by
    have : B = 1 + 2 * (B / 2) := by omega
    generalize B / 2 = D at this
    subst this
    rw [Int.mul_add, Int.mul_one, Int.add_mul, ← Int.mul_assoc, Int.mul_comm A 2, Int.mul_assoc]
    omega
  rw [e, Int.emod_add_emod, emul2, Int.add_assoc]
theorem prod_even (A B C m : Int) (h : B % 2 = 0) : (C + (A + A) % m * (B / 2)) % m = (C + A * B) % m := by
  have e : A * B = (A + A) * (B / 2) := by
    have : B = 2 * (B / 2) := by omega
    generalize B / 2 = D at this
    subst this
    rw [Int.add_mul, ← Int.mul_assoc, Int.mul_comm A 2, Int.mul_assoc]
    omega
  rw [e, emul2]

set_option maxHeartbeats 400000 in
theorem product_any (a b m : Int) (w : World) (a0 : 0 ≤ a) (a1 : a < m) (b0 : 0 ≤ b) (b1 : b < 9223372036854775808) (hm : m ≤ 4611686018427387904) :
    Calls Try.prog 72 #[.int .i64 a, .int .i64 b, .int .i64 m] w fun e w' => e = .returned (.int .i64 ((a * b) % m)) ∧ w = w' := by
  obtain ⟨T, hT⟩ : ∃ T, T = (a * b) % m := ⟨_, rfl⟩
  rw [← hT]
  have HT := Lib.hid hT
  clear hT
  go_enter Try.func72, Try.ntmps72
  go_wp2
  go_loop [0, 1, 7] (fun x y c => ∃ A B C : Int, x = .int .i64 A ∧ y = .int .i64 B ∧ c = .int .i64 C ∧ 0 ≤ A ∧ A < m ∧ 0 ≤ B ∧ B < 9223372036854775808 ∧ 0 ≤ C ∧ C < m ∧ Hid ((C + A * B) % m = T)) (fun _ y _ => (intOf y).toNat)
  case atStart => exact ⟨a, b, 0, rfl, rfl, rfl, a0, a1, b0, b1, by omega, by omega, by unfold Hid; rw [HT.out]; simp⟩
  case round =>
    obtain ⟨A, B, C, rfl, rfl, rfl, A0, A1, B0, B1, C0, C1, HE⟩ := hrel
    by_cases hB : 0 < B
    · by_cases hodd : B % 2 = 1
      · go_wp2_with (first
          | (go_at_call 89; refine (sum_any _ _ _ _ (by assumption) (by assumption) (by assumption) (by assumption) hm).mono ?_; rintro e w' ⟨rfl, rfl⟩))
        have r1 := Int.emod_nonneg (C + A) (show m ≠ 0 by omega)
        have r2 := Int.emod_lt_of_pos (C + A) (show 0 < m by omega)
        have r3 := Int.emod_nonneg (A + A) (show m ≠ 0 by omega)
        have r4 := Int.emod_lt_of_pos (A + A) (show 0 < m by omega)
        go_round
        case rel => exact ⟨_, _, _, rfl, rfl, rfl, r3, r4, by omega, by omega, r1, r2, by
          have h := HE.out
          unfold Hid
          rw [← h]
          exact prod_odd A B C m hodd⟩
        case measure => simp [intOf]; omega
      · have heven : B % 2 = 0 := by omega
        go_wp2_with (first
          | (go_at_call 89; refine (sum_any _ _ _ _ (by assumption) (by assumption) (by assumption) (by assumption) hm).mono ?_; rintro e w' ⟨rfl, rfl⟩))
        have r3 := Int.emod_nonneg (A + A) (show m ≠ 0 by omega)
        have r4 := Int.emod_lt_of_pos (A + A) (show 0 < m by omega)
        go_round
        case rel => exact ⟨_, _, _, rfl, rfl, rfl, r3, r4, by omega, by omega, C0, C1, by
          have h := HE.out
          unfold Hid
          rw [← h]
          exact prod_even A B C m heven⟩
        case measure => simp [intOf]; omega
    · have hz : B = 0 := by omega
      subst hz
      have h := HE.out
      clear HE
      have HE' := Lib.hid h
      clear h
      go_wp2
      go_ret
      exact ⟨ret_int (by have := HE'.out; rw [← this, Int.mul_zero, Int.add_zero, Int.emod_eq_of_lt C0 C1]), rfl⟩
end Go.Proofs.Ytofkmapokdcphaa
