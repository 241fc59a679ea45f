import Derived.Test.YtofkmapokdcphaaB
namespace Go.Proofs.Ytofkmapokdcphaa
open Go Go.RowKit Go.Maps Go.My

/-- a^k modulo P. -/
def pw (a : Int) (k : Nat) : Int := a ^ k % 4611686018427377339

theorem pw_bounds (a : Int) (k : Nat) : 0 ≤ pw a k ∧ pw a k < 4611686018427377339 := by
  unfold pw
  generalize a ^ k = x
  omega

theorem pow_step (A C m : Int) (b : Nat) : (C * (A * A % m) ^ (b / 2)) % m = (C * (A ^ 2) ^ (b / 2)) % m := by
  have e : ∀ k : Nat, ((A * A) % m) ^ k % m = (A ^ 2) ^ k % m := by
    intro k
    induction k with
    | zero => simp
    | succ k ih =>
      rw [Int.pow_succ, Int.pow_succ, Int.mul_emod, ih, Int.emod_emod, ← Int.mul_emod]
      congr 1
      rw [Int.pow_succ, Int.pow_succ, Int.pow_zero, Int.one_mul]
  rw [Int.mul_emod, e, ← Int.mul_emod]

theorem pow_even (A C m : Int) (b : Nat) (h : b % 2 = 0) : (C * (A * A % m) ^ (b / 2)) % m = (C * A ^ b) % m := by
  rw [pow_step, ← Int.pow_mul]
  congr 3
  omega

theorem pow_odd (A C m : Int) (b : Nat) (h : b % 2 = 1) : (C * A % m * (A * A % m) ^ (b / 2)) % m = (C * A ^ b) % m := by
  rw [pow_step, emul, ← Int.pow_mul]
  have : b = 1 + 2 * (b / 2) := by omega
  conv => rhs; rw [this, Int.pow_add]
  rw [Int.pow_succ, Int.pow_zero, Int.one_mul, Int.mul_assoc]

set_option maxRecDepth 100000 in
set_option maxHeartbeats 400000 in
theorem power_any (a : Int) (k : Nat) (w : World) (a0 : 0 ≤ a) (a1 : a < 4611686018427377339) (k1 : k < 4611686018427377339) :
    Calls Try.prog 61 #[.int .i64 a, .int .i64 k] w fun e w' => e = .returned (.int .i64 (pw a k)) ∧ w = w' := by
  obtain ⟨T, hT⟩ : ∃ T, T = pw a k := ⟨_, rfl⟩
  rw [← hT]
  have HT := Lib.hid hT
  clear hT
  go_enter Try.func61, Try.ntmps61
  go_wp2
  go_loop [0, 1, 5] (fun x y c => ∃ (A : Int) (B : Nat) (C : Int), x = .int .i64 A ∧ y = .int .i64 B ∧ c = .int .i64 C ∧ 0 ≤ A ∧ A < 4611686018427377339 ∧ B < 4611686018427377339 ∧ 0 ≤ C ∧ C < 4611686018427377339 ∧ Hid ((C * A ^ B) % 4611686018427377339 = T)) (fun _ y _ => (intOf y).toNat)
  case atStart => exact ⟨a, k, 1, rfl, rfl, rfl, a0, a1, k1, by omega, by omega, by unfold Hid; rw [HT.out]; simp [pw]⟩
  case round =>
    obtain ⟨A, B, C, rfl, rfl, rfl, A0, A1, B1, C0, C1, HE⟩ := hrel
    have hP : (4611686018427377339 : Int) ≤ 4611686018427387904 := by omega
    have r1 : 0 ≤ (C * A) % 4611686018427377339 := Int.emod_nonneg _ (by omega)
    have r2 : (C * A) % 4611686018427377339 < 4611686018427377339 := Int.emod_lt_of_pos _ (by omega)
    have r3 : 0 ≤ (A * A) % 4611686018427377339 := Int.emod_nonneg _ (by omega)
    have r4 : (A * A) % 4611686018427377339 < 4611686018427377339 := Int.emod_lt_of_pos _ (by omega)
    by_cases hB : 0 < B
    · by_cases hodd : B % 2 = 1
      · go_wp2_with (first
          | (go_at_call 72; refine (product_any _ _ _ _ (by omega) (by omega) (by omega) (by omega) hP).mono ?_; rintro e w' ⟨rfl, rfl⟩))
        go_round
        case rel => exact ⟨_, B / 2, _, rfl, by go_num, rfl, r3, r4, by omega, r1, r2, by
          have h := HE.out
          unfold Hid
          rw [← h]
          exact pow_odd A C _ B hodd⟩
        case measure => simp [intOf]; omega
      · have heven : B % 2 = 0 := by omega
        go_wp2_with (first
          | (go_at_call 72; refine (product_any _ _ _ _ (by omega) (by omega) (by omega) (by omega) hP).mono ?_; rintro e w' ⟨rfl, rfl⟩))
        go_round
        case rel => exact ⟨_, B / 2, _, rfl, by go_num, rfl, r3, r4, by omega, C0, C1, by
          have h := HE.out
          unfold Hid
          rw [← h]
          exact pow_even A C _ B heven⟩
        case measure => simp [intOf]; omega
    · have hz : B = 0 := by omega
      subst hz
      have h := HE.out
      clear HE
      have HE' := Lib.hid h
      clear h
      go_wp2
      go_ret
      exact ⟨ret_int (by have := HE'.out; rw [← this, Int.pow_zero, Int.mul_one, Int.emod_eq_of_lt C0 C1]), rfl⟩

/-- An element of the group. -/
def inG (a : Int) : Bool := decide (1 ≤ a ∧ a < 4611686018427377339 ∧ pw a 2305843009213688669 = 1)
def chk (a : Int) : Int := if inG a then 0 else 40

theorem chk_low {a : Int} (h : a < 1) : chk a = 40 := by unfold chk inG; rw [if_neg (by simp; omega)]
theorem chk_high {a : Int} (h : 4611686018427377339 ≤ a) : chk a = 40 := by unfold chk inG; rw [if_neg (by simp; omega)]
theorem chk_pw {a : Int} (h : pw a 2305843009213688669 ≠ 1) : chk a = 40 := by unfold chk inG; rw [if_neg (by simp; intros; exact h)]
theorem chk_ok {a : Int} (h0 : 1 ≤ a) (h1 : a < 4611686018427377339) (h : pw a 2305843009213688669 = 1) : chk a = 0 := by unfold chk inG; rw [if_pos (by simp; exact ⟨h0, h1, h⟩)]

set_option maxRecDepth 100000 in
set_option maxHeartbeats 400000 in
theorem check04_any (a : Int) (w : World) : Calls Try.prog 40 #[.int .i64 a] w fun e w' => e = .returned (.int .i64 (chk a)) ∧ w = w' := by
  by_cases h0 : a < 1
  · have H := Lib.hid (chk_low h0)
    go_enter Try.func40, Try.ntmps40
    go_wp2
    go_ret
    exact ⟨ret_int H.out.symm, rfl⟩
  by_cases h1 : 4611686018427377339 ≤ a
  · have H := Lib.hid (chk_high h1)
    go_enter Try.func40, Try.ntmps40
    go_wp2
    go_ret
    exact ⟨ret_int H.out.symm, rfl⟩
  obtain ⟨x, hx⟩ : ∃ x, x = pw a 2305843009213688669 := ⟨_, rfl⟩
  have HC : Calls Try.prog 61 #[.int .i64 a, .int .i64 2305843009213688669] w fun e w' => e = .returned (.int .i64 x) ∧ w = w' := by
    rw [hx]; exact power_any a 2305843009213688669 w (by omega) (by omega) (by omega)
  have HC' := Lib.hid HC
  clear HC
  by_cases h : x = 1
  · have H := Lib.hid (chk_ok (by omega) (by omega) (hx ▸ h))
    subst h
    have HX := Lib.hid hx
    clear hx
    go_enter Try.func40, Try.ntmps40
    go_wp2_with (go_at_call 61; refine HC'.out.mono ?_; rintro e w' ⟨rfl, rfl⟩)
    go_ret
    exact ⟨ret_int H.out.symm, rfl⟩
  · have H := Lib.hid (chk_pw (hx ▸ h))
    have HX := Lib.hid hx
    clear hx
    have hn : (x != 1) = true := by simpa using h
    go_enter Try.func40, Try.ntmps40
    go_wp2_with (go_at_call 61; refine HC'.out.mono ?_; rintro e w' ⟨rfl, rfl⟩)
    go_ret
    exact ⟨ret_int H.out.symm, rfl⟩

theorem isScalar_yes (k : Int) (w : World) (h0 : 0 ≤ k) (h1 : k < 2305843009213688669) : Calls Try.prog 69 #[.int .i64 k] w fun e w' => e = .returned (.bool true) ∧ w = w' := by
  go_enter Try.func69, Try.ntmps69
  go_wp2
  go_ret
  exact ⟨rfl, rfl⟩

theorem device_yes (k : Int) (w : World) (h0 : 0 ≤ k) (h1 : k < 512) : Calls Try.prog 47 #[.int .i64 k] w fun e w' => e = .returned (.bool true) ∧ w = w' := by
  go_enter Try.func47, Try.ntmps47
  go_wp2
  go_ret
  exact ⟨rfl, rfl⟩

theorem device_no (k : Int) (w : World) (h : k < 0 ∨ 512 ≤ k) : Calls Try.prog 47 #[.int .i64 k] w fun e w' => e = .returned (.bool false) ∧ w = w' := by
  rcases h with h | h
  · go_enter Try.func47, Try.ntmps47
    go_wp2
    go_ret
    exact ⟨rfl, rfl⟩
  · have h' : 0 ≤ k := by omega
    go_enter Try.func47, Try.ntmps47
    go_wp2
    go_ret
    exact ⟨ret_bool (decide_eq_false (by omega)), rfl⟩

/-! ### powers that can be reckoned -/

/-- As ref04.Power goes, with a bound on the rounds. -/
def pm (m : Int) : Nat → Int → Nat → Int → Int
  | 0, _, _, c => c
  | f + 1, a, k, c => if k = 0 then c else if k % 2 = 1 then pm m f (a * a % m) (k / 2) (c * a % m) else pm m f (a * a % m) (k / 2) c

theorem pm_eq (m : Int) : ∀ (f : Nat) (a : Int) (k : Nat) (c : Int), k < 2 ^ f → pm m f a k c % m = c * a ^ k % m
  | 0, a, k, c, h => by
    have : k = 0 := by omega
    subst this
    simp [pm]
  | f + 1, a, k, c, h => by
    unfold pm
    by_cases h0 : k = 0
    · rw [if_pos h0, h0, Int.pow_zero, Int.mul_one]
    · rw [if_neg h0]
      by_cases h1 : k % 2 = 1
      · rw [if_pos h1, pm_eq m f _ _ _ (by omega)]
        exact pow_odd a c m k h1
      · rw [if_neg h1, pm_eq m f _ _ _ (by omega)]
        exact pow_even a c m k (by omega)

/-- G = 4 is in the group. -/
theorem gen_in : pw 4 2305843009213688669 = 1 := by
  have h := pm_eq 4611686018427377339 62 4 2305843009213688669 1 (by decide)
  rw [Int.one_mul] at h
  unfold pw
  rw [← h]
  exact of_decide_eq_true (by kernel_rfl)

theorem pw_pw (a : Int) (j k : Nat) : pw (pw a j) k = pw a (j * k) := by
  unfold pw
  have e : ∀ (x m : Int) (k : Nat), (x % m) ^ k % m = x ^ k % m := by
    intro x m k
    induction k with
    | zero => simp
    | succ k ih => rw [Int.pow_succ, Int.pow_succ, Int.mul_emod, ih, Int.emod_emod, ← Int.mul_emod]
  rw [e, ← Int.pow_mul]

theorem pw_one (k : Nat) : pw 1 k = 1 := by
  unfold pw; rw [Int.one_pow]; rfl

theorem base_in (k : Nat) : inG (pw 4 k) = true := by
  have hb := pw_bounds 4 k
  have h1 : pw (pw 4 k) 2305843009213688669 = 1 := by
    rw [pw_pw, Nat.mul_comm, ← pw_pw, gen_in, pw_one]
  have h0 : pw 4 k ≠ 0 := by
    intro e
    rw [e] at h1
    have : pw 0 2305843009213688669 = 0 := by
      unfold pw
      rw [Int.zero_pow (by decide)]; rfl
    rw [this] at h1
    cases h1
  unfold inG
  rw [decide_eq_true_eq]
  exact ⟨by omega, hb.2, h1⟩

theorem in4 : inG 4 = true := base_in 1
theorem in16 : inG 16 = true := base_in 2

theorem chk_in {a : Int} (h : inG a = true) : chk a = 0 := by unfold chk; rw [if_pos h]

set_option maxRecDepth 100000 in
set_option maxHeartbeats 400000 in
theorem base04_ok (k : Nat) (w : World) (hk : k < 2305843009213688669) : Calls Try.prog 30 #[.int .i64 k] w fun e w' => e = .returned (.tuple #[.int .i64 (pw 4 k), .int .i64 0]) ∧ w = w' := by
  have hE : Calls Try.prog 54 #[.int .i64 4, .int .i64 k] w fun e w' => e = .returned (.tuple #[.int .i64 (pw 4 k), .int .i64 0]) ∧ w = w' := by
    have hc := check04_any 4 w
    rw [chk_in in4] at hc
    have HC := Lib.hid hc
    clear hc
    go_enter Try.func54, Try.ntmps54
    go_wp2_with (first
      | (go_at_call 40; refine HC.out.mono ?_; rintro e w' ⟨rfl, rfl⟩)
      | (go_at_call 69; refine (isScalar_yes _ _ (by omega) (by omega)).mono ?_; rintro e w' ⟨rfl, rfl⟩)
      | (go_at_call 61; refine (power_any _ _ _ (by omega) (by omega) (by omega)).mono ?_; rintro e w' ⟨rfl, rfl⟩))
    go_ret2
    exact ⟨rfl, rfl⟩
  go_enter Try.func30, Try.ntmps30
  go_wp2_with (first
    | (go_at_call 54; refine hE.mono ?_; rintro e w' ⟨rfl, rfl⟩))
  go_ret2
  exact ⟨rfl, rfl⟩

end Go.Proofs.Ytofkmapokdcphaa
