import Derived.Test.YtofkmapokdcphaaC
import Derived.Deep.DeepCutAuto
import Derived.Deep.CutBlock
import Derived.Laws.BitsLemmas
namespace Go.Proofs.Ytofkmapokdcphaa
open Go Go.RowKit Go.Maps Go.My

set_option maxRecDepth 100000 in
set_option maxHeartbeats 1000000 in
theorem div64_zero (lo : Int) (w : World) (l0 : 0 ≤ lo) (l1 : lo < 18446744073709551616) :
    Calls Try.prog 88 #[.int .u64 0, .int .u64 lo, .int .u64 4611686018427377339] w fun e w' => e = .returned (.tuple #[.int .u64 (lo / 4611686018427377339), .int .u64 (lo % 4611686018427377339)]) ∧ ∃ n, w' = w.drewN n := by
  go_enter Try.func88, Try.ntmps88
  go_wp2
  go_quiet (fail)
  go_wp2
  go_ret2
  exact ⟨rfl, _, rfl⟩

/-! ### the steps of Knuth's division, at this divisor -/
theorem kn_low {U v Q : Int} (h2 : U * 4294967296 + v < Q * 18446744073709509356 + 18446744073709509356) (hu : 0 ≤ U) (hv : 0 ≤ v) : 0 ≤ Q := by omega
theorem kn_high {U v Q : Int} (h1 : Q * 18446744073709509356 ≤ U * 4294967296 + v) (hu : U < 18446744073709509356) (hv : v < 4294967296) : Q < 4294967296 := by omega
theorem kn_start {U v Q : Int} (h1 : Q * 18446744073709509356 ≤ U * 4294967296 + v) (hu0 : 0 ≤ U) (v1 : v < 4294967296) : Q ≤ U / 4294967295 := by omega
theorem kn_stop {U v Q q r : Int} (h1 : Q * 18446744073709509356 ≤ U * 4294967296 + v) (h2 : U * 4294967296 + v < Q * 18446744073709509356 + 18446744073709509356) (_v0 : 0 ≤ v) (_v1 : v < 4294967296)
    (he : q * 4294967295 + r = U) (hg : Q ≤ q) (hc : q * 4294925036 ≤ 4294967296 * r + v) : q = Q := by omega
theorem kn_go {U v Q q r : Int} (h1 : Q * 18446744073709509356 ≤ U * 4294967296 + v) (hu : U < 18446744073709509356) (_v0 : 0 ≤ v) (v1 : v < 4294967296)
    (he : q * 4294967295 + r = U) (hc : 4294967296 ≤ q ∨ 4294967296 * r + v < q * 4294925036) : Q ≤ q - 1 := by omega
theorem kn_big {U v Q q r : Int} (h1 : Q * 18446744073709509356 ≤ U * 4294967296 + v) (h2 : U * 4294967296 + v < Q * 18446744073709509356 + 18446744073709509356) (_v0 : 0 ≤ v) (v1 : v < 4294967296)
    (he : q * 4294967295 + r = U) (hg : Q ≤ q - 1) (hq : q ≤ 4294967296) (hc : 4294967296 ≤ r + 4294967295) : q - 1 = Q := by omega

theorem wraps_u64' (n : Int) (_h0 : 0 ≤ n) (h1 : n < 2 ^ 64) : IntKind.u64.wrap n = n := by
  show n % 18446744073709551616 = n
  omega
theorem wrap_rest (U v Q : Int) (_u0 : 0 ≤ U) (_v0 : 0 ≤ v) (h1 : Q * 18446744073709509356 ≤ U * 4294967296 + v) (h2 : U * 4294967296 + v < Q * 18446744073709509356 + 18446744073709509356) :
    IntKind.u64.wrap (IntKind.u64.wrap (IntKind.u64.wrap (U * 4294967296) + v) - IntKind.u64.wrap (Q * 18446744073709509356)) = U * 4294967296 + v - Q * 18446744073709509356 := by
  show (((U * 4294967296) % 18446744073709551616 + v) % 18446744073709551616 - (Q * 18446744073709509356) % 18446744073709551616) % 18446744073709551616 = _
  omega
theorem ret_two {k l : IntKind} {a b c d : Int} (h : a = c) (h' : b = d) : Ending.returned (.tuple #[.int k a, .int l b]) = .returned (.tuple #[.int k c, .int l d]) := by rw [h, h']

/-- The lower half of a 64-bit number. -/
theorem and_mask (x : Int) (h0 : 0 ≤ x) (h1 : x < 18446744073709551616) : bits .and .u64 x 4294967295 = x % 4294967296 :=
  bits_mask .u64 64 (by decide) wraps_u64' 32 (by decide) x h0 h1
theorem or_split (hi lo : Int) (h0 : 0 ≤ hi) (h1 : hi < 4611686018427387904) (l0 : 0 ≤ lo) (l1 : lo < 18446744073709551616) :
    bits .or .u64 (hi * 4) (lo / 4611686018427387904) = hi * 4 + lo / 4611686018427387904 :=
  bits_join .u64 64 (by decide) wraps_u64' 2 (hi * 4) (lo / 4611686018427387904) (by omega) (by omega) (by omega) (by omega) (by omega) (by omega)

set_option maxRecDepth 100000 in
set_option maxHeartbeats 1000000 in
theorem div64_any (hi lo : Int) (w : World) (h0 : 1 ≤ hi) (h1 : hi < 4611686018427377339) (l0 : 0 ≤ lo) (l1 : lo < 18446744073709551616) :
    Calls Try.prog 88 #[.int .u64 hi, .int .u64 lo, .int .u64 4611686018427377339] w fun e w' => ∃ q, e = .returned (.tuple #[.int .u64 q, .int .u64 ((hi * 18446744073709551616 + lo) % 4611686018427377339)]) ∧ w = w' := by
  have hL := Try.bits_LeadingZeros64 4611686018427377339 w (by omega) (by omega)
  have e2 : (64 - (Lib.bitLen (4611686018427377339 : Int).toNat : Int)) = 2 := of_decide_eq_true (by kernel_rfl)
  rw [e2] at hL
  clear e2
  have HL := Lib.hid hL
  clear hL
  obtain ⟨U, hU⟩ : ∃ U, U = hi * 4 + lo / 4611686018427387904 := ⟨_, rfl⟩
  obtain ⟨V, hV⟩ : ∃ V, V = (lo * 4) % 18446744073709551616 := ⟨_, rfl⟩
  have eor := or_split hi lo (by omega) (by omega) l0 l1
  rw [← hU] at eor
  have ewr : IntKind.u64.wrap (lo * 4) = V := by rw [hV]; rfl
  have u0 : 0 ≤ U := by omega
  have u1 : U < 18446744073709509356 := by omega
  have v0 : 0 ≤ V := by omega
  have v1 : V < 18446744073709551616 := by omega
  have em := and_mask 18446744073709509356 (by omega) (by omega)
  have ev := and_mask V v0 v1
  have em' : (18446744073709509356 : Int) % 4294967296 = 4294925036 := by decide
  rw [em'] at em
  clear em'
  have HU := Lib.hid hU
  have HV := Lib.hid hV
  clear hU hV
  go_enter Try.func88, Try.ntmps88
  go_upto_block 0 with (first
    | (go_at_call 96; refine HL.out.mono ?_; rintro e w' ⟨rfl, rfl⟩))
  clear ewr eor em ev
  obtain ⟨v, hv⟩ : ∃ v, v = V / 4294967296 := ⟨_, rfl⟩
  obtain ⟨x, hx⟩ : ∃ x, x = V % 4294967296 := ⟨_, rfl⟩
  have v0a : 0 ≤ v := by omega
  have v0b : v < 4294967296 := by omega
  have x0a : 0 ≤ x := by omega
  have x0b : x < 4294967296 := by omega
  have hvx : V = v * 4294967296 + x := by omega
  have HVX := Lib.hid hvx
  clear hvx
  rw [← hv, ← hx]
  have Hv := Lib.hid hv
  have Hx := Lib.hid hx
  clear hv hx
  obtain ⟨Q, HQ⟩ : ∃ Q : Int, Hid (Q * 18446744073709509356 ≤ U * 4294967296 + v ∧ U * 4294967296 + v < Q * 18446744073709509356 + 18446744073709509356) :=
    ⟨(U * 4294967296 + v) / 18446744073709509356, by unfold Hid; omega⟩
  have hQ0 := kn_low HQ.out.2 u0 v0a
  have hQ1 := kn_high HQ.out.1 u1 v0b
  go_cut [15, 16] (fun s15 s16 wc => s15 = .int .u64 Q ∧ (∃ r, s16 = .int .u64 r) ∧ wc = w')
  case first =>
    go_wp2
    go_loop [15, 16] (fun x y => ∃ q r : Int, x = .int .u64 q ∧ y = .int .u64 r ∧ 0 ≤ q ∧ q ≤ 4294967296 ∧ 0 ≤ r ∧ r < 4294967296 ∧ Hid (q * 4294967295 + r = U) ∧ Hid (Q ≤ q)) (fun x _ => (intOf x).toNat)
    case atStart => exact ⟨_, _, rfl, rfl, by omega, by omega, by omega, by omega, by unfold Hid; omega, kn_start (HQ).out.1 u0 v0b⟩
    case round =>
      obtain ⟨q, r, rfl, rfl, q0, q1, r0, r1, HE, HG⟩ := hrel
      by_cases c1 : 4294967296 ≤ q
      · have hgo := kn_go (HQ).out.1 u1 v0a v0b HE.out (Or.inl c1)
        by_cases c3 : 4294967296 ≤ r + 4294967295
        · have hq := kn_big (HQ).out.1 (HQ).out.2 v0a v0b HE.out hgo q1 c3
          have HQ' := Lib.hid hq
          clear hq hgo
          go_wp2
          go_meet
          exact ⟨by rw [HQ'.out], ⟨_, rfl⟩, rfl⟩
        · have HG' := Lib.hid hgo
          clear hgo
          go_wp2
          go_round
          case rel => exact ⟨_, _, rfl, rfl, by omega, by omega, by omega, by omega, by have := HE.out; unfold Hid; omega, HG'.out⟩
          case measure => simp [intOf]; omega
      · by_cases c2 : 4294967296 * r + v < q * 4294925036
        · have hgo := kn_go (HQ).out.1 u1 v0a v0b HE.out (Or.inr c2)
          have HG' := Lib.hid hgo
          have hq1 : 1 ≤ q := by omega
          clear hgo
          by_cases c3 : 4294967296 ≤ r + 4294967295
          · have hq := kn_big (HQ).out.1 (HQ).out.2 v0a v0b HE.out HG'.out q1 c3
            have HQ' := Lib.hid hq
            clear hq
            go_wp2
            go_meet
            exact ⟨by rw [HQ'.out], ⟨_, rfl⟩, rfl⟩
          · go_wp2
            go_round
            case rel => exact ⟨_, _, rfl, rfl, by omega, by omega, by omega, by omega, by have := HE.out; unfold Hid; omega, HG'.out⟩
            case measure => simp [intOf]; omega
        · have hq := kn_stop (HQ).out.1 (HQ).out.2 v0a v0b HE.out HG.out (by omega)
          have HQ' := Lib.hid hq
          clear hq
          go_wp2
          go_meet
          exact ⟨by rw [HQ'.out], ⟨_, rfl⟩, rfl⟩
  case rest =>
    obtain ⟨rfl, ⟨r, rfl⟩, rfl⟩ := hcut
    obtain ⟨R, hR⟩ : ∃ R, R = U * 4294967296 + v - Q * 18446744073709509356 := ⟨_, rfl⟩
    have eR := wrap_rest U v Q u0 v0a HQ.out.1 HQ.out.2
    rw [← hR] at eR
    have R0 : 0 ≤ R := by have := HQ.out.1; omega
    have R1 : R < 18446744073709509356 := by have := HQ.out.2; omega
    have HR := Lib.hid hR
    clear hR
    obtain ⟨Q2, HQ2⟩ : ∃ Q2 : Int, Hid (Q2 * 18446744073709509356 ≤ R * 4294967296 + x ∧ R * 4294967296 + x < Q2 * 18446744073709509356 + 18446744073709509356) :=
      ⟨(R * 4294967296 + x) / 18446744073709509356, by unfold Hid; omega⟩
    have hQ20 := kn_low HQ2.out.2 R0 x0a
    have hQ21 := kn_high HQ2.out.1 R1 x0b
    go_upto_block 2 with fail
    clear eR
    go_cut [18, 16] (fun s18 s16 wd => s18 = .int .u64 Q2 ∧ (∃ r, s16 = .int .u64 r) ∧ wd = wc)
    case first =>
      go_wp2
      go_loop [18, 16] (fun x y => ∃ q r : Int, x = .int .u64 q ∧ y = .int .u64 r ∧ 0 ≤ q ∧ q ≤ 4294967296 ∧ 0 ≤ r ∧ r < 4294967296 ∧ Hid (q * 4294967295 + r = R) ∧ Hid (Q2 ≤ q)) (fun x _ => (intOf x).toNat)
      case atStart => exact ⟨_, _, rfl, rfl, by omega, by omega, by omega, by omega, by unfold Hid; omega, kn_start (HQ2).out.1 R0 x0b⟩
      case round =>
        obtain ⟨q, r, rfl, rfl, q0, q1, r0, r1, HE, HG⟩ := hrel
        by_cases c1 : 4294967296 ≤ q
        · have hgo := kn_go (HQ2).out.1 R1 x0a x0b HE.out (Or.inl c1)
          by_cases c3 : 4294967296 ≤ r + 4294967295
          · have hq := kn_big (HQ2).out.1 (HQ2).out.2 x0a x0b HE.out hgo q1 c3
            have HQ' := Lib.hid hq
            clear hq hgo
            go_wp2
            go_meet
            exact ⟨by rw [HQ'.out], ⟨_, rfl⟩, rfl⟩
          · have HG' := Lib.hid hgo
            clear hgo
            go_wp2
            go_round
            case rel => exact ⟨_, _, rfl, rfl, by omega, by omega, by omega, by omega, by have := HE.out; unfold Hid; omega, HG'.out⟩
            case measure => simp [intOf]; omega
        · by_cases c2 : 4294967296 * r + x < q * 4294925036
          · have hgo := kn_go (HQ2).out.1 R1 x0a x0b HE.out (Or.inr c2)
            have HG' := Lib.hid hgo
            have hq1 : 1 ≤ q := by omega
            clear hgo
            by_cases c3 : 4294967296 ≤ r + 4294967295
            · have hq := kn_big (HQ2).out.1 (HQ2).out.2 x0a x0b HE.out HG'.out q1 c3
              have HQ' := Lib.hid hq
              clear hq
              go_wp2
              go_meet
              exact ⟨by rw [HQ'.out], ⟨_, rfl⟩, rfl⟩
            · go_wp2
              go_round
              case rel => exact ⟨_, _, rfl, rfl, by omega, by omega, by omega, by omega, by have := HE.out; unfold Hid; omega, HG'.out⟩
              case measure => simp [intOf]; omega
          · have hq := kn_stop (HQ2).out.1 (HQ2).out.2 x0a x0b HE.out HG.out (by omega)
            have HQ' := Lib.hid hq
            clear hq
            go_wp2
            go_meet
            exact ⟨by rw [HQ'.out], ⟨_, rfl⟩, rfl⟩
    case rest =>
      obtain ⟨rfl, ⟨r2, rfl⟩, rfl⟩ := hcut
      have eR := wrap_rest R x Q2 R0 x0a HQ2.out.1 HQ2.out.2
      go_wp2_with fail
      go_ret2
      refine ⟨_, ret_two rfl ?_, rfl⟩
      have a1 := HQ.out
      have a2 := HQ2.out
      have a3 := HR.out
      have a4 := HU.out
      have a5 := HV.out
      have a6 := HVX.out
      omega

set_option maxRecDepth 100000 in
set_option maxHeartbeats 1000000 in
theorem times_any (a b : Nat) (w : World) (ha : a < 4611686018427377339) (hb : b < 4611686018427377339) :
    Calls Try.prog 71 #[.int .u64 a, .int .u64 b] w fun e w' => e = .returned (.int .u64 ((a * b % 4611686018427377339 : Nat) : Int)) ∧ ∃ k, w' = w.drewN k := by
  have hM := Lib.hid (Try.bits_Mul64 a b (by omega) (by omega) w)
  obtain ⟨p, hp⟩ : ∃ p, p = a * b := ⟨_, rfl⟩
  have hpl : p < 4611686018427377339 * 4611686018427377339 := by
    rw [hp]
    exact Nat.lt_of_le_of_lt (Nat.mul_le_mul_left a (Nat.le_of_lt hb)) (Nat.mul_lt_mul_of_pos_right ha (by decide))
  rw [← hp] at hM ⊢
  have HP := Lib.hid hp
  clear hp
  obtain ⟨x, hx⟩ : ∃ x : Int, x = ((p / 18446744073709551616 : Nat) : Int) := ⟨_, rfl⟩
  obtain ⟨y, hy⟩ : ∃ y : Int, y = ((p % 18446744073709551616 : Nat) : Int) := ⟨_, rfl⟩
  rw [← hx, ← hy] at hM
  have x0 : 0 ≤ x := by omega
  have x1 : x < 4611686018427377339 := by omega
  have y0 : 0 ≤ y := by omega
  have y1 : y < 18446744073709551616 := by omega
  have hr : (x * 18446744073709551616 + y) % 4611686018427377339 = ((p % 4611686018427377339 : Nat) : Int) := by omega
  have HR := Lib.hid hr
  have HX := Lib.hid hx
  have HY := Lib.hid hy
  clear hr hx hy hpl
  by_cases hz : x = 0
  · subst hz
    go_enter Try.func71, Try.ntmps71
    go_wp2_with (first
      | (go_at_call 87; refine hM.out.mono ?_; rintro e w' ⟨rfl, rfl⟩)
      | (go_at_call 88; refine (div64_zero y _ y0 y1).mono ?_; rintro e w' ⟨rfl, k, rfl⟩))
    go_ret
    exact ⟨ret_int (by rw [← HR.out, Int.zero_mul, Int.zero_add]), _, rfl⟩
  · have hx1 : 1 ≤ x := by omega
    go_enter Try.func71, Try.ntmps71
    go_wp2_with (first
      | (go_at_call 87; refine hM.out.mono ?_; rintro e w' ⟨rfl, rfl⟩)
      | (go_at_call 88; refine (div64_any x y _ hx1 x1 y0 y1).mono ?_; rintro e w' ⟨q, rfl, rfl⟩))
    go_ret
    exact ⟨ret_int HR.out, 0, rfl⟩

end Go.Proofs.Ytofkmapokdcphaa
