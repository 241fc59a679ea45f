import Derived.Test.YtofkmapokdcphaaD
import Derived.Test.YtofkmapokdcphaaRange
namespace Go.Proofs.Ytofkmapokdcphaa
open Go Go.RowKit Go.Maps Go.My Go.Shelf
attribute [local go_sem] Oper.semAt_some

/-- The bits of k, the most significant first. -/
def digs (k : Nat) : List Bool := (List.range (Lib.bitLen k)).map fun i => (k / 2 ^ (Lib.bitLen k - 1 - i)) % 2 == 1

theorem bitLen_64 (k : Nat) (hk : k < 18446744073709551616) : Lib.bitLen k ≤ 64 := by
  have := Any.bitLen_le64 k (by omega) (by omega)
  rwa [Int.toNat_natCast] at this

theorem digs_length (k : Nat) : (digs k).length = Lib.bitLen k := by simp [digs]

theorem and_one (y : Nat) (h : y < 18446744073709551616) : bits .and .u64 (y : Int) 1 = ((y % 2 : Nat) : Int) := by
  have := bits_mask .u64 64 (by decide) wraps_u64' 1 (by decide) (y : Int) (by omega) (by omega)
  simpa using this

theorem digs_at (k : Nat) (hk : k < 18446744073709551616) (n : Nat) (hn : n = Lib.bitLen k) (j : Nat) (hj : j < n) :
    ∃ x, (digs k)[j]? = some x ∧ (bits .and .u64 ((k : Int) / 2 ^ (n - 1 - j)) 1 == 1) = x := by
  refine ⟨(k / 2 ^ (Lib.bitLen k - 1 - j)) % 2 == 1, by unfold digs; rw [List.getElem?_map, List.getElem?_range (by rw [← hn]; exact hj)]; rfl, ?_⟩
  have e : ((k : Int) / 2 ^ (n - 1 - j)) = ((k / 2 ^ (n - 1 - j) : Nat) : Int) := by simp
  rw [e, and_one _ (Nat.lt_of_le_of_lt (Nat.div_le_self _ _) hk), hn]
  generalize k / 2 ^ (Lib.bitLen k - 1 - j) % 2 = z
  rw [Bool.eq_iff_iff, beq_iff_eq, beq_iff_eq]
  omega

set_option maxRecDepth 100000 in
set_option maxHeartbeats 1000000 in
theorem digits_iter (B k : Nat) (hk : k < 18446744073709551616) :
    Iter Try.prog 86 #[.pointer (some ⟨B, 0, none⟩)] (fun b : Bool => #[.bool b]) (digs k) nob (fun j => j = B) (fun W => W.cell? ⟨B, 0, none⟩ = some (.int .u64 k)) := by
  intro l J Jx F W hJ hJx hpre hFK hY h0
  refine (callsIn_wide (n := 3)).1 ?_
  refine callsIn_of_wp Try.func86 rfl trivial ?_ rfl
  simp only [Try.ntmps86, List.size_toArray, List.length_cons, List.length_nil, Nat.reduceAdd, Nat.reduceSub, Array.replicate_succ, Array.replicate_zero, List.push_toArray, List.append_toArray, List.nil_append, List.cons_append]
  have hl0 := Try.bits_Len64 k W (by omega) (by omega)
  rw [Int.toNat_natCast] at hl0
  have hl := callsIn_wide (n := 2) |>.2 hl0
  clear hl0
  have HL := Lib.hid hl
  clear hl
  have HY := Lib.hid hY
  have HJ := Lib.hid hJ
  have HJx := Lib.hid hJx
  have H0 := Lib.hid h0
  have HF := Lib.hid hFK
  clear hY hJ hJx h0 hFK
  have t83 : Fence.wide.fn 83 := trivial
  obtain ⟨n, hn⟩ : ∃ n, n = Lib.bitLen k := ⟨_, rfl⟩
  have hn64 : n ≤ 64 := by rw [hn]; exact bitLen_64 k hk
  rw [← hn] at HL
  have HN := Lib.hid hn
  clear hn
  gi_wp2_with (gi_at_call 83; refine HL.out.mono ?_; rintro e w' ⟨rfl, rfl⟩)
  gi_loopw [3] (fun x wr => ∃ (j : Nat) (F' : Nat → Prop), j ≤ n ∧ x = .int .i64 ((n : Int) - 1 - j) ∧ Hid (J j F' wr) ∧ Hid (Chg F w' wr) ∧ Hid (∀ k, F' k → F k ∨ w'.heap.size ≤ k)) (fun x _ => (intOf x + 1).toNat)
  case atStart => exact ⟨0, F, Nat.zero_le _, by go_num, H0.out, Chg.refl _ _, fun _ h => .inl h⟩
  case round =>
    obtain ⟨j, F', hj, rfl, hJj, hC, hS⟩ := hrel
    have hB : wr.cell? ⟨B, 0, none⟩ = some (.int .u64 k) := hC.out.cell hpre (fun h => HF.out B h rfl)
    by_cases hlt : j < n
    · obtain ⟨x, hx, eb⟩ := digs_at k hk n HN.out j hlt
      obtain ⟨fn, tmps, assign, body, hy, hR⟩ := HY.out 2 j x F' wr hx hJj.out
      have HR := Lib.hid hR
      have HX := Lib.hid hx
      clear hR hx
      gi_wp2_with fail
      refine HR.out.mono ?_
      rintro e W3 ⟨F3, hC3, hS3, h3⟩
      have hC3' : Chg F w' W3 := hC.out.trans hC3 hS.out
      have hS3' : ∀ k, F3 k → F k ∨ w'.heap.size ≤ k := fun k h => by
        rcases hS3 k h with h' | h'
        · exact hS.out k h'
        · exact .inr (Nat.le_trans hC.out.size h')
      have HC3 := Lib.hid hC3'
      have HS3 := Lib.hid hS3'
      clear hC3 hS3 hC3' hS3' hC hS hJj eb
      rcases h3 with ⟨rfl, hJ3⟩ | ⟨rfl, hJ3⟩
      · have HJ3 := Lib.hid hJ3
        clear hJ3
        gi_wp2
        go_roundw
        case rel => exact ⟨j + 1, F3, by omega, by go_num, HJ3.out, HC3.out, HS3.out⟩
        case measure => simp [intOf]; omega
      · have HJ3 := Lib.hid hJ3
        clear hJ3
        gi_wp2
        refine bodyPost_ret (results_none rfl _ _ _) rfl ?_
        exact ⟨⟨_, rfl⟩, F3, HC3.out.mono (fun _ h => .inl h), HS3.out, .inr ⟨j + 1, by rw [digs_length, ← HN.out]; omega, HJ3.out⟩⟩
    · have hjn : j = n := by omega
      have HJN := Lib.hid hjn
      clear hjn
      gi_wp2
      go_end0
      exact ⟨⟨_, rfl⟩, F', hC.out.mono (fun _ h => .inl h), hS.out, .inl (by rw [digs_length, ← HN.out, ← HJN.out]; exact hJj.out)⟩
end Go.Proofs.Ytofkmapokdcphaa
