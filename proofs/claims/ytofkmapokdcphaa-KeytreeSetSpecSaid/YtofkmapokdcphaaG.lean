import Derived.Test.YtofkmapokdcphaaF
namespace Go.Proofs.Ytofkmapokdcphaa
open Go Go.RowKit Go.Maps Go.My Go.Shelf
attribute [local go_sem] Oper.semAt_some

/-- A leaf and the nodes above it, without the root. -/
def ups (n : Nat) : List Int := (List.range 9).map fun i => ((n / 2 ^ i : Nat) : Int)

theorem ups_length (n : Nat) : (ups n).length = 9 := by simp [ups]
theorem ups_at (n j : Nat) (hj : j < 9) : (ups n)[j]? = some ((n / 2 ^ j : Nat) : Int) := by
  unfold ups; rw [List.getElem?_map, List.getElem?_range hj]; rfl

theorem up_any (n : Int) (w : World) : Calls Try.prog 68 #[.int .i64 n] w fun e w' => e = .returned (.func (.func 85) #[] #[.pointer (some ⟨w.heap.size, 0, none⟩)]) ∧ w' = w.alloc (.cells #[.int .i64 n] 77) := by
  go_enter Try.func68, Try.ntmps68
  go_wp2
  go_ret
  exact ⟨rfl, rfl⟩

theorem shift_bounds (n j : Nat) (h0 : 512 ≤ n) (h1 : n < 1024) (hj : j < 9) : 2 ≤ n / 2 ^ j ∧ n / 2 ^ j < 1024 := by
  have : ∀ n : Nat, n < 1024 → 512 ≤ n → ∀ j : Nat, j < 9 → 2 ≤ n / 2 ^ j ∧ n / 2 ^ j < 1024 := of_decide_eq_true (by kernel_rfl)
  exact this n h1 h0 j hj

set_option maxRecDepth 100000 in
set_option maxHeartbeats 1000000 in
theorem up_iter (B n : Nat) (hn0 : 512 ≤ n) (hn1 : n < 1024) :
    Iter Try.prog 85 #[.pointer (some ⟨B, 0, none⟩)] (fun x : Int => #[.int .i64 x]) (ups n) (fun j => j = B) (fun j => j = B) (fun W => Boxed W B 77 (.int .i64 n)) := by
  intro l J Jx F W hJ hJx hpre hFK hY h0
  refine (callsIn_wide (n := 3)).1 ?_
  refine callsIn_of_wp Try.func85 rfl trivial ?_ rfl
  simp only [Try.ntmps85, List.size_toArray, List.length_cons, List.length_nil, Nat.reduceAdd, Nat.reduceSub, Array.replicate_succ, Array.replicate_zero, List.push_toArray, List.append_toArray, List.nil_append, List.cons_append]
  have HY := Lib.hid hY
  have HJ := Lib.hid hJ
  have HJx := Lib.hid hJx
  have H0 := Lib.hid h0
  have HF := Lib.hid hFK
  clear hY hJ hJx h0 hFK
  have t53 : Fence.wide.fn 53 := trivial
  gi_wp2
  gi_loopw [10] (fun _ wr => ∃ (j z : Nat) (F' : Nat → Prop), j ≤ 9 ∧ Hid (z = n / 2 ^ j) ∧ Boxed wr B 77 (.int .i64 (z : Int)) ∧ Hid (J j F' wr) ∧ Hid (Chg (fun k => F k ∨ k = B) W wr) ∧ Hid (∀ k, F' k → F k ∨ W.heap.size ≤ k)) (fun _ wr => match wr.cell? ⟨B, 0, none⟩ with | some v => (intOf v).toNat | none => 0)
  case atStart => exact ⟨0, n, F, Nat.zero_le _, by simp [Hid], hpre, H0.out, Chg.refl _ _, fun _ h => .inl h⟩
  case round =>
    obtain ⟨j, z, F', hj, hz, hBx, hJj, hC, hS⟩ := hrel
    have hB := hBx.cell
    have hBf := hBx.frozen
    have hBW : B < W.heap.size := hpre.lt
    have hFB : ¬ F' B := fun h => by
      rcases hS.out B h with h' | h'
      · exact HF.out B h' rfl
      · omega
    by_cases hlt : j < 9
    · have hs := shift_bounds n j hn0 hn1 hlt
      rw [← hz.out] at hs
      obtain ⟨s0, s1⟩ := hs
      have hx := ups_at n j hlt
      rw [← hz.out] at hx
      obtain ⟨fn, tmps, assign, body, hy, hR⟩ := HY.out 2 j _ F' wr hx hJj.out
      have HR := Lib.hid hR
      have HX := Lib.hid hx
      have HFB := Lib.hid hFB
      clear hR hx hFB
      have hdep : 1 ≤ 3 := by omega
      gi_wp2_with fail
      refine HR.out.mono ?_
      rintro e W3 ⟨F3, hC3, hS3, h3⟩
      have hB3 : Boxed W3 B 77 (.int .i64 (z : Int)) := (hC3.same B hBx.lt HFB.out).trans hBx
      have hC3' : Chg (fun k => F k ∨ k = B) W W3 := hC.out.trans hC3 (fun k h => by rcases hS.out k h with h' | h'; exact .inl (.inl h'); exact .inr h')
      have hS3' : ∀ k, F3 k → F k ∨ W.heap.size ≤ k := fun k h => by
        rcases hS3 k h with h' | h'
        · exact hS.out k h'
        · exact .inr (Nat.le_trans hC.out.size h')
      have hF3B : ¬ F3 B := fun h => by
        rcases hS3' B h with h' | h'
        · exact HF.out B h' rfl
        · omega
      have HC3 := Lib.hid hC3'
      have HS3 := Lib.hid hS3'
      have HF3B := Lib.hid hF3B
      have HMz : Hid ((match wr.cell? ⟨B, 0, none⟩ with | some v => (intOf v).toNat | none => 0) = z) := by unfold Hid; rw [hB]; simp [intOf]
      clear hC3 hS3 hC3' hS3' hF3B hC hS hJj hB hBf hBx
      have hB := hB3.cell
      have hBf := hB3.frozen
      rcases h3 with ⟨rfl, hJ3⟩ | ⟨rfl, hJ3⟩
      · have HJ3 := Lib.hid hJ3
        clear hJ3
        gi_wp2_with (gi_at_call 53; refine (callsIn_wide.2 (parent_any _ _ (by omega) (by omega))).mono ?_; rintro e w' ⟨rfl, rfl⟩)
        have hset := hB3.set (.int .i64 ((z : Int) / 2))
        go_roundw
        case rel =>
          refine ⟨j + 1, z / 2, F3, by omega, ?_, ?_, ?_, ?_, HS3.out⟩
          · have := hz.out; unfold Hid; rw [this, Nat.pow_succ, Nat.div_div_eq_div_mul]
          · have e : (((z / 2 : Nat) : Int)) = (z : Int) / 2 := by omega
            rw [e]; exact hset
          · exact (HJ.out _).chg HJ3.out (Chg.setCell (S := fun k => k = B) (Chg.refl _ _) (.inl rfl) _) (fun k hk e => HF3B.out (e ▸ hk))
          · exact HC3.out.setCell (.inl (.inr rfl)) _
        case measure =>
          have hm := HMz.out
          rw [hm, hset.cell]
          simp [intOf]
          omega
      · have HJ3 := Lib.hid hJ3
        clear hJ3
        gi_wp2
        go_end0
        exact ⟨⟨_, rfl⟩, F3, HC3.out, HS3.out, .inr ⟨j + 1, by rw [ups_length]; omega, HJ3.out⟩⟩
    · have hj9 : j = 9 := by omega
      have hz1 : z ≤ 1 := by
        have := hz.out
        rw [hj9] at this
        omega
      have HJ9 := Lib.hid hj9
      clear hj9
      gi_wp2
      refine ⟨fun _ h => (by cases h), ?_⟩
      gi_wp2
      go_end0
      exact ⟨⟨_, rfl⟩, F', hC.out, hS.out, .inl (by rw [ups_length, ← HJ9.out]; exact hJj.out)⟩
end Go.Proofs.Ytofkmapokdcphaa
