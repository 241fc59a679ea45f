import Derived.Test.YtofkmapokdcphaaE
import Derived.Lib.ItoaNum
namespace Go.Proofs.Ytofkmapokdcphaa
open Go Go.RowKit Go.Maps Go.My Go.Shelf
attribute [local go_sem] Oper.semAt_some

theorem digits_any (k : Nat) (w : World) : Calls Try.prog 70 #[.int .u64 k] w fun e w' => e = .returned (.func (.func 86) #[] #[.pointer (some ⟨w.heap.size, 0, none⟩)]) ∧ w' = w.alloc (.cells #[.int .u64 k] 82) := by
  go_enter Try.func70, Try.ntmps70
  go_wp2
  go_ret
  exact ⟨rfl, rfl⟩

/-- A cell of one's own, as a framed fact. -/
theorem framed_cells2 (B1 B2 : Nat) (p : World → Prop) (hp : ∀ W W', p W → W'.heap[B1]? = W.heap[B1]? → W'.heap[B2]? = W.heap[B2]? → p W') (hlt : ∀ W, p W → B1 < W.heap.size ∧ B2 < W.heap.size) :
    Framed (fun F W => (∀ k, F k ↔ k = B1 ∨ k = B2) ∧ p W) where
  lt := by
    rintro F W ⟨hF, h⟩ k hk
    rcases (hF k).1 hk with rfl | rfl
    · exact (hlt W h).1
    · exact (hlt W h).2
  frame := by
    rintro F W W' ⟨hF, h⟩ hs hk
    exact ⟨hF, hp W W' h (hk _ ((hF _).2 (.inl rfl))) (hk _ ((hF _).2 (.inr rfl)))⟩

theorem framed_false : Framed (fun _ _ => False) := ⟨fun h => h.elim, fun h => h.elim⟩

def pwBox (B5 B2 : Nat) (a c : Nat) (W : World) : Prop := Boxed W B5 82 (.int .u64 c) ∧ Boxed W B2 82 (.int .u64 a)
theorem pwBox_keep {B5 B2 a c : Nat} : ∀ W W' : World, pwBox B5 B2 a c W → W'.heap[B5]? = W.heap[B5]? → W'.heap[B2]? = W.heap[B2]? → pwBox B5 B2 a c W' :=
  fun _ _ h h5 h2 => ⟨h5.trans h.1, h2.trans h.2⟩
theorem pwBox_lt {B5 B2 a c : Nat} : ∀ W : World, pwBox B5 B2 a c W → B5 < W.heap.size ∧ B2 < W.heap.size := fun _ h => ⟨h.1.lt, h.2.lt⟩

def pwN (a k : Nat) : Nat := a ^ k % 4611686018427377339
theorem pw_cast (a k : Nat) : pw a k = (pwN a k : Int) := by
  unfold pw pwN
  simp
theorem pwN_lt (a k : Nat) : pwN a k < 4611686018427377339 := Nat.mod_lt _ (by decide)
theorem pwN_zero (a : Nat) : pwN a 0 = 1 := by unfold pwN; rw [Nat.pow_zero]
theorem pwN_sq (a k : Nat) : pwN a k * pwN a k % 4611686018427377339 = pwN a (2 * k) := by
  unfold pwN
  rw [← Nat.mul_mod, ← Nat.pow_add]
  congr 2
  omega
theorem pwN_succ (a k : Nat) : pwN a k * a % 4611686018427377339 = pwN a (k + 1) := by
  unfold pwN
  rw [Nat.mod_mul_mod, ← Nat.pow_succ]

/-- The power behind i bits of k. -/
def pre (a k i : Nat) : Nat := pwN a (k / 2 ^ (Lib.bitLen k - i))

theorem bitLen_lt (k : Nat) (hk : k < 18446744073709551616) : k < 2 ^ Lib.bitLen k := by
  by_cases h : k = 0
  · subst h; exact Nat.two_pow_pos _
  · exact (Lib.bitLenAux_bounds 64 k (by omega) h).2.2

theorem pre_start (a k : Nat) (hk : k < 18446744073709551616) : pre a k 0 = 1 := by
  unfold pre
  rw [Nat.sub_zero, Nat.div_eq_of_lt (bitLen_lt k hk), pwN_zero]
theorem pre_end (a k : Nat) : pre a k (Lib.bitLen k) = pwN a k := by
  unfold pre
  rw [Nat.sub_self, Nat.pow_zero, Nat.div_one]
theorem pre_next (a k i : Nat) (x : Bool) (hx : (digs k)[i]? = some x) :
    pre a k (i + 1) = if x then pre a k i * pre a k i % 4611686018427377339 * a % 4611686018427377339 else pre a k i * pre a k i % 4611686018427377339 := by
  have hi : i < Lib.bitLen k := by
    have := (List.getElem?_eq_some_iff.1 hx).1
    rwa [digs_length] at this
  have hx' : ((k / 2 ^ (Lib.bitLen k - 1 - i)) % 2 == 1) = x := by
    unfold digs at hx
    rw [List.getElem?_map, List.getElem?_range hi] at hx
    exact Option.some.inj hx
  have e1 : Lib.bitLen k - (i + 1) = Lib.bitLen k - 1 - i := by omega
  have e2 : Lib.bitLen k - i = (Lib.bitLen k - 1 - i) + 1 := by omega
  have e3 : k / 2 ^ (Lib.bitLen k - i) = (k / 2 ^ (Lib.bitLen k - 1 - i)) / 2 := by
    rw [e2, Nat.pow_succ, Nat.div_div_eq_div_mul]
  unfold pre
  rw [e1, e3]
  generalize k / 2 ^ (Lib.bitLen k - 1 - i) = z at hx' ⊢
  rw [pwN_sq, pwN_succ]
  cases x with
  | true =>
    have : z % 2 = 1 := by simpa using hx'
    rw [if_pos rfl]
    congr 1
    omega
  | false =>
    have : ¬ z % 2 = 1 := by simpa using hx'
    rw [if_neg (by decide)]
    congr 1
    omega

set_option maxRecDepth 100000 in
set_option maxHeartbeats 1000000 in
theorem power60 (a k : Nat) (w : World) (ha : a < 4611686018427377339) (hk : k < 18446744073709551616) :
    Calls Try.prog 60 #[.int .u64 a, .int .u64 k] w fun e w' => e = .returned (.int .u64 (pw a k)) ∧ Below w.heap.size w w' := by
  refine (callsIn_wide (n := 3)).1 ?_
  refine callsIn_of_wp_marks Try.func60 rfl trivial ?_ rfl
  simp only [Try.ntmps60, List.size_toArray, List.length_cons, List.length_nil, Nat.reduceAdd, Nat.reduceSub, Array.replicate_succ, Array.replicate_zero, List.push_toArray, List.append_toArray, List.nil_append, List.cons_append]
  have t70 : Fence.wide.fn 70 := trivial
  gi_wp2_with (gi_at_call 70; refine (callsIn_wide.2 (digits_any k _)).mono ?_; rintro e w' ⟨rfl, rfl⟩)
  refine wp_range (gf := 86) (lb := #[.pointer (some ⟨w.heap.size + 1 + 1, 0, none⟩)]) rfl (enters_of Try.func86 (by kernel_rfl) rfl) (digits_iter (w.heap.size + 1 + 1) k hk) ?hpre ?hK (fun _ => rfl)
    (fun i F W => (∀ j, F j ↔ j = w.heap.size + 1 ∨ j = w.heap.size) ∧ pwBox (w.heap.size + 1) w.heap.size a (pre a k i) W)
    (fun _ _ _ _ => False) (fun i => framed_cells2 _ _ _ pwBox_keep pwBox_lt) (fun _ _ => framed_false)
    (fun j => j = w.heap.size + 1 ∨ j = w.heap.size) ?hF0 ?h0
    (fun i x a' W => a' = { tmps := #[.int .u64 a, .int .u64 k, .pointer (some ⟨w.heap.size, 0, none⟩), undef, .int .u64 0, .pointer (some ⟨w.heap.size + 1, 0, none⟩), .bool x, .int .u64 k,
      .func (.func 86) #[] #[.pointer (some ⟨w.heap.size + 1 + 1, 0, none⟩)], .bool x, undef, undef, undef, undef, undef, undef, undef, undef], defers := [] })
    (fun _ _ _ _ _ h _ => h) ?assign ?body ?done ?stop
  case hpre =>
    intro W hW
    refine hW.cell ?_ (fun h => h)
    have := (Boxed.new ((w.alloc (Obj.cells #[Value.int IntKind.u64 ↑a] 82)).alloc (Obj.cells #[Value.int IntKind.u64 1] 82)) 82 (.int .u64 k)).cell
    simpa only [World.size_alloc] using this
  case hK => intro j h; have h : j = w.heap.size + 1 + 1 := h; rw [h]; show w.heap.size + 1 + 1 < _; simp only [World.size_alloc]; omega
  case hF0 => intro j h e; have e : j = w.heap.size + 1 + 1 := e; rcases h with h | h <;> omega
  case h0 =>
    rw [pre_start _ _ hk]
    exact ⟨fun _ => Iff.rfl, (by have := Boxed.new (w.alloc (Obj.cells #[Value.int IntKind.u64 ↑a] 82)) 82 (.int .u64 1); simp only [World.size_alloc] at this; exact this.alloc _), ((Boxed.new w 82 (.int .u64 a)).alloc _).alloc _⟩
  case assign =>
    intro l i x F W Kc hx hJ hK
    gi_wp2
    exact hK _ _ (Chg.refl _ _) rfl
  case body =>
    rintro l i x a' F W hx ⟨hF, h5, h2⟩ hFl hl rfl
    have hcl : pre a k i < 4611686018427377339 := pwN_lt _ _
    have t71 : Fence.wide.fn 71 := trivial
    have hdep : 1 ≤ 9 := by omega
    have HF := Lib.hid hF
    clear hF hl hFl
    have c5 := h5.cell
    have f5 := h5.frozen
    have c2 := h2.cell
    cases x
    · have hn := pre_next a k i false hx
      rw [if_neg (by decide)] at hn
      have HN := Lib.hid hn
      generalize pre a k i = c at *
      clear hn hx
      have hcc : c * c % 4611686018427377339 < 4611686018427377339 := Nat.mod_lt _ (by decide)
      gi_wp2_with (gi_at_call 71; refine (CallsIn.inRound l (callsIn_wide.2 (times_any _ _ _ (by assumption) (by assumption)))).mono ?_; rintro e w' ⟨rfl, q, rfl⟩)
      refine ⟨F, (((Chg.refl F W).drewN _).setCell (.inl ((HF.out _).2 (.inl rfl))) _), fun j h => .inl h, HF.out, ?_, ?_⟩
      · rw [HN.out]; exact (h5.drewN _).set _
      · exact (h2.drewN _).other (by omega) _
    · have hn := pre_next a k i true hx
      rw [if_pos rfl, Nat.mod_mul_mod] at hn
      have HN := Lib.hid hn
      generalize pre a k i = c at *
      clear hn hx
      have hcc : c * c % 4611686018427377339 < 4611686018427377339 := Nat.mod_lt _ (by decide)
      gi_wp2_with (gi_at_call 71; refine (CallsIn.inRound l (callsIn_wide.2 (times_any _ _ _ (by assumption) (by assumption)))).mono ?_; rintro e w' ⟨rfl, q, rfl⟩)
      refine ⟨F, ((((Chg.refl F W).drewN _).setCell (.inl ((HF.out _).2 (.inl rfl))) _).drewN _).setCell (.inl ((HF.out _).2 (.inl rfl))) _, fun j h => .inl h, HF.out, ?_, ?_⟩
      · rw [HN.out]; exact (((h5.drewN _).set _).drewN _).set _
      · exact (((h2.drewN _).other (by omega) _).drewN _).other (by omega) _
  case stop => rintro D c i F W _ _ h; exact h.elim
  case done =>
    rintro D F W hleft ⟨hF, h5, h2⟩ hFD hD hKD
    have c5 := h5.cell
    gi_wp2
    refine ⟨by simp, .inl ⟨_, _, rfl, run_takeDeferred hKD, ?_⟩⟩
    refine ⟨_, results_tmp rfl _ _ _, ?_, ?_⟩
    · rw [digs_length, pre_end, pw_cast]; rfl
    · have h0 : Below w.heap.size w (((w.alloc (Obj.cells #[Value.int IntKind.u64 ↑a] 82)).alloc (Obj.cells #[Value.int IntKind.u64 1] 82)).alloc (Obj.cells #[Value.int IntKind.u64 ↑k] 82)) :=
        (((Below.refl _ _).alloc (Nat.le_refl _) _).alloc (by simp) _).alloc (by simp; omega) _
      have h1 : Below w.heap.size _ W := hleft.chg.below (fun j h => by rcases h with (h | h) | h; omega; omega; exact h.elim) (by simp; omega)
      refine h0.trans (h1.trans ?_)
      exact Chg.below (S := fun j => j = D) (Chg.putObj (S := fun j => j = D) (Chg.refl _ _) (.inl rfl) _) (fun j h => by simp at hD; omega) (by have := hleft.chg.size; simp at this; omega)

set_option maxRecDepth 100000 in
set_option maxHeartbeats 400000 in
/-- group.Check. -/
theorem check_any (a : Int) (w : World) : Calls Try.prog 39 #[.int .i64 a] w fun e w' => e = .returned (.int .i64 (chk a)) ∧ Below w.heap.size w w' := by
  by_cases h0 : a < 1
  · have H := Lib.hid (chk_low h0)
    go_enter Try.func39, Try.ntmps39
    go_wp2
    go_ret
    exact ⟨ret_int H.out.symm, Below.refl _ _⟩
  by_cases h1 : 4611686018427377339 ≤ a
  · have H := Lib.hid (chk_high h1)
    go_enter Try.func39, Try.ntmps39
    go_wp2
    go_ret
    exact ⟨ret_int H.out.symm, Below.refl _ _⟩
  obtain ⟨x, hx⟩ : ∃ x, x = pw a 2305843009213688669 := ⟨_, rfl⟩
  have HC : Calls Try.prog 60 #[.int .u64 a, .int .u64 2305843009213688669] w fun e w' => e = .returned (.int .u64 x) ∧ Below w.heap.size w w' := by
    obtain ⟨n, rfl⟩ := Int.eq_ofNat_of_zero_le (show 0 ≤ a by omega)
    rw [hx]; exact power60 n 2305843009213688669 w (by omega) (by omega)
  have HC' := Lib.hid HC
  clear HC
  by_cases h : x = 1
  · have H := Lib.hid (chk_ok (by omega) (by omega) (hx ▸ h))
    subst h
    have HX := Lib.hid hx
    clear hx
    go_enter Try.func39, Try.ntmps39
    go_wp2_with (go_at_call 60; refine HC'.out.mono ?_; rintro e w' ⟨rfl, hB⟩)
    go_ret
    exact ⟨ret_int H.out.symm, hB⟩
  · have H := Lib.hid (chk_pw (hx ▸ h))
    have HX := Lib.hid hx
    clear hx
    have hn : (x != 1) = true := by simpa using h
    go_enter Try.func39, Try.ntmps39
    go_wp2_with (go_at_call 60; refine HC'.out.mono ?_; rintro e w' ⟨rfl, hB⟩)
    go_ret
    exact ⟨ret_int H.out.symm, hB⟩

end Go.Proofs.Ytofkmapokdcphaa
