import Derived.Test.YtofkmapokdcphaaI
import Derived.Test.YtofkmapokdcphaaBase2
namespace Go.Proofs.Ytofkmapokdcphaa
open Go Go.RowKit Go.Maps Go.My Go.Shelf
attribute [local go_sem] Oper.semAt_some

/-- The resolution of a node, of depth at most d. -/
def resF (f : Int → Option Int) : Nat → Int → List Int
  | 0, n => if (f n).isSome then [n] else []
  | d + 1, n => if (f n).isSome then [n] else if 512 ≤ n then [] else resF f d (2 * n) ++ resF f d (2 * n + 1)

theorem resF_some {f : Int → Option Int} {d : Nat} {n : Int} (h : (f n).isSome = true) : resF f d n = [n] := by
  cases d <;> simp [resF, h]
theorem resF_leaf {f : Int → Option Int} {d : Nat} {n : Int} (h : (f n).isSome = false) (hn : 512 ≤ n) : resF f d n = [] := by
  cases d <;> simp [resF, h, hn]
theorem resF_inner {f : Int → Option Int} {d : Nat} {n : Int} (h : (f n).isSome = false) (hn : ¬ 512 ≤ n) : resF f (d + 1) n = resF f d (2 * n) ++ resF f d (2 * n + 1) := by
  simp [resF, h, hn]

/-- What the iterator asks of the memory. -/
def resPre (b1 b2 mb cnt : Nat) (f : Int → Option Int) (node : Int) (W : World) : Prop :=
  Boxed W b1 59 (.map (some mb)) ∧ Boxed W b2 3 (.int .i64 node) ∧ MapIs K3 evI W mb cnt f

def resK (b1 b2 mb : Nat) (j : Nat) : Prop := j = b1 ∨ j = b2 ∨ j = mb

theorem resPre_keep {b1 b2 mb cnt : Nat} {f : Int → Option Int} {node : Int} {W W' : World} {S : Nat → Prop} (h : resPre b1 b2 mb cnt f node W) (hc : Chg S W W') (hS : ∀ j, S j → ¬ resK b1 b2 mb j) : resPre b1 b2 mb cnt f node W' :=
  ⟨(hc.same _ h.1.lt (fun hs => hS _ hs (.inl rfl))).trans h.1, (hc.same _ h.2.1.lt (fun hs => hS _ hs (.inr (.inl rfl)))).trans h.2.1, h.2.2.block (hc.same _ h.2.2.lt (fun hs => hS _ hs (.inr (.inr rfl))))⟩

theorem wf_small {x : Int} (h0 : -9223372036854775808 ≤ x) (h1 : x ≤ 9223372036854775807) : (Lit.int .i64 x).wf = true := by
  have := wrap64_wf x
  rwa [show wrap64 x = x from by unfold wrap64; omega] at this

def ResIter (d : Nat) : Prop := ∀ (node : Int) (b1 b2 mb cnt : Nat) (f : Int → Option Int), 1 ≤ node → node ≤ 1023 → 512 ≤ node * 2 ^ d →
  Iter Try.prog 59 #[.pointer (some ⟨b1, 0, none⟩), .pointer (some ⟨b2, 0, none⟩)] (fun x : Int => #[.int .i64 x]) (resF f d node) nob (resK b1 b2 mb) (resPre b1 b2 mb cnt f node)

theorem res37 (m : Option Nat) (node : Int) (w : World) :
    Calls Try.prog 37 #[.map m, .int .i64 node] w fun e w' => e = .returned (.func (.func 59) #[] #[.pointer (some ⟨w.heap.size, 0, none⟩), .pointer (some ⟨w.heap.size + 1, 0, none⟩)]) ∧ w' = (w.alloc (.cells #[.map m] 59)).alloc (.cells #[.int .i64 node] 3) := by
  go_enter Try.func37, Try.ntmps37
  go_wp2
  go_ret
  exact ⟨rfl, rfl⟩

set_option maxRecDepth 100000 in
set_option maxHeartbeats 1000000 in
theorem res_some (d : Nat) (node : Int) (b1 b2 mb cnt : Nat) (f : Int → Option Int) (n0 : 1 ≤ node) (n1 : node ≤ 1023) (hf : (f node).isSome = true) :
    Iter Try.prog 59 #[.pointer (some ⟨b1, 0, none⟩), .pointer (some ⟨b2, 0, none⟩)] (fun x : Int => #[.int .i64 x]) (resF f d node) nob (resK b1 b2 mb) (resPre b1 b2 mb cnt f node) := by
  rw [resF_some hf]
  intro l J Jx F W hJ hJx hpre hFK hY h0
  refine (callsIn_wide (n := 3)).1 ?_
  refine callsIn_of_wp_marks Try.func59 rfl trivial ?_ rfl
  simp only [Try.ntmps59, List.size_toArray, List.length_cons, List.length_nil, Nat.reduceAdd, Nat.reduceSub, Array.replicate_succ, Array.replicate_zero, List.push_toArray, List.append_toArray, List.nil_append, List.cons_append]
  have hok : (K3).ok node := wf_small (by omega) (by omega)
  obtain ⟨hb1, hb2, hM⟩ := hpre
  obtain ⟨W0, hW0⟩ : ∃ W0, W0 = W.alloc (.cells #[.func (.yield l) #[] #[]] 70) := ⟨_, rfl⟩
  have hY0 := hY 2 0 node F W0 rfl (by rw [hW0]; exact (hJ 0).chg h0 ((Chg.refl nob W).alloc _) (fun k _ h => h))
  rw [hW0] at hY0
  obtain ⟨fn, tmps, assign, body, hy, hR⟩ := hY0
  have HR := Lib.hid hR
  clear hR hY
  have c1 := (hb1.alloc (.cells #[.func (.yield l) #[] #[]] 70)).cell
  have c2 := (hb2.alloc (.cells #[.func (.yield l) #[] #[]] 70)).cell
  have M1 := hM.alloc (.cells #[.func (.yield l) #[] #[]] 70)
  have hdep : 1 ≤ 3 := by omega
  gi_wp2_with (gi_at_lookup; refine wpListIn_look rfl (.tmp 10) (.tmp 11) 59 rfl keyed3 Try.underlying59 (zero3 _) rfl M1 (x := node) hok rfl ?_)
  refine HR.out.mono ?_
  rintro e W3 ⟨F3, hC3, hS3, h3⟩
  have hC : Chg F W W3 := ((Chg.refl F W).alloc _).trans hC3 (fun k h => .inl h)
  have hS : ∀ k, F3 k → F k ∨ W.heap.size ≤ k := fun k h => by
    rcases hS3 k h with h' | h'
    · exact .inl h'
    · exact .inr (by simp at h'; omega)
  have HC := Lib.hid hC
  have HS := Lib.hid hS
  clear hC3 hS3 hC hS
  rcases h3 with ⟨rfl, hJ3⟩ | ⟨rfl, hJ3⟩
  · gi_wp2
    exact ⟨_, results_none rfl _ _ _, ⟨_, rfl⟩, F3, HC.out.mono (fun k h => .inl h), HS.out, .inl hJ3⟩
  · gi_wp2
    exact ⟨_, results_none rfl _ _ _, ⟨_, rfl⟩, F3, HC.out.mono (fun k h => .inl h), HS.out, .inr ⟨1, by simp, hJ3⟩⟩

set_option maxRecDepth 100000 in
set_option maxHeartbeats 1000000 in
theorem res_leaf (d : Nat) (node : Int) (b1 b2 mb cnt : Nat) (f : Int → Option Int) (n0 : 512 ≤ node) (n1 : node ≤ 1023) (hf : (f node).isSome = false) :
    Iter Try.prog 59 #[.pointer (some ⟨b1, 0, none⟩), .pointer (some ⟨b2, 0, none⟩)] (fun x : Int => #[.int .i64 x]) (resF f d node) nob (resK b1 b2 mb) (resPre b1 b2 mb cnt f node) := by
  rw [resF_leaf hf n0]
  intro l J Jx F W hJ hJx hpre hFK hY h0
  refine (callsIn_wide (n := 3)).1 ?_
  refine callsIn_of_wp_marks Try.func59 rfl trivial ?_ rfl
  simp only [Try.ntmps59, List.size_toArray, List.length_cons, List.length_nil, Nat.reduceAdd, Nat.reduceSub, Array.replicate_succ, Array.replicate_zero, List.push_toArray, List.append_toArray, List.nil_append, List.cons_append]
  have hok : (K3).ok node := wf_small (by omega) (by omega)
  obtain ⟨hb1, hb2, hM⟩ := hpre
  have c1 := (hb1.alloc (.cells #[.func (.yield l) #[] #[]] 70)).cell
  have c2 := (hb2.alloc (.cells #[.func (.yield l) #[] #[]] 70)).cell
  have M1 := hM.alloc (.cells #[.func (.yield l) #[] #[]] 70)
  gi_wp2_with (gi_at_lookup; refine wpListIn_look rfl (.tmp 10) (.tmp 11) 59 rfl keyed3 Try.underlying59 (zero3 _) rfl M1 (x := node) hok rfl ?_)
  exact ⟨_, results_none rfl _ _ _, ⟨_, rfl⟩, F, ((Chg.refl _ W).alloc _), fun k h => .inl h, .inl ((hJ 0).chg h0 ((Chg.refl nob W).alloc _) (fun k _ h => h))⟩

theorem und81 : Try.prog.underlying 81 = some (.array 2 3) := by kernel_rfl
theorem idx0 (x y : Int) (w : World) : (Instr.index 81 (.agg #[.int .i64 x, .int .i64 y]) (.int .i64 0)).run Try.prog w = .ok (.int .i64 x) w := by
  obtain ⟨i0, hi, hz0, hz1, hz2⟩ := info_parts info3
  simp [Instr.index, run_underlying und81, asIntOf, go_sem, sizeOf, typeInfo, hi, hz1, part]
theorem idx1 (x y : Int) (w : World) : (Instr.index 81 (.agg #[.int .i64 x, .int .i64 y]) (.int .i64 1)).run Try.prog w = .ok (.int .i64 y) w := by
  obtain ⟨i0, hi, hz0, hz1, hz2⟩ := info_parts info3
  simp [Instr.index, run_underlying und81, asIntOf, go_sem, sizeOf, typeInfo, hi, hz1, part]
attribute [local go_sem] idx0 idx1

def resJ (J : Nat → (Nat → Prop) → World → Prop) (B l i : Nat) (F' : Nat → Prop) (W' : World) : Prop :=
  ∃ F1, (∀ k, F' k ↔ F1 k ∨ k = B) ∧ ¬ F1 B ∧ J i F1 W' ∧ Boxed W' B 70 (.func (.yield l) #[] #[])

theorem resJ_framed {J : Nat → (Nat → Prop) → World → Prop} (hJ : ∀ i, Framed (J i)) (B l i : Nat) : Framed (resJ J B l i) where
  lt := by
    rintro F W ⟨F1, hF, hB, hj, hb⟩ k hk
    rcases (hF k).1 hk with h | rfl
    · exact (hJ i).lt hj k h
    · exact hb.lt
  frame := by
    rintro F W W' ⟨F1, hF, hB, hj, hb⟩ hs hk
    exact ⟨F1, hF, hB, (hJ i).frame hj hs (fun k h => hk k ((hF k).2 (.inl h))), (hk B ((hF B).2 (.inr rfl))).trans hb⟩

theorem framed_pure_and {p : Prop} {J : (Nat → Prop) → World → Prop} (hJ : Framed J) : Framed (fun F W => p ∧ J F W) where
  lt := by rintro F W ⟨_, hj⟩ k hk; exact hJ.lt hj k hk
  frame := by rintro F W W' ⟨hp, hj⟩ hs hk; exact ⟨hp, hJ.frame hj hs hk⟩

theorem resChg {F F' : Nat → Prop} {W W' : World} {o1 o2 o3 : Obj} (h : My.Left (fun k => F k ∨ k = W.heap.size) nob (((W.alloc o1).alloc o2).alloc o3) F' W') :
    Chg (fun k => F k ∨ nob k) W W' ∧ (∀ k, F' k → F k ∨ W.heap.size ≤ k) := by
  refine ⟨((((Chg.refl _ W).alloc o1).alloc o2).alloc o3).trans h.chg ?_, fun k hk => ?_⟩
  · rintro k ((h | h) | h)
    · exact .inl (.inl h)
    · exact .inr (by omega)
    · exact h.elim
  · rcases h.sub k hk with (h | h) | h
    · exact .inl h
    · exact .inr (by omega)
    · exact .inr (by simp at h; omega)

theorem resChg2 {F F1 F' F2 : Nat → Prop} {W W' W2 : World} {o1 o2 : Obj} (hA : Chg (fun k => F k ∨ nob k) W W' ∧ (∀ k, F' k → F k ∨ W.heap.size ≤ k)) (hF1 : ∀ k, F' k ↔ F1 k ∨ k = W.heap.size)
    (h : My.Left (fun k => F1 k ∨ k = W.heap.size) nob ((W'.alloc o1).alloc o2) F2 W2) :
    Chg (fun k => F k ∨ nob k) W W2 ∧ (∀ k, F2 k → F k ∨ W.heap.size ≤ k) := by
  refine ⟨((hA.1.alloc o1).alloc o2).trans h.chg ?_, fun k hk => ?_⟩
  · rintro k ((h | h) | h)
    · rcases hA.2 k ((hF1 k).2 (.inl h)) with h' | h'
      · exact .inl (.inl h')
      · exact .inr h'
    · exact .inr (by omega)
    · exact h.elim
  · rcases h.sub k hk with (h | h) | h
    · exact hA.2 k ((hF1 k).2 (.inl h))
    · exact .inr (by omega)
    · exact .inr (by have := hA.1.size; simp at h; omega)

set_option maxRecDepth 100000 in
set_option maxHeartbeats 1000000 in
theorem res_inner (d : Nat) (ih : ResIter d) (node : Int) (b1 b2 mb cnt : Nat) (f : Int → Option Int) (n0 : 1 ≤ node) (n1 : node < 512) (n2 : 512 ≤ node * 2 ^ (d + 1)) (hf : (f node).isSome = false) :
    Iter Try.prog 59 #[.pointer (some ⟨b1, 0, none⟩), .pointer (some ⟨b2, 0, none⟩)] (fun x : Int => #[.int .i64 x]) (resF f (d + 1) node) nob (resK b1 b2 mb) (resPre b1 b2 mb cnt f node) := by
  rw [resF_inner hf (by omega)]
  intro l J Jx F W hJ hJx hpre hFK hY h0
  refine (callsIn_wide (n := 3)).1 ?_
  refine callsIn_of_wp_marks Try.func59 rfl trivial ?_ rfl
  simp only [Try.ntmps59, List.size_toArray, List.length_cons, List.length_nil, Nat.reduceAdd, Nat.reduceSub, Array.replicate_succ, Array.replicate_zero, List.push_toArray, List.append_toArray, List.nil_append, List.cons_append]
  have hok : (K3).ok node := wf_small (by omega) (by omega)
  obtain ⟨hb1, hb2, hM⟩ := hpre
  have c1 := (hb1.alloc (.cells #[.func (.yield l) #[] #[]] 70)).cell
  have c2 := (hb2.alloc (.cells #[.func (.yield l) #[] #[]] 70)).cell
  have M1 := hM.alloc (.cells #[.func (.yield l) #[] #[]] 70)
  have HY := Lib.hid hY
  have HFK := Lib.hid hFK
  clear hY hFK
  have t37 : Fence.wide.fn 37 := trivial
  gi_wp2_with (gi_at_lookup; refine wpListIn_look rfl (.tmp 10) (.tmp 11) 59 rfl keyed3 Try.underlying59 (zero3 _) rfl M1 (x := node) hok rfl ?_)
  refine wpIn_loop_rounds 3 ?_
  rw [roundsIn_succ]
  gi_wp2_with (gi_at_call 37; refine (callsIn_wide.2 (res37 _ _ _)).mono ?_; rintro e w' ⟨rfl, rfl⟩)
  have hbB1 : b1 < W.heap.size := hb1.lt
  have hbB2 : b2 < W.heap.size := hb2.lt
  have hmb : mb < W.heap.size := hM.lt
  have h2d : (2 * node) * 2 ^ d = node * 2 ^ (d + 1) := by rw [Int.pow_succ, Int.mul_comm 2 node, Int.mul_assoc, Int.mul_comm 2]
  have h2p : (0 : Int) ≤ 2 ^ d := Int.pow_nonneg (by decide)
  have hFlt : ∀ k, F k → k < W.heap.size := (hJ 0).lt h0
  refine wp_range (gf := 59) (lb := #[.pointer (some ⟨W.heap.size + 1, 0, none⟩), .pointer (some ⟨W.heap.size + 1 + 1, 0, none⟩)]) rfl (enters_of Try.func59 (by kernel_rfl) rfl)
    (ih (2 * node) (W.heap.size + 1) (W.heap.size + 1 + 1) mb cnt f (by omega) (by omega) (by omega)) ?hpre ?hK (fun _ => rfl)
    (fun i => resJ J W.heap.size l i) (fun c i F' W' => c = .ret ∧ resJ Jx W.heap.size l i F' W') (fun i => resJ_framed hJ _ _ _) (fun c i => framed_pure_and (resJ_framed hJx _ _ _))
    (fun k => F k ∨ k = W.heap.size) ?hF0 ?h0
    (fun i x a' W' => a' = { tmps := #[.func (.yield l) #[] #[], .pointer (some ⟨b1, 0, none⟩), .pointer (some ⟨b2, 0, none⟩), .pointer (some ⟨W.heap.size, 0, none⟩),
          (f node).elim (Value.int IntKind.i64 0) evI, Value.bool false, undef, .int .i64 (2 * node), .int .i64 x, .tuple #[(f node).elim (Value.int IntKind.i64 0) evI, Value.bool false],
          .map (some mb), .int .i64 node, .tuple #[(f node).elim (Value.int IntKind.i64 0) evI, Value.bool false], (f node).elim (Value.int IntKind.i64 0) evI, .bool false, .bool false, undef, undef, undef,
          .int .i64 node, .bool (decide (512 ≤ node)), .int .i64 node, .int .i64 (2 * node), .int .i64 node, .int .i64 (2 * node), .int .i64 (2 * node + 1),
          .agg #[.int .i64 (2 * node), .int .i64 (2 * node + 1)], .int .i64 0, .bool true, .int .i64 (2 * node), .map (some mb), .int .i64 (2 * node),
          .func (.func 59) #[] #[.pointer (some ⟨W.heap.size + 1, 0, none⟩), .pointer (some ⟨W.heap.size + 1 + 1, 0, none⟩)], .int .i64 x, undef, undef, undef, undef, undef], defers := [] })
    (fun _ _ _ _ _ h _ => h) ?assign ?body ?done ?stop
  case hpre =>
    intro W' hW'
    refine resPre_keep (W := ((W.alloc (Obj.cells #[Value.func (Fn.yield l) #[] #[]] 70)).alloc (Obj.cells #[Value.map (some mb)] 59)).alloc (Obj.cells #[Value.int IntKind.i64 (2 * node)] 3)) ⟨?_, ?_, ?_⟩ hW' (fun _ h => h.elim)
    · have := Boxed.new (W.alloc (Obj.cells #[Value.func (Fn.yield l) #[] #[]] 70)) 59 (.map (some mb))
      simp only [World.size_alloc] at this
      exact this.alloc _
    · have := Boxed.new ((W.alloc (Obj.cells #[Value.func (Fn.yield l) #[] #[]] 70)).alloc (Obj.cells #[Value.map (some mb)] 59)) 3 (.int .i64 (2 * node))
      simp only [World.size_alloc] at this
      exact this
    · exact (M1.alloc _).alloc _
  case hK =>
    rintro j (rfl | rfl | rfl) <;> simp only [World.size_alloc] <;> omega
  case hF0 =>
    rintro k (h | rfl) hk
    · have := hFlt k h
      rcases hk with rfl | rfl | rfl
      · omega
      · omega
      · exact HFK.out _ h (.inr (.inr rfl))
    · rcases hk with h | h | h <;> omega
  case h0 =>
    refine ⟨F, fun _ => Iff.rfl, fun h => by have := hFlt _ h; omega, ?_, ?_⟩
    · exact (hJ 0).chg h0 ((((Chg.refl nob W).alloc _).alloc _).alloc _) (fun k _ h => h)
    · exact ((Boxed.new W 70 _).alloc _).alloc _
  case assign =>
    intro l' i x F' W' Kc hx hJ' hK
    gi_wp2
    exact hK _ _ (Chg.refl _ _) rfl
  case body =>
    rintro l' i x a' F' W' hx ⟨F1, hF1, hFB, hj, hb⟩ hFl hl rfl
    obtain ⟨fn, tmps, assign, body, hy, hR⟩ := HY.out 8 i x F1 W' (by rw [List.getElem?_append_left (List.getElem?_eq_some_iff.1 hx).1]; exact hx) hj
    have HR := Lib.hid hR
    have cb := hb.cell
    have hdep : 1 ≤ 9 := by omega
    clear hR c1 c2
    gi_wp2_with fail
    refine RoundIn.mono (F := Fence.wide.inRound l') HR.out ?_
    rintro e W3 ⟨F3, hC3, hS3, h3⟩
    have hC : Chg F' W' W3 := hC3.mono (fun k h => (hF1 k).2 (.inl h))
    have hS : ∀ k, F3 k ∨ k = W.heap.size → F' k ∨ W'.heap.size ≤ k := by
      rintro k (h | rfl)
      · rcases hS3 k h with h' | h'
        · exact .inl ((hF1 k).2 (.inl h'))
        · exact .inr h'
      · exact .inl ((hF1 _).2 (.inr rfl))
    have hB3 : ¬ F3 W.heap.size := fun h => by
      rcases hS3 _ h with h' | h'
      · exact hFB h'
      · have := hb.lt; omega
    have hb3 : Boxed W3 W.heap.size 70 (.func (.yield l) #[] #[]) := (hC3.same _ hb.lt hFB).trans hb
    have HC := Lib.hid hC
    have HS := Lib.hid hS
    clear hC3 hS3 hC hS
    rcases h3 with ⟨rfl, hJ3⟩ | ⟨rfl, hJ3⟩
    · gi_wp2
      exact ⟨fun k => F3 k ∨ k = W.heap.size, HC.out, HS.out, F3, fun _ => Iff.rfl, hB3, hJ3, hb3⟩
    · gi_wp2
      exact ⟨fun k => F3 k ∨ k = W.heap.size, HC.out, HS.out, rfl, F3, fun _ => Iff.rfl, hB3, hJ3, hb3⟩
  case stop =>
    rintro D c i F' W' hleft hi ⟨rfl, F1, hF1, hFB, hj, hb⟩ hFD hD hKD
    gi_wp2
    refine ⟨by simp, .inl ⟨_, _, rfl, run_takeDeferred hKD, ?_⟩⟩
    have hA := resChg hleft
    refine ⟨_, results_none rfl _ _ _, ⟨_, rfl⟩, F1, ?_, ?_, ?_⟩
    · exact hA.1.putObj (.inr (by simp at hD; omega)) _
    · intro k hk
      rcases hA.2 k ((hF1 k).2 (.inl hk)) with h | h
      · exact .inl h
      · exact .inr h
    · exact .inr ⟨i, by simp; omega, (hJx _).chg hj (Chg.putObj (S := fun k => k = D) (Chg.refl _ _) (.inl rfl) _) (fun k hk e => hFD ((hF1 _).2 (.inl (e ▸ hk))))⟩
  case done =>
    rintro D F' W' hleft ⟨F1, hF1, hFB, hj, hb⟩ hFD hD hKD
    have hA := resChg hleft
    have hsz : W.heap.size + 3 ≤ W'.heap.size := by have := hleft.chg.size; simp at this; omega
    have hsame : ∀ k, k < W.heap.size → resK b1 b2 mb k → W'.heap[k]? = W.heap[k]? := fun k hk hr => hA.1.same k hk (fun h => by
      rcases h with h | h
      · exact HFK.out k h hr
      · exact h)
    have hb1' : Boxed W' b1 59 (.map (some mb)) := (hsame _ hbB1 (.inl rfl)).trans hb1
    have hb2' : Boxed W' b2 3 (.int .i64 node) := (hsame _ hbB2 (.inr (.inl rfl))).trans hb2
    have hM' : MapIs K3 evI W' mb cnt f := hM.block (hsame _ hmb (.inr (.inr rfl)))
    have c1' := hb1'.cell
    have c2' := hb2'.cell
    have HA := Lib.hid hA
    have HD := Lib.hid hD
    clear c1 c2 hA hleft hsame hD
    gi_wp2
    rw [roundsIn_succ]
    gi_wp2_with (gi_at_call 37; refine (callsIn_wide.2 (res37 _ _ _)).mono ?_; rintro e w' ⟨rfl, rfl⟩)
    refine wp_range (gf := 59) (lb := #[.pointer (some ⟨W'.heap.size, 0, none⟩), .pointer (some ⟨W'.heap.size + 1, 0, none⟩)]) rfl (enters_of Try.func59 (by kernel_rfl) rfl)
      (ih (2 * node + 1) W'.heap.size (W'.heap.size + 1) mb cnt f (by omega) (by omega) (by rw [Int.add_mul]; omega)) ?hpre2 ?hK2 (fun _ => rfl)
      (fun i => resJ J W.heap.size l ((resF f d (2 * node)).length + i)) (fun c i F' W' => c = .ret ∧ resJ Jx W.heap.size l ((resF f d (2 * node)).length + i) F' W') (fun i => resJ_framed hJ _ _ _) (fun c i => framed_pure_and (resJ_framed hJx _ _ _))
      (fun k => F1 k ∨ k = W.heap.size) ?hF02 ?h02
      (fun i x a' W'' => a' = { tmps := #[.func (.yield l) #[] #[], .pointer (some ⟨b1, 0, none⟩), .pointer (some ⟨b2, 0, none⟩), .pointer (some ⟨W.heap.size, 0, none⟩),
          (f node).elim (Value.int IntKind.i64 0) evI, Value.bool false, undef, .int .i64 (2 * node + 1), .int .i64 x, .tuple #[(f node).elim (Value.int IntKind.i64 0) evI, Value.bool false],
          .map (some mb), .int .i64 node, .tuple #[(f node).elim (Value.int IntKind.i64 0) evI, Value.bool false], (f node).elim (Value.int IntKind.i64 0) evI, .bool false, .bool false, undef, undef, undef,
          .int .i64 node, .bool (decide (512 ≤ node)), .int .i64 node, .int .i64 (2 * node), .int .i64 node, .int .i64 (2 * node), .int .i64 (2 * node + 1),
          .agg #[.int .i64 (2 * node), .int .i64 (2 * node + 1)], .int .i64 1, .bool true, .int .i64 (2 * node + 1), .map (some mb), .int .i64 (2 * node + 1),
          .func (.func 59) #[] #[.pointer (some ⟨W'.heap.size, 0, none⟩), .pointer (some ⟨W'.heap.size + 1, 0, none⟩)], .int .i64 x, undef, undef, undef, undef, .int .i64 1], defers := [] })
      (fun _ _ _ _ _ h _ => h) ?assign2 ?body2 ?done2 ?stop2
    case hpre2 =>
      intro W'' hW''
      refine resPre_keep (W := (W'.alloc (Obj.cells #[Value.map (some mb)] 59)).alloc (Obj.cells #[Value.int IntKind.i64 (2 * node + 1)] 3)) ⟨?_, ?_, ?_⟩ hW'' (fun _ h => h.elim)
      · exact (Boxed.new W' 59 (.map (some mb))).alloc _
      · have := Boxed.new (W'.alloc (Obj.cells #[Value.map (some mb)] 59)) 3 (.int .i64 (2 * node + 1))
        simp only [World.size_alloc] at this
        exact this
      · exact (hM'.alloc _).alloc _
    case hK2 =>
      rintro j (rfl | rfl | rfl) <;> simp only [World.size_alloc] <;> omega
    case hF02 =>
      have hF1lt : ∀ k, F1 k → k < W'.heap.size := (hJ _).lt hj
      rintro k (h | rfl) hk
      · have := hF1lt k h
        rcases hk with rfl | rfl | rfl
        · omega
        · omega
        · rcases HA.out.2 k ((hF1 k).2 (.inl h)) with h' | h'
          · exact HFK.out _ h' (.inr (.inr rfl))
          · omega
      · rcases hk with h | h | h <;> omega
    case h02 =>
      exact ⟨F1, fun _ => Iff.rfl, hFB, (hJ _).chg hj (((Chg.refl nob W').alloc _).alloc _) (fun k _ h => h), (hb.alloc _).alloc _⟩
    case assign2 =>
      intro l' i x F' W'' Kc hx hJ' hK
      gi_wp2
      exact hK _ _ (Chg.refl _ _) rfl
    case body2 =>
      rintro l' i x a' F' W'' hx ⟨F2, hF2, hFB2, hj2, hbx2⟩ hFl hl rfl
      obtain ⟨fn, tmps, assign, body, hy, hR⟩ := HY.out 8 ((resF f d (2 * node)).length + i) x F2 W'' (by rw [List.getElem?_append_right (by omega)]; rw [show (resF f d (2 * node)).length + i - (resF f d (2 * node)).length = i by omega]; exact hx) hj2
      have HR := Lib.hid hR
      have cb := hbx2.cell
      have hdep : 1 ≤ 9 := by omega
      clear hR c1' c2'
      gi_wp2_with fail
      refine RoundIn.mono (F := Fence.wide.inRound l') HR.out ?_
      rintro e W3 ⟨F3, hC3, hS3, h3⟩
      have hC : Chg F' W'' W3 := hC3.mono (fun k h => (hF2 k).2 (.inl h))
      have hS : ∀ k, F3 k ∨ k = W.heap.size → F' k ∨ W''.heap.size ≤ k := by
        rintro k (h | rfl)
        · rcases hS3 k h with h' | h'
          · exact .inl ((hF2 k).2 (.inl h'))
          · exact .inr h'
        · exact .inl ((hF2 _).2 (.inr rfl))
      have hB3 : ¬ F3 W.heap.size := fun h => by
        rcases hS3 _ h with h' | h'
        · exact hFB2 h'
        · have := hbx2.lt; omega
      have hb3 : Boxed W3 W.heap.size 70 (.func (.yield l) #[] #[]) := (hC3.same _ hbx2.lt hFB2).trans hbx2
      have HC := Lib.hid hC
      have HS := Lib.hid hS
      clear hC3 hS3 hC hS
      rcases h3 with ⟨rfl, hJ3⟩ | ⟨rfl, hJ3⟩
      · gi_wp2
        exact ⟨fun k => F3 k ∨ k = W.heap.size, HC.out, HS.out, F3, fun _ => Iff.rfl, hB3, hJ3, hb3⟩
      · gi_wp2
        exact ⟨fun k => F3 k ∨ k = W.heap.size, HC.out, HS.out, rfl, F3, fun _ => Iff.rfl, hB3, hJ3, hb3⟩
    case stop2 =>
      rintro D2 c i F2 W2 hleft2 hi ⟨rfl, F3, hF3, hFB3, hj3, hbx3⟩ hFD2 hD2 hKD2
      have hA2 := resChg2 HA.out hF1 hleft2
      have hDlt : D < W'.heap.size := (Array.getElem?_eq_some_iff.1 hKD).1
      have hDB : D ≠ W.heap.size := by have := HD.out; simp at this; omega
      have hnF1 : ¬ F1 D := fun h => hFD ((hF1 _).2 (.inl h))
      have hD2' : W'.heap.size + 2 ≤ D2 := by simp at hD2; omega
      have hKD' : (W2.putObj D2 (.deferred none)).heap[D]? = some (.deferred (some [])) := by
        refine (World.putObj_heap_other (by omega)).trans ((hleft2.chg.same D (by simp; omega) ?_).trans ((Below.heap_alloc _ _ _ (by simp; omega)).trans ((Below.heap_alloc _ _ _ hDlt).trans hKD)))
        rintro ((h | h) | h)
        · exact hnF1 h
        · exact hDB h
        · exact h
      have hF3D : ¬ F3 D := fun h => by
        rcases hleft2.sub D ((hF3 D).2 (.inl h)) with (h' | h') | h'
        · exact hnF1 h'
        · exact hDB h'
        · simp at h'; omega
      have hF3D2 : ¬ F3 D2 := fun h => hFD2 ((hF3 _).2 (.inl h))
      have hAe : Chg (fun k => F k ∨ nob k) W ((W2.putObj D2 (.deferred none)).putObj D (.deferred none)) :=
        (hA2.1.putObj (.inr (by omega)) _).putObj (.inr (by have := HD.out; simp at this; omega)) _
      have hSe : ∀ k, F3 k → F k ∨ W.heap.size ≤ k := fun k hk => hA2.2 k ((hF3 k).2 (.inl hk))
      have hCe : Chg (fun j => j = D2 ∨ j = D) W2 ((W2.putObj D2 (.deferred none)).putObj D (.deferred none)) := Chg.putObj (Chg.putObj (Chg.refl _ _) (.inl (.inl rfl)) _) (.inl (.inr rfl)) _
      have HAE := Lib.hid hAe
      have HSE := Lib.hid hSe
      clear hA2 hleft2 hAe hSe
      gi_wp2
      refine ⟨by simp, .inl ⟨_, _, rfl, run_takeDeferred hKD2, ?_⟩⟩
      refine ⟨by simp, .inl ⟨_, _, rfl, run_takeDeferred hKD', ?_⟩⟩
      refine ⟨_, results_none rfl _ _ _, ⟨_, rfl⟩, F3, ?_, ?_, ?_⟩
      · exact HAE.out
      · exact HSE.out
      · exact .inr ⟨(resF f d (2 * node)).length + i, by rw [List.length_append]; omega, (hJx _).chg hj3 hCe (fun k hk e => by rcases e with rfl | rfl; exact hF3D2 hk; exact hF3D hk)⟩
    case done2 =>
      rintro D2 F2 W2 hleft2 ⟨F3, hF3, hFB3, hj3, hbx3⟩ hFD2 hD2 hKD2
      have hA2 := resChg2 HA.out hF1 hleft2
      have hDlt : D < W'.heap.size := (Array.getElem?_eq_some_iff.1 hKD).1
      have hDB : D ≠ W.heap.size := by have := HD.out; simp at this; omega
      have hnF1 : ¬ F1 D := fun h => hFD ((hF1 _).2 (.inl h))
      have hD2' : W'.heap.size + 2 ≤ D2 := by simp at hD2; omega
      have hKD' : (W2.putObj D2 (.deferred none)).heap[D]? = some (.deferred (some [])) := by
        refine (World.putObj_heap_other (by omega)).trans ((hleft2.chg.same D (by simp; omega) ?_).trans ((Below.heap_alloc _ _ _ (by simp; omega)).trans ((Below.heap_alloc _ _ _ hDlt).trans hKD)))
        rintro ((h | h) | h)
        · exact hnF1 h
        · exact hDB h
        · exact h
      have hF3D : ¬ F3 D := fun h => by
        rcases hleft2.sub D ((hF3 D).2 (.inl h)) with (h' | h') | h'
        · exact hnF1 h'
        · exact hDB h'
        · simp at h'; omega
      have hF3D2 : ¬ F3 D2 := fun h => hFD2 ((hF3 _).2 (.inl h))
      have hAe : Chg (fun k => F k ∨ nob k) W ((W2.putObj D2 (.deferred none)).putObj D (.deferred none)) :=
        (hA2.1.putObj (.inr (by omega)) _).putObj (.inr (by have := HD.out; simp at this; omega)) _
      have hSe : ∀ k, F3 k → F k ∨ W.heap.size ≤ k := fun k hk => hA2.2 k ((hF3 k).2 (.inl hk))
      have hCe : Chg (fun j => j = D2 ∨ j = D) W2 ((W2.putObj D2 (.deferred none)).putObj D (.deferred none)) := Chg.putObj (Chg.putObj (Chg.refl _ _) (.inl (.inl rfl)) _) (.inl (.inr rfl)) _
      have HAE := Lib.hid hAe
      have HSE := Lib.hid hSe
      clear hA2 hleft2 hAe hSe
      gi_wp2
      rw [roundsIn_succ]
      gi_wp2
      refine ⟨by simp, .inl ⟨_, _, rfl, run_takeDeferred hKD2, ?_⟩⟩
      refine ⟨by simp, .inl ⟨_, _, rfl, run_takeDeferred hKD', ?_⟩⟩
      refine ⟨_, results_none rfl _ _ _, ⟨_, rfl⟩, F3, ?_, ?_, ?_⟩
      · exact HAE.out
      · exact HSE.out
      · exact .inl (by rw [List.length_append]; exact (hJ _).chg hj3 hCe (fun k hk e => by rcases e with rfl | rfl; exact hF3D2 hk; exact hF3D hk))

theorem res_iter : ∀ d, ResIter d
  | 0 => fun node b1 b2 mb cnt f n0 n1 n2 => by
    cases hf : (f node).isSome
    · exact res_leaf 0 node b1 b2 mb cnt f (by simpa using n2) n1 hf
    · exact res_some 0 node b1 b2 mb cnt f n0 n1 hf
  | d + 1 => fun node b1 b2 mb cnt f n0 n1 n2 => by
    cases hf : (f node).isSome
    · by_cases h : 512 ≤ node
      · exact res_leaf (d + 1) node b1 b2 mb cnt f h n1 hf
      · exact res_inner d (res_iter d) node b1 b2 mb cnt f n0 (by omega) n2 hf
    · exact res_some (d + 1) node b1 b2 mb cnt f n0 n1 hf
end Go.Proofs.Ytofkmapokdcphaa
