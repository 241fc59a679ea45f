import Derived.Test.YtihpiejlfdinaaaUa
import Derived.Test.YtihpiejlfdinaaaAux
import Derived.Test.YtihpiejlfdinaaaPz
import Derived.Sort.LoopGhostIn
namespace Go.Proofs.Ytihpiejlfdinaaa.PF
open Go Go.RowKit Go.Maps Go.My
attribute [local go_sem] Oper.semAt_some

theorem zero29 (w : World) : (zeroValue 29).run Try.prog w = .ok (S29.val z29) w := by kernel_rfl
theorem keyed3 : Keyed Try.prog 3 := int_keyed Try.underlying3
noncomputable def K3 : KeyEnc Try.prog 3 Int := intKey Try.underlying3

/-- A block that holds one place. -/
def Box5 (W : World) (b : Nat) (x : S29) : Prop := W.heap[b]? = some (.cells #[.int .i64 x.f0, .int .i64 x.f1, .int .i64 x.f2, .int .i64 x.f3, .string x.f4] 29 (0, 0))
theorem Box5.lt {W : World} {b : Nat} {x : S29} (h : Box5 W b x) : b < W.heap.size := (Array.getElem?_eq_some_iff.1 h).1
theorem Box5.cell {W : World} {b : Nat} {x : S29} (h : Box5 W b x) : W.cell? ⟨b, 0, none⟩ = some (.int .i64 x.f0) ∧ W.cell? ⟨b, 1, none⟩ = some (.int .i64 x.f1) ∧ W.cell? ⟨b, 2, none⟩ = some (.int .i64 x.f2) ∧ W.cell? ⟨b, 3, none⟩ = some (.int .i64 x.f3) ∧ W.cell? ⟨b, 4, none⟩ = some (.string x.f4) := by
  have h' : W.heap[b]? = some (.cells #[.int .i64 x.f0, .int .i64 x.f1, .int .i64 x.f2, .int .i64 x.f3, .string x.f4] 29 (0, 0)) := h
  simp [World.cell?, h']
theorem Box5.frozen {W : World} {b i : Nat} {x : S29} (h : Box5 W b x) : W.frozen? ⟨b, i, none⟩ = false := by
  have h' : W.heap[b]? = some (.cells #[.int .i64 x.f0, .int .i64 x.f1, .int .i64 x.f2, .int .i64 x.f3, .string x.f4] 29 (0, 0)) := h
  simp [World.frozen?, h']
theorem Box5.new (W : World) (x : S29) : Box5 (W.alloc (.cells #[.int .i64 x.f0, .int .i64 x.f1, .int .i64 x.f2, .int .i64 x.f3, .string x.f4] 29)) W.heap.size x := World.alloc_heap_new W _
theorem Box5.chg {S : Nat → Prop} {W W' : World} {b : Nat} {x : S29} (h : Box5 W b x) (hC : Chg S W W') (hS : ¬ S b) : Box5 W' b x := (hC.same b h.lt hS).trans h
theorem Box5.below {W W' : World} {b : Nat} {x : S29} (h : Box5 W b x) (hB : Below W.heap.size W W') : Box5 W' b x := (hB.block b h.lt).trans h
/-- The world behind a store of a place. -/
def set5 (W : World) (b : Nat) (x : S29) : World := ((((W.setCell ⟨b, 0, none⟩ (.int .i64 x.f0)).setCell ⟨b, 1, none⟩ (.int .i64 x.f1)).setCell ⟨b, 2, none⟩ (.int .i64 x.f2)).setCell ⟨b, 3, none⟩ (.int .i64 x.f3)).setCell ⟨b, 4, none⟩ (.string x.f4)
theorem set5_chg (W : World) (b : Nat) (x : S29) : Chg (fun k => k = b) W (set5 W b x) := by
  unfold set5
  refine Chg.setCell (p := ⟨b, 4, none⟩) (Chg.setCell (p := ⟨b, 3, none⟩) (Chg.setCell (p := ⟨b, 2, none⟩) (Chg.setCell (p := ⟨b, 1, none⟩) (Chg.setCell (p := ⟨b, 0, none⟩) (Chg.refl (fun k => k = b) W) (.inl rfl) _) (.inl rfl) _) (.inl rfl) _) (.inl rfl) _) (.inl rfl) _
theorem heap_set {W : World} {g : Nat} {cells : Array Value} {t : TypeId} (h : W.heap[g]? = some (.cells cells t)) (j : Nat) (u : Value) : (W.setCell ⟨g, j, none⟩ u).heap[g]? = some (.cells (cells.setIfInBounds j u) t) :=
  Go.Proofs.YtihpiejlfdinaaaW.PrintWords.blk_set h j u
theorem Box5.set {W : World} {b : Nat} {x : S29} (h : Box5 W b x) (y : S29) : Box5 (set5 W b y) b y := by
  unfold set5 Box5
  have := heap_set (heap_set (heap_set (heap_set (heap_set h 0 (.int .i64 y.f0)) 1 (.int .i64 y.f1)) 2 (.int .i64 y.f2)) 3 (.int .i64 y.f3)) 4 (.string y.f4)
  simpa using this

/-- The places that a forest holds are Go values. -/
def FWf (F : Forest) : Prop := ∀ x q, F x = some q → (Lit.int .i64 q.f3).wf = true

/-- What the iterator asks of the memory. -/
def upPre (b1 b2 mb cnt : Nat) (F : Forest) (x : Int) (W : World) : Prop :=
  Boxed W b1 48 (.map (some mb)) ∧ Boxed W b2 3 (.int .i64 x) ∧ MapIs K3 S29.val W mb cnt F
def upK (b1 b2 mb : Nat) (j : Nat) : Prop := j = b1 ∨ j = b2 ∨ j = mb
theorem upPre_keep {b1 b2 mb cnt : Nat} {F : Forest} {x : Int} {W W' : World} {S : Nat → Prop} (h : upPre b1 b2 mb cnt F x W) (hc : Chg S W W') (hS : ∀ j, S j → ¬ upK b1 b2 mb j) : upPre b1 b2 mb cnt F x W' :=
  ⟨(hc.same _ h.1.lt (fun hs => hS _ hs (.inl rfl))).trans h.1, (hc.same _ h.2.1.lt (fun hs => hS _ hs (.inr (.inl rfl)))).trans h.2.1, h.2.2.block (hc.same _ h.2.2.lt (fun hs => hS _ hs (.inr (.inr rfl))))⟩

theorem up31 (m : Option Nat) (x : Int) (w : World) :
    Calls Try.prog 31 #[.map m, .int .i64 x] w fun e w' => e = .returned (.func (.func 52) #[] #[.pointer (some ⟨w.heap.size, 0, none⟩), .pointer (some ⟨w.heap.size + 1, 0, none⟩)]) ∧ w' = (w.alloc (.cells #[.map m] 48)).alloc (.cells #[.int .i64 x] 3) := by
  go_enter Try.func31, Try.ntmps31
  go_wp2
  go_ret
  exact ⟨rfl, rfl⟩

/-- A look-up's answer. -/
def look (F : Forest) (x : Int) : S29 := (F x).getD z29
theorem elim_val (F : Forest) (x : Int) : (F x).elim (S29.val z29) S29.val = (look F x).val := by unfold look; cases F x <;> rfl

set_option maxRecDepth 100000 in
set_option maxHeartbeats 2000000 in
theorem up_iter (b1 b2 mb cnt K : Nat) (F : Forest) (x : Int) (hK : ends F K x) (hwf : FWf F) (hx : (Lit.int .i64 x).wf = true) :
    Iter Try.prog 52 #[.pointer (some ⟨b1, 0, none⟩), .pointer (some ⟨b2, 0, none⟩)] (fun x : Int => #[.int .i64 x]) (upF F K x) nob (upK b1 b2 mb) (upPre b1 b2 mb cnt F x) := by
  intro l J Jx F0 W hJ hJx hpre hFK hY h0
  refine (callsIn_wide (n := 3)).1 ?_
  refine callsIn_of_wp_marks Try.func52 rfl trivial ?_ rfl
  simp only [Try.ntmps52, List.size_toArray, List.length_cons, List.length_nil, Nat.reduceAdd, Nat.reduceSub, Array.replicate_succ, Array.replicate_zero, List.push_toArray, List.append_toArray, List.nil_append, List.cons_append]
  have HY := Lib.hid hY
  have HJ := Lib.hid hJ
  have HJx := Lib.hid hJx
  have H0 := Lib.hid h0
  have HF := Lib.hid hFK
  have HP := Lib.hid hpre
  have HW := Lib.hid hwf
  have HE := Lib.hid hK
  obtain ⟨hb1, hb2, hM⟩ := hpre
  have c1 := hb1.cell
  have c2 := hb2.cell
  clear hY hJ hJx h0 hFK hwf hK hb1 hb2
  have hok : (K3).ok x := hx
  gi_wp2_with (gi_at_lookup; refine wpListIn_look rfl (.tmp 7) (.tmp 8) 48 rfl keyed3 Try.underlying48 (zero29 _) rfl hM (x := x) hok rfl ?_; rw [elim_val]; unfold S29.val)
  gi_loopg [4, 5] K (fun g s4 s5 wr => ∃ (b i : Nat) (y : Int) (F1 : Nat → Prop), s4 = .pointer (some ⟨b, 0, none⟩) ∧ s5 = .bool (F y).isSome ∧ Box5 wr b (look F y) ∧ Hid (ends F g y ∧ (upF F K x).drop i = upF F g y ∧ i ≤ (upF F K x).length ∧ (Lit.int .i64 y).wf = true) ∧ Hid (J i F1 wr) ∧ Hid (Chg F0 W wr) ∧ Hid (∀ k, F1 k → F0 k ∨ W.heap.size ≤ k) ∧ Hid (¬ F1 b ∧ W.heap.size ≤ b))
  case atStart =>
    refine ⟨W.heap.size, 0, x, F0, rfl, rfl, Box5.new _ _, ⟨HE.out, rfl, Nat.zero_le _, hok⟩, (HJ.out 0).chg H0.out ((Chg.refl nob W).alloc _) (fun _ _ h => h), (Chg.refl _ _).alloc _, fun _ h => .inl h, fun h => ?_, Nat.le_refl _⟩
    have := (HJ.out 0).lt H0.out _ h
    omega
  case round =>
    obtain ⟨b, i, y, F1, rfl, rfl, hb, he, hJi, hC, hS, hn⟩ := hrel
    obtain ⟨he1, he2, he3, he4⟩ := he.out
    by_cases hgo : ∃ q, F y = some q ∧ 0 ≤ q.f3
    · obtain ⟨q, hq, hq0⟩ := hgo
      obtain ⟨g, rfl⟩ : ∃ g, gk = g + 1 := by
        cases gk with
        | zero => exact he1.elim
        | succ g => exact ⟨g, rfl⟩
      rw [upF_step hq hq0] at he2
      have hxi : (upF F K x)[i]? = some q.f3 := by
        have := congrArg (fun l => l[0]?) he2
        simpa using this
      have hlook : look F y = q := by unfold look; rw [hq]; rfl
      have hsome : (F y).isSome = true := by rw [hq]; rfl
      rw [hlook] at hb
      rw [hsome]
      obtain ⟨n0, n1⟩ := hn.out
      obtain ⟨fn, tmps, assign, body, hy, hR⟩ := HY.out 2 i _ F1 wr hxi hJi.out
      have HR := Lib.hid hR
      have HXI := Lib.hid hxi
      have hqw : (Lit.int .i64 q.f3).wf = true := HW.out _ _ hq
      have HN0 := Lib.hid n0
      have HE2 := Lib.hid he2
      have HE1 := Lib.hid (he1 q hq hq0)
      have hend : Hid ((upF F K x).drop (i + 1) = upF F g q.f3 ∧ i + 1 ≤ (upF F K x).length) := by
        refine ⟨?_, ?_⟩
        · rw [← List.drop_drop, he2]; rfl
        · have := (List.getElem?_eq_some_iff.1 hxi).1; omega
      clear hR hxi n0 he2 he1 he hn hsome hlook
      obtain ⟨g0, g1, g2, g3, g4⟩ := hb.cell
      have f3 : wr.frozen? ⟨b, 3, none⟩ = false := hb.frozen
      have HBX := Lib.hid hb
      have hdep : 1 ≤ 3 := by omega
      have d0 : decide (0 ≤ q.f3) = true := decide_eq_true hq0
      clear hb
      gi_wp2_with fail
      refine HR.out.mono ?_
      rintro e W3 ⟨F3, hC3, hS3, h3⟩
      have hb3 : Box5 W3 b q := HBX.out.chg hC3 HN0.out
      have hC3' : Chg F0 W W3 := hC.out.trans hC3 (fun k h => hS.out k h)
      have hS3' : ∀ k, F3 k → F0 k ∨ W.heap.size ≤ k := fun k h => by
        rcases hS3 k h with h' | h'
        · exact hS.out k h'
        · exact .inr (Nat.le_trans hC.out.size h')
      have hP3 : upPre b1 b2 mb cnt F x W3 := upPre_keep HP.out hC3' (fun j h => HF.out j h)
      obtain ⟨hB1, hB2, hM3⟩ := hP3
      have HC3 := Lib.hid hC3'
      have HS3 := Lib.hid hS3'
      clear hC3 hS3 hC3' hS3' hC hS hJi g0 g1 g2 g3 g4 f3 c1 c2
      rcases h3 with ⟨rfl, hJ3⟩ | ⟨rfl, hJ3⟩
      · have HJ3 := Lib.hid hJ3
        clear hJ3
        obtain ⟨g0, g1, g2, g3, g4⟩ := hb3.cell
        have hM4 := hM3.alloc (.cells #[.int .i64 q.f0, .int .i64 q.f1, .int .i64 q.f2, .int .i64 q.f3, .string q.f4] 29)
        have c4 := (hB1.alloc (.cells #[.int .i64 q.f0, .int .i64 q.f1, .int .i64 q.f2, .int .i64 q.f3, .string q.f4] 29)).cell
        have hbn := Box5.new W3 q
        obtain ⟨k0, k1, k2, k3, k4⟩ := hbn.cell
        have hokq : (K3).ok q.f3 := hqw
        gi_wp2_with (gi_at_lookup; refine wpListIn_look rfl (.tmp 19) (.tmp 21) 48 rfl keyed3 Try.underlying48 (zero29 _) rfl hM4 (x := q.f3) hokq rfl ?_; rw [elim_val]; unfold S29.val)
        have hC5 : Chg (fun k => k = W3.heap.size) W3 (W3.alloc (.cells #[.int .i64 (look F q.f3).f0, .int .i64 (look F q.f3).f1, .int .i64 (look F q.f3).f2, .int .i64 (look F q.f3).f3, .string (look F q.f3).f4] 29)) := (Chg.refl _ W3).alloc _
        have hb5 := Box5.new W3 (look F q.f3)
        have hn3 : ¬ F3 W3.heap.size := fun h => by have := (HJ.out _).lt HJ3.out _ h; omega
        have hsz : W.heap.size ≤ W3.heap.size := HC3.out.size
        gi_roundg g
        case measure => omega
        case rel =>
          refine ⟨W3.heap.size, i + 1, q.f3, F3, rfl, rfl, hb5, ⟨HE1.out, hend.out.1, hend.out.2, hqw⟩, (HJ.out _).chg HJ3.out hC5 (fun k hk e => hn3 (e ▸ hk)), HC3.out.trans hC5 (fun k h => .inr (by omega)), HS3.out, hn3, hsz⟩
      · have HJ3 := Lib.hid hJ3
        clear hJ3
        gi_wp2
        exact ⟨_, results_none rfl _ _ _, ⟨_, rfl⟩, F3, HC3.out.mono (fun k h => .inl h), HS3.out, .inr ⟨i + 1, hend.out.2, HJ3.out⟩⟩
    · have hstop : ∀ q, F y = some q → q.f3 < 0 := fun q hq => by
        by_cases h : q.f3 < 0
        · exact h
        · exact (hgo ⟨q, hq, by omega⟩).elim
      rw [upF_stop hstop] at he2
      have hil : i = (upF F K x).length := by have := List.drop_eq_nil_iff.1 he2; omega
      subst hil
      clear he2 he1 he3 he hgo
      obtain ⟨g0, g1, g2, g3, g4⟩ := hb.cell
      have HC1 := Lib.hid (hC.out.mono (T := fun k => F0 k ∨ nob k) (fun k h => .inl h))
      cases hq : F y with
      | none =>
        simp only [Option.isSome_none]
        gi_wp2
        exact ⟨_, results_none rfl _ _ _, ⟨_, rfl⟩, F1, HC1.out, hS.out, .inl hJi.out⟩
      | some q =>
        simp only [Option.isSome_some]
        have d0 : decide (0 ≤ (look F y).f3) = false := decide_eq_false (by unfold look; rw [hq]; have := hstop q hq; simp; omega)
        clear hstop hq
        gi_wp2
        exact ⟨_, results_none rfl _ _ _, ⟨_, rfl⟩, F1, HC1.out, hS.out, .inl hJi.out⟩
end Go.Proofs.Ytihpiejlfdinaaa.PF
