import Derived.Test.YtihpiejlfdinaaaWc
import Derived.Maps.RangeWalk
import Derived.Laws.EntriesVeiled
namespace Go.Proofs.Ytihpiejlfdinaaa.PF
open Go Go.RowKit Go.Maps Go.My

/-! ### a range over a forest -/

def RngIs (w : World) (b r n : Nat) (F : Forest) (left : Int → Bool) (cnt : Nat) : Prop :=
  ∃ (D : DataW Value) (L : Lit → Bool), w.ranges Try.prog 3 hv b r n D L cnt ∧ (∀ kl, has D kl = true → ∃ x, K3.ok x ∧ kl = K3.lk x) ∧ (∀ x, F x = none → has D (.int .i64 x) = false) ∧ (∀ x a, F x = some a → (Lit.int .i64 x).wf = true ∧ has D (.int .i64 x) = true ∧ ∀ z, D.atKey (.int .i64 x) z = .held a.val) ∧
    (∀ x, L (.int .i64 x) = left x) ∧ (∀ x, left x = true → (F x).isSome = true)

theorem RngIs.kept {w w' : World} {b r n cnt : Nat} {F : Forest} {left : Int → Bool} (h : RngIs w b r n F left cnt) {row : Option Nat} (hg : w.grownBy w' row) (hb : some b ≠ row) (hr : some r ≠ row) : RngIs w' b r n F left cnt := by
  obtain ⟨D, L, h1, h2⟩ := h
  exact ⟨D, L, h1.kept hg hb hr, h2⟩
theorem grown_below {w w' : World} (h : Below w.heap.size w w') : w.grownBy w' none := ⟨h.os, h.tape, h.output, h.size, fun i hi _ => h.block i hi⟩
theorem RngIs.below {w w' : World} {b r n cnt : Nat} {F : Forest} {left : Int → Bool} (h : RngIs w b r n F left cnt) (hB : Below w.heap.size w w') : RngIs w' b r n F left cnt := h.kept (grown_below hB) (by simp) (by simp)
theorem RngIs.alloc {w : World} {b r n cnt : Nat} {F : Forest} {left : Int → Bool} (h : RngIs w b r n F left cnt) (o : Obj) : RngIs (w.alloc o) b r n F left cnt := h.below ((Below.refl _ _).alloc (Nat.le_refl _) _)
theorem RngIs.lt {w : World} {b r n cnt : Nat} {F : Forest} {left : Int → Bool} (h : RngIs w b r n F left cnt) : r < w.heap.size := by
  obtain ⟨D, L, h1, _⟩ := h; exact h1.lt
theorem RngIs.map {w : World} {b r n cnt : Nat} {F : Forest} {left : Int → Bool} (h : RngIs w b r n F left cnt) : MapIs K3 S29.val w b n F := by
  obtain ⟨D, L, h1, h0, h2, h3, h4, h5⟩ := h
  exact ⟨D, h1.owns, h0, fun x hx => h2 x hx, fun x a hx => h3 x a hx⟩

section
variable (w : World) {ops : Array Oper} {rest : List Oper} {o : Oper} {a : Act} {Q : Exit → Act → World → Prop}

theorem wp_rng (hg : o.guard = none) (m : Operand) (hop : o.op = Op.range 48 m) (b n : Nat) (F : Forest) (hm : a.eval m = .map (some b)) (h : MapIs K3 S29.val w b n F)
    (hK : ∀ w' cnt, RngIs w' b w.heap.size n F (fun x => (F x).isSome) cnt → w.grownBy w' none → w'.heap.size = w.heap.size + 1 → wpList Try.prog ops Q rest (a.put o.dst (.pointer (some ⟨w.heap.size, 0, none⟩))) w') :
    wpList Try.prog ops Q (o :: rest) a w := by
  obtain ⟨D, h1, h2, h3, h4⟩ := h
  refine wpList_range_own w hg m 48 hop 3 29 keyed3 Try.underlying48 hv b n D hm h1 ?_
  intro w' hr hgr hsz
  refine hK w' _ ⟨D, _, hr, h2, h3, h4, fun x => ?_, fun x hx => hx⟩ hgr hsz
  show has D (.int .i64 x) = (F x).isSome
  cases hf : F x with
  | none => exact h3 x hf
  | some q => exact (h4 x q hf).2.1

set_option maxRecDepth 100000 in
theorem wp_rngNext (hg : o.guard = none) (it : Operand) (hop : o.op = Op.next it false) (b r n : Nat) (F : Forest) (left : Int → Bool) (cnt : Nat)
    (hit : a.eval it = .pointer (some ⟨r, 0, none⟩)) (h : RngIs w b r n F left cnt)
    (hDone : (∀ x, left x = false) → wpList Try.prog ops Q rest (a.put o.dst (.tuple #[.bool false])) w)
    (hMore : ∀ (x : Int) (q : S29) (w' : World) (cnt' : Nat), F x = some q → left x = true → RngIs w' b r n F (fun z => left z && !decide (z = x)) cnt' → cnt' < cnt →
      w.grownBy w' (some r) → w'.heap.size = w.heap.size → (Instr.entry (.pointer (some ⟨r, 0, none⟩))).run Try.prog w' = .ok (.tuple #[.int .i64 x, q.val]) w' → wpList Try.prog ops Q rest (a.put o.dst (.tuple #[.bool true, .int .i64 x, q.val])) w') :
    wpList Try.prog ops Q (o :: rest) a w := by
  obtain ⟨D, L, h1, h0, h2, h3, h4, h5⟩ := h
  refine wpList_next_ranges w hg it hop 3 keyed3 hv (fun x : Int => .int .i64 x) (fun v : Value => v) (fun key kl hk => ?_) (fun v y _ => ⟨v, rfl⟩) b r n D L cnt hit h1 (fun _ hl => hDone fun x => by rw [← h4]; exact hl _) ?_
  · obtain ⟨x, hx, _⟩ := Maps.keyOf_int_inv Try.underlying3 hk
    exact ⟨x, hx⟩
  · intro x c kl y w' cnt' hkey hlk hv' hat hrg hlt hgr hsz hen
    obtain ⟨x', hx', rfl, hw⟩ := Maps.keyOf_int_inv Try.underlying3 hkey
    obtain rfl : x = x' := by injection hx'
    have hl : left x = true := by rw [← h4]; exact hlk
    obtain ⟨q, hq⟩ := Option.isSome_iff_exists.1 (h5 x hl)
    have hc : c = q.val := by
      have e1 := hat (.held c)
      rw [(h3 x q hq).2.2] at e1
      simp only [hv, Option.some.injEq] at hv'
      rw [← hv'] at e1
      injection e1 with e1
      exact e1.symm
    subst hc
    refine hMore x q w' cnt' hq hl ⟨D, _, hrg, h0, h2, h3, fun z => ?_, fun z hz => ?_⟩ hlt hgr hsz hen
    · show (L (.int .i64 z) && !Lit.sameKey (.int .i64 z) (.int .i64 x)) = _
      rw [h4]
      congr 2
      by_cases e : z = x <;> simp [Lit.sameKey, e]
    · simp only [Bool.and_eq_true] at hz
      exact h5 z hz.1
end

/-! ### height -/

open Go.Proofs.YtihpiejlfdinaaaW.PrintMore in
attribute [local go_sem] max2_int max_two in
set_option maxRecDepth 100000 in
set_option maxHeartbeats 4000000 in
theorem measure59 (mb cnt : Nat) (F : Forest) (hF : FKeys F) (b1 b2 : Nat) : ∀ (k : Nat) (x : Int) (W : World), deep F k x → k ≤ 1000 → Boxed W b1 48 (.map (some mb)) → Boxed W b2 67 (.func (.func 59) #[] #[.pointer (some ⟨b1, 0, none⟩), .pointer (some ⟨b2, 0, none⟩)]) → MapIs K3 S29.val W mb cnt F →
    Calls Try.prog 59 #[.int .i64 x, .pointer (some ⟨b1, 0, none⟩), .pointer (some ⟨b2, 0, none⟩)] W fun e w' => e = .returned (.int .i64 (htF F k x : Nat)) ∧ Below W.heap.size W w' ∧ htF F k x ≤ k
  | 0, x, W, hd, _, _, _, _ => hd.elim
  | k + 1, x, W, hd, hk, h1, h2, hM => by
    have IH := Lib.hid (measure59 mb cnt F hF b1 b2 k)
    have HD := Lib.hid hd
    have HF := Lib.hid hF
    have HK := Lib.hid hk
    have H1 := Lib.hid h1
    have H2 := Lib.hid h2
    have HM := Lib.hid hM
    have HM1 := hM.lt
    have c1 := h1.cell
    have eg : ∀ args w, (callFunc 59 args).run Try.prog w = .ok (.enter 59 args) w := enters_of Try.func59 (by kernel_rfl) rfl
    clear hd hF hk h1 h2
    go_enter Try.func59, Try.ntmps59
    go_wp2_with (at_range; refine wp_rng _ rfl (.tmp 8) rfl mb cnt F rfl hM ?_; intro w0 c0 hrg0 hg0 hs0)
    go_frame
    go_loopg [5] c0 (fun gg s5 wr => ∃ (left : Int → Bool) (n : Nat), s5 = .int .i64 n ∧ RngIs wr mb W.heap.size cnt F left gg ∧ Hid ((∀ y q, F y = some q → left y = false → q.f3 = x → htF F k y ≤ n) ∧ (n = 0 ∨ ∃ y q, F y = some q ∧ q.f3 = x ∧ n = htF F k y)) ∧ n ≤ k ∧ Below W.heap.size W wr)
    case atStart =>
      refine ⟨_, 0, rfl, hrg0, ⟨fun y q hq hl _ => ?_, .inl rfl⟩, Nat.zero_le _, ⟨hg0.os, hg0.tape, hg0.output, hg0.size, fun i hi => hg0.block i hi (by simp)⟩⟩
      simp [hq] at hl
    case round =>
      obtain ⟨left, n, rfl, hrg, hn, hnk, hB⟩ := hrel
      go_wp2_with (first | (at_next; refine wp_rngNext _ rfl (.tmp 9) rfl mb W.heap.size cnt F left gk rfl hrg ?_ ?_) | go_in)
      · intro hl
        have hu := htF_uniq HF.out (k := k) (x := x) (fun y q hq hx => hn.out.1 y q hq (hl y) hx) hn.out.2
        have HU := Lib.hid hu
        clear hu hl
        have hnn : -9223372036854775808 ≤ (n : Int) + 1 ∧ (n : Int) + 1 < 9223372036854775808 := by have := HK.out; omega
        go_wp2
        go_ret
        refine ⟨ret_int ?_, hB, ?_⟩
        · rw [HU.out]; simp; omega
        · rw [HU.out]; omega
      · intro y q w2 c2 hq hly hrg2 hlt hg2 hs2 hen
        obtain ⟨hq2, hy0, hy1, hqw⟩ := HF.out y q hq
        subst hq2
        have hB2 : Below W.heap.size W w2 := hB.grown hg2 hB.size (by intro k hk; cases hk; exact Nat.le_refl _)
        have HQ := Lib.hid hq
        have HLT := Lib.hid hlt
        have h1' := H1.out
        have c1' : w2.cell? ⟨b1, 0, none⟩ = some (.map (some mb)) := cellK h1'.cell hB2
        have c2' : w2.cell? ⟨b2, 0, none⟩ = some (.func (.func 59) #[] #[.pointer (some ⟨b1, 0, none⟩), .pointer (some ⟨b2, 0, none⟩)]) := cellK H2.out.cell hB2
        unfold S29.val at hen
        have hbx := Box5.new w2 q
        obtain ⟨k0, k1, k2, k3, k4⟩ := hbx.cell
        have c2'' := cell_old c2' (.cells #[.int .i64 q.f0, .int .i64 q.f1, .int .i64 q.f2, .int .i64 q.f3, .string q.f4] 29)
        have hB3 : Below W.heap.size W (w2.alloc (.cells #[.int .i64 q.f0, .int .i64 q.f1, .int .i64 q.f2, .int .i64 q.f3, .string q.f4] 29)) := hB2.alloc hB2.size _
        have hrg3 := hrg2.alloc (.cells #[.int .i64 q.f0, .int .i64 q.f1, .int .i64 q.f2, .int .i64 q.f3, .string q.f4] 29)
        clear hq hlt h1' hs2 hg2 hrg hrg2 c2'
        by_cases e : q.f3 = x
        · have d0 : (q.f3 == x) = true := by simpa using e
          have hcall := IH.out q.f2 (w2.alloc (.cells #[.int .i64 q.f0, .int .i64 q.f1, .int .i64 q.f2, .int .i64 q.f3, .string q.f4] 29)) (HD.out q.f2 q HQ.out e) (by have := HK.out; omega)
            ((hB3.block _ H1.out.lt).trans H1.out) ((hB3.block _ H2.out.lt).trans H2.out) (hrg3.map)
          obtain ⟨m, hm⟩ : ∃ m, m = htF F k q.f2 := ⟨_, rfl⟩
          rw [← hm] at hcall
          have HC := Lib.hid hcall
          have HM2 := Lib.hid hm
          have HE := Lib.hid e
          clear hcall hm e
          go_wp2_with (go_at_fn 59; refine HC.out.mono ?_; rintro e w4 ⟨rfl, hB4, hm4⟩)
          all_goals
            have hrg4 := hrg3.below hB4
            have hB5 := below_step hB3 hB3.size hB4
            have hstep : ∀ n' : Nat, n ≤ n' → m ≤ n' → ∀ y q', F y = some q' → (left y && !decide (y = q.f2)) = false → q'.f3 = x → htF F k y ≤ n' := by
              intro n' hn1 hn2 y q' hq' hl' hx'
              by_cases ey : y = q.f2
              · subst ey; rw [← HM2.out]; exact hn2
              · exact Nat.le_trans (hn.out.1 y q' hq' (by simpa [ey] using hl') hx') hn1
            go_roundg c2
            case measure => exact HLT.out
            case rel =>
              first
                | exact ⟨_, n, rfl, hrg4, ⟨hstep n (Nat.le_refl _) (by omega), hn.out.2⟩, hnk, hB5⟩
                | exact ⟨_, m, rfl, hrg4, ⟨hstep m (by omega) (Nat.le_refl _), .inr ⟨q.f2, q, HQ.out, HE.out, HM2.out⟩⟩, hm4, hB5⟩
        · have d0 : (q.f3 == x) = false := by simpa using e
          have HE := Lib.hid e
          clear e
          go_wp2
          go_roundg c2
          case measure => exact HLT.out
          case rel =>
            refine ⟨_, n, rfl, hrg3, ⟨fun y q' hq' hl' hx' => ?_, hn.out.2⟩, hnk, hB3⟩
            by_cases ey : y = q.f2
            · subst ey; rw [HQ.out] at hq'; cases hq'; exact (HE.out hx').elim
            · exact hn.out.1 y q' hq' (by simpa [ey] using hl') hx'

set_option maxRecDepth 100000 in
set_option maxHeartbeats 1000000 in
theorem height48 (mb cnt k : Nat) (F : Forest) (hF : FKeys F) (x : Int) (hd : deep F k x) (hk : k ≤ 1000) (w : World) (hM : MapIs K3 S29.val w mb cnt F) :
    Calls Try.prog 48 #[.map (some mb), .int .i64 x] w fun e w' => e = .returned (.int .i64 (htF F k x : Nat)) ∧ Below w.heap.size w w' ∧ htF F k x ≤ k := by
  have hb1 : Boxed ((w.alloc (.cells #[.map (some mb)] 48)).alloc (.cells #[.func (.func 59) #[] #[.pointer (some ⟨w.heap.size, 0, none⟩), .pointer (some ⟨w.heap.size + 1, 0, none⟩)]] 67)) w.heap.size 48 (.map (some mb)) := (Boxed.new w 48 _).alloc _
  have hb2 : Boxed ((w.alloc (.cells #[.map (some mb)] 48)).alloc (.cells #[.func (.func 59) #[] #[.pointer (some ⟨w.heap.size, 0, none⟩), .pointer (some ⟨w.heap.size + 1, 0, none⟩)]] 67)) (w.heap.size + 1) 67 (.func (.func 59) #[] #[.pointer (some ⟨w.heap.size, 0, none⟩), .pointer (some ⟨w.heap.size + 1, 0, none⟩)]) := by
    have := Boxed.new (w.alloc (.cells #[.map (some mb)] 48)) 67 (.func (.func 59) #[] #[.pointer (some ⟨w.heap.size, 0, none⟩), .pointer (some ⟨w.heap.size + 1, 0, none⟩)])
    simp only [World.size_alloc] at this
    exact this
  have H := Lib.hid (measure59 mb cnt F hF w.heap.size (w.heap.size + 1) k x _ hd hk hb1 hb2 ((hM.alloc _).alloc _))
  have hB : Below w.heap.size w ((w.alloc (.cells #[.map (some mb)] 48)).alloc (.cells #[.func (.func 59) #[] #[.pointer (some ⟨w.heap.size, 0, none⟩), .pointer (some ⟨w.heap.size + 1, 0, none⟩)]] 67)) := ((Below.refl _ _).alloc (Nat.le_refl _) _).alloc (by simp) _
  have HB := Lib.hid hB
  have eg : ∀ args w, (callFunc 59 args).run Try.prog w = .ok (.enter 59 args) w := enters_of Try.func59 (by kernel_rfl) rfl
  clear hb1 hb2 hB hM hF hd
  generalize htF F k x = m at *
  go_enter Try.func48, Try.ntmps48
  go_wp2_with (go_at_fn 59; refine H.out.mono ?_; rintro e w4 ⟨rfl, hB4, hm4⟩)
  go_ret
  exact ⟨rfl, HB.out.trans (hB4.mono HB.out.size), hm4⟩
end Go.Proofs.Ytihpiejlfdinaaa.PF
