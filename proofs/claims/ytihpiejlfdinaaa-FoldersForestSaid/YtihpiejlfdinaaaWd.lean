import Derived.Test.YtihpiejlfdinaaaWc
import Derived.Maps.AppendAt
namespace Go.Proofs.Ytihpiejlfdinaaa.PF
open Go Go.RowKit Go.Maps Go.My
attribute [local go_sem] Oper.semAt_some

theorem res_cell1 {fn : Func} {p : Tmp} {ty : TypeId} (h : fn.results = #[.cell p ty]) (tmps : Array Value) (P : Program) (w : World) :
    (results fn tmps).run P w = ((asAddr (tmps.getD p undef)).run P w).andThen fun a w₁ => (loadVar ty a).run P w₁ := by
  simp only [results, h]
  simp [Sem.run_bind, Result.andThen]

/-- What within's loop holds: the box of the other folder, the answer's box. -/
def wiJ (n0 : Nat) (other : Int) (b : Bool) (F : Nat → Prop) (W : World) : Prop :=
  (∀ j, F j ↔ j = n0 ∨ j = n0 + 1) ∧ Boxed W n0 3 (.int .i64 other) ∧ Boxed W (n0 + 1) 4 (.bool b)
theorem wiJ_framed (n0 : Nat) (other : Int) (b : Bool) : Framed (wiJ n0 other b) where
  lt := by
    rintro F W ⟨hF, h1, h2⟩ k hk
    rcases (hF k).1 hk with rfl | rfl
    · exact h1.lt
    · exact h2.lt
  frame := by
    rintro F W W' ⟨hF, h1, h2⟩ hs hk
    exact ⟨hF, (hk _ ((hF _).2 (.inl rfl))).trans h1, (hk _ ((hF _).2 (.inr rfl))).trans h2⟩
theorem framed_and {p : Prop} {J : (Nat → Prop) → World → Prop} (hJ : Framed J) : Framed (fun F W => p ∧ J F W) where
  lt := by rintro F W ⟨_, hj⟩ k hk; exact hJ.lt hj k hk
  frame := by rintro F W W' ⟨hp, hj⟩ hs hk; exact ⟨hp, hJ.frame hj hs hk⟩

set_option maxRecDepth 100000 in
set_option maxHeartbeats 2000000 in
theorem within28 (mb cnt K : Nat) (F : Forest) (x y : Int) (hK : ends F K x) (hwf : FWf F) (hx : (Lit.int .i64 x).wf = true) (w : World) (hM : MapIs K3 S29.val w mb cnt F) :
    Calls Try.prog 28 #[.map (some mb), .int .i64 x, .int .i64 y] w fun e w' => e = .returned (.bool (decide (x = y) || (upF F K x).any fun z => decide (z = y))) ∧ Below w.heap.size w w' := by
  refine (callsIn_wide (n := 3)).1 ?_
  refine callsIn_of_wp_marks Try.func28 rfl trivial ?_ rfl
  simp only [Try.ntmps28, List.size_toArray, List.length_cons, List.length_nil, Nat.reduceAdd, Nat.reduceSub, Array.replicate_succ, Array.replicate_zero, List.push_toArray, List.append_toArray, List.nil_append, List.cons_append]
  have t31 : Fence.wide.fn 31 := trivial
  gi_wp2_with (gi_at_call 31; refine (callsIn_wide.2 (up31 _ _ _)).mono ?_; rintro e w' ⟨rfl, rfl⟩)
  have hB0 : Below w.heap.size w ((((w.alloc (.cells #[.int .i64 y] 3)).alloc (.cells #[.bool false] 4)).alloc (.cells #[.map (some mb)] 48)).alloc (.cells #[.int .i64 x] 3)) :=
    ((((Below.refl _ _).alloc (Nat.le_refl _) _).alloc (by simp) _).alloc (by simp; omega) _).alloc (by simp; omega) _
  have hb0 : Boxed ((((w.alloc (.cells #[.int .i64 y] 3)).alloc (.cells #[.bool false] 4)).alloc (.cells #[.map (some mb)] 48)).alloc (.cells #[.int .i64 x] 3)) w.heap.size 3 (.int .i64 y) := (((Boxed.new w 3 _).alloc _).alloc _).alloc _
  have hb1 : Boxed ((((w.alloc (.cells #[.int .i64 y] 3)).alloc (.cells #[.bool false] 4)).alloc (.cells #[.map (some mb)] 48)).alloc (.cells #[.int .i64 x] 3)) (w.heap.size + 1) 4 (.bool false) := by
    have := Boxed.new (w.alloc (.cells #[.int .i64 y] 3)) 4 (.bool false)
    simp only [World.size_alloc] at this
    exact (this.alloc _).alloc _
  have hp : upPre (w.heap.size + 1 + 1) (w.heap.size + 1 + 1 + 1) mb cnt F x ((((w.alloc (.cells #[.int .i64 y] 3)).alloc (.cells #[.bool false] 4)).alloc (.cells #[.map (some mb)] 48)).alloc (.cells #[.int .i64 x] 3)) := by
    refine ⟨?_, ?_, ((((hM.alloc _).alloc _).alloc _).alloc _)⟩
    · have := Boxed.new ((w.alloc (.cells #[.int .i64 y] 3)).alloc (.cells #[.bool false] 4)) 48 (.map (some mb))
      simp only [World.size_alloc] at this
      exact this.alloc _
    · have := Boxed.new (((w.alloc (.cells #[.int .i64 y] 3)).alloc (.cells #[.bool false] 4)).alloc (.cells #[.map (some mb)] 48)) 3 (.int .i64 x)
      simp only [World.size_alloc] at this
      exact this
  have hmb := hM.lt
  have hsz : ((((w.alloc (.cells #[.int .i64 y] 3)).alloc (.cells #[.bool false] 4)).alloc (.cells #[.map (some mb)] 48)).alloc (.cells #[.int .i64 x] 3)).heap.size = w.heap.size + 4 := by simp
  try simp only [World.size_alloc]
  generalize ((((w.alloc (.cells #[.int .i64 y] 3)).alloc (.cells #[.bool false] 4)).alloc (.cells #[.map (some mb)] 48)).alloc (.cells #[.int .i64 x] 3)) = W0 at *
  have HB0 := Lib.hid hB0
  clear hB0
  refine wp_range (gf := 52) (lb := #[.pointer (some ⟨w.heap.size + 1 + 1, 0, none⟩), .pointer (some ⟨w.heap.size + 1 + 1 + 1, 0, none⟩)]) rfl (enters_of Try.func52 (by kernel_rfl) rfl)
    (up_iter (w.heap.size + 1 + 1) (w.heap.size + 1 + 1 + 1) mb cnt K F x hK hwf hx) (fun W hW => upPre_keep hp hW (fun _ h => h.elim)) ?hK (fun _ => rfl)
    (fun i F' W => (∀ z ∈ (upF F K x).take i, z ≠ y) ∧ wiJ w.heap.size y false F' W)
    (fun c i F' W => (c = .ret ∧ y ∈ upF F K x) ∧ wiJ w.heap.size y true F' W) (fun i => framed_and (wiJ_framed _ _ _)) (fun _ _ => framed_and (wiJ_framed _ _ _))
    (fun j => j = w.heap.size ∨ j = w.heap.size + 1) ?hF0 ⟨by simp, fun _ => Iff.rfl, hb0, hb1⟩
    (fun i z a' W => a' = { tmps := #[.map (some mb), .int .i64 x, .int .i64 y, undef, undef, .pointer (some ⟨w.heap.size, 0, none⟩), .pointer (some ⟨w.heap.size + 1, 0, none⟩), .int .i64 z, .map (some mb), .int .i64 x,
      .func (.func 52) #[] #[.pointer (some ⟨w.heap.size + 1 + 1, 0, none⟩), .pointer (some ⟨w.heap.size + 1 + 1 + 1, 0, none⟩)], .int .i64 z, undef, undef, undef, undef, undef, undef], defers := [] })
    (fun _ _ _ _ _ h _ => h) ?assign ?body ?done ?stop
  case hK => rintro j (h | h | h) <;> omega
  case hF0 => rintro j h (h' | h' | h') <;> rcases h with h | h <;> omega
  case assign =>
    intro l i z F' W Kc hx hJ hK
    gi_wp2
    exact hK _ _ (Chg.refl _ _) rfl
  case body =>
    rintro l i z a' F' W hz ⟨hno, hF, h0, h1⟩ hFl hl rfl
    have HZ := Lib.hid hz
    have HF := Lib.hid hF
    have HNO := Lib.hid hno
    have HTS := Lib.hid (take_snoc hz)
    clear hz hF hFl hl hno hp hb0 hb1
    have c0 := h0.cell
    have c1 := h1.cell
    have f1 := h1.frozen
    by_cases e : z = y
    · have d0 : (z == y) = true := by simpa using e
      have HE := Lib.hid e
      clear e
      gi_wp2
      refine ⟨F', Chg.setCell (Chg.refl _ _) (.inl ((HF.out _).2 (.inr rfl))) _, fun k h => .inl h, ⟨rfl, ?_⟩, HF.out, ?_, h1.set _⟩
      · rw [← HE.out]; exact List.mem_of_getElem? HZ.out
      · exact h0.other (by omega) _
    · have d0 : (z == y) = false := by simpa using e
      have HE := Lib.hid e
      clear e
      gi_wp2
      refine ⟨F', Chg.refl _ _, fun k h => .inl h, ?_, HF.out, h0, h1⟩
      intro u hu
      rw [HTS.out, List.mem_append, List.mem_singleton] at hu
      rcases hu with hu | rfl
      · exact HNO.out u hu
      · exact HE.out
  case done =>
    rintro D F' W hleft ⟨hno, hF, h0, h1⟩ hFD hD hKD
    rw [List.take_length] at hno
    have HNO := Lib.hid hno
    have HLEFT := Lib.hid hleft
    have HF := Lib.hid hF
    clear hleft hF hno hp hb0 hb1
    have c0 := h0.cell
    have c1 := h1.cell
    have f1 := h1.frozen
    gi_wp2
    have h1s := h1.set (.bool (x == y))
    have hD1 : D ≠ w.heap.size + 1 := by omega
    have hKD' : (W.setCell ⟨w.heap.size + 1, 0, none⟩ (.bool (x == y))).heap[D]? = some (.deferred (some [])) := (Below.heap_setCell _ _ _ _ hD1).trans hKD
    refine ⟨by simp, .inl ⟨_, _, rfl, run_takeDeferred hKD', ?_⟩⟩
    have h1e := Boxed.kept h1s (grownBy_putObj' _ D (.deferred none)) (fun e => hD1 (Option.some.inj e).symm)
    have c1e := h1e.cell
    refine ⟨.bool (x == y), (by rw [res_cell1 rfl]; simp [asAddr, loadVar, c1e]), ret_bool ?_, ?_⟩
    · have e0 : ((upF F K x).any fun z => decide (z = y)) = false := by
        rw [List.any_eq_false]
        intro z hz
        simpa using HNO.out z hz
      rw [e0, Bool.or_false]
      by_cases q : x = y <;> simp [q]
    · have h2 : Below w.heap.size W0 W := HLEFT.out.chg.below (fun j h => by rcases h with (h | h) | h; omega; omega; exact h.elim) (by omega)
      refine HB0.out.trans (h2.trans ?_)
      exact Chg.below (S := fun j => j = D ∨ j = w.heap.size + 1) (Chg.putObj (Chg.setCell (Chg.refl _ _) (.inl (.inr rfl)) _) (.inl (.inl rfl)) _) (fun j h => by omega) (by have := h2.size; omega)
  case stop =>
    rintro D c i F' W hleft hi ⟨⟨rfl, hy⟩, hF, h0, h1⟩ hFD hD hKD
    have HLEFT := Lib.hid hleft
    clear hleft
    gi_wp2
    refine ⟨by simp, .inl ⟨_, _, rfl, run_takeDeferred hKD, ?_⟩⟩
    have hD1 : D ≠ w.heap.size + 1 := by omega
    have h1e := Boxed.kept h1 (grownBy_putObj' _ D (.deferred none)) (fun e => hD1 (Option.some.inj e).symm)
    have c1e := h1e.cell
    refine ⟨.bool true, (by rw [res_cell1 rfl]; simp [asAddr, loadVar, c1e]), ret_bool ?_, ?_⟩
    · have e0 : ((upF F K x).any fun z => decide (z = y)) = true := by
        rw [List.any_eq_true]
        exact ⟨y, hy, by simp⟩
      rw [e0, Bool.or_true]
    · have h2 : Below w.heap.size W0 W := HLEFT.out.chg.below (fun j h => by rcases h with (h | h) | h; omega; omega; exact h.elim) (by omega)
      refine HB0.out.trans (h2.trans ?_)
      exact Chg.below (S := fun j => j = D) (Chg.putObj (S := fun j => j = D) (Chg.refl _ _) (.inl rfl) _) (fun j h => by omega) (by have := h2.size; omega)

/-! ### slices.Collect -/


/-- What the collecting loop holds: the slice's box, the slice's row. -/
def colJ (n0 : Nat) (xs : List Int) (F : Nat → Prop) (W : World) : Prop :=
  ∃ v : Value, (∀ j, F j ↔ j = n0 ∨ v.ownBlock = some j) ∧ Boxed W n0 25 v ∧ W.ownsRow n0 3 1 v xs.length (xs.map (Value.int .i64))

theorem colJ_framed (n0 : Nat) (xs : List Int) : Framed (colJ n0 xs) where
  lt := by
    rintro F W ⟨v, hF, h4, hr⟩ k hk
    rcases (hF k).1 hk with rfl | h
    · exact h4.lt
    · exact (hr.lt k h).2
  frame := by
    rintro F W W' ⟨v, hF, h4, hr⟩ hs hk
    exact ⟨v, hF, (hk _ ((hF _).2 (.inl rfl))).trans h4, ownsRow_frame hr (fun j hj => hk j ((hF j).2 (.inr hj)))⟩

set_option maxRecDepth 100000 in
set_option maxHeartbeats 1000000 in
theorem appendSeq_any {g : Nat} {lb : Array Value} {xs : List Int} {K : Nat → Prop} {Pre : World → Prop} (hit : Iter Try.prog g lb (fun x : Int => #[.int .i64 x]) xs nob K Pre) (eg : ∀ args w, (callFunc g args).run Try.prog w = .ok (.enter g args) w)
    (hl : xs.length ≤ 1024) (w : World) (hpre : ∀ W, Chg nob w W → Pre W) (hK : ∀ k, K k → k < w.heap.size) :
    Calls Try.prog 51 #[.slice none 0 0, .func (.func g) #[] lb] w fun e w' => ∃ v, e = .returned v ∧
      w'.ownsRow w.heap.size 3 1 v xs.length (xs.map (Value.int .i64)) ∧ Below w.heap.size w w' := by
  refine (callsIn_wide (n := 3)).1 ?_
  refine callsIn_of_wp_marks Try.func51 rfl trivial ?_ rfl
  simp only [Try.ntmps51, List.size_toArray, List.length_cons, List.length_nil, Nat.reduceAdd, Nat.reduceSub, Array.replicate_succ, Array.replicate_zero, List.push_toArray, List.append_toArray, List.nil_append, List.cons_append]
  have EG := Lib.hid eg
  clear eg
  gi_wp2
  obtain ⟨i0, hi, hz0, hz1, hz2⟩ := info_parts info3
  refine wp_range (gf := g) (lb := lb) rfl EG.out hit (fun W hW => hpre W (((Chg.refl nob w).alloc _).trans hW (fun _ h => h.elim))) (fun k hk => by have := hK k hk; simp; omega) (fun _ => rfl)
    (fun i F W => colJ w.heap.size (xs.take i) F W)
    (fun _ _ _ _ => False) (fun i => colJ_framed _ _) (fun _ _ => framed_false)
    (fun j => j = w.heap.size) ?hF0 ?h0
    (fun i x a' W => a' = { tmps := #[.slice none 0 0, .func (.func g) #[] lb, .pointer (some ⟨w.heap.size, 0, none⟩), undef, .slice none 0 0, .int .i64 x, .func (.func g) #[] lb, .int .i64 x,
          undef, undef, undef, undef, undef], defers := [] })
    (fun _ _ _ _ _ h _ => h) ?assign ?body ?done ?stop
  case hF0 => rintro j rfl h; have := hK _ h; omega
  case h0 => exact ⟨.slice none 0 0, fun j => by simp [Value.ownBlock], Boxed.new w 25 _, World.ownsRow_nil _ _ _ _⟩
  case assign =>
    intro l i x F W Kc hx hJ hK
    gi_wp2
    exact hK _ _ (Chg.refl _ _) rfl
  case stop => rintro D c i F W _ _ h; exact h.elim
  case body =>
    rintro l i x a' F W hx ⟨v, hF, h4, hrow⟩ hFl hl' rfl
    have hi9 : i < xs.length := (List.getElem?_eq_some_iff.1 hx).1
    have e0 : (xs.take i).length = i := by rw [List.length_take]; omega
    rw [e0] at hrow
    have HX := Lib.hid hx
    have HF := Lib.hid hF
    clear hx hF hFl hl'
    have hsz : w.heap.size < W.heap.size := h4.lt
    have c4 := h4.cell
    have f4 := h4.frozen
    gi_wp2_with (gi_at_builtin; refine wpListIn_append_own_at _ rfl (.tmp 8) (.tmp 10) 25 rfl w.heap.size 3 i0 (.int .i64 0) 1 8 Try.underlying25 hi hz0 hz1 hz2 rfl (by decide) v i _ rfl (hrow.alloc _) ⟨W.heap.size, 0, none⟩ 1 1 [.int .i64 x] rfl rfl (cell_one_new _ _ _) (fun x hx => by simp at hx; subst hx; rfl) (by unfold maxLen; omega) (by omega) (by simp; omega) ?_; intro v' w3 hown' hgrow hnil hloc; obtain ⟨g', cap', rfl⟩ := ownsRow_succ hown'; have h4' : Boxed w3 w.heap.size 25 v := (h4.alloc _).kept hgrow (h4.not_row (by decide) hrow); have c4' := h4'.cell; have f4' := h4'.frozen; have HOWN := Lib.hid hown'; have HG := Lib.hid hgrow; have HL := Lib.hid hloc; clear hown' hgrow hnil hloc)
    have hne := h4'.not_row (by decide) HOWN.out
    refine ⟨fun j => j = w.heap.size ∨ g' = j, ?_, ?_, _, fun j => by simp [Value.ownBlock], h4'.set _, ?_⟩
    · refine Chg.setCell (Chg.grown (Chg.alloc (Chg.refl F W) _) HG.out ?_) (.inl ((HF.out _).2 (.inl rfl))) _
      intro k hk
      exact .inl ((HF.out k).2 (.inr hk))
    · rintro k (h | rfl)
      · exact .inl ((HF.out k).2 (.inl h))
      · rcases HL.out with h | h
        · exact .inl ((HF.out _).2 (.inr (by rw [← h]; rfl)))
        · right
          have h := Option.some.inj h
          simp at h
          omega
    · have := HOWN.out.kept (grownBy_setCell' w3 w.heap.size (.slice (some ⟨g', 0, none⟩) (i + 1) cap')) (.inr hne.symm)
      have e1 : (xs.take (i + 1)).length = i + 1 := by rw [List.length_take]; omega
      rw [e1, take_snoc HX.out, List.map_append]
      exact this
  case done =>
    rintro D F W hleft ⟨v, hF, h4, hrow⟩ hFD hD hKD
    rw [List.take_length] at hrow
    have c4 := h4.cell
    have HLEFT := Lib.hid hleft
    clear hleft hF
    gi_wp2
    refine ⟨by simp, .inl ⟨_, _, rfl, run_takeDeferred hKD, ?_⟩⟩
    refine ⟨_, results_tmp rfl _ _ _, v, rfl, ownsRow_putObj hrow _ hKD rfl, ?_⟩
    have h1 : Below w.heap.size (w.alloc (Obj.cells #[Value.slice none 0 0] 25)) W := HLEFT.out.chg.below (fun j h => by rcases h with h | h; omega; exact h.elim) (by simp)
    refine ((Below.refl _ w).alloc (Nat.le_refl _) _).trans (h1.trans ?_)
    exact Chg.below (S := fun j => j = D) (Chg.putObj (S := fun j => j = D) (Chg.refl _ _) (.inl rfl) _) (fun j h => by simp at hD; omega) (by have := HLEFT.out.chg.size; simp at this; omega)

set_option maxRecDepth 100000 in
set_option maxHeartbeats 400000 in
theorem collect_any {g : Nat} {lb : Array Value} {xs : List Int} {K : Nat → Prop} {Pre : World → Prop} (hit : Iter Try.prog g lb (fun x : Int => #[.int .i64 x]) xs nob K Pre) (eg : ∀ args w, (callFunc g args).run Try.prog w = .ok (.enter g args) w)
    (hl : xs.length ≤ 1024) (w : World) (hpre : ∀ W, Chg nob w W → Pre W) (hK : ∀ k, K k → k < w.heap.size) :
    Calls Try.prog 30 #[.func (.func g) #[] lb] w fun e w' => ∃ v, e = .returned v ∧ w'.ownsRow w.heap.size 3 1 v xs.length (xs.map (Value.int .i64)) ∧ Below w.heap.size w w' := by
  have H := Lib.hid (appendSeq_any hit eg hl w hpre hK)
  go_enter Try.func30, Try.ntmps30
  go_wp2_with (go_at_call 51; refine H.out.mono ?_; rintro e w' ⟨v, rfl, hrow, hB⟩)
  go_ret
  exact ⟨v, rfl, hrow, hB⟩

/-- The folders above a folder, collected. -/
theorem collect_up (mb cnt K : Nat) (F : Forest) (x : Int) (hK : ends F K x) (hl : (upF F K x).length ≤ 1024) (hwf : FWf F) (hx : (Lit.int .i64 x).wf = true) (w : World) (hM : MapIs K3 S29.val w mb cnt F) :
    Calls Try.prog 30 #[.func (.func 52) #[] #[.pointer (some ⟨w.heap.size, 0, none⟩), .pointer (some ⟨w.heap.size + 1, 0, none⟩)]] ((w.alloc (.cells #[.map (some mb)] 48)).alloc (.cells #[.int .i64 x] 3))
      fun e w' => ∃ v, e = .returned v ∧ w'.ownsRow w.heap.size 3 1 v (upF F K x).length ((upF F K x).map (Value.int .i64)) ∧ Below w.heap.size w w' := by
  have hp : upPre w.heap.size (w.heap.size + 1) mb cnt F x ((w.alloc (.cells #[.map (some mb)] 48)).alloc (.cells #[.int .i64 x] 3)) := by
    refine ⟨(Boxed.new w 48 _).alloc _, ?_, (hM.alloc _).alloc _⟩
    have := Boxed.new (w.alloc (.cells #[.map (some mb)] 48)) 3 (.int .i64 x)
    simp only [World.size_alloc] at this
    exact this
  have hmb := hM.lt
  have hsz : ((w.alloc (.cells #[.map (some mb)] 48)).alloc (.cells #[.int .i64 x] 3)).heap.size = w.heap.size + 2 := by simp
  have hB0 : Below w.heap.size w ((w.alloc (.cells #[.map (some mb)] 48)).alloc (.cells #[.int .i64 x] 3)) := ((Below.refl _ _).alloc (Nat.le_refl _) _).alloc (by simp) _
  refine (collect_any (up_iter w.heap.size (w.heap.size + 1) mb cnt K F x hK hwf hx) (enters_of Try.func52 (by kernel_rfl) rfl) hl _ (fun W hW => upPre_keep hp hW (fun _ h => h.elim)) (by rintro j (h | h | h) <;> omega)).mono ?_
  rintro e w' ⟨v, rfl, hrow, hB⟩
  exact ⟨v, rfl, Go.Proofs.YtihpiejlfdinaaaW.PrintWords.own_weaken hrow (by omega), hB0.trans (hB.mono (by omega))⟩

set_option maxRecDepth 100000 in
set_option maxHeartbeats 400000 in
theorem level47 (mb cnt K : Nat) (F : Forest) (x : Int) (hK : ends F K x) (hl : (upF F K x).length ≤ 1024) (hwf : FWf F) (hx : (Lit.int .i64 x).wf = true) (w : World) (hM : MapIs K3 S29.val w mb cnt F) :
    Calls Try.prog 47 #[.map (some mb), .int .i64 x] w fun e w' => e = .returned (.int .i64 ((if x < 0 then 0 else 1 + (upF F K x).length : Nat) : Int)) ∧ Below w.heap.size w w' := by
  by_cases h0 : x < 0
  · have d0 : decide (x < 0) = true := decide_eq_true h0
    rw [if_pos h0]
    go_enter Try.func47, Try.ntmps47
    go_wp2
    go_ret
    exact ⟨rfl, Below.refl _ _⟩
  · have d0 : decide (x < 0) = false := decide_eq_false h0
    rw [if_neg h0]
    have H := Lib.hid (collect_up mb cnt K F x hK hl hwf hx w hM)
    obtain ⟨n, hn⟩ : ∃ n, n = (upF F K x).length := ⟨_, rfl⟩
    rw [← hn] at H hl ⊢
    clear h0 hM hK
    go_enter Try.func47, Try.ntmps47
    go_wp2_with (first
      | (go_at_call 31; refine (up31 _ _ _).mono ?_; rintro e w' ⟨rfl, rfl⟩)
      | (go_at_call 30; refine H.out.mono ?_; rintro e w' ⟨v, rfl, hrow, hB⟩; have hv := (show ∃ a c, v = .slice a n c from by rcases hrow.2 with ⟨rfl, h0⟩ | ⟨g, cap, cur, rfl, _⟩; exact ⟨_, _, by rw [h0]⟩; exact ⟨_, _, rfl⟩); obtain ⟨a, c, rfl⟩ := hv))
    go_ret
    exact ⟨ret_int (by rw [hn]; simp), hB⟩
end Go.Proofs.Ytihpiejlfdinaaa.PF
