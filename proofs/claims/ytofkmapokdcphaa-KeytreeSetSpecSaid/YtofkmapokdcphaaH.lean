import Derived.Test.YtofkmapokdcphaaG
import Derived.Test.YtofkmapokdcphaaOf
import Derived.Test.YtofkmapokdcphaaOrders
import Derived.Maps.AppendAt
import Derived.Laws.ResultCell
namespace Go.Proofs.Ytofkmapokdcphaa
open Go Go.RowKit Go.Maps Go.My Go.Shelf
attribute [local go_sem] Oper.semAt_some

theorem info3 : (Try.prog.info? 3).map (fun i => (i.zero, i.size, i.bytes)) = some (some (.int .i64 0), 1, 8) := by kernel_rfl

/-- What 'of' does, on the nodes that come. -/
def OfFn (f : Nat) (of : Int → Int) : Prop := ∀ (x : Int) (w : World), 0 ≤ x → x < 1024 → Calls Try.prog f #[.int .i64 x] w fun e w' => e = .returned (.int .i64 (of x)) ∧ w = w'

theorem wpListIn_append_run {F : Fence} {n : Nat} {P : Program} {w w' : World} {ops : Array Oper} {rest : List Oper} {o : Oper} {a : Act} {Q : Exit → Act → World → Prop} {v' : Value}
    (hg : o.guard = none) (s x : Operand) (t : TypeId) (hop : o.op = Op.call { callee := Callee.builtin Builtin.append, args := #[s, x], argTypes := #[t, t] })
    (hrun : (Builtin.append_ #[t, t] o.type #[a.eval s, a.eval x]).run P w = .ok v' w') (hK : wpListIn F n P ops Q rest (a.put o.dst v') w') : wpListIn F n P ops Q (o :: rest) a w := by
  refine wpListIn_plain hg fun K hK' => ?_
  unfold Oper.wpIn
  refine ⟨?_, ?_⟩
  · simp [Oper.about, hop, resolve, Target.leads, Sem.run_pure]
  · rw [Oper.semAt_plain F _ _ (by rw [hop]; intro c hc'; cases hc')]
    simp [execOp, hop, resolve, invoke, builtin, hrun, Result.andThen]
    exact hK' _ _ hK

/-- What along's loop holds: the function's box, the slice's box, the slice's row. -/
def alongJ (n0 f : Nat) (xs : List Int) (F : Nat → Prop) (W : World) : Prop :=
  ∃ v : Value, (∀ j, F j ↔ (j = n0 + 1 ∨ j = n0) ∨ v.ownBlock = some j) ∧ Boxed W (n0 + 1) 27 v ∧ Boxed W n0 75 (.func (.func f) #[] #[]) ∧ W.ownsRow n0 3 1 v xs.length (xs.map (Value.int .i64))

theorem ownsRow_frame {W W' : World} {base size n : Nat} {e : TypeId} {v : Value} {xs : List Value} (h : W.ownsRow base e size v n xs) (hk : ∀ j, v.ownBlock = some j → W'.heap[j]? = W.heap[j]?) : W'.ownsRow base e size v n xs := by
  obtain ⟨h1, h2⟩ := h
  refine ⟨h1, ?_⟩
  rcases h2 with h2 | ⟨g, cap, cur, rfl, hg, hh, r⟩
  · exact .inl h2
  · exact .inr ⟨g, cap, cur, rfl, hg, (hk g (by simp [Value.ownBlock])).trans hh, r⟩

theorem alongJ_framed (n0 f : Nat) (xs : List Int) : Framed (alongJ n0 f xs) where
  lt := by
    rintro F W ⟨v, hF, h4, h3, hr⟩ k hk
    rcases (hF k).1 hk with (rfl | rfl) | h
    · exact h4.lt
    · exact h3.lt
    · exact (hr.lt k h).2
  frame := by
    rintro F W W' ⟨v, hF, h4, h3, hr⟩ hs hk
    exact ⟨v, hF, (hk _ ((hF _).2 (.inl (.inl rfl)))).trans h4, (hk _ ((hF _).2 (.inl (.inr rfl)))).trans h3, ownsRow_frame hr (fun j hj => hk j ((hF j).2 (.inr hj)))⟩

set_option maxRecDepth 100000 in
set_option maxHeartbeats 1000000 in
theorem along_ok (d : Nat) (hd : d < 512) (f : Nat) (of : Int → Int) (hof : OfFn f of) (ef : ∀ args w, (callFunc f args).run Try.prog w = .ok (.enter f args) w) (w : World) :
    Calls Try.prog 52 #[.int .i64 d, .func (.func f) #[] #[]] w fun e w' => ∃ v, e = .returned (.tuple #[v, .int .i64 0]) ∧
      w'.ownsRow w.heap.size 3 1 v 9 (((ups (512 + d)).map of).map (Value.int .i64)) ∧ Below w.heap.size w w' := by
  refine (callsIn_wide (n := 3)).1 ?_
  refine callsIn_of_wp_marks Try.func52 rfl trivial ?_ rfl
  simp only [Try.ntmps52, List.size_toArray, List.length_cons, List.length_nil, Nat.reduceAdd, Nat.reduceSub, Array.replicate_succ, Array.replicate_zero, List.push_toArray, List.append_toArray, List.nil_append, List.cons_append]
  have t28 : Fence.wide.fn 28 := trivial
  have t68 : Fence.wide.fn 68 := trivial
  have HOF := Lib.hid hof
  have HEF := Lib.hid ef
  clear hof ef
  gi_wp2_with (first
    | (gi_at_call 28; refine (callsIn_wide.2 (leaf_ok _ _ (by omega) (by omega))).mono ?_; rintro e w' ⟨rfl, rfl⟩)
    | (gi_at_call 68; refine (callsIn_wide.2 (up_any _ _)).mono ?_; rintro e w' ⟨rfl, rfl⟩))
  obtain ⟨i0, hi, hz0, hz1, hz2⟩ := info_parts info3
  refine wp_range (gf := 85) (lb := #[.pointer (some ⟨w.heap.size + 1 + 1, 0, none⟩)]) rfl (enters_of Try.func85 (by kernel_rfl) rfl) (up_iter (w.heap.size + 1 + 1) (512 + d) (by omega) (by omega)) ?hpre ?hK (fun _ => rfl)
    (fun i F W => alongJ w.heap.size f (((ups (512 + d)).map of).take i) F W)
    (fun _ _ _ _ => False) (fun i => alongJ_framed _ _ _) (fun _ _ => framed_false)
    (fun j => j = w.heap.size + 1 ∨ j = w.heap.size) ?hF0 ?h0
    (fun i x a' W => a' = { tmps := #[.int .i64 d, .func (.func f) #[] #[], undef, .pointer (some ⟨w.heap.size, 0, none⟩), .pointer (some ⟨w.heap.size + 1, 0, none⟩), .int .i64 0, .int .i64 (512 + d), .int .i64 x,
      .tuple #[.int .i64 (512 + d), .int .i64 0], .int .i64 d, .tuple #[.int .i64 (512 + d), .int .i64 0], .int .i64 (512 + d), .int .i64 0, .int .i64 0, .bool false, undef, .int .i64 (512 + d),
      .func (.func 85) #[] #[.pointer (some ⟨w.heap.size + 1 + 1, 0, none⟩)], .int .i64 x, undef, undef, undef, undef, undef, undef, undef], defers := [] })
    (fun _ _ _ _ _ h _ => h) ?assign ?body ?done ?stop
  case hpre =>
    intro W hW
    refine (hW.same _ (by simp) (fun h => h)).trans ?_
    rw [show (((512 + d : Nat)) : Int) = 512 + (d : Int) by omega]
    have := Boxed.new ((w.alloc (Obj.cells #[Value.func (Fn.func f) #[] #[]] 75)).alloc (Obj.cells #[Value.slice none 0 0] 27)) 77 (.int .i64 (512 + (d : Int)))
    simp only [World.size_alloc] at this
    exact this
  case hK => intro j h; have h : j = w.heap.size + 1 + 1 := h; rw [h]; show w.heap.size + 1 + 1 < _; simp only [World.size_alloc]; omega
  case hF0 => intro j h e; have e : j = w.heap.size + 1 + 1 := e; rcases h with h | h <;> omega
  case h0 =>
    refine ⟨.slice none 0 0, fun j => by simp [Value.ownBlock], ?_, ?_, ?_⟩
    · have := Boxed.new (w.alloc (Obj.cells #[Value.func (Fn.func f) #[] #[]] 75)) 27 (.slice none 0 0)
      simp only [World.size_alloc] at this
      exact this.alloc _
    · exact ((Boxed.new w 75 _).alloc _).alloc _
    · exact World.ownsRow_nil _ _ _ _
  case assign =>
    intro l i x F W Kc hx hJ hK
    gi_wp2
    exact hK _ _ (Chg.refl _ _) rfl
  case stop => rintro D c i F W _ _ h; exact h.elim
  case done =>
    rintro D F W hleft ⟨v, hF, h4, h3, hrow⟩ hFD hD hKD
    have hlen : ((((ups (512 + d)).map of)).take (ups (512 + d)).length).length = 9 := by rw [List.length_take, List.length_map, ups_length]; rfl
    rw [hlen, List.take_of_length_le (by rw [List.length_map]; exact Nat.le_refl _)] at hrow
    obtain ⟨g, cap, rfl⟩ := ownsRow_succ (k := 8) hrow
    have c4 := h4.cell
    have f4 := h4.frozen
    have HLEFT := Lib.hid hleft
    have HF := Lib.hid hF
    clear hleft hF hlen
    gi_wp2
    have h4s := h4.set (.slice (some ⟨g, 0, none⟩) 9 cap)
    have hgn : g ≠ w.heap.size + 1 := fun e => h4.not_row (by decide) hrow (by rw [e]; rfl)
    have hrow' : (W.setCell ⟨w.heap.size + 1, 0, none⟩ (.slice (some ⟨g, 0, none⟩) 9 cap)).ownsRow w.heap.size 3 1 (.slice (some ⟨g, 0, none⟩) 9 cap) 9 (((ups (512 + d)).map of).map (Value.int .i64)) :=
      hrow.kept (grownBy_setCell' W _ _) (.inr (h4.not_row (by decide) hrow).symm)
    have hD1 : D ≠ w.heap.size + 1 := fun e => hFD ((HF.out _).2 (.inl (.inl e)))
    have hKD' : (W.setCell ⟨w.heap.size + 1, 0, none⟩ (.slice (some ⟨g, 0, none⟩) 9 cap)).heap[D]? = some (.deferred (some [])) := (Below.heap_setCell _ _ _ _ hD1).trans hKD
    refine ⟨by simp, .inl ⟨_, _, rfl, run_takeDeferred hKD', ?_⟩⟩
    have h4e := Boxed.kept h4s (grownBy_putObj' _ D (.deferred none)) (fun e => hD1 (Option.some.inj e).symm)
    have c4e := h4e.cell
    refine ⟨_, (by rw [results_cell_tmp rfl]; simp [asAddr, loadVar, c4e]), _, rfl, ownsRow_putObj hrow' _ hKD' rfl, ?_⟩
    have h0 : Below w.heap.size w (((w.alloc (Obj.cells #[Value.func (Fn.func f) #[] #[]] 75)).alloc (Obj.cells #[Value.slice none 0 0] 27)).alloc (Obj.cells #[Value.int IntKind.i64 (512 + d)] 77)) :=
      (((Below.refl _ _).alloc (Nat.le_refl _) _).alloc (by simp) _).alloc (by simp; omega) _
    have h1 : Below w.heap.size _ W := HLEFT.out.chg.below (fun j h => by rcases h with (h | h) | h <;> omega) (by simp; omega)
    refine h0.trans (h1.trans ?_)
    exact Chg.below (S := fun j => j = D ∨ j = w.heap.size + 1) (Chg.putObj (Chg.setCell (Chg.refl _ _) (.inl (.inr rfl)) _) (.inl (.inl rfl)) _) (fun j h => by simp at hD; omega) (by have := HLEFT.out.chg.size; simp at this; omega)
  case body =>
    rintro l i x a' F W hx ⟨v, hF, h4, h3, hrow⟩ hFl hl rfl
    have hi9 : i < 9 := by
      have := (List.getElem?_eq_some_iff.1 hx).1
      rwa [ups_length] at this
    have hx' : x = ((512 + d) / 2 ^ i : Nat) := by rw [ups_at _ _ hi9] at hx; exact (Option.some.inj hx).symm
    obtain ⟨s0, s1⟩ := shift_bounds (512 + d) i (by omega) (by omega) hi9
    have x0 : 0 ≤ x := by rw [hx']; omega
    have x1 : x < 1024 := by rw [hx']; omega
    have HX := Lib.hid hx
    clear hx hx' s0 s1
    have HF := Lib.hid hF
    have HFL := Lib.hid hFl
    have HL := Lib.hid hl
    clear hF hFl hl
    have c3 := h3.cell
    have c4 := h4.cell
    have f4 := h4.frozen
    have hef := HEF.out
    have tf : Fence.wide.fn f := trivial
    have hdep : 1 ≤ 9 := by omega
    have hfol : Try.prog.follows .mixedOrders = true := by kernel_rfl
    gi_wp2_with fail
    obtain ⟨y, hy⟩ : ∃ y, y = of x := ⟨_, rfl⟩
    have HY := Lib.hid hy
    have hcall : ∀ W', CallsIn (Fence.wide.inRound l) 8 Try.prog f #[.int .i64 x] W' fun e w' => e = .returned (.int .i64 y) ∧ w' = W' := fun W' =>
      CallsIn.inRound l (callsIn_wide.2 ((HOF.out x W' x0 x1).mono fun e w' h => ⟨by rw [hy]; exact h.1, h.2.symm⟩))
    have HC := Lib.hid hcall
    clear hy hcall
    have hlen : (((ups (512 + d)).map of).take i).length = i := by rw [List.length_take, List.length_map, ups_length]; omega
    rw [hlen] at hrow
    obtain ⟨v', w1, hrun, hown', hgrow, hnil, hloc⟩ := run_append_own_at (P := Try.prog) (W.alloc (.cells #[.int .i64 y] 3)).drew w.heap.size 27 27 3 i0 (.int .i64 0) 1 8 Try.underlying27 hi hz0 hz1 hz2 rfl (by decide) v i _ (hrow.alloc _).drew ⟨W.heap.size, 0, none⟩ 1 1 [.int .i64 y] rfl
      (cell_one_new W _ _) (by simp [Value.oneCell']) (by unfold maxLen; omega) (by omega) (by have := h3.lt; simp; omega)
    have HROW := Lib.hid hrow
    have t4 := (h4.alloc (Obj.cells #[.int .i64 y] 3)).cell
    clear hlen
    obtain ⟨g', cap', rfl⟩ := ownsRow_succ hown'
    have h4' : Boxed w1 (w.heap.size + 1) 27 v := ((h4.alloc _).drewN 1).kept hgrow (h4.not_row (by decide) hrow)
    have c4' := h4'.cell
    have f4' := h4'.frozen
    have HOWN := Lib.hid hown'
    have HGROW := Lib.hid hgrow
    have HLOC := Lib.hid hloc
    clear hown' hgrow hnil hrow hloc
    refine region_ordersIn hfol [[0,1,2,3,4,5,6],[0,2,1,3,4,5,6],[1,0,2,3,4,5,6],[1,2,0,3,4,5,6],[1,2,3,0,4,5,6],[1,2,3,4,0,5,6],[2,0,1,3,4,5,6],[2,1,0,3,4,5,6],[2,1,3,0,4,5,6],[2,1,3,4,0,5,6]] (by kernel_rfl) ?_
    intro ord hord
    simp only [List.mem_cons, List.not_mem_nil, or_false] at hord
    rcases hord with rfl | rfl | rfl | rfl | rfl | rfl | rfl | rfl | rfl | rfl
    all_goals
      simp only [pick_cons, pick_nil, List.getElem?_cons_zero, List.getElem?_cons_succ, Option.toList_some, List.cons_append, List.nil_append]
      gi_wp2_with (first
        | (gi_at_builtin; refine wpListIn_append_run rfl (.tmp 19) (.tmp 23) 27 rfl hrun ?_)
        | ((with_reducible refine (HC.out _).mono ?_); rintro e w' ⟨rfl, rfl⟩))
      refine ⟨fun j => (j = w.heap.size + 1 ∨ j = w.heap.size) ∨ g' = j, ?_, ?_, ?_⟩
      · refine Chg.setCell (Chg.grown (Chg.drew (Chg.alloc (Chg.refl F W) _)) HGROW.out ?_) (.inl ((HF.out _).2 (.inl (.inl rfl)))) _
        intro k hk
        exact .inl ((HF.out k).2 (.inr hk))
      · rintro k (h | rfl)
        · exact .inl ((HF.out k).2 (.inl h))
        · rcases HLOC.out with h | h
          · exact .inl ((HF.out _).2 (.inr (by rw [← h]; rfl)))
          · right
            have h := Option.some.inj h
            simp at h
            omega
      · have hne := h4'.not_row (by decide) HOWN.out
        refine ⟨_, fun j => by simp [Value.ownBlock], h4'.set _, ?_, ?_⟩
        · exact (((h3.alloc _).drewN 1).kept HGROW.out (h3.not_row (by decide) HROW.out)).other (by omega) _
        · have := HOWN.out.kept (grownBy_setCell' w1 (w.heap.size + 1) (.slice (some ⟨g', 0, none⟩) (i + 1) cap')) (.inr hne.symm)
          have e1 : (((ups (512 + d)).map of).take (i + 1)).length = i + 1 := by rw [List.length_take, List.length_map, ups_length]; omega
          have e2 : ((ups (512 + d)).map of)[i]? = some y := by rw [List.getElem?_map, HX.out, HY.out]; rfl
          rw [e1, take_snoc e2, List.map_append]
          exact this
end Go.Proofs.Ytofkmapokdcphaa
