import Derived.Test.YtofkmapokdcphaaJ
namespace Go.Proofs.Ytofkmapokdcphaa
open Go Go.RowKit Go.Maps Go.My Go.Shelf
attribute [local go_sem] Oper.semAt_some

/-- What the collecting loop holds: the slice's box, the slice's row. -/
def colJ (n0 : Nat) (xs : List Int) (F : Nat → Prop) (W : World) : Prop :=
  ∃ v : Value, (∀ j, F j ↔ j = n0 ∨ v.ownBlock = some j) ∧ Boxed W n0 27 v ∧ W.ownsRow n0 3 1 v xs.length (xs.map (Value.int .i64))

theorem colJ_framed (n0 : Nat) (xs : List Int) : Framed (colJ n0 xs) where
  lt := by
    rintro F W ⟨v, hF, h4, hr⟩ k hk
    rcases (hF k).1 hk with rfl | h
    · exact h4.lt
    · exact (hr.lt k h).2
  frame := by
    rintro F W W' ⟨v, hF, h4, hr⟩ hs hk
    exact ⟨v, hF, (hk _ ((hF _).2 (.inl rfl))).trans h4, ownsRow_frame hr (fun j hj => hk j ((hF j).2 (.inr hj)))⟩

set_option maxRecDepth 100000 in
set_option maxHeartbeats 1000000 in
theorem appendSeq_any {g : Nat} {lb : Array Value} {xs : List Int} {K : Nat → Prop} {Pre : World → Prop} (hit : Iter Try.prog g lb (fun x : Int => #[.int .i64 x]) xs nob K Pre) (eg : ∀ args w, (callFunc g args).run Try.prog w = .ok (.enter g args) w)
    (hl : xs.length ≤ 1024) (w : World) (hpre : ∀ W, Chg nob w W → Pre W) (hK : ∀ k, K k → k < w.heap.size) :
    Calls Try.prog 58 #[.slice none 0 0, .func (.func g) #[] lb] w fun e w' => ∃ v, e = .returned v ∧
      w'.ownsRow w.heap.size 3 1 v xs.length (xs.map (Value.int .i64)) ∧ Below w.heap.size w w' := by
  refine (callsIn_wide (n := 3)).1 ?_
  refine callsIn_of_wp_marks Try.func58 rfl trivial ?_ rfl
  simp only [Try.ntmps58, List.size_toArray, List.length_cons, List.length_nil, Nat.reduceAdd, Nat.reduceSub, Array.replicate_succ, Array.replicate_zero, List.push_toArray, List.append_toArray, List.nil_append, List.cons_append]
  have EG := Lib.hid eg
  clear eg
  gi_wp2
  obtain ⟨i0, hi, hz0, hz1, hz2⟩ := info_parts info3
  refine wp_range (gf := g) (lb := lb) rfl EG.out hit (fun W hW => hpre W (((Chg.refl nob w).alloc _).trans hW (fun _ h => h.elim))) (fun k hk => by have := hK k hk; simp; omega) (fun _ => rfl)
    (fun i F W => colJ w.heap.size (xs.take i) F W)
    (fun _ _ _ _ => False) (fun i => colJ_framed _ _) (fun _ _ => framed_false)
    (fun j => j = w.heap.size) ?hF0 ?h0
    (fun i x a' W => a' = { tmps := #[.slice none 0 0, .func (.func g) #[] lb, .pointer (some ⟨w.heap.size, 0, none⟩), undef, .slice none 0 0, .int .i64 x, .func (.func g) #[] lb, .int .i64 x,
          undef, undef, undef, undef, undef], defers := [] })
    (fun _ _ _ _ _ h _ => h) ?assign ?body ?done ?stop
  case hF0 => rintro j rfl h; have := hK _ h; omega
  case h0 => exact ⟨.slice none 0 0, fun j => by simp [Value.ownBlock], Boxed.new w 27 _, World.ownsRow_nil _ _ _ _⟩
  case assign =>
    intro l i x F W Kc hx hJ hK
    gi_wp2
    exact hK _ _ (Chg.refl _ _) rfl
  case stop => rintro D c i F W _ _ h; exact h.elim
  case body =>
    rintro l i x a' F W hx ⟨v, hF, h4, hrow⟩ hFl hl' rfl
    have hi9 : i < xs.length := (List.getElem?_eq_some_iff.1 hx).1
    have e0 : (xs.take i).length = i := by rw [List.length_take]; omega
    rw [e0] at hrow
    have HX := Lib.hid hx
    have HF := Lib.hid hF
    clear hx hF hFl hl'
    have hsz : w.heap.size < W.heap.size := h4.lt
    have c4 := h4.cell
    have f4 := h4.frozen
    gi_wp2_with (gi_at_builtin; refine wpListIn_append_own_at _ rfl (.tmp 8) (.tmp 10) 27 rfl w.heap.size 3 i0 (.int .i64 0) 1 8 Try.underlying27 hi hz0 hz1 hz2 rfl (by decide) v i _ rfl (hrow.alloc _) ⟨W.heap.size, 0, none⟩ 1 1 [.int .i64 x] rfl rfl (cell_one_new _ _ _) (fun x hx => by simp at hx; subst hx; rfl) (by unfold maxLen; omega) (by omega) (by simp; omega) ?_; intro v' w3 hown' hgrow hnil hloc; obtain ⟨g', cap', rfl⟩ := ownsRow_succ hown'; have h4' : Boxed w3 w.heap.size 27 v := (h4.alloc _).kept hgrow (h4.not_row (by decide) hrow); have c4' := h4'.cell; have f4' := h4'.frozen; have HOWN := Lib.hid hown'; have HG := Lib.hid hgrow; have HL := Lib.hid hloc; clear hown' hgrow hnil hloc)
    have hne := h4'.not_row (by decide) HOWN.out
    refine ⟨fun j => j = w.heap.size ∨ g' = j, ?_, ?_, _, fun j => by simp [Value.ownBlock], h4'.set _, ?_⟩
    · refine Chg.setCell (Chg.grown (Chg.alloc (Chg.refl F W) _) HG.out ?_) (.inl ((HF.out _).2 (.inl rfl))) _
      intro k hk
      exact .inl ((HF.out k).2 (.inr hk))
    · rintro k (h | rfl)
      · exact .inl ((HF.out k).2 (.inl h))
      · rcases HL.out with h | h
        · exact .inl ((HF.out _).2 (.inr (by rw [← h]; rfl)))
        · right
          have h := Option.some.inj h
          simp at h
          omega
    · have := HOWN.out.kept (grownBy_setCell' w3 w.heap.size (.slice (some ⟨g', 0, none⟩) (i + 1) cap')) (.inr hne.symm)
      have e1 : (xs.take (i + 1)).length = i + 1 := by rw [List.length_take]; omega
      rw [e1, take_snoc HX.out, List.map_append]
      exact this
  case done =>
    rintro D F W hleft ⟨v, hF, h4, hrow⟩ hFD hD hKD
    rw [List.take_length] at hrow
    have c4 := h4.cell
    have HLEFT := Lib.hid hleft
    clear hleft hF
    gi_wp2
    refine ⟨by simp, .inl ⟨_, _, rfl, run_takeDeferred hKD, ?_⟩⟩
    refine ⟨_, results_tmp rfl _ _ _, v, rfl, ownsRow_putObj hrow _ hKD rfl, ?_⟩
    have h1 : Below w.heap.size (w.alloc (Obj.cells #[Value.slice none 0 0] 27)) W := HLEFT.out.chg.below (fun j h => by rcases h with h | h; omega; exact h.elim) (by simp)
    refine ((Below.refl _ w).alloc (Nat.le_refl _) _).trans (h1.trans ?_)
    exact Chg.below (S := fun j => j = D) (Chg.putObj (S := fun j => j = D) (Chg.refl _ _) (.inl rfl) _) (fun j h => by simp at hD; omega) (by have := HLEFT.out.chg.size; simp at this; omega)

set_option maxRecDepth 100000 in
set_option maxHeartbeats 400000 in
theorem collect_any {g : Nat} {lb : Array Value} {xs : List Int} {K : Nat → Prop} {Pre : World → Prop} (hit : Iter Try.prog g lb (fun x : Int => #[.int .i64 x]) xs nob K Pre) (eg : ∀ args w, (callFunc g args).run Try.prog w = .ok (.enter g args) w)
    (hl : xs.length ≤ 1024) (w : World) (hpre : ∀ W, Chg nob w W → Pre W) (hK : ∀ k, K k → k < w.heap.size) :
    Calls Try.prog 35 #[.func (.func g) #[] lb] w fun e w' => ∃ v, e = .returned v ∧ IntsAt w' v xs ∧ Below w.heap.size w w' := by
  have H := Lib.hid (appendSeq_any hit eg hl w hpre hK)
  go_enter Try.func35, Try.ntmps35
  go_wp2_with (go_at_call 58; refine H.out.mono ?_; rintro e w' ⟨v, rfl, hrow, hB⟩)
  go_ret
  exact ⟨v, rfl, .of_own hrow, hB⟩
end Go.Proofs.Ytofkmapokdcphaa
