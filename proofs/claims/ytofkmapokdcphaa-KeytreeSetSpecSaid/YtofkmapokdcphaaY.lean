import Derived.Test.YtofkmapokdcphaaX
import Derived.Sort.AtCall
namespace Go.Proofs.Ytofkmapokdcphaa
open Go Go.RowKit Go.Maps Go.My Go.Shelf

abbrev b24 : Obj := .cells #[.slice none 0 0] 24
theorem undrew {B : Nat} {w w' : World} (h : Below B w.drew w') : Below B w w' := ⟨h.os, h.tape, h.output, h.size, h.block⟩

theorem TreeAt.form {w : World} {v : Value} {xs : List Nd} (h : TreeAt w v xs) : ∃ a c, v = .agg #[.slice a xs.length c] := by
  obtain ⟨a, c, rfl, _⟩ := h; exact ⟨a, c, rfl⟩
theorem IntsAt.form {w : World} {v : Value} {xs : List Int} (h : IntsAt w v xs) : ∃ a c, v = .slice a xs.length c := by
  obtain ⟨a, c, _, _, rfl, _⟩ := h; exact ⟨a, c, rfl⟩

theorem same_yes (W : World) (v1 v2 : Value) (xs : List Nd) (hm : xs.length ≤ 2000) (h1 : TreeAt W v1 xs) (h2 : TreeAt W v2 xs) : Calls Try.prog 27 #[v1, v2] W fun e w' => e = .returned (.bool true) ∧ Below W.heap.size W w' :=
  (same_any v1 v2 xs xs W hm h1 h2).mono fun e w' h => ⟨h.1.trans (by simp), h.2⟩
theorem sameInts_yes (W : World) (v1 v2 : Value) (xs : List Int) (hm : xs.length ≤ 2000) (h1 : IntsAt W v1 xs) (h2 : IntsAt W v2 xs) : Calls Try.prog 16 #[v1, v2] W fun e w' => e = .returned (.bool true) ∧ Below W.heap.size W w' :=
  (sameInts_any v1 v2 xs xs W hm h1 h2).mono fun e w' h => ⟨h.1.trans (by simp), h.2⟩
theorem IntsAt.box {w : World} {v : Value} {xs : List Int} (h : IntsAt w v xs) (o : Obj) : IntsAt (w.alloc o) v xs := h.below ((Below.refl _ _).alloc (Nat.le_refl _) _)
theorem below_step {B : Nat} {a b c : World} (h : Below B a b) (hB : B ≤ b.heap.size) (k : Below b.heap.size b c) : Below B a c := h.trans (k.mono hB)
theorem below_step' {B : Nat} {a b c : World} {o : Obj} (h : Below B a b) (hB : B ≤ b.heap.size) (k : Below (b.alloc o).heap.size (b.alloc o) c) : Below B a c := (h.alloc hB o).trans (k.mono (by simp; omega))

theorem ten_some (w : World) : Calls Try.prog 34 #[] w fun e w' => ∃ b, e = .returned (.slice (some ⟨b, 0, none⟩) 10 10) ∧ IntsAt w' (.slice (some ⟨b, 0, none⟩) 10 10) tenL ∧ Below w.heap.size w w' :=
  (ten_any w).mono fun e w' h => by
    obtain ⟨rfl, rfl⟩ := h
    exact ⟨_, rfl, tenAt w, (Below.refl _ _).alloc (Nat.le_refl _) _⟩

set_option maxRecDepth 100000 in
set_option maxHeartbeats 4000000 in
theorem sane_any (w : World) : Calls Try.prog 10 #[] w fun e w' => e = .returned (.bool true) ∧ Below w.heap.size w w' := by
  go_enter Try.func10, Try.ntmps10
  go_upto_region 7 with (first
    | (go_at_call_has 12 (Value.int IntKind.i64 1024); refine (S1 _).mono ?_; rintro e w1 ⟨v1, rfl, hI1, hB1⟩)
    | (go_at_call_has 12 (Value.slice none 0 0); refine (S2 w1).mono ?_; rintro e w2 ⟨v2, rfl, hI2, hB2⟩; obtain ⟨a2, c2, rfl⟩ := hI2.form)
    | (go_at_call 23; refine (S3 w2).mono ?_; rintro e w3 ⟨v3, rfl, hT3, hB3⟩; obtain ⟨a3, c3, rfl⟩ := hT3.form)
    | (go_at_call_has 21 (Value.int IntKind.i64 3); refine (S4 _).mono ?_; rintro e w4 ⟨v4, rfl, hT4, hB4⟩; have HT4 := Lib.hid (hT4.box (.cells #[.slice none 0 0] 24)); obtain ⟨a4, c4, rfl⟩ := hT4.form)
    | (go_at_call_has 21 (Value.int IntKind.i64 1); refine (S5 _ _ (hT4.box _)).mono ?_; rintro e w5 ⟨v5, rfl, hT5, hB5⟩; obtain ⟨a5, c5, rfl⟩ := hT5.form)
    | (go_at_call_has 12 a5; refine (S6 _ _ (hT5.box _)).mono ?_; rintro e w6 ⟨v6, rfl, hI6, hB6⟩))
  have c9 : w6.cell? ⟨w5.heap.size, 0, none⟩ = some (.slice a5 2 c5) := (hB6.cell (p := ⟨w5.heap.size, 0, none⟩) (by simp)).trans (Boxed.new w5 24 (.slice a5 2 c5)).cell
  have hT6 : TreeAt w6 (.agg #[.slice a5 2 c5]) T2 := (hT5.box _).below hB6
  have HT6 := Lib.hid hT6
  go_cut [13, 14] (fun u13 u14 wc => u14 = .int .i64 0 ∧ ∃ b a c, u13 = .pointer (some ⟨b, 0, none⟩) ∧ Boxed wc b 24 (.slice a 11 c) ∧ TreeAt wc (.agg #[.slice a 11 c]) T3 ∧ w6.heap.size ≤ b ∧ Below w6.heap.size w6 wc)
  case first =>
    have hfol : Try.prog.follows .mixedOrders = true := by kernel_rfl
    have hT6d : TreeAt w6.drew (.agg #[.slice a5 2 c5]) T2 := hT6
    have HTD := Lib.hid hT6d
    have c9a : (w6.alloc b24).cell? ⟨w5.heap.size, 0, none⟩ = some (.slice a5 2 c5) := (((Below.refl _ w6).alloc (Nat.le_refl _) b24).cell (p := ⟨w5.heap.size, 0, none⟩) (lt_of_cell c9)).trans c9
    clear hT6 hT6d hT5 hT4 hT3 hI1 hI2 hI6
    refine region_orders hfol [[0,1,2,3,4,5,6,7,8],[0,1,2,3,4,6,5,7,8],[0,1,2,3,4,6,7,5,8],[0,1,2,3,5,4,6,7,8],[0,1,2,3,5,6,4,7,8],[0,1,2,3,6,4,5,7,8],[0,1,2,3,6,4,7,5,8],[0,1,2,3,6,5,4,7,8],[0,1,2,6,3,4,5,7,8],[0,1,2,6,3,4,7,5,8],[0,1,2,6,3,5,4,7,8],[0,1,6,2,3,4,5,7,8],[0,1,6,2,3,4,7,5,8],[0,1,6,2,3,5,4,7,8],[0,6,1,2,3,4,5,7,8],[0,6,1,2,3,4,7,5,8],[0,6,1,2,3,5,4,7,8],[1,0,2,3,4,5,6,7,8],[1,0,2,3,4,6,5,7,8],[1,0,2,3,4,6,7,5,8],[1,0,2,3,5,4,6,7,8],[1,0,2,3,5,6,4,7,8],[1,0,2,3,6,4,5,7,8],[1,0,2,3,6,4,7,5,8],[1,0,2,3,6,5,4,7,8],[1,0,2,6,3,4,5,7,8],[1,0,2,6,3,4,7,5,8],[1,0,2,6,3,5,4,7,8],[1,0,6,2,3,4,5,7,8],[1,0,6,2,3,4,7,5,8],[1,0,6,2,3,5,4,7,8],[1,6,0,2,3,4,5,7,8],[1,6,0,2,3,4,7,5,8],[1,6,0,2,3,5,4,7,8],[6,0,1,2,3,4,5,7,8],[6,0,1,2,3,4,7,5,8],[6,0,1,2,3,5,4,7,8],[6,1,0,2,3,4,5,7,8],[6,1,0,2,3,4,7,5,8],[6,1,0,2,3,5,4,7,8]] (by kernel_rfl) ?_
    intro ord hord
    simp only [List.mem_cons, List.not_mem_nil, or_false] at hord
    rcases hord with rfl | rfl | rfl | rfl | rfl | rfl | rfl | rfl | rfl | rfl | rfl | rfl | rfl | rfl | rfl | rfl | rfl | rfl | rfl | rfl | rfl | rfl | rfl | rfl | rfl | rfl | rfl | rfl | rfl | rfl | rfl | rfl | rfl | rfl | rfl | rfl | rfl | rfl | rfl | rfl
    all_goals
      simp only [pick_cons, pick_nil, List.getElem?_cons_zero, List.getElem?_cons_succ, Option.toList_some, List.cons_append, List.nil_append]
      go_wp2_with (first
        | (go_at_call 34; refine (ten_some _).mono ?_; rintro e w7 ⟨b7, rfl, hI7, hB7⟩; have c9' : w7.cell? ⟨w5.heap.size, 0, none⟩ = some (.slice a5 2 c5) := (hB7.cell (p := ⟨w5.heap.size, 0, none⟩) (Nat.lt_of_lt_of_le (lt_of_cell c9) (by simp))).trans (by first | exact c9 | exact ((Below.refl _ w6).alloc (Nat.le_refl _) b24).cell (p := ⟨w5.heap.size, 0, none⟩) (lt_of_cell c9) |>.trans c9); have c9b : (w7.alloc b24).cell? ⟨w5.heap.size, 0, none⟩ = some (.slice a5 2 c5) := (((Below.refl _ w7).alloc (Nat.le_refl _) b24).cell (p := ⟨w5.heap.size, 0, none⟩) (lt_of_cell c9')).trans c9'; try have hbx : Boxed w7 w6.heap.size 24 (.slice none 0 0) := (hB7.block _ (by simp)).trans (Boxed.new w6 24 (.slice none 0 0)))
        | (go_at_call 25; refine (S7 _ _ _ (by first | exact HTD.out.below hB7 | exact (HTD.out.below hB7).box b24 | exact (HTD.out.box b24).below hB7) (by first | exact hI7 | exact hI7.below ((Below.refl _ _).alloc (Nat.le_refl _) b24))).mono ?_; rintro e w8 ⟨v8, rfl, hT8, hB8⟩; have HT8 := Lib.hid hT8; obtain ⟨a8, c8, rfl⟩ := hT8.form; clear hT8; have s7 := hB7.size; have s8 := hB8.size; simp only [World.size_alloc, World.size_drew] at s7 s8; (first | (have hb8 : Boxed w8 w6.heap.size 24 (.slice none 0 0) := (hB8.block _ hbx.lt).trans hbx; have c8' := hb8.cell; have f8' := hb8.frozen) | (have hb8 : Boxed w8 w7.heap.size 24 (.slice none 0 0) := (hB8.block _ (by simp)).trans (Boxed.new w7 24 (.slice none 0 0)); have c8' := hb8.cell; have f8' := hb8.frozen) | skip)))
      have hw68 : Below w6.heap.size w6 w8 := by
        first
          | exact (show Below w6.heap.size w6 w7 from undrew hB7).trans (Below.mono (B' := w6.heap.size) hB8 (by omega))
          | exact ((show Below w6.heap.size w6 w7 from undrew hB7).alloc (by omega) b24).trans (Below.mono (B' := w6.heap.size) hB8 (by simp only [World.size_alloc]; omega))
          | exact (((Below.refl _ w6).alloc (Nat.le_refl _) b24).trans (Below.mono (B' := w6.heap.size) (undrew hB7) (by simp))).trans (Below.mono (B' := w6.heap.size) hB8 (by omega))
      go_meet
      first
        | exact ⟨rfl, w8.heap.size, a8, c8, rfl, Boxed.new w8 24 _, HT8.out.box _, by omega, hw68.alloc (by omega) _⟩
        | exact ⟨rfl, _, a8, c8, rfl, hb8.set _, HT8.out.store hb8, by omega, hw68.setCell (by first | exact Nat.le_refl _ | (show w6.heap.size ≤ w7.heap.size; omega)) _⟩
  case rest =>
    obtain ⟨rfl, b13, a13, c13, rfl, hb13, hT13, hle, hBc⟩ := hcut
    have hszc : w6.heap.size ≤ wc.heap.size := hBc.size
    have x13 := hb13.cell
    have HI6 := Lib.hid (hI6.below hBc)
    have HT9 := Lib.hid (hT6.below hBc)
    have x9 : wc.cell? ⟨w5.heap.size, 0, none⟩ = some (.slice a5 2 c5) := (hBc.cell (p := ⟨w5.heap.size, 0, none⟩) (lt_of_cell c9)).trans c9
    have HX13 := Lib.hid fun W (h : Below wc.heap.size wc W) => (h.cell (p := ⟨b13, 0, none⟩) hb13.lt).trans x13
    have HX9 := Lib.hid fun W (h : Below wc.heap.size wc W) => (h.cell (p := ⟨w5.heap.size, 0, none⟩) (lt_of_cell x9)).trans x9
    have HT13 := Lib.hid hT13
    have hlow : Below w.heap.size w wc := by
      have h1 := hB1
      have h2 := below_step h1 h1.size hB2
      have h3 := below_step h2 h2.size hB3
      have h4 := below_step' h3 h3.size hB4
      have h5 := below_step' h4 h4.size hB5
      have h6 := below_step' h5 h5.size hB6
      exact below_step h6 h6.size hBc
    have HLOW := Lib.hid hlow
    clear hb13 hT13 hBc hle hI6 hT6 hT5 hT4 hT3 hI1 hI2 hB1 hB2 hB3 hB4 hB5 hB6 c9 HT6 HT4 hlow
    generalize w5.heap.size = q5 at *
    go_wp2_with (first
      | (go_at_call 12; refine (S8 _ _ HT13.out).mono ?_; rintro e w8 ⟨v8, rfl, hI8, hB8⟩; have HI8 := Lib.hid hI8; clear hI8; have y13 := HX13.out w8 hB8)
      | (go_at_call 14; refine (S9 w8 _ (HT13.out.below hB8)).mono ?_; rintro e w9 ⟨rfl, hB9⟩; have hB9' := below_step hB8 hB8.size hB9; have z13 := HX13.out w9 hB9'; have z9 := HX9.out w9 hB9')
      | (go_at_call 27; refine (same_yes _ _ _ T2 (by decide) ((HT9.out.below hB9').box _) (treeAt_lit w9 T2 2 _ _ rfl (by intro n hn; simp at hn; rcases hn with rfl | rfl; exact ⟨wf_small (by decide) (by decide), wf_small (by decide) (by decide)⟩; exact ⟨wf_small (by decide) (by decide), wf_small (by decide) (by decide)⟩))).mono ?_; rintro e w11 ⟨rfl, hB11⟩; have hB11' := below_step' hB9' hB9'.size hB11)
      | (go_at_call_has 16 v6; refine (sameInts_yes _ _ _ [513, 515] (by decide) ((HI6.out.below hB11').box _) (intsAt_lit w11 [513, 515] 2 _ _ rfl)).mono ?_; rintro e w12 ⟨rfl, hB12⟩; have hB12' := below_step' hB11' hB11'.size hB12; have hB8c := below_step' (below_step' hB9 hB9.size hB11) (below_step' hB9 hB9.size hB11).size hB12)
      | (go_at_call_has 16 v8; refine (sameInts_yes _ _ _ [1] (by decide) ((HI8.out.below hB8c).box _) (intsAt_lit w12 [1] 1 _ _ rfl)).mono ?_; rintro e w13 ⟨rfl, hB13⟩; have hB13' := below_step' hB12' hB12'.size hB13)
      | (go_at_call_has 17 (Value.slice none 0 0); refine (S12 w14).mono ?_; rintro e w15 ⟨rfl, hB15⟩; have hB15' := below_step hB14' hB14'.size hB15; have t13 := HX13.out w15 hB15')
      | (go_at_call 17; refine (S11 _ _ (treeAt_lit w13 [(1, 4)] 1 _ _ rfl (by intro n hn; simp at hn; subst hn; exact ⟨wf_small (by decide) (by decide), wf_small (by decide) (by decide)⟩))).mono ?_; rintro e w14 ⟨rfl, hB14⟩; have hB14' := below_step' hB13' hB13'.size hB14)
      | (go_at_call 19; refine (S10 w15 _ (HT13.out.below hB15')).mono ?_; rintro e w16 ⟨v16, rfl, hI16, hB16⟩; have hB16' := below_step hB15' hB15'.size hB16)
      | (go_at_call_has 16 v16; refine (sameInts_yes _ _ _ [1, 3] (by decide) (hI16.box _) (intsAt_lit w16 [1, 3] 2 _ _ rfl)).mono ?_; rintro e w17 ⟨rfl, hB17⟩; have hB17' := below_step' hB16' hB16'.size hB17))
    go_ret
    exact ⟨rfl, HLOW.out.trans (hB17'.mono HLOW.out.size)⟩
end Go.Proofs.Ytofkmapokdcphaa
