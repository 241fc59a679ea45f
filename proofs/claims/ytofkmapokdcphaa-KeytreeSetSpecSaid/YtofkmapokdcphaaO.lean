import Derived.Test.YtofkmapokdcphaaN
namespace Go.Proofs.Ytofkmapokdcphaa
open Go Go.RowKit Go.Maps Go.My Go.Shelf

def chL (f : Int → Option Int) (L : List Int) (x : Int) : Option Int := if x ∈ L then none else f x
def chF (f : Int → Option Int) (d : Int) : Int → Option Int := chL f (anc d)
theorem chL_snoc (f : Int → Option Int) (L : List Int) (y x : Int) : upd (chL f L) y none x = chL f (L ++ [y]) x := by
  unfold upd chL
  by_cases h : x = y
  · subst h; simp
  · simp [h]
theorem chL_nil (f : Int → Option Int) (x : Int) : f x = chL f [] x := by simp [chL]
theorem pathL_range {d j : Nat} {y : Int} (hd : d < 512) (hy : (pathL d)[j]? = some y) : 1 ≤ y ∧ y ≤ 511 := by
  have hj9 : j < 9 := by have := (List.getElem?_eq_some_iff.1 hy).1; rwa [pathL_length] at this
  have h1 : (pathL d)[j]? = some (((512 + d) / 2 ^ j : Nat) / 2 : Int) := by unfold pathL; rw [List.getElem?_map, ups_at _ _ hj9]; rfl
  rw [h1] at hy
  have h2 := shift_bounds (512 + d) j (by omega) (by omega) hj9
  cases hy
  omega

/-- What keytree.change asks. -/
theorem TreeAt.box {w : World} {v : Value} {xs : List Nd} (h : TreeAt w v xs) (o : Obj) : TreeAt (w.alloc o) v xs := h.below ((Below.refl _ _).alloc (Nat.le_refl _) _)

set_option maxRecDepth 100000 in
set_option maxHeartbeats 400000 in
theorem change_tree (v : Value) (xs : List Nd) (dev : Int) (mb : Bool) (w : World) (hm : xs.length ≤ 100) (h : TreeAt w v xs) (hc : checkL xs = 210) :
    Calls Try.prog 45 #[v, .int .i64 dev, .bool mb] w fun e w' => e = .returned (.tuple #[.map none, .slice none 0 0, .int .i64 210]) ∧ Below w.heap.size w w' := by
  obtain ⟨a, cap, rfl, hr, hw⟩ := h
  have ht : TreeAt (w.alloc (.cells #[.slice a xs.length cap] 24)) (.agg #[.slice a xs.length cap]) xs := TreeAt.box ⟨a, cap, rfl, hr, hw⟩ _
  have HT := Lib.hid (check17_any _ xs _ hm ht)
  rw [hc] at HT
  have hB0 : Below w.heap.size w (w.alloc (.cells #[.slice a xs.length cap] 24)) := (Below.refl _ _).alloc (Nat.le_refl _) _
  clear hr hw ht hm hc
  generalize xs.length = n at *
  go_enter Try.func45, Try.ntmps45
  go_wp2_with (go_at_call 17; refine HT.out.mono ?_; rintro e w' ⟨rfl, hB⟩)
  go_ret3
  exact ⟨rfl, hB0.trans (hB.mono (by simp))⟩

set_option maxRecDepth 100000 in
set_option maxHeartbeats 1000000 in
theorem change_dev (v : Value) (xs : List Nd) (dev : Int) (mb : Bool) (w : World) (hm : xs.length ≤ 100) (h : TreeAt w v xs) (hc : checkL xs = 0) (hd : dev < 0 ∨ 512 ≤ dev) :
    Calls Try.prog 45 #[v, .int .i64 dev, .bool mb] w fun e w' => e = .returned (.tuple #[.map none, .slice none 0 0, .int .i64 200]) ∧ Below w.heap.size w w' := by
  obtain ⟨a, cap, rfl, hr, hw⟩ := h
  have ht : TreeAt (w.alloc (.cells #[.slice a xs.length cap] 24)) (.agg #[.slice a xs.length cap]) xs := TreeAt.box ⟨a, cap, rfl, hr, hw⟩ _
  have HT := Lib.hid (check17_any _ xs _ hm ht)
  rw [hc] at HT
  have HF := Lib.hid fun W (hB : Below (w.alloc (.cells #[.slice a xs.length cap] 24)).heap.size (w.alloc (.cells #[.slice a xs.length cap] 24)) W) => of_tree (.agg #[.slice a xs.length cap]) xs W hm (ht.below hB)
  have hB0 : Below w.heap.size w (w.alloc (.cells #[.slice a xs.length cap] 24)) := (Below.refl _ _).alloc (Nat.le_refl _) _
  have hbx := Boxed.new w 24 (.slice a xs.length cap)
  have hok : (K3).ok (wrap64 (512 + dev)) := wrap64_wf _
  clear hr hw ht hm hc
  generalize xs.length = n at *
  rcases hd with hd | hd
  · go_enter Try.func45, Try.ntmps45
    go_wp2_with (first
      | (go_at_call 17; refine HT.out.mono ?_; rintro e w1 ⟨rfl, hB⟩; have c1 := (hB.cell (p := ⟨w.heap.size, 0, none⟩) (by simp)).trans hbx.cell)
      | (go_at_call 36; refine (HF.out w1 hB).mono ?_; rintro e w2 ⟨m, rfl, hlm, hM, hB2⟩)
      | (at_lookup; refine wpList_look rfl (.tmp 23) (.tmp 25) 59 rfl keyed3 Try.underlying59 (zero3 _) rfl hM (x := wrap64 (512 + dev)) hok rfl ?_))
    go_ret3
    exact ⟨rfl, hB0.trans ((hB.mono (by simp)).trans (hB2.mono (by have := hB.size; simp at this; omega)))⟩
  · have hd0 : ¬ dev < 0 := by omega
    go_enter Try.func45, Try.ntmps45
    go_wp2_with (first
      | (go_at_call 17; refine HT.out.mono ?_; rintro e w1 ⟨rfl, hB⟩; have c1 := (hB.cell (p := ⟨w.heap.size, 0, none⟩) (by simp)).trans hbx.cell)
      | (go_at_call 36; refine (HF.out w1 hB).mono ?_; rintro e w2 ⟨m, rfl, hlm, hM, hB2⟩)
      | (at_lookup; refine wpList_look rfl (.tmp 23) (.tmp 25) 59 rfl keyed3 Try.underlying59 (zero3 _) rfl hM (x := wrap64 (512 + dev)) hok rfl ?_))
    go_ret3
    exact ⟨rfl, hB0.trans ((hB.mono (by simp)).trans (hB2.mono (by have := hB.size; simp at this; omega)))⟩

set_option maxRecDepth 100000 in
set_option maxHeartbeats 1000000 in
theorem change_none (v : Value) (xs : List Nd) (dev : Int) (w : World) (hm : xs.length ≤ 100) (h : TreeAt w v xs) (hc : checkL xs = 0) (hd0 : 0 ≤ dev) (hd1 : dev < 512) (hf : ofF xs (512 + dev) = none) :
    Calls Try.prog 45 #[v, .int .i64 dev, .bool true] w fun e w' => e = .returned (.tuple #[.map none, .slice none 0 0, .int .i64 200]) ∧ Below w.heap.size w w' := by
  obtain ⟨a, cap, rfl, hr, hw⟩ := h
  have ht : TreeAt (w.alloc (.cells #[.slice a xs.length cap] 24)) (.agg #[.slice a xs.length cap]) xs := TreeAt.box ⟨a, cap, rfl, hr, hw⟩ _
  have HT := Lib.hid (check17_any _ xs _ hm ht)
  rw [hc] at HT
  have HF := Lib.hid fun W (hB : Below (w.alloc (.cells #[.slice a xs.length cap] 24)).heap.size (w.alloc (.cells #[.slice a xs.length cap] 24)) W) => of_tree (.agg #[.slice a xs.length cap]) xs W hm (ht.below hB)
  have hB0 : Below w.heap.size w (w.alloc (.cells #[.slice a xs.length cap] 24)) := (Below.refl _ _).alloc (Nat.le_refl _) _
  have hbx := Boxed.new w 24 (.slice a xs.length cap)
  have hok : (K3).ok (512 + dev) := wf_small (by omega) (by omega)
  have HN := Lib.hid hf
  clear hr hw ht hm hc hf
  generalize xs.length = n at *
  go_enter Try.func45, Try.ntmps45
  go_wp2_with (first
    | (go_at_call 17; refine HT.out.mono ?_; rintro e w1 ⟨rfl, hB⟩; have c1 := (hB.cell (p := ⟨w.heap.size, 0, none⟩) (by simp)).trans hbx.cell)
    | (go_at_call 36; refine (HF.out w1 hB).mono ?_; rintro e w2 ⟨m, rfl, hlm, hM, hB2⟩)
    | (at_lookup; refine wpList_look rfl (.tmp 23) (.tmp 25) 59 rfl keyed3 Try.underlying59 (zero3 _) rfl hM (x := 512 + dev) hok rfl ?_; simp only [HN.out, Option.elim, Option.isSome]))
  go_ret3
  exact ⟨rfl, hB0.trans ((hB.mono (by simp)).trans (hB2.mono (by have := hB.size; simp at this; omega)))⟩

theorem blank_any (m n : Nat) (f : Int → Option Int) (x : Int) (w : World) (hM : MapIs K3 evI w m n f) (hx : (Lit.int .i64 x).wf = true) :
    Calls Try.prog 64 #[.map (some m), .int .i64 x] w fun e w' => e = .returned (.tuple #[]) ∧ MapIs K3 evI w' m n (upd f x none) ∧ Chg (fun j => j = m) w w' := by
  have hok : (K3).ok x := hx
  go_enter Try.func64, Try.ntmps64
  go_wp2_with (at_delete; refine wpList_del rfl (.tmp 4) (.tmp 5) 59 rfl keyed3 Try.underlying59 rfl hM (x := x) hok rfl ?_; intro w1 hM1 hT)
  go_end0
  exact ⟨rfl, hM1, (Chg.refl _ _).grown hT.grown (fun j hj => by cases hj; exact .inl rfl)⟩

set_option maxRecDepth 100000 in
set_option maxHeartbeats 1000000 in
theorem change_ok (v : Value) (xs : List Nd) (dev : Nat) (mb : Bool) (w : World) (hm : xs.length ≤ 100) (h : TreeAt w v xs) (hc : checkL xs = 0) (hd1 : dev < 512) (hf : mb = false ∨ (ofF xs (512 + dev)).isSome = true) :
    Calls Try.prog 45 #[v, .int .i64 dev, .bool mb] w fun e w' => ∃ m v2, e = .returned (.tuple #[.map (some m), v2, .int .i64 0]) ∧ w.heap.size ≤ m ∧ MapIs K3 evI w' m xs.length (chF (ofF xs) dev) ∧ IntsAt w' v2 (pathL dev) ∧ Below w.heap.size w w' := by
  obtain ⟨a, cap, rfl, hr, hw⟩ := h
  have ht : TreeAt (w.alloc (.cells #[.slice a xs.length cap] 24)) (.agg #[.slice a xs.length cap]) xs := TreeAt.box ⟨a, cap, rfl, hr, hw⟩ _
  have HT := Lib.hid (check17_any _ xs _ hm ht)
  rw [hc] at HT
  have HF := Lib.hid fun W (hB : Below (w.alloc (.cells #[.slice a xs.length cap] 24)).heap.size (w.alloc (.cells #[.slice a xs.length cap] 24)) W) => of_tree (.agg #[.slice a xs.length cap]) xs W hm (ht.below hB)
  have hB0 : Below w.heap.size w (w.alloc (.cells #[.slice a xs.length cap] 24)) := (Below.refl _ _).alloc (Nat.le_refl _) _
  have hbx := Boxed.new w 24 (.slice a xs.length cap)
  have hok : (K3).ok (512 + (dev : Int)) := wf_small (by omega) (by omega)
  clear hr hw ht hm hc
  generalize ofF xs = f at *
  obtain ⟨b, hb⟩ : ∃ b, b = (f (512 + (dev : Int))).isSome := ⟨_, rfl⟩
  rw [← hb] at hf
  have HBB := Lib.hid hb
  clear hb
  generalize xs.length = n at *
  have hd2 : ¬ (dev : Int) < 0 := by omega
  have hd3 : ¬ (512 : Int) ≤ (dev : Int) := by omega
  have hcase : mb = false ∨ (mb = true ∧ b = true) := by
    cases mb
    · exact .inl rfl
    · rcases hf with h | h
      · cases h
      · exact .inr ⟨rfl, h⟩
  clear hf
  rcases hcase with rfl | ⟨rfl, rfl⟩
  all_goals
    go_enter Try.func45, Try.ntmps45
    go_wp2_with (first
      | (go_at_call 17; refine HT.out.mono ?_; rintro e w1 ⟨rfl, hB⟩; have c1 := (hB.cell (p := ⟨w.heap.size, 0, none⟩) (by simp)).trans hbx.cell)
      | (go_at_call 36; refine (HF.out w1 hB).mono ?_; rintro e w2 ⟨m, rfl, hlm, hM, hB2⟩; have hMs := hM.lt)
      | (at_lookup; refine wpList_look rfl (.tmp 23) (.tmp 25) 59 rfl keyed3 Try.underlying59 (zero3 _) rfl hM (x := 512 + (dev : Int)) hok rfl ?_; rw [← HBB.out])
      | (go_at_call 29; refine (path_ok dev hd1 _).mono ?_; rintro e w3 ⟨v3, rfl, ⟨a3, cap3, b3, off3, rfl, ha3, hc3⟩, hB3⟩; have HA3 := Lib.hid ha3; have HC3 := Lib.hid hc3; clear ha3 hc3; have hM3 := hM.below hB3 hMs; rw [show ((ups (512 + dev)).map fun x => x / 2).length = 9 from pathL_length dev])
      | (go_at_call 64; refine (blank_any m n f (512 + (dev : Int)) w3 hM3 hok).mono ?_; rintro e w4 ⟨rfl, hM4, hC4⟩))
    have ha3 : a3 = some ⟨b3, off3, none⟩ := by
      rcases HA3.out with h | h
      · exact h
      · have := pathL_length dev; rw [show pathL dev = _ from h] at this; cases this
    subst ha3
    have hM4' : MapIs K3 evI w4 m n (chL f [512 + (dev : Int)]) := hM4.congr (fun x => by
      unfold upd chL
      by_cases e : x = 512 + (dev : Int) <;> simp [e])
    have HM4 := Lib.hid hM4'
    have HC4 := Lib.hid hC4
    have hw3 : w.heap.size ≤ w3.heap.size := by have := hB.size; have := hB2.size; have := hB3.size; simp at *; omega
    have hBw : Below w.heap.size w w3 := hB0.trans ((hB.mono (by simp)).trans ((hB2.mono (by have := hB.size; simp at this; omega)).trans (hB3.mono (by have := hB.size; have := hB2.size; simp at *; omega))))
    have hlm' : w.heap.size ≤ m := by have := hB.size; simp at *; omega
    have HBW := Lib.hid hBw
    clear hM4 hM4' hC4 hBw hM hMs c1 hlm hB0 hB hB2 hB3 HT HF HBB
    go_loopw [55] (fun i wr => ∃ j : Nat, j ≤ 9 ∧ i = .int .i64 j ∧ MapIs K3 evI wr m n (chL f ((512 + (dev : Int)) :: (pathL dev).take j)) ∧ Chg (fun j => j = m) w3 wr) (fun i _ => 9 - (intOf i).toNat)
    case atStart => exact ⟨0, by omega, rfl, HM4.out, HC4.out⟩
    case round =>
      obtain ⟨j, hj, rfl, hM5, hC5⟩ := hrel
      by_cases hj9 : j < 9
      · obtain ⟨y, hy⟩ : ∃ y, (pathL dev)[j]? = some y := ⟨_, List.getElem?_eq_getElem (by rw [pathL_length]; exact hj9)⟩
        have g2 := hC5.cell (HC3.out j y hy) (fun e => by have := hM3.nocell (p := ⟨b3, off3 + j, none⟩) e; rw [HC3.out j y hy] at this; cases this)
        have hyr := pathL_range hd1 hy
        have hoky : (Lit.int .i64 y).wf = true := wf_small (by omega) (by omega)
        have HSJ := Lib.hid (take_snoc hy)
        clear hy hyr
        go_wp2_with (go_at_call 64; refine (blank_any m n _ y wr hM5 hoky).mono ?_; rintro e w6 ⟨rfl, hM6, hC6⟩)
        have hM7 : MapIs K3 evI w6 m n (chL f ((512 + (dev : Int)) :: (pathL dev).take (j + 1))) := by
          rw [HSJ.out, ← List.cons_append]
          exact hM6.congr (fun x => chL_snoc f _ y x)
        have HM7 := Lib.hid hM7
        clear hM6 hM7
        go_roundw
        case rel => exact ⟨j + 1, by omega, by go_num, HM7.out, hC5.trans hC6 (fun _ h => .inl h)⟩
        case measure => simp [intOf]; omega
      · have hj' : j = 9 := by omega
        subst hj'
        have hM6 : MapIs K3 evI wr m n (chF f dev) := by
          rw [List.take_of_length_le (l := pathL dev) (i := 9) (by rw [pathL_length]; exact Nat.le_refl _)] at hM5
          exact hM5
        have HM6 := Lib.hid hM6
        clear hM5 hM6
        go_wp2
        go_ret3
        refine ⟨m, .slice (some ⟨b3, off3, none⟩) 9 cap3, rfl, hlm', HM6.out, ?_, HBW.out.trans (hC5.below (fun j h => by omega) hw3)⟩
        exact IntsAt.chg (S := fun j => j = m) ⟨_, cap3, b3, off3, by rw [pathL_length], .inl rfl, HC3.out⟩ hC5 (fun p hp => hM3.nocell hp)
end Go.Proofs.Ytofkmapokdcphaa
