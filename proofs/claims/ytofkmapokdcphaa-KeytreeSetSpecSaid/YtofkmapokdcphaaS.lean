import Derived.Test.YtofkmapokdcphaaR
namespace Go.Proofs.Ytofkmapokdcphaa
open Go Go.RowKit Go.Maps Go.My Go.Shelf

def badP (p : Int) : Bool := !decide (chk p = 0)

set_option maxRecDepth 100000 in
set_option maxHeartbeats 400000 in
theorem clo51 (p : Int) (w : World) : Calls Try.prog 51 #[.int .i64 p] w fun e w' => e = .returned (.bool (badP p)) ∧ Below w.heap.size w w' := by
  by_cases h : chk p = 0
  · have H := Lib.hid (check_any p w)
    rw [h] at H
    have HP : Hid (badP p = false) := by unfold Hid badP; simp [h]
    go_enter Try.func51, Try.ntmps51
    go_wp2_with (go_at_call 39; refine H.out.mono ?_; rintro e w' ⟨rfl, hB⟩)
    go_ret
    exact ⟨ret_bool HP.out.symm, hB⟩
  · have H := Lib.hid (check_any p w)
    have HP : Hid (badP p = true) := by unfold Hid badP; simp [h]
    have hd : decide (chk p = 0) = false := decide_eq_false h
    go_enter Try.func51, Try.ntmps51
    go_wp2_with (go_at_call 39; refine H.out.mono ?_; rintro e w' ⟨rfl, hB⟩)
    go_ret
    exact ⟨by rw [HP.out]; simp [h], hB⟩

set_option maxRecDepth 100000 in
set_option maxHeartbeats 1000000 in
theorem indexFunc_any (v : Value) (ps : List Int) (w : World) (hm : ps.length ≤ 100) (h : IntsAt w v ps) :
    Calls Try.prog 67 #[v, .func (.func 51) #[] #[]] w fun e w' => ∃ r : Int, e = .returned (.int .i64 r) ∧ decide (0 ≤ r) = ps.any badP ∧ -1 ≤ r ∧ r ≤ 100 ∧ Below w.heap.size w w' := by
  obtain ⟨a, cap, b, off, rfl, ha, hc⟩ := h
  obtain ⟨len, hlen⟩ : ∃ len, len = ps.length := ⟨_, rfl⟩
  rw [← hlen] at hm ⊢
  have HL := Lib.hid hlen
  have HC := Lib.hid hc
  have HA := Lib.hid ha
  clear hlen hc ha
  go_enter Try.func67, Try.ntmps67
  go_wp2
  go_loopw [8] (fun i wr => ∃ k : Nat, k ≤ len ∧ i = .int .i64 k ∧ Hid ((ps.take k).any badP = false) ∧ Below w.heap.size w wr) (fun i _ => len - (intOf i).toNat)
  case atStart => exact ⟨0, Nat.zero_le _, rfl, (by simp [Hid]), Below.refl _ _⟩
  case round =>
    obtain ⟨k, hk, rfl, hno, hB⟩ := hrel
    by_cases hlt : k < len
    · obtain ⟨p, hp⟩ : ∃ p, ps[k]? = some p := ⟨_, List.getElem?_eq_getElem (by rw [← HL.out]; exact hlt)⟩
      have ha : a = some ⟨b, off, none⟩ := by
        rcases HA.out with h | h
        · exact h
        · rw [h] at hp; cases hp
      subst ha
      have hc0 := HC.out k p hp
      have g0 := (hB.cell (p := ⟨b, off + k, none⟩) (lt_of_cell hc0)).trans hc0
      have HS := Lib.hid (take_snoc hp)
      have HP := Lib.hid hp
      clear hc0 hp
      have HH := Lib.hid (clo51 p wr)
      by_cases hb : badP p = true
      · rw [hb] at HH
        have HB := Lib.hid hb
        clear hb
        go_wp2_with (go_at_call 51; refine HH.out.mono ?_; rintro e w' ⟨rfl, hB2⟩)
        go_ret
        refine ⟨k, rfl, ?_, by omega, by omega, hB.trans (hB2.mono hB.size)⟩
        rw [decide_eq_true (by omega : (0 : Int) ≤ (k : Int))]
        symm
        rw [List.any_eq_true]
        exact ⟨p, List.mem_of_getElem? HP.out, HB.out⟩
      · rw [Bool.not_eq_true] at hb
        rw [hb] at HH
        have HB := Lib.hid hb
        clear hb
        go_wp2_with (go_at_call 51; refine HH.out.mono ?_; rintro e w' ⟨rfl, hB2⟩)
        go_roundw
        case rel => exact ⟨k + 1, by omega, by go_num, (by unfold Hid; rw [HS.out, List.any_append, hno.out]; simp [HB.out]), hB.trans (hB2.mono hB.size)⟩
        case measure => simp [intOf]; omega
    · have hk' : k = len := by omega
      have e0 : ps.take k = ps := List.take_of_length_le (by rw [← HL.out]; omega)
      rw [e0] at hno
      go_wp2
      go_ret
      exact ⟨-1, rfl, by rw [hno.out]; decide, by omega, by omega, hB⟩

set_option maxRecDepth 100000 in
set_option maxHeartbeats 400000 in
theorem containsFunc_any (v : Value) (ps : List Int) (w : World) (hm : ps.length ≤ 100) (h : IntsAt w v ps) :
    Calls Try.prog 50 #[v, .func (.func 51) #[] #[]] w fun e w' => e = .returned (.bool (ps.any badP)) ∧ Below w.heap.size w w' := by
  have H := Lib.hid (indexFunc_any v ps w hm h)
  clear h
  go_enter Try.func50, Try.ntmps50
  go_wp2_with (go_at_call 67; refine H.out.mono ?_; rintro e w' ⟨r, rfl, hr, hr0, hr1, hB⟩; have HR := Lib.hid hr; clear hr)
  go_ret
  exact ⟨ret_bool HR.out, hB⟩

theorem treeAt_nil (w : World) : TreeAt w (.agg #[.slice none 0 0]) [] := ⟨none, 0, rfl, ⟨0, 0, .inr rfl, fun i n h => by cases h⟩, fun n h => by cases h⟩

theorem TreeAt.store {w : World} {v u : Value} {xs : List Nd} {B t l c : Nat} {p : Option Addr} (h : TreeAt w v xs) (hb : Boxed w B t (.slice p l c)) : TreeAt (w.setCell ⟨B, 0, none⟩ u) v xs := by
  obtain ⟨a, cap, rfl, ⟨b, off, ha, hc⟩, hw⟩ := h
  refine ⟨a, cap, rfl, ⟨b, off, ha, fun i n hn => ?_⟩, hw⟩
  obtain ⟨h0, h1⟩ := hc i n hn
  have hC : Chg (fun j => j = B) w (w.setCell ⟨B, 0, none⟩ u) := Chg.setCell (S := fun j => j = B) (Chg.refl _ _) (.inl rfl) _
  have hne : ∀ o z, w.cell? ⟨b, o, none⟩ = some (.int .i64 z) → b ≠ B := fun o z hz e => by subst e; have := hb.only hz; cases this
  exact ⟨hC.cell h0 (hne _ _ h0), hC.cell h1 (hne _ _ h1)⟩

theorem IntsAt.store {w : World} {v u : Value} {xs : List Int} {B t l c : Nat} {p : Option Addr} (h : IntsAt w v xs) (hb : Boxed w B t (.slice p l c)) : IntsAt (w.setCell ⟨B, 0, none⟩ u) v xs := by
  obtain ⟨a, cap, b, off, rfl, ha, hc⟩ := h
  refine ⟨a, cap, b, off, rfl, ha, fun i n hn => ?_⟩
  have h0 := hc i n hn
  have hC : Chg (fun j => j = B) w (w.setCell ⟨B, 0, none⟩ u) := Chg.setCell (S := fun j => j = B) (Chg.refl _ _) (.inl rfl) _
  exact hC.cell h0 (fun e => by have e : b = B := e; subst e; have := hb.only h0; cases this)

def setL (xs : List Nd) (d p : Int) : List Nd × Int :=
  if checkL xs ≠ 0 then ([], 210) else if d < 0 ∨ 512 ≤ d then ([], 200) else if chk p ≠ 0 then ([], 50) else (treeL (upd (chF (ofF xs) d) (512 + d) (some p)), 0)

theorem chF_range {xs : List Nd} (h : checkL xs = 0) (d x : Int) (hx : (chF (ofF xs) d x).isSome = true) : 1 ≤ x ∧ x ≤ 1023 := by
  unfold chF chL at hx
  split at hx
  · cases hx
  · exact checked_range h x hx

theorem set_range {xs : List Nd} (h : checkL xs = 0) {d p : Int} (h0 : 0 ≤ d) (h1 : d < 512) (x : Int) (hx : (upd (chF (ofF xs) d) (512 + d) (some p) x).isSome = true) : 0 ≤ x ∧ x < 1024 := by
  unfold upd at hx
  split at hx
  · omega
  · have := chF_range h d x hx; omega

theorem chF_wf {xs : List Nd} {w : World} {v : Value} (h : TreeAt w v xs) (d x c : Int) (hx : chF (ofF xs) d x = some c) : (Lit.int .i64 c).wf = true := by
  unfold chF chL at hx
  split at hx
  · cases hx
  · obtain ⟨_, _, _, _, hw⟩ := h
    exact (hw _ (ofF_some hx)).2

set_option maxRecDepth 100000 in
set_option maxHeartbeats 1000000 in
theorem set_any (v : Value) (xs : List Nd) (d p : Int) (w : World) (hm : xs.length ≤ 100) (h : TreeAt w v xs) (_hd : (Lit.int .i64 d).wf = true) (hp : (Lit.int .i64 p).wf = true) :
    Calls Try.prog 21 #[v, .int .i64 d, .int .i64 p] w fun e w' => ∃ v', e = .returned (.tuple #[v', .int .i64 (setL xs d p).2]) ∧ TreeAt w' v' (setL xs d p).1 ∧ Below w.heap.size w w' := by
  have hwf : ∀ x c, chF (ofF xs) d x = some c → (Lit.int .i64 c).wf = true := fun x c => chF_wf h d x c
  have HWF := Lib.hid hwf
  clear hwf
  obtain ⟨a, cap, rfl, hr, hw⟩ := h
  have ht : TreeAt ((w.alloc (.cells #[.slice a xs.length cap] 24)).alloc (.cells #[.slice none 0 0] 24)) (.agg #[.slice a xs.length cap]) xs := TreeAt.box (TreeAt.box ⟨a, cap, rfl, hr, hw⟩ _) _
  have hB0 : Below w.heap.size w ((w.alloc (.cells #[.slice a xs.length cap] 24)).alloc (.cells #[.slice none 0 0] 24)) := ((Below.refl _ _).alloc (Nat.le_refl _) _).alloc (by simp) _
  have hbx6 : Boxed ((w.alloc (.cells #[.slice a xs.length cap] 24)).alloc (.cells #[.slice none 0 0] 24)) (w.heap.size + 1) 24 (.slice none 0 0) := by
    have := Boxed.new (w.alloc (.cells #[.slice a xs.length cap] 24)) 24 (.slice none 0 0)
    simp only [World.size_alloc] at this
    exact this
  rcases checkL_or xs with hc | hc
  · by_cases hd : d < 0 ∨ 512 ≤ d
    · have e : setL xs d p = ([], 200) := by unfold setL; rw [if_neg (by simp [hc]), if_pos hd]
      have HE := Lib.hid e
      have HC := Lib.hid (change_dev _ xs d false _ hm ht hc hd)
      clear hr hw ht hm hc hd e HWF
      generalize xs.length = n at *
      go_enter Try.func21, Try.ntmps21
      go_wp2_with (go_at_call 45; refine HC.out.mono ?_; rintro e w1 ⟨rfl, hB⟩; have hb1 : Boxed w1 (w.heap.size + 1) 24 (.slice none 0 0) := (hB.block _ (by simp)).trans hbx6; have c1 := hb1.cell; have f1 := hb1.frozen)
      refine bodyPost_ret (results_tree rfl _ _ (w.heap.size + 1) _ rfl (hb1.set _)) rfl ?_
      rw [HE.out]
      exact ⟨_, rfl, treeAt_nil _, (hB0.trans (hB.mono (by simp only [World.size_alloc]; omega))).setCell (p := ⟨w.heap.size + 1, 0, none⟩) (by show w.heap.size ≤ w.heap.size + 1; omega) _⟩
    · by_cases hk : chk p = 0
      · have e : setL xs d p = (treeL (upd (chF (ofF xs) d) (512 + d) (some p)), 0) := by unfold setL; rw [if_neg (by simp [hc]), if_neg hd, if_neg (by simp [hk])]
        have HE := Lib.hid e
        have hd0 : 0 ≤ d := by omega
        have hd1 : d < 512 := by omega
        have HR := Lib.hid (set_range (p := p) hc hd0 hd1)
        obtain ⟨dn, rfl⟩ := Int.eq_ofNat_of_zero_le hd0
        have HC := Lib.hid (change_ok _ xs dn false _ hm ht hc (by omega) (.inl rfl))
        have HK := Lib.hid fun W => check_any p W
        rw [hk] at HK
        have hok : (K3).ok (512 + (dn : Int)) := wf_small (by omega) (by omega)
        clear hr hw ht hc hd e
        generalize hf : ofF xs = f at *
        clear hf
        generalize xs.length = n at *
        go_enter Try.func21, Try.ntmps21
        go_wp2_with (first
          | (go_at_call 45; refine HC.out.mono ?_; rintro e w1 ⟨m, v2, rfl, hlm, hM, _, hB⟩; have hb1 : Boxed w1 (w.heap.size + 1) 24 (.slice none 0 0) := (hB.block _ (by simp)).trans hbx6; have hMs := hM.lt)
          | (go_at_call 39; refine (HK.out w1).mono ?_; rintro e w2 ⟨rfl, hB2⟩; have hM2 := hM.below hB2 hMs; have hb2 : Boxed w2 (w.heap.size + 1) 24 (.slice none 0 0) := (hB2.block _ hb1.lt).trans hb1)
          | (at_mapUpdate; refine wpList_put rfl (.tmp 25) (.tmp 27) (.tmp 28) 59 rfl keyed3 Try.underlying59 rfl hM2 (by unfold maxLen; omega) (x := 512 + (dn : Int)) hok rfl (c := p) rfl ?_; intro w3 hM3 hg3; have hM3s := hM3.lt; have hb3 : Boxed w3 (w.heap.size + 1) 24 (.slice none 0 0) := hb2.kept hg3 (by simp at hlm; simp; omega))
          | (go_at_call 46; refine (tree46_any w3 m (n + 1) _ (by omega) hM3 (fun x c hx => by unfold upd at hx; split at hx; cases hx; exact hp; exact HWF.out x c hx)).mono ?_; rintro e w4 ⟨v4, ys, rfl, hT4, hsort, hof, _, hB4⟩; have HT4 := Lib.hid hT4; obtain ⟨a4, cap4, rfl, _, _⟩ := hT4; have hb4 : Boxed w4 (w.heap.size + 1) 24 (.slice none 0 0) := (hB4.block _ hb3.lt).trans hb3; have c4 := hb4.cell; have f4 := hb4.frozen))
        have hys := treeL_uniq HR.out hsort hof
        have hT5 := HT4.out.store (u := .slice a4 ys.length cap4) hb4
        refine bodyPost_ret (results_tree rfl _ _ (w.heap.size + 1) _ rfl (hb4.set _)) rfl ?_
        rw [HE.out]
        refine ⟨_, rfl, ?_, ?_⟩
        · rw [hys] at hT5 ⊢; exact hT5
        · have h1 := hB.mono (show w.heap.size ≤ _ by simp only [World.size_alloc]; omega)
          have s1 := hB.size
          have s2 := hB2.size
          have s3 := hg3.size
          have hlm' : w.heap.size ≤ m := by simp only [World.size_alloc] at hlm; omega
          simp only [World.size_alloc] at s1
          exact (((hB0.trans h1).trans (hB2.mono (by omega))).grown hg3 (by omega) (fun j hj => by cases hj; exact hlm')).trans (hB4.mono (by omega)) |>.setCell (p := ⟨w.heap.size + 1, 0, none⟩) (by show w.heap.size ≤ w.heap.size + 1; omega) _
      · have e : setL xs d p = ([], 50) := by unfold setL; rw [if_neg (by simp [hc]), if_neg hd, if_pos hk]
        have HE := Lib.hid e
        have hd0 : 0 ≤ d := by omega
        have hd1 : d < 512 := by omega
        obtain ⟨dn, rfl⟩ := Int.eq_ofNat_of_zero_le hd0
        have HC := Lib.hid (change_ok _ xs dn false _ hm ht hc (by omega) (.inl rfl))
        have HK := Lib.hid fun W => check_any p W
        have dk : decide (chk p = 0) = false := decide_eq_false hk
        clear hr hw ht hc hd e HWF
        generalize hf : ofF xs = f at *
        clear hf
        generalize xs.length = n at *
        go_enter Try.func21, Try.ntmps21
        go_wp2_with (first
          | (go_at_call 45; refine HC.out.mono ?_; rintro e w1 ⟨m, v2, rfl, hlm, hM, _, hB⟩; have hb1 : Boxed w1 (w.heap.size + 1) 24 (.slice none 0 0) := (hB.block _ (by simp)).trans hbx6)
          | (go_at_call 39; refine (HK.out w1).mono ?_; rintro e w2 ⟨rfl, hB2⟩; have hb2 : Boxed w2 (w.heap.size + 1) 24 (.slice none 0 0) := (hB2.block _ hb1.lt).trans hb1; have c2 := hb2.cell; have f2 := hb2.frozen))
        refine bodyPost_ret (results_tree rfl _ _ (w.heap.size + 1) _ rfl (hb2.set _)) rfl ?_
        rw [HE.out]
        refine ⟨_, rfl, treeAt_nil _, ?_⟩
        have s1 := hB.size
        simp only [World.size_alloc] at s1
        exact ((hB0.trans (hB.mono (by simp only [World.size_alloc]; omega))).trans (hB2.mono (by omega))).setCell (p := ⟨w.heap.size + 1, 0, none⟩) (by show w.heap.size ≤ w.heap.size + 1; omega) _
  · have e : setL xs d p = ([], 210) := by unfold setL; rw [if_pos (by simp [hc])]
    have HE := Lib.hid e
    have HC := Lib.hid (change_tree _ xs d false _ hm ht hc)
    clear hr hw ht hm hc e HWF
    generalize xs.length = n at *
    go_enter Try.func21, Try.ntmps21
    go_wp2_with (go_at_call 45; refine HC.out.mono ?_; rintro e w1 ⟨rfl, hB⟩; have hb1 : Boxed w1 (w.heap.size + 1) 24 (.slice none 0 0) := (hB.block _ (by simp)).trans hbx6; have c1 := hb1.cell; have f1 := hb1.frozen)
    refine bodyPost_ret (results_tree rfl _ _ (w.heap.size + 1) _ rfl (hb1.set _)) rfl ?_
    rw [HE.out]
    exact ⟨_, rfl, treeAt_nil _, (hB0.trans (hB.mono (by simp only [World.size_alloc]; omega))).setCell (p := ⟨w.heap.size + 1, 0, none⟩) (by show w.heap.size ≤ w.heap.size + 1; omega) _⟩
end Go.Proofs.Ytofkmapokdcphaa
