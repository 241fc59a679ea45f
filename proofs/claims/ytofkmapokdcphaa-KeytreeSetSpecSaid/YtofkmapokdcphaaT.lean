import Derived.Test.YtofkmapokdcphaaS
namespace Go.Proofs.Ytofkmapokdcphaa
open Go Go.RowKit Go.Maps Go.My Go.Shelf

def removeL (xs : List Nd) (d : Int) : List Nd × Int :=
  if checkL xs ≠ 0 then ([], 210) else if d < 0 ∨ 512 ≤ d ∨ ofF xs (512 + d) = none then ([], 200) else (treeL (chF (ofF xs) d), 0)

set_option maxRecDepth 100000 in
set_option maxHeartbeats 1000000 in
theorem remove_fail (v : Value) (xs : List Nd) (d er : Int) (w : World) (h : TreeAt w v xs) (e : removeL xs d = ([], er))
    (HC : ∀ W v, TreeAt W v xs → Calls Try.prog 45 #[v, .int .i64 d, .bool true] W fun e w' => e = .returned (.tuple #[.map none, .slice none 0 0, .int .i64 er]) ∧ Below W.heap.size W w') :
    Calls Try.prog 23 #[v, .int .i64 d] w fun e w' => ∃ v', e = .returned (.tuple #[v', .int .i64 (removeL xs d).2]) ∧ TreeAt w' v' (removeL xs d).1 ∧ Below w.heap.size w w' := by
  obtain ⟨a, cap, rfl, hr, hw⟩ := h
  have ht : TreeAt ((w.alloc (.cells #[.slice a xs.length cap] 24)).alloc (.cells #[.slice none 0 0] 24)) (.agg #[.slice a xs.length cap]) xs := TreeAt.box (TreeAt.box ⟨a, cap, rfl, hr, hw⟩ _) _
  have hB0 : Below w.heap.size w ((w.alloc (.cells #[.slice a xs.length cap] 24)).alloc (.cells #[.slice none 0 0] 24)) := ((Below.refl _ _).alloc (Nat.le_refl _) _).alloc (by simp) _
  have hbx6 : Boxed ((w.alloc (.cells #[.slice a xs.length cap] 24)).alloc (.cells #[.slice none 0 0] 24)) (w.heap.size + 1) 24 (.slice none 0 0) := by
    have := Boxed.new (w.alloc (.cells #[.slice a xs.length cap] 24)) 24 (.slice none 0 0)
    simp only [World.size_alloc] at this
    exact this
  have HE := Lib.hid e
  have HC := Lib.hid (HC _ _ ht)
  clear hr hw ht e
  generalize xs.length = n at *
  go_enter Try.func23, Try.ntmps23
  go_wp2_with (first
    | (go_at_call 45; refine HC.out.mono ?_; rintro e w1 ⟨rfl, hB⟩; have hb1 : Boxed w1 (w.heap.size + 1) 24 (.slice none 0 0) := (hB.block _ (by simp)).trans hbx6)
    | (go_at_call 46; refine (tree46_nil w1).mono ?_; rintro e w2 ⟨rfl, hB2⟩; have hb2 : Boxed w2 (w.heap.size + 1) 24 (.slice none 0 0) := (hB2.block _ hb1.lt).trans hb1; have c2 := hb2.cell; have f2 := hb2.frozen))
  refine bodyPost_ret (results_tree rfl _ _ (w.heap.size + 1) _ rfl (hb2.set _)) rfl ?_
  rw [HE.out]
  have s1 := hB.size
  simp only [World.size_alloc] at s1
  exact ⟨_, rfl, treeAt_nil _, ((hB0.trans (hB.mono (by simp only [World.size_alloc]; omega))).trans (hB2.mono (by omega))).setCell (p := ⟨w.heap.size + 1, 0, none⟩) (by show w.heap.size ≤ w.heap.size + 1; omega) _⟩

set_option maxRecDepth 100000 in
set_option maxHeartbeats 1000000 in
theorem remove_any (v : Value) (xs : List Nd) (d : Int) (w : World) (hm : xs.length ≤ 100) (h : TreeAt w v xs) :
    Calls Try.prog 23 #[v, .int .i64 d] w fun e w' => ∃ v', e = .returned (.tuple #[v', .int .i64 (removeL xs d).2]) ∧ TreeAt w' v' (removeL xs d).1 ∧ Below w.heap.size w w' := by
  rcases checkL_or xs with hc | hc
  case inr =>
    exact remove_fail v xs d 210 w h (by unfold removeL; rw [if_pos (by simp [hc])]) (fun W v hW => change_tree v xs d true W hm hW hc)
  by_cases hd : d < 0 ∨ 512 ≤ d
  · exact remove_fail v xs d 200 w h (by unfold removeL; rw [if_neg (by simp [hc]), if_pos (by omega)]) (fun W v hW => change_dev v xs d true W hm hW hc hd)
  by_cases hn : ofF xs (512 + d) = none
  · exact remove_fail v xs d 200 w h (by unfold removeL; rw [if_neg (by simp [hc]), if_pos (.inr (.inr hn))]) (fun W v hW => change_none v xs d W hm hW hc (by omega) (by omega) hn)
  have e : removeL xs d = (treeL (chF (ofF xs) d), 0) := by unfold removeL; rw [if_neg (by simp [hc]), if_neg (by rintro (q | q | q); omega; omega; exact hn q)]
  have hwf : ∀ x c, chF (ofF xs) d x = some c → (Lit.int .i64 c).wf = true := fun x c => chF_wf h d x c
  have HWF := Lib.hid hwf
  have hd0 : 0 ≤ d := by omega
  obtain ⟨a, cap, rfl, hr, hw⟩ := h
  have ht : TreeAt ((w.alloc (.cells #[.slice a xs.length cap] 24)).alloc (.cells #[.slice none 0 0] 24)) (.agg #[.slice a xs.length cap]) xs := TreeAt.box (TreeAt.box ⟨a, cap, rfl, hr, hw⟩ _) _
  have hB0 : Below w.heap.size w ((w.alloc (.cells #[.slice a xs.length cap] 24)).alloc (.cells #[.slice none 0 0] 24)) := ((Below.refl _ _).alloc (Nat.le_refl _) _).alloc (by simp) _
  have hbx6 : Boxed ((w.alloc (.cells #[.slice a xs.length cap] 24)).alloc (.cells #[.slice none 0 0] 24)) (w.heap.size + 1) 24 (.slice none 0 0) := by
    have := Boxed.new (w.alloc (.cells #[.slice a xs.length cap] 24)) 24 (.slice none 0 0)
    simp only [World.size_alloc] at this
    exact this
  have HE := Lib.hid e
  have HR := Lib.hid fun (x : Int) (hx : (chF (ofF xs) d x).isSome = true) => chF_range hc d x hx
  obtain ⟨dn, rfl⟩ := Int.eq_ofNat_of_zero_le hd0
  have HC := Lib.hid (change_ok _ xs dn true _ hm ht hc (by omega) (.inr (by cases q : ofF xs (512 + (dn : Int)) with | none => exact absurd q hn | some c => rfl)))
  clear hr hw ht e hn hd hwf hc
  generalize hf : ofF xs = f at *
  clear hf
  generalize xs.length = n at *
  go_enter Try.func23, Try.ntmps23
  go_wp2_with (first
    | (go_at_call 45; refine HC.out.mono ?_; rintro e w1 ⟨m, v2, rfl, hlm, hM, _, hB⟩; have hb1 : Boxed w1 (w.heap.size + 1) 24 (.slice none 0 0) := (hB.block _ (by simp)).trans hbx6; have hMs := hM.lt)
    | (go_at_call 46; refine (tree46_any w1 m n _ (by omega) hM HWF.out).mono ?_; rintro e w4 ⟨v4, ys, rfl, hT4, hsort, hof, _, hB4⟩; have HT4 := Lib.hid hT4; obtain ⟨a4, cap4, rfl, _, _⟩ := hT4; have hb4 : Boxed w4 (w.heap.size + 1) 24 (.slice none 0 0) := (hB4.block _ hb1.lt).trans hb1; have c4 := hb4.cell; have f4 := hb4.frozen))
  have hys := treeL_uniq (fun x hx => by have := HR.out x hx; omega) hsort hof
  have hT5 := HT4.out.store (u := .slice a4 ys.length cap4) hb4
  refine bodyPost_ret (results_tree rfl _ _ (w.heap.size + 1) _ rfl (hb4.set _)) rfl ?_
  rw [HE.out]
  refine ⟨_, rfl, ?_, ?_⟩
  · rw [hys] at hT5 ⊢; exact hT5
  · have s1 := hB.size
    simp only [World.size_alloc] at s1
    exact ((hB0.trans (hB.mono (by simp only [World.size_alloc]; omega))).trans (hB4.mono (by omega))).setCell (p := ⟨w.heap.size + 1, 0, none⟩) (by show w.heap.size ≤ w.heap.size + 1; omega) _
end Go.Proofs.Ytofkmapokdcphaa
