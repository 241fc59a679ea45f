import Derived.Test.YtofkmapokdcphaaO
import Derived.Laws.ResultCell
namespace Go.Proofs.Ytofkmapokdcphaa
open Go Go.RowKit Go.Maps Go.My Go.Shelf

theorem checkL_or (xs : List Nd) : checkL xs = 0 ∨ checkL xs = 210 := by unfold checkL; split <;> simp

theorem resF_length (f : Int → Option Int) : ∀ d n, (resF f d n).length ≤ 2 ^ d
  | 0, n => by unfold resF; split <;> simp
  | d + 1, n => by
    unfold resF
    have h1 := resF_length f d (2 * n)
    have h2 := resF_length f d (2 * n + 1)
    have h3 : 1 ≤ 2 ^ d := Nat.one_le_two_pow
    split
    · simp; omega
    · split
      · simp
      · rw [List.length_append, Nat.pow_succ]; omega

/-- What keytree.Resolution returns. -/
def resL (xs : List Nd) (node : Int) : List Int × Int :=
  if checkL xs ≠ 0 then ([], 210) else if node < 1 ∨ 1023 < node then ([], 200) else (resF (ofF xs) 9 node, 0)

theorem intsAt_nil (w : World) (p : Option Addr) (c : Nat) : IntsAt w (.slice p 0 c) [] := ⟨p, c, 0, 0, rfl, .inr rfl, fun i x hx => by cases hx⟩

set_option maxRecDepth 100000 in
set_option maxHeartbeats 1000000 in
theorem resolution_any (v : Value) (xs : List Nd) (node : Int) (w : World) (hm : xs.length ≤ 100) (h : TreeAt w v xs) :
    Calls Try.prog 12 #[v, .int .i64 node] w fun e w' => ∃ v', e = .returned (.tuple #[v', .int .i64 (resL xs node).2]) ∧ IntsAt w' v' (resL xs node).1 ∧ Below w.heap.size w w' := by
  obtain ⟨a, cap, rfl, hr, hw⟩ := h
  have ht : TreeAt (w.alloc (.cells #[.slice a xs.length cap] 24)) (.agg #[.slice a xs.length cap]) xs := TreeAt.box ⟨a, cap, rfl, hr, hw⟩ _
  have HT := Lib.hid (check17_any _ xs _ hm ht)
  have HF := Lib.hid fun W (hB : Below (w.alloc (.cells #[.slice a xs.length cap] 24)).heap.size (w.alloc (.cells #[.slice a xs.length cap] 24)) W) => of_tree (.agg #[.slice a xs.length cap]) xs W hm (ht.below hB)
  have hB0 : Below w.heap.size w (w.alloc (.cells #[.slice a xs.length cap] 24)) := (Below.refl _ _).alloc (Nat.le_refl _) _
  have hbx := Boxed.new w 24 (.slice a xs.length cap)
  rcases checkL_or xs with hc | hc
  · by_cases hn : node < 1 ∨ 1023 < node
    · have e : resL xs node = ([], 200) := by unfold resL; rw [if_neg (by simp [hc]), if_pos hn]
      have HE := Lib.hid e
      rw [hc] at HT
      clear hr hw ht hm hc e
      generalize xs.length = n at *
      rcases hn with hn | hn
      · go_enter Try.func12, Try.ntmps12
        go_wp2_with (go_at_call 17; refine HT.out.mono ?_; rintro e w1 ⟨rfl, hB⟩)
        go_ret2
        rw [HE.out]
        exact ⟨_, rfl, intsAt_nil _ _ _, hB0.trans (hB.mono (by simp))⟩
      · have hn1 : ¬ node < 1 := by omega
        go_enter Try.func12, Try.ntmps12
        go_wp2_with (go_at_call 17; refine HT.out.mono ?_; rintro e w1 ⟨rfl, hB⟩)
        go_ret2
        rw [HE.out]
        exact ⟨_, rfl, intsAt_nil _ _ _, hB0.trans (hB.mono (by simp))⟩
    · have e : resL xs node = (resF (ofF xs) 9 node, 0) := by unfold resL; rw [if_neg (by simp [hc]), if_neg hn]
      have HE := Lib.hid e
      rw [hc] at HT
      have hn1 : ¬ node < 1 := by omega
      have hn2 : ¬ 1023 < node := by omega
      clear hr hw ht hm hc e hn
      generalize ofF xs = f at *
      generalize xs.length = n at *
      go_enter Try.func12, Try.ntmps12
      go_wp2_with (first
        | (go_at_call 17; refine HT.out.mono ?_; rintro e w1 ⟨rfl, hB⟩; have c1 := (hB.cell (p := ⟨w.heap.size, 0, none⟩) (by simp)).trans hbx.cell)
        | (go_at_call 36; refine (HF.out w1 hB).mono ?_; rintro e w2 ⟨m, rfl, hlm, hM, hB2⟩; have hMs := hM.lt)
        | (go_at_call 37; refine (res37 (some m) node w2).mono ?_; rintro e w3 ⟨rfl, rfl⟩)
        | (go_at_call 35; refine (collect_any (res_iter 9 node w2.heap.size (w2.heap.size + 1) m n f (by omega) (by omega) (by omega)) (enters_of Try.func59 (by kernel_rfl) rfl) (Nat.le_trans (resF_length f 9 node) (by decide)) _
            (fun W hW => resPre_keep ⟨(Boxed.new w2 59 (.map (some m))).alloc _, (by have := Boxed.new (w2.alloc (Obj.cells #[Value.map (some m)] 59)) 3 (.int .i64 node); simp only [World.size_alloc] at this; exact this), (hM.alloc _).alloc _⟩ hW (fun _ h => h.elim))
            (fun k hk => by rcases hk with rfl | rfl | rfl <;> simp only [World.size_alloc] <;> omega)).mono ?_; rintro e w4 ⟨v4, rfl, hI4, hB4⟩))
      go_ret2
      rw [HE.out]
      refine ⟨_, rfl, hI4, hB0.trans ((hB.mono (by simp)).trans ((hB2.mono (by have := hB.size; simp at this; omega)).trans ?_))⟩
      have hle : w.heap.size ≤ w2.heap.size := by have := hB.size; have := hB2.size; simp at *; omega
      exact (((Below.refl _ _).alloc hle _).alloc (by simp; omega) _).trans (hB4.mono (by simp; omega))
  · have e : resL xs node = ([], 210) := by unfold resL; rw [if_pos (by simp [hc])]
    have HE := Lib.hid e
    rw [hc] at HT
    clear hr hw ht hm hc e
    generalize xs.length = n at *
    go_enter Try.func12, Try.ntmps12
    go_wp2_with (go_at_call 17; refine HT.out.mono ?_; rintro e w1 ⟨rfl, hB⟩)
    go_ret2
    rw [HE.out]
    exact ⟨_, rfl, intsAt_nil _ _ _, hB0.trans (hB.mono (by simp))⟩
end Go.Proofs.Ytofkmapokdcphaa
