import Derived.Test.YtofkmapokdcphaaM
namespace Go.Proofs.Ytofkmapokdcphaa
open Go Go.RowKit Go.Maps Go.My Go.Shelf

theorem info48 : (Try.prog.info? 48).map (fun i => (i.zero, i.size, i.bytes)) = some (some (.agg #[.int .i64 0, .int .i64 0]), 2, 16) := by kernel_rfl

theorem _root_.Go.Boxed.only {W : World} {B i : Nat} {t : TypeId} {v u : Value} (h : Boxed W B t v) (hc : W.cell? ⟨B, i, none⟩ = some u) : u = v := by
  have h' : W.heap[B]? = some (.cells #[v] t (0, 0)) := h
  simp only [World.cell?, h'] at hc
  simp at hc
  cases i with
  | zero => simpa using hc.symm
  | succ i => simp at hc

theorem cell_two_new' (w : World) (x y : Value) (t : TypeId) : ∀ j u, [x, y][j]? = some u → (w.alloc (.cells #[x, y] t)).cell? ((⟨w.heap.size, 0, none⟩ : Addr).add j) = some u := by
  intro j u hj
  have := cell_at_new w #[x, y] t j
  cases j with
  | zero => exact this.trans (by simpa using hj)
  | succ j =>
    rw [show (⟨w.heap.size, 0, none⟩ : Addr).add (j + 1) = ⟨w.heap.size, j + 1, none⟩ by simp [Addr.add]]
    exact this.trans (by simpa using hj)

theorem ndCells_append (xs ys : List Nd) : ndCells (xs ++ ys) = ndCells xs ++ ndCells ys := by simp [ndCells]

/-- The nodes of a map's keys. -/
def nodesF (f : Int → Option Int) (ks : List Int) : List Nd := ks.map fun x => (x, (f x).getD 0)

theorem nodesF_keys (f : Int → Option Int) (ks : List Int) : (nodesF f ks).map (·.1) = ks := by
  unfold nodesF; rw [List.map_map]; conv => rhs; rw [← List.map_id ks]
  rfl
theorem nodesF_length (f : Int → Option Int) (ks : List Int) : (nodesF f ks).length = ks.length := by simp [nodesF]
theorem nodesF_of (f : Int → Option Int) (ks : List Int) (hm : ∀ x, x ∈ ks ↔ (f x).isSome = true) (x : Int) : ofF (nodesF f ks) x = f x := by
  unfold ofF nodesF
  rw [List.find?_map]
  by_cases h : x ∈ ks
  · have h1 := (hm x).1 h
    obtain ⟨c, hc⟩ := Option.isSome_iff_exists.1 h1
    have : ks.find? ((fun n : Nd => n.1 == x) ∘ fun x => (x, (f x).getD 0)) = some x := by
      cases hf : ks.find? ((fun n : Nd => n.1 == x) ∘ fun x => (x, (f x).getD 0)) with
      | none => have := List.find?_eq_none.1 hf x h; simp at this
      | some y => have := List.find?_some hf; simp at this; rw [this]
    rw [this, hc]; simp [hc]
  · have h1 : f x = none := by
      cases hf : f x with
      | none => rfl
      | some c => exact absurd ((hm x).2 (by simp [hf])) h
    have : ks.find? ((fun n : Nd => n.1 == x) ∘ fun x => (x, (f x).getD 0)) = none := by
      rw [List.find?_eq_none]
      intro y hy e
      simp at e
      exact h (e ▸ hy)
    rw [this, h1]; rfl

set_option maxRecDepth 100000 in
set_option maxHeartbeats 1000000 in
theorem tree46_any (w : World) (m n : Nat) (f : Int → Option Int) (hn : n ≤ 5000) (hM : MapIs K3 evI w m n f) (hwf : ∀ x c, f x = some c → (Lit.int .i64 c).wf = true) :
    Calls Try.prog 46 #[.map (some m)] w fun e w' => ∃ v ys, e = .returned v ∧ TreeAt w' v ys ∧ (ys.map (·.1)).Pairwise (· < ·) ∧ (∀ x, ofF ys x = f x) ∧ ys.length ≤ n ∧ Below w.heap.size w w' := by
  obtain ⟨i0, hi, hz0, hz1, hz2⟩ := info_parts info48
  have HWF := Lib.hid hwf
  clear hwf
  have hmw : m < w.heap.size := hM.lt
  have hS := sorted65_map (w.alloc (.cells #[.slice none 0 0] 24)) m n f hn (hM.alloc _)
  simp only [World.size_alloc] at hS
  have HS := Lib.hid hS
  clear hS
  have HKW := Lib.hid (mapIs_keys hM)
  go_enter Try.func46, Try.ntmps46
  go_wp2_with (first
    | (go_at_call 66; refine (keys66_any (some m) _).mono ?_; rintro e w' ⟨rfl, rfl⟩)
    | (go_at_call 65; refine HS.out.mono ?_; rintro e w1 ⟨v1, ks, rfl, hsort, hmem, hkn, ⟨a1, cap1, b1, off1, rfl, ha1, hc1⟩, hB1⟩; have HA1 := Lib.hid ha1; have HC1 := Lib.hid hc1; have HSORT := Lib.hid hsort; have HMEM := Lib.hid hmem; clear ha1 hc1 hsort hmem))
  obtain ⟨nk, hnk⟩ : ∃ nk, nk = ks.length := ⟨_, rfl⟩
  rw [← hnk] at hkn ⊢
  have HNK := Lib.hid hnk
  have hw1 : w.heap.size + 1 ≤ w1.heap.size := by have := hB1.size; simp at this; omega
  have hbx : Boxed w1 w.heap.size 24 (.slice none 0 0) := (hB1.block w.heap.size (by simp)).trans (Boxed.new w 24 (.slice none 0 0))
  have hM1 : MapIs K3 evI w1 m n f := (hM.alloc _).below hB1 (by omega)
  have HB1 := Lib.hid hB1
  clear hnk hB1
  go_loopw [9] (fun i wr => ∃ (k : Nat) (u : Value), k ≤ nk ∧ i = .int .i64 k ∧ Boxed wr w.heap.size 24 u ∧ Hid (wr.ownsRow w1.heap.size 48 2 u k (ndCells (nodesF f (ks.take k)))) ∧ Chg (fun j => j = w.heap.size) w1 wr) (fun i _ => nk - (intOf i).toNat)
  case atStart => exact ⟨0, _, Nat.zero_le _, rfl, hbx, World.ownsRow_nil _ _ _ _, Chg.refl _ _⟩
  case round =>
    obtain ⟨k, u, hk, rfl, hb, hown, hC⟩ := hrel
    by_cases hlt : k < nk
    · obtain ⟨y, hy⟩ : ∃ y, ks[k]? = some y := ⟨_, List.getElem?_eq_getElem (by rw [← HNK.out]; exact hlt)⟩
      have ha : a1 = some ⟨b1, off1, none⟩ := by
        rcases HA1.out with h | h
        · exact h
        · rw [h] at hy; cases hy
      subst ha
      have hc0 := HC1.out k y hy
      have g0 := hC.cell hc0 (fun e => by have e : b1 = w.heap.size := e; rw [e] at hc0; have := hbx.only hc0; cases this)
      have hMr : MapIs K3 evI wr m n f := hM1.block (hC.same m hM1.lt (fun e => by omega))
      have hys := (HMEM.out y).1 (List.mem_of_getElem? hy)
      obtain ⟨c, hcv⟩ := Option.isSome_iff_exists.1 hys
      obtain ⟨_, _, _, _, hkw, _⟩ := HKW.out
      have hok : (K3).ok y := hkw y hys
      have hsz := hC.size
      have hbs := hb.cell
      have hbf := hb.frozen
      have HS2 := Lib.hid (take_snoc hy)
      have HCV := Lib.hid hcv
      clear hy hc0 hys hkw
      go_wp2_with (first
        | (at_lookup; refine wpList_get rfl (.tmp 16) (.tmp 17) 59 rfl keyed3 Try.underlying59 (zero3 _) rfl hMr (x := y) hok rfl ?_; simp only [HCV.out, Option.elim, evI])
        | (at_builtin; refine wpList_append_own _ rfl (.tmp 14) (.tmp 20) 22 rfl w1.heap.size 48 i0 (.agg #[.int .i64 0, .int .i64 0]) 2 16 Try.underlying22 hi hz0 hz1 hz2 rfl (by decide) u k _ rfl (hown.out.alloc _) ⟨wr.heap.size, 0, none⟩ 1 1 [.int .i64 y, .int .i64 c] rfl rfl (cell_two_new' _ _ _ _) (fun x hx => by simp at hx; rcases hx with rfl | rfl <;> rfl) (by unfold maxLen; omega) (by omega) (by simp; omega) ?_; intro u' w3 hown' hgrow hnil; obtain ⟨g', cap', rfl⟩ := ownsRow_succ hown'; have hb3 : Boxed w3 w.heap.size 24 u := (hb.alloc _).kept hgrow (hb.not_row (by decide) hown.out); have c3 := hb3.cell; have f3 := hb3.frozen))
      have hg3 : (wr.alloc (Obj.cells #[.int .i64 y, .int .i64 c] 48)).grownBy w3 u.ownBlock := hgrow
      have hne := hb3.not_row (by decide) hown'
      refine ⟨⟨k + 1, _, by omega, by go_num, hb3.set _, ?_, ?_⟩, ?_⟩
      · have := hown'.kept (grownBy_setCell' w3 w.heap.size (.slice (some ⟨g', 0, none⟩) (k + 1) cap')) (.inr hne.symm)
        unfold Hid
        rw [HS2.out]
        unfold nodesF
        rw [List.map_append, ndCells_append]
        simp only [List.map_cons, List.map_nil, HCV.out, Option.getD_some]
        exact this
      · exact ((hC.alloc _).grown hg3 (fun j hj => .inr (hown.out.lt j hj).1)).setCell (.inl rfl) _
      · simp [intOf]; omega
    · have hk' : k = nk := by omega
      subst hk'
      have e0 : ks.take k = ks := List.take_of_length_le (by rw [← HNK.out]; exact Nat.le_refl _)
      rw [e0] at hown
      have hbs := hb.cell
      have hbf := hb.frozen
      have hfin : ∀ W, W.ownsRow w1.heap.size 48 2 u k (ndCells (nodesF f ks)) → TreeAt W (.agg #[u]) (nodesF f ks) := by
        intro W hW
        refine TreeAt.of_own hW (fun n hn => ?_)
        obtain ⟨x, hx, rfl⟩ := List.mem_map.1 hn
        have hxs := (HMEM.out x).1 hx
        obtain ⟨c, hc⟩ := Option.isSome_iff_exists.1 hxs
        obtain ⟨_, _, _, _, hkw, _⟩ := HKW.out
        exact ⟨hkw x hxs, by simp only [hc]; exact HWF.out x c hc⟩
      have hbel : Below w.heap.size w wr := by
        refine ((Below.refl _ _).alloc (Nat.le_refl _) _).trans ((HB1.out.mono (by simp)).trans ?_)
        exact hC.below (fun j h => by omega) (by omega)
      have HFIN := Lib.hid hfin
      have HBEL := Lib.hid hbel
      clear hfin hbel
      have HOWN := Lib.hid hown
      have hu : ∃ p l c, u = .slice p l c := by
        rcases hown.out.2 with ⟨rfl, _⟩ | ⟨g, c, cur, rfl, _⟩
        · exact ⟨_, _, _, rfl⟩
        · exact ⟨_, _, _, rfl⟩
      obtain ⟨p, l, c, rfl⟩ := hu
      clear hown
      go_wp2
      have hbb := hb.set (.slice p l c)
      refine bodyPost_ret (results_cell_row rfl _ _ w.heap.size 24 #[.slice p l c] (0, 0) _ rfl hbb Try.underlying24 rfl (by kernel_rfl)) rfl ?_
      refine ⟨_, _, rfl, HFIN.out _ (HOWN.out.kept (grownBy_setCell' wr w.heap.size (.slice p l c)) (.inr (hb.not_row (by decide) HOWN.out).symm)), ?_, nodesF_of f ks HMEM.out, ?_, HBEL.out.setCell (Nat.le_refl _) _⟩
      · rw [nodesF_keys]; exact HSORT.out
      · rw [nodesF_length, ← HNK.out]; exact hkn

set_option maxRecDepth 100000 in
set_option maxHeartbeats 1000000 in
theorem tree46_nil (w : World) :
    Calls Try.prog 46 #[.map none] w fun e w' => e = .returned (.agg #[.slice none 0 0]) ∧ Below w.heap.size w w' := by
  have hS := sorted65_nil (w.alloc (.cells #[.slice none 0 0] 24))
  simp only [World.size_alloc] at hS
  have HS := Lib.hid hS
  clear hS
  go_enter Try.func46, Try.ntmps46
  go_wp2_with (first
    | (go_at_call 66; refine (keys66_any none _).mono ?_; rintro e w' ⟨rfl, rfl⟩)
    | (go_at_call 65; refine HS.out.mono ?_; rintro e w1 ⟨rfl, hB1⟩; have hbx : Boxed w1 w.heap.size 24 (.slice none 0 0) := (hB1.block w.heap.size (by simp)).trans (Boxed.new w 24 (.slice none 0 0)); have hc := hbx.cell; have hf := hbx.frozen; have HB := Lib.hid hB1; clear hB1))
  go_loopw [9] (fun i wr => i = .int .i64 0 ∧ wr = w1) (fun _ _ => 0)
  case atStart => exact ⟨rfl, rfl⟩
  case round =>
    obtain ⟨rfl, rfl⟩ := hrel
    go_wp2
    have hbb := hbx.set (.slice none 0 0)
    refine bodyPost_ret (results_cell_row rfl _ _ w.heap.size 24 #[.slice none 0 0] (0, 0) _ rfl hbb Try.underlying24 rfl (by kernel_rfl)) rfl ?_
    exact ⟨rfl, (((Below.refl _ _).alloc (Nat.le_refl _) _).trans (HB.out.mono (by omega))).setCell (Nat.le_refl _) _⟩
end Go.Proofs.Ytofkmapokdcphaa
