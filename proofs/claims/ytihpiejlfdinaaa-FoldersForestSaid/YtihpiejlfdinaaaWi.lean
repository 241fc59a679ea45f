import Derived.Test.YtihpiejlfdinaaaWh
namespace Go.Proofs.Ytihpiejlfdinaaa.PF
open Go Go.RowKit Go.Maps Go.My Go.Shelf Go.Sort Go.Proofs.YtihpiejlfdinaaaW.PrintWords

/-! ### Below -/

theorem sort29 {w : World} {base n : Nat} {v : Value} {ks : List Int} (h : w.ownsRow base 3 1 v n (ks.map (Value.int .i64))) (hl : n ≤ 1000) :
    Calls Try.prog 29 #[v] w fun e w' => e = .returned (.tuple #[]) ∧ w'.ownsRow base 3 1 v n ((ks.mergeSort fun x y => decide (x ≤ y)).map (Value.int .i64)) ∧ w.grownBy w' v.ownBlock := by
  have h1 := h.1
  have hk : ks.length = n := by simpa using h1
  rcases h.2 with ⟨rfl, h0⟩ | ⟨g, cap, cur, rfl, hg, hh, hc, hm, hs, ht⟩
  · have e : ks = [] := List.length_eq_zero_iff.1 (by omega)
    subst e
    refine (Try.slices_Sort_int_none none 0 w).mono ?_
    rintro e w' ⟨rfl, rfl⟩
    refine ⟨rfl, by simpa using h, ⟨rfl, rfl, rfl, Nat.le_refl _, fun _ _ _ => rfl⟩⟩
  · subst hk
    have hH := holds_of_blockI hh (by simpa using ht)
    refine (Try.slices_Sort_int g 0 cap ks w hH (Array.getElem?_eq_some_iff.1 hh).1 (by omega)).mono ?_
    rintro e w' ⟨rfl, m, os, rfl⟩
    refine ⟨rfl, ?_, grownBy_sortedI _⟩
    have := ownsRow_sortedI (n := m) (os := os) (ss := ks) (ts := ks.mergeSort fun x y => decide (x ≤ y)) (List.length_mergeSort _) hg hh hc hm (by simpa using hs)
    exact this

theorem sorted_len : ∀ (n : Nat) (a : Int) {l : List Int}, l.Pairwise (· < ·) → (∀ y ∈ l, a ≤ y ∧ y < a + n) → l.length ≤ n
  | _, _, [], _, _ => Nat.zero_le _
  | 0, a, x :: l, _, h => by have := h x (by simp); omega
  | n + 1, a, x :: l, hp, h => by
    have hp := List.pairwise_cons.1 hp
    have := sorted_len n (a + 1) hp.2 (fun y hy => by
      have h1 := hp.1 y hy
      have h2 := h x (by simp)
      have h3 := h y (by simp [hy])
      omega)
    simp only [List.length_cons]
    omega
theorem nodup_len {ks : List Int} (h1 : ks.Nodup) {F : Forest} (hF : FKeys F) (h2 : ∀ y ∈ ks, (F y).isSome = true) : ks.length ≤ 16 := by
  have h3 : (ks.mergeSort (fun x y => decide (x ≤ y))).Nodup := (List.mergeSort_perm ks _).nodup_iff.2 h1
  have h4 : (ks.mergeSort (fun x y => decide (x ≤ y))).Pairwise (· < ·) := ((mergeSort_sorted ks).and h3).imp (fun ⟨a, b⟩ => by omega)
  have := sorted_len 16 0 h4 (fun y hy => by
    obtain ⟨q, hq⟩ := Option.isSome_iff_exists.1 (h2 y (List.mem_mergeSort.1 hy))
    obtain ⟨_, a, b, _⟩ := hF y q hq
    omega)
  rwa [List.length_mergeSort] at this

set_option maxRecDepth 100000 in
set_option maxHeartbeats 4000000 in
theorem below12 (A : Option Addr) (c : Nat) (l : List S29) (x : Int) (w : World) (hl : l.length ≤ 100) (h : Kd.C k29 w A l.length l) (hx : (Lit.int .i64 x).wf = true) :
    Calls Try.prog 12 #[.slice A l.length c, .int .i64 x] w fun e w' => ∃ v, e = .returned v ∧ Kd.R (Kd.int .i64) 3 w' w.heap.size (fun _ => True) v (belowP (growF l) x) ∧ Below w.heap.size w w' := by
  obtain ⟨i0, hi, hz0, hz1, hz2⟩ := info_parts info3
  have HG := Lib.hid (grow27 A c l w hl h)
  have hFI := growF_inv l
  generalize growF l = F at *
  obtain ⟨n, hn⟩ : ∃ n, n = l.length := ⟨_, rfl⟩
  rw [← hn] at HG ⊢
  have HFI := Lib.hid hFI
  have hok : (K3).ok x := hx
  clear hn h hFI hl
  cases hs : (F x).isSome with
  | false =>
    have he : belowP F x = [] := by unfold belowP; rw [hs]; rfl
    have HE := Lib.hid he
    have HS := Lib.hid hs
    clear he hs
    go_enter Try.func12, Try.ntmps12
    go_wp2_with (first
      | (go_at_call 27; refine HG.out.mono ?_; rintro e w1 ⟨mb, cnt, rfl, hmb, hcnt, hM, hB1⟩)
      | (at_lookup; refine wpList_look rfl (.tmp 12) (.tmp 13) 48 rfl keyed3 Try.underlying48 (zero29 _) rfl hM (x := x) hok rfl ?_; rw [elim_val, HS.out]; unfold S29.val))
    go_ret
    refine ⟨_, rfl, ?_, hB1.alloc hB1.size _⟩
    rw [HE.out]
    exact Kd.R_nil _ _ _ _ _
  | true =>
    have he : belowP F x = (keysF F).filter fun y => withinF F y x := by unfold belowP; rw [hs]; rfl
    have HE := Lib.hid he
    have HS := Lib.hid hs
    clear he hs
    go_enter Try.func12, Try.ntmps12
    go_wp2_with (first
      | (go_at_call 27; refine HG.out.mono ?_; rintro e w1 ⟨mb, cnt, rfl, hmb, hcnt, hM, hB1⟩; have hM1 := hM.alloc (.cells #[.int .i64 (look F x).f0, .int .i64 (look F x).f1, .int .i64 (look F x).f2, .int .i64 (look F x).f3, .string (look F x).f4] 29))
      | (at_lookup; refine wpList_look rfl (.tmp 12) (.tmp 13) 48 rfl keyed3 Try.underlying48 (zero29 _) rfl hM (x := x) hok rfl ?_; rw [elim_val, HS.out]; unfold S29.val)
      | (at_range; refine wp_rng _ rfl (.tmp 19) rfl mb cnt F rfl hM1 ?_; intro w2 c2 hrg2 hg2 hs2)
      | go_in)
    go_frame
    obtain ⟨r, hr⟩ : ∃ r, r = (w1.alloc (.cells #[.int .i64 (look F x).f0, .int .i64 (look F x).f1, .int .i64 (look F x).f2, .int .i64 (look F x).f3, .string (look F x).f4] 29)).heap.size := ⟨_, rfl⟩
    rw [← hr] at hrg2 hs2 ⊢
    have hr1 : w1.heap.size + 1 ≤ r := by rw [hr]; simp
    have hr2 : r ≤ w1.heap.size + 1 := by rw [hr]; simp
    clear hr
    have hB2 : Below w.heap.size w w2 := (hB1.alloc hB1.size _).grown hg2 (by have := hB1.size; simp; omega) (fun j hj => by cases hj)
    have HB2 := Lib.hid hB2
    have hs2' : w2.heap.size = w1.heap.size + 2 := by omega
    have hmb2 : mb < w2.heap.size := by have := hM.lt; omega
    have hB1s := hB1.size
    clear hM hM1 hB1 hB2 hg2
    go_loopg [4] c2 (fun gg s4 wr => ∃ (left : Int → Bool) (u : Value) (ks : List Int), s4 = u ∧ RngIs wr mb r cnt F left gg ∧ Hid (wr.ownsRow w2.heap.size 3 1 u ks.length (ks.map (Value.int .i64))) ∧ Hid (ks.Nodup ∧ ∀ y, y ∈ ks ↔ ((F y).isSome = true ∧ left y = false ∧ withinF F y x = true)) ∧ Below w.heap.size w wr ∧ w2.heap.size ≤ wr.heap.size)
    case atStart =>
      refine ⟨_, .slice none 0 0, [], rfl, hrg2, World.ownsRow_nil _ _ _ _, ⟨List.nodup_nil, fun y => ?_⟩, HB2.out, Nat.le_refl _⟩
      simp only [List.not_mem_nil, false_iff]
      rintro ⟨h1, h2, _⟩
      rw [h1] at h2; cases h2
    case round =>
      obtain ⟨left, u, ks, rfl, hrg, hown, hks, hB, hsz⟩ := hrel
      go_wp2_with (first | (at_next; refine wp_rngNext _ rfl (.tmp 20) rfl mb r cnt F left gk rfl hrg ?_ ?_) | go_in)
      · intro hl0
        have hperm : (ks.mergeSort fun x y => decide (x ≤ y)) = (keysF F).filter fun y => withinF F y x := by
          refine sorted_ext ?_ ((keysF_sorted F).filter _) fun y => ?_
          · have h1 := mergeSort_sorted ks
            have h2 : (ks.mergeSort (fun x y => decide (x ≤ y))).Nodup := (List.mergeSort_perm ks _).nodup_iff.2 hks.out.1
            exact (h1.and h2).imp (fun ⟨a, b⟩ => by omega)
          · rw [List.mem_mergeSort, hks.out.2 y, List.mem_filter, mem_keysF HFI.out.keys, hl0 y]
            simp
        have hlen := nodup_len hks.out.1 HFI.out.keys (fun y hy => ((hks.out.2 y).1 hy).1)
        have HST := Lib.hid (sort29 hown.out (by omega))
        have HP := Lib.hid hperm
        clear hperm hl0
        go_wp2_with (go_at_call 29; refine HST.out.mono ?_; rintro e w4 ⟨rfl, hown4, hg4⟩)
        go_ret
        refine ⟨_, rfl, ?_, hB.grown hg4 hB.size (fun j hj => by have := (hown.out.lt j hj).1; have := HB2.out.size; omega)⟩
        rw [HE.out, ← HP.out]
        refine R_ints (own_weaken ?_ HB2.out.size)
        rw [List.length_mergeSort]
        exact hown4
      · intro y q w3 c3 hq hly hrg3 hlt hg3 hs3 hen
        unfold S29.val at hen
        have hB3 : Below w.heap.size w w3 := hB.grown hg3 hB.size (by intro k hk; cases hk; omega)
        have hM3 := hrg3.map
        obtain ⟨hq2, hy0, hy1, _⟩ := HFI.out.keys y q hq
        have hyw : (Lit.int .i64 y).wf = true := wf_small (by omega) (by omega)
        have hcall : Calls Try.prog 28 #[.map (some mb), .int .i64 y, .int .i64 x] w3 fun e w' => e = .returned (.bool (withinF F y x)) ∧ Below w3.heap.size w3 w' := within28 mb cnt 8 F y x (HFI.out.fin _) HFI.out.wf hyw w3 hM3
        have HC := Lib.hid hcall
        have hown3 : w3.ownsRow w2.heap.size 3 1 u4 ks.length (ks.map (Value.int .i64)) := hown.out.kept hg3 (.inr (fun e => by have := (hown.out.lt _ e).1; omega))
        have HO3 := Lib.hid hown3
        have HQ := Lib.hid hq
        have HLY := Lib.hid hly
        have HLT := Lib.hid hlt
        have hlen := nodup_len hks.out.1 HFI.out.keys (fun y hy => ((hks.out.2 y).1 hy).1)
        clear hcall hown3 hq hly hlt hM3 hrg hg3 hq2
        cases hw : withinF F y x with
        | false =>
          rw [hw] at HC
          have HW := Lib.hid hw
          clear hw
          go_wp2_with (go_at_call 28; refine HC.out.mono ?_; rintro e w4 ⟨rfl, hB4⟩)
          go_roundg c3
          case measure => exact HLT.out
          case rel =>
            refine ⟨_, u4, ks, rfl, hrg3.below hB4, ownsRow_frame HO3.out (fun j hj => hB4.block j (HO3.out.lt j hj).2), ⟨hks.out.1, fun z => ?_⟩, below_step hB3 hB3.size hB4, by have := hB4.size; omega⟩
            rw [hks.out.2 z]
            refine and_congr_right fun _ => ?_
            by_cases e : z = y
            · subst e; simp [HLY.out, HW.out]
            · simp [e]
        | true =>
          rw [hw] at HC
          have HW := Lib.hid hw
          clear hw
          go_wp2_with (first
            | (go_at_call 28; refine HC.out.mono ?_; rintro e w4 ⟨rfl, hB4⟩; have hown4 := ownsRow_frame HO3.out (fun j hj => hB4.block j (HO3.out.lt j hj).2); have HO4 := Lib.hid hown4; have hB4s := hB4.size; clear hown4)
            | (at_builtin; refine wpList_append_own _ rfl (.tmp 29) (.tmp 31) 25 rfl w2.heap.size 3 i0 (.int .i64 0) 1 8 Try.underlying25 hi hz0 hz1 hz2 rfl (by decide) u4 ks.length _ rfl (HO4.out.alloc _) ⟨w4.heap.size, 0, none⟩ 1 1 [.int .i64 y] rfl rfl (cell_one_new _ _ _) (fun x hx => by simp at hx; subst hx; rfl) (by unfold maxLen; omega) (by omega) (by simp; omega) ?_; intro u' w5 hown' hgrow hnil))
          go_roundg c3
          case measure => exact HLT.out
          case rel =>
            have hrg4 := (hrg3.below hB4).alloc (.cells #[.int .i64 y] 3)
            refine ⟨_, u', ks ++ [y], rfl, hrg4.kept hgrow (fun e => ?_) (fun e => ?_), ?_, ⟨?_, fun z => ?_⟩, ((below_step hB3 hB3.size hB4).alloc (below_step hB3 hB3.size hB4).size _).grown hgrow (by have := (below_step hB3 hB3.size hB4).size; simp; omega) (fun j hj => by have := (HO4.out.lt j hj).1; have := HB2.out.size; omega), by have := hgrow.size; simp at this; omega⟩
            · have := (HO4.out.lt mb e.symm).1; omega
            · have := (HO4.out.lt _ e.symm).1; omega
            · unfold Hid
              rw [List.length_append, List.map_append]
              exact hown'
            · rw [List.nodup_append]
              refine ⟨hks.out.1, by simp, fun a ha b hb => ?_⟩
              rw [List.mem_singleton] at hb
              subst hb
              intro e
              subst e
              have := ((hks.out.2 a).1 ha).2.1
              rw [HLY.out] at this; cases this
            · rw [List.mem_append, List.mem_singleton, hks.out.2 z]
              by_cases e : z = y
              · subst e; simp [HLY.out, HW.out, HQ.out]
              · simp [e]
end Go.Proofs.Ytihpiejlfdinaaa.PF
