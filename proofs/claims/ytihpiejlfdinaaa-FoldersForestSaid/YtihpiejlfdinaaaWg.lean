import Derived.Test.YtihpiejlfdinaaaWf
import Derived.Test.YtihpiejlfdinaaaWd
import Derived.Test.YtihpiejlfdinaaaWe
import Derived.Test.YtihpiejlfdinaaaUb
import Derived.Deep.CutRange
import Derived.Deep.RegionHeld3
namespace Go.Proofs.Ytihpiejlfdinaaa.PF
open Go Go.RowKit Go.Maps Go.My Go.Proofs.YtihpiejlfdinaaaW.PrintWords

/-- What the callers tell of a row of places. -/
theorem cells_of_C {w : World} {A : Option Addr} {n : Nat} {xs : List S29} (h : Kd.C k29 w A n xs) : xs.length = n ∧ (0 < n → ∃ ad, A = some ad ∧ ∀ j x, xs[j]? = some x → ∀ i v, (cellsOf x)[i]? = some v → w.cell? (ad.add (j * 5 + i)) = some v) := by
  obtain ⟨h1, _, h3⟩ := h
  refine ⟨h1, fun hp => ?_⟩
  obtain ⟨ad, e, hc⟩ := h3 hp
  refine ⟨ad, e, fun j x hx i v hv => ?_⟩
  obtain ⟨c, _, hK, hcell⟩ := hc j x hx
  obtain rfl := k29_open hK
  exact hcell i v hv

/-- Clone, at whatever row came in. -/
theorem clone43_any (A : Option Addr) (c : Nat) (xs : List S29) (w : World) (hl : xs.length ≤ 1000) (h : Kd.C k29 w A xs.length xs) :
    Calls Try.prog 43 #[.slice A xs.length c] w fun e w' => ((e = .returned (.slice none 0 0) ∧ xs = []) ∨ ∃ g cap, e = .returned (.slice (some ⟨g, 0, none⟩) xs.length cap) ∧ xs.length ≤ cap ∧ w.heap.size ≤ g ∧ RowAt w' g xs) ∧ Below w.heap.size w w' := by
  obtain ⟨_, hc⟩ := cells_of_C h
  cases A with
  | none =>
    have hn : xs = [] := by
      cases xs with
      | nil => rfl
      | cons x xs => obtain ⟨ad, e, _⟩ := hc (by simp); cases e
    refine (clone43_nil _ _ _).mono ?_
    rintro e w' ⟨rfl, rfl⟩
    exact ⟨.inl ⟨rfl, hn⟩, Below.refl _ _⟩
  | some a =>
    refine (clone43 a c xs w hl fun j x hx i v hv => ?_).mono ?_
    · have hp : 0 < xs.length := by have := (List.getElem?_eq_some_iff.1 hx).1; omega
      obtain ⟨ad, e, hcell⟩ := hc hp
      cases e
      exact hcell j x hx i v hv
    · rintro e w' ⟨g, cap, rfl, h1, h2, h3, h4⟩
      exact ⟨.inr ⟨g, cap, rfl, h1, h2, h3⟩, h4⟩

theorem index40_nil (c : Nat) (w : World) (fv : Value) : Calls Try.prog 40 #[.slice none 0 c, fv] w fun e w' => e = .returned (.int .i64 (-1)) ∧ w' = w := by
  go_enter Try.func40, Try.ntmps40
  go_wp2
  refine wp_loop_rounds 1 ?_
  rw [rounds_succ]
  go_wp2
  go_ret
  exact ⟨rfl, rfl⟩
theorem delete42_nil (c : Nat) (w : World) (fv : Value) : Calls Try.prog 42 #[.slice none 0 c, fv] w fun e w' => e = .returned (.slice none 0 c) ∧ w' = w := by
  have H := Lib.hid (index40_nil c w fv)
  go_enter Try.func42, Try.ntmps42
  go_wp2_with (go_at_call 40; refine H.out.mono ?_; rintro e w' ⟨rfl, rfl⟩)
  go_ret
  exact ⟨rfl, rfl⟩

/-- The forest behind k places. -/
def foldK (l : List S29) (k : Nat) : Forest := (l.take k).foldl step fun _ => none
theorem foldK_succ {l : List S29} {k : Nat} {p : S29} (h : l[k]? = some p) : foldK l (k + 1) = step (foldK l k) p := by
  unfold foldK; rw [take_snoc h, List.foldl_append]; rfl
theorem foldK_inv {l : List S29} (h : ∀ x ∈ l, x.ok = true) (k : Nat) : FInv (foldK l k) := FInv.empty.fold fun x hx => h x (List.mem_of_mem_take hx)
theorem FInv.wf {F : Forest} (hF : FInv F) : FWf F := fun x q hq => (hF.keys x q hq).2.2.2

theorem below_go {a b c : World} (h : Below a.heap.size a b) (k : Below b.heap.size b c) : Below a.heap.size a c := h.trans (k.mono h.size)
theorem growF_nil : growF [] = fun _ => none := rfl

theorem sortf45_nil (c : Nat) (w : World) (fv : Value) : Calls Try.prog 45 #[.slice none 0 c, fv] w fun e w' => e = .returned (.tuple #[]) ∧ w' = w := AnyF.slices_SortFunc_none Try.sortf45 none c fv w

set_option maxRecDepth 100000 in
set_option maxHeartbeats 1000000 in
theorem grow27_nil (c : Nat) (w : World) :
    Calls Try.prog 27 #[.slice none 0 c] w fun e w' => ∃ mb cnt, e = .returned (.map (some mb)) ∧ w.heap.size ≤ mb ∧ cnt ≤ 200 ∧ MapIs K3 S29.val w' mb cnt (growF []) ∧ Below w.heap.size w w' := by
  have hmm := @run_makeMap Try.prog
  have HM0 := Lib.hid (MapIs.made K3 S29.val w)
  go_enter Try.func27, Try.ntmps27
  go_wp2_with (first
    | (go_at_call 43; refine (clone43_nil _ _ _).mono ?_; rintro e w1 ⟨rfl, rfl⟩)
    | (go_at_call 42; refine (delete42_nil _ _ _).mono ?_; rintro e w1 ⟨rfl, rfl⟩)
    | (go_at_call 45; refine (sortf45_nil _ _ _).mono ?_; rintro e w1 ⟨rfl, rfl⟩))
  refine wp_loop_rounds 1 ?_
  rw [rounds_succ]
  go_wp2
  go_ret
  exact ⟨w.heap.size, 0, rfl, Nat.le_refl _, by omega, HM0.out, (Below.refl _ _).alloc (Nat.le_refl _) _⟩

set_option maxRecDepth 100000 in
set_option maxHeartbeats 4000000 in
theorem grow27_some (a : Addr) (c : Nat) (l : List S29) (w : World) (hl : l.length ≤ 100) (hc : ∀ j x, l[j]? = some x → ∀ i v, (cellsOf x)[i]? = some v → w.cell? (a.add (j * 5 + i)) = some v) :
    Calls Try.prog 27 #[.slice (some a) l.length c] w fun e w' => ∃ mb cnt, e = .returned (.map (some mb)) ∧ w.heap.size ≤ mb ∧ cnt ≤ 200 ∧ MapIs K3 S29.val w' mb cnt (growF l) ∧ Below w.heap.size w w' := by
  have hmm := @run_makeMap Try.prog
  have HC := Lib.hid (clone43 a c l (w.alloc (.map #[] 0)) (by omega) (fun j x hx i v hv => Lib.cell?_alloc_some _ (hc j x hx i v hv)))
  obtain ⟨n, hn⟩ : ∃ n, n = l.length := ⟨_, rfl⟩
  have HD := Lib.hid fun g cap W (h : RowAt W g l) (h' : l.length ≤ cap) => delete42 g cap l W h (by omega) h'
  have hfl : (l.filter S29.ok).length ≤ 100 := Nat.le_trans (List.length_filter_le _ _) hl
  have HS := Lib.hid fun g cap W (h : RowAt W g (l.filter S29.ok)) => sortf45 g cap (l.filter S29.ok) W h (by omega)
  have hG : growF l = foldK (sortV l) (sortV l).length := by unfold growF foldK; rw [List.take_length]
  have hms := mergeSort_sortV l
  have hzl : (l.filter S29.ok).length = (sortV l).length := (sortV_perm l).length_eq.symm
  have hok : ∀ x ∈ sortV l, x.ok = true := fun x hx => (mem_sortV.1 hx).2
  rw [hms] at HS
  rw [hzl] at HD HS hfl
  rw [hG]
  obtain ⟨m, hm⟩ : ∃ m, m = (sortV l).length := ⟨_, rfl⟩
  rw [← hn] at HC HD hl ⊢
  rw [← hm] at HD HS hfl ⊢
  generalize sortV l = zs at *
  have HMZ := Lib.hid hm
  have HOK := Lib.hid hok
  have HM0 := Lib.hid (MapIs.made K3 S29.val w)
  clear hm hok hn hc hms hzl hG
  go_enter Try.func27, Try.ntmps27
  go_wp2_with (first
    | (go_at_call 43; refine HC.out.mono ?_; rintro e w1 ⟨g, cap, rfl, hcap, hg, hR, hB1⟩)
    | (go_at_call 42; refine (HD.out g cap w1 hR hcap).mono ?_; rintro e w2 ⟨cap2, rfl, hR2, hC2⟩)
    | (go_at_call 45; refine (HS.out g cap2 w2 hR2).mono ?_; rintro e w3 ⟨rfl, hR3, hC3⟩))
  have hmb : w.heap.size < w1.heap.size := Nat.lt_of_lt_of_le (by simp) hB1.size
  have hgne : w.heap.size ≠ g := by simp at hg; omega
  have hM1 := HM0.out.below hB1 (by simp)
  have hC12 := hC2.trans hC3 (fun k h => .inl h)
  have hM3 : MapIs K3 S29.val w3 w.heap.size 0 (fun _ => none) := hM1.block (hC12.same _ hmb hgne)
  have hB3 : Below w.heap.size w w3 := (((Below.refl _ w).alloc (Nat.le_refl _) _).trans (hB1.mono (by simp))).trans (Chg.below hC12 (fun k h => by simp at hg; omega) (by omega))
  have HB3 := Lib.hid hB3
  have HR3 := Lib.hid hR3
  clear hB1 hC2 hC3 hC12 hM1 hR hR2 hB3 hR3 hmb HD HS HC HM0
  go_loopg [17] m (fun gg s17 wr => ∃ (k : Nat), s17 = .int .i64 k ∧ k ≤ m ∧ m - k ≤ gg ∧ MapIs K3 S29.val wr w.heap.size k (foldK zs k) ∧ Hid (RowAt wr g zs) ∧ Hid (Below w.heap.size w wr))
  case atStart => exact ⟨0, rfl, by omega, by omega, hM3, HR3.out, HB3.out⟩
  case round =>
    obtain ⟨k, rfl, hkm, hgg, hM, hR, hB⟩ := hrel
    by_cases hlt : k < m
    · obtain ⟨p, hp⟩ : ∃ p, zs[k]? = some p := ⟨_, List.getElem?_eq_getElem (by rw [← HMZ.out]; exact hlt)⟩
      obtain ⟨g0, g1, g2, g3, g4⟩ := hR.out.get hp
      have hpok := HOK.out p (List.mem_of_getElem? hp)
      have hFI := foldK_inv HOK.out k
      have hbd := ok_bounds hpok
      have hsucc := foldK_succ hp
      obtain ⟨F, hF⟩ : ∃ F, F = foldK zs k := ⟨_, rfl⟩
      rw [← hF] at hM hFI hsucc
      have HSUCC := Lib.hid hsucc
      have HFI := Lib.hid hFI
      have HPOK := Lib.hid hpok
      have hokp : (K3).ok p.f3 := wf_small (by omega) (by omega)
      have hM' := hM.alloc (.cells #[.int .i64 p.f0, .int .i64 p.f1, .int .i64 p.f2, .int .i64 p.f3, .string p.f4] 29)
      have hbn := Box5.new wr p
      obtain ⟨k0, k1, k2, k3, k4⟩ := hbn.cell
      have HBD := Lib.hid hbd
      have hw0 : wr.heap.size < (wr.alloc (.cells #[.int .i64 p.f0, .int .i64 p.f1, .int .i64 p.f2, .int .i64 p.f3, .string p.f4] 29)).heap.size := by simp
      have dlt : decide ((k : Int) < (m : Int)) = true := decide_eq_true (by omega)
      clear hF hsucc hpok hFI hp hbd
      go_wp2_with (at_lookup; refine wpList_look rfl (.tmp 22) (.tmp 24) 48 rfl keyed3 Try.underlying48 (zero29 _) rfl hM' (x := p.f3) hokp rfl ?_; rw [elim_val]; unfold S29.val)
      obtain ⟨W, hW⟩ : ∃ W, W = ((wr.alloc (.cells #[.int .i64 p.f0, .int .i64 p.f1, .int .i64 p.f2, .int .i64 p.f3, .string p.f4] 29)).alloc (.cells #[.int .i64 (look F p.f3).f0, .int .i64 (look F p.f3).f1, .int .i64 (look F p.f3).f2, .int .i64 (look F p.f3).f3, .string (look F p.f3).f4] 29)) := ⟨_, rfl⟩
      rw [← hW]
      have hBW : Below wr.heap.size wr W := by rw [hW]; exact ((Below.refl _ _).alloc (Nat.le_refl _) _).alloc (by simp) _
      have hM2 : MapIs K3 S29.val W w.heap.size k F := hM.below hBW hM.lt
      have hbW : Box5 W wr.heap.size p := by rw [hW]; exact hbn.below ((Below.refl _ _).alloc (Nat.le_refl _) _)
      have hRW := hR.out.below hBW
      have HRW := Lib.hid hRW
      have HBW := Lib.hid (below_step hB.out hB.out.size hBW)
      have HM2 := Lib.hid hM2
      have HbW := Lib.hid hbW
      have HK := Lib.hid fun (W' : World) (hb : Below W.heap.size W W') => (show W'.cell? ⟨wr.heap.size, 2, none⟩ = some (.int .i64 p.f2) ∧ W'.cell? ⟨wr.heap.size, 3, none⟩ = some (.int .i64 p.f3) ∧ Below W.heap.size W W' from ⟨cellK hbW.cell.2.2.1 hb, cellK hbW.cell.2.2.2.1 hb, hb⟩)
      have hp3w : (Lit.int .i64 p.f3).wf = true := hokp
      have HWI := Lib.hid fun (W' : World) (hb : Below W.heap.size W W') => (show Calls Try.prog 28 #[.map (some w.heap.size), .int .i64 p.f3, .int .i64 p.f2] W' fun e w' => e = .returned (.bool (withinF F p.f3 p.f2)) ∧ Below W'.heap.size W' w' from within28 w.heap.size k 8 F p.f3 p.f2 (HFI.out.fin _) HFI.out.wf hp3w W' (HM2.out.below hb HM2.out.lt))
      have HLV := Lib.hid fun (W' : World) (hb : Below W.heap.size W W') => (show Calls Try.prog 47 #[.map (some w.heap.size), .int .i64 p.f3] W' fun e w' => e = .returned (.int .i64 (lvl F p.f3 : Nat)) ∧ Below W'.heap.size W' w' from level47 w.heap.size k 8 F p.f3 (HFI.out.fin _) (by have := HFI.out.up_ends p.f3; unfold upL at this; omega) HFI.out.wf hp3w W' (HM2.out.below hb HM2.out.lt))
      have HHT := Lib.hid fun (W' : World) (hb : Below W.heap.size W W') => (show Calls Try.prog 48 #[.map (some w.heap.size), .int .i64 p.f2] W' fun e w' => e = .returned (.int .i64 (ht F p.f2 : Nat)) ∧ Below W'.heap.size W' w' from (height48 w.heap.size k 9 F HFI.out.keys p.f2 (HFI.out.deep (by omega) (by have := HBD.out; omega)) (by omega) W' (HM2.out.below hb HM2.out.lt)).mono fun _ _ h => ⟨h.1, h.2.1⟩)
      have hlv : lvl F p.f3 ≤ 8 := by have := HFI.out.up_ends p.f3; unfold lvl; split <;> omega
      have hht : ht F p.f2 ≤ 9 := by
        by_cases c : ht F p.f2 ≤ 9
        · exact c
        · obtain ⟨y, hy⟩ := (lt_ht HFI.out (x := p.f2) (i := 9) (by have := HBD.out; omega)).1 (by omega)
          have := (ends_steps (HFI.out.fin y) hy).1
          omega
      clear hW hBW hM2 hbW hRW hM hM' hbn g0 g1 g2 g3 g4 k0 k1 k2 k3 k4 hR hB
      go_cut [8, 17, 54] from 17 to 59 (fun v8 v17 v54 wc => (∃ b, v8 = .bool b) ∧ v17 = .int .i64 k ∧ v54 = .bool (bad F p) ∧ Hid (Below W.heap.size W wc))
      case first =>
        obtain ⟨c2, c3, _⟩ := HK.out W (Below.refl _ _)
        by_cases ha : 0 ≤ p.f3
        · have da : decide (0 ≤ p.f3) = true := decide_eq_true ha
          cases hs : (F p.f3).isSome with
          | false =>
            have hbad : Hid (bad F p = true) := by
              unfold Hid bad
              have : (F p.f3).isNone = true := by cases hf : F p.f3 with | none => rfl | some q => rw [hf] at hs; cases hs
              simp [ha, this]
            clear ha hs
            go_quiet (fail)
            go_wp2
            go_meet
            case rel => exact ⟨⟨_, rfl⟩, rfl, congrArg Value.bool hbad.out.symm, below_drewN _ _⟩
          | true =>
            have hnone : (F p.f3).isNone = false := by cases hf : F p.f3 with | none => rw [hf] at hs; cases hs | some q => rfl
            cases hw : withinF F p.f3 p.f2 with
            | true =>
              have hbad : Hid (bad F p = true) := by
                unfold Hid bad
                simp [ha, hw]
              rw [hw] at HWI
              clear ha hs hw hnone
              have B0 := Lib.hid ((Below.refl W.heap.size W).drew)
              refine wp_region_held_drew (S := fun w' => w'.cell? ⟨wr.heap.size, 2, none⟩ = some (.int .i64 p.f2) ∧ w'.cell? ⟨wr.heap.size, 3, none⟩ = some (.int .i64 p.f3) ∧ Below W.heap.size W w') (by kernel_rfl) (HK.out _ B0.out) (fun hHeld => ?_)
              refine takeT (i := 0) (v := (.pointer (some ⟨wr.heap.size, 3, none⟩))) rfl (by kernel_rfl) (by kernel_rfl) (by kernel_rfl) (fun _ _ _ h => h) rfl ?_ (by assumption) ?_
              · intro w' hw'; go_split_ands; go_simp
              simp only [List.setIfInBounds_toArray, List.set_cons_zero, List.set_cons_succ]
              refine takeT (i := 1) (v := (.int .i64 p.f3)) rfl (by kernel_rfl) (by kernel_rfl) (by kernel_rfl) (fun _ _ _ h => h) rfl ?_ (by assumption) ?_
              · intro w' hw'; go_split_ands; go_simp
              simp only [List.setIfInBounds_toArray, List.set_cons_zero, List.set_cons_succ]
              refine takeT (i := 2) (v := (.bool true)) rfl (by kernel_rfl) (by kernel_rfl) (by kernel_rfl) (fun _ _ _ h => h) rfl ?_ (by assumption) ?_
              · intro w' hw'; go_split_ands; go_simp
              simp only [List.setIfInBounds_toArray, List.set_cons_zero, List.set_cons_succ]
              refine takeT (i := 3) (v := (.bool true)) rfl (by kernel_rfl) (by kernel_rfl) (by kernel_rfl) (fun _ _ _ h => h) rfl ?_ (by assumption) ?_
              · intro w' hw'; go_split_ands; go_simp
              simp only [List.setIfInBounds_toArray, List.set_cons_zero, List.set_cons_succ]
              refine takeT (i := 4) (v := (.bool true)) rfl (by kernel_rfl) (by kernel_rfl) (by kernel_rfl) (fun _ _ _ h => h) rfl ?_ (by assumption) ?_
              · intro w' hw'; go_split_ands; go_simp
              simp only [List.setIfInBounds_toArray, List.set_cons_zero, List.set_cons_succ]
              refine takeT (i := 5) (v := (.bool false)) rfl (by kernel_rfl) (by kernel_rfl) (by kernel_rfl) (fun _ _ _ h => h) rfl ?_ (by assumption) ?_
              · intro w' hw'; go_split_ands; go_simp
              simp only [List.setIfInBounds_toArray, List.set_cons_zero, List.set_cons_succ]
              refine takeT (i := 6) (v := (.bool false)) rfl (by kernel_rfl) (by kernel_rfl) (by kernel_rfl) (fun _ _ _ h => h) rfl ?_ (by assumption) ?_
              · intro w' hw'; go_split_ands; go_simp
              simp only [List.setIfInBounds_toArray, List.set_cons_zero, List.set_cons_succ]
              refine takeT (i := 7) (v := (.map (some w.heap.size))) rfl (by kernel_rfl) (by kernel_rfl) (by kernel_rfl) (fun _ _ _ h => h) rfl ?_ (by assumption) ?_
              · intro w' hw'; go_split_ands; go_simp
              simp only [List.setIfInBounds_toArray, List.set_cons_zero, List.set_cons_succ]
              refine takeT (i := 8) (v := (.pointer (some ⟨wr.heap.size, 3, none⟩))) rfl (by kernel_rfl) (by kernel_rfl) (by kernel_rfl) (fun _ _ _ h => h) rfl ?_ (by assumption) ?_
              · intro w' hw'; go_split_ands; go_simp
              simp only [List.setIfInBounds_toArray, List.set_cons_zero, List.set_cons_succ]
              refine takeT (i := 9) (v := (.int .i64 p.f3)) rfl (by kernel_rfl) (by kernel_rfl) (by kernel_rfl) (fun _ _ _ h => h) rfl ?_ (by assumption) ?_
              · intro w' hw'; go_split_ands; go_simp
              simp only [List.setIfInBounds_toArray, List.set_cons_zero, List.set_cons_succ]
              refine takeT (i := 10) (v := (.pointer (some ⟨wr.heap.size, 2, none⟩))) rfl (by kernel_rfl) (by kernel_rfl) (by kernel_rfl) (fun _ _ _ h => h) rfl ?_ (by assumption) ?_
              · intro w' hw'; go_split_ands; go_simp
              simp only [List.setIfInBounds_toArray, List.set_cons_zero, List.set_cons_succ]
              refine takeT (i := 11) (v := (.int .i64 p.f2)) rfl (by kernel_rfl) (by kernel_rfl) (by kernel_rfl) (fun _ _ _ h => h) rfl ?_ (by assumption) ?_
              · intro w' hw'; go_split_ands; go_simp
              simp only [List.setIfInBounds_toArray, List.set_cons_zero, List.set_cons_succ]
              refine wpAnyH_all (rs := [12]) (by kernel_rfl) (by simp) ?_
              intro i hi
              simp only [List.mem_cons, List.not_mem_nil, or_false] at hi
              subst hi
              refine wpOp_step rfl (fun K' hK' => ?_)
              rw [if_pos (by rfl)]
              go_simp
              go_at_call 28
              refine (HWI.out _ B0.out).mono ?_
              rintro e wB1 ⟨rfl, hBB1⟩
              have B1 := Lib.hid (below_go B0.out hBB1)
              have hSB1 := HK.out wB1 B1.out
              refine hK' _ _ ⟨hSB1, ?_⟩
              try simp only [Act.put, List.setIfInBounds_toArray, List.set_cons_zero, List.set_cons_succ]
              refine takeT (i := 13) (v := (.bool true)) rfl (by kernel_rfl) (by kernel_rfl) (by kernel_rfl) (fun _ _ _ h => h) rfl ?_ (by assumption) ?_
              · intro w' hw'; go_split_ands; go_simp
              simp only [List.setIfInBounds_toArray, List.set_cons_zero, List.set_cons_succ]
              refine takeT (i := 14) (v := (.bool true)) rfl (by kernel_rfl) (by kernel_rfl) (by kernel_rfl) (fun _ _ _ h => h) rfl ?_ (by assumption) ?_
              · intro w' hw'; go_split_ands; go_simp
              simp only [List.setIfInBounds_toArray, List.set_cons_zero, List.set_cons_succ]
              refine takeT (i := 15) (v := (.bool true)) rfl (by kernel_rfl) (by kernel_rfl) (by kernel_rfl) (fun _ _ _ h => h) rfl ?_ (by assumption) ?_
              · intro w' hw'; go_split_ands; go_simp
              simp only [List.setIfInBounds_toArray, List.set_cons_zero, List.set_cons_succ]
              refine skipT (i := 16) rfl (by kernel_rfl) (by kernel_rfl) (by kernel_rfl) (fun _ _ _ h => h) rfl (by assumption) ?_
              simp only [List.setIfInBounds_toArray, List.set_cons_zero, List.set_cons_succ]
              refine skipT (i := 17) rfl (by kernel_rfl) (by kernel_rfl) (by kernel_rfl) (fun _ _ _ h => h) rfl (by assumption) ?_
              simp only [List.setIfInBounds_toArray, List.set_cons_zero, List.set_cons_succ]
              refine skipT (i := 18) rfl (by kernel_rfl) (by kernel_rfl) (by kernel_rfl) (fun _ _ _ h => h) rfl (by assumption) ?_
              simp only [List.setIfInBounds_toArray, List.set_cons_zero, List.set_cons_succ]
              refine skipT (i := 19) rfl (by kernel_rfl) (by kernel_rfl) (by kernel_rfl) (fun _ _ _ h => h) rfl (by assumption) ?_
              simp only [List.setIfInBounds_toArray, List.set_cons_zero, List.set_cons_succ]
              refine skipT (i := 20) rfl (by kernel_rfl) (by kernel_rfl) (by kernel_rfl) (fun _ _ _ h => h) rfl (by assumption) ?_
              simp only [List.setIfInBounds_toArray, List.set_cons_zero, List.set_cons_succ]
              refine skipT (i := 21) rfl (by kernel_rfl) (by kernel_rfl) (by kernel_rfl) (fun _ _ _ h => h) rfl (by assumption) ?_
              simp only [List.setIfInBounds_toArray, List.set_cons_zero, List.set_cons_succ]
              refine skipT (i := 22) rfl (by kernel_rfl) (by kernel_rfl) (by kernel_rfl) (fun _ _ _ h => h) rfl (by assumption) ?_
              simp only [List.setIfInBounds_toArray, List.set_cons_zero, List.set_cons_succ]
              refine skipT (i := 23) rfl (by kernel_rfl) (by kernel_rfl) (by kernel_rfl) (fun _ _ _ h => h) rfl (by assumption) ?_
              simp only [List.setIfInBounds_toArray, List.set_cons_zero, List.set_cons_succ]
              refine skipT (i := 24) rfl (by kernel_rfl) (by kernel_rfl) (by kernel_rfl) (fun _ _ _ h => h) rfl (by assumption) ?_
              simp only [List.setIfInBounds_toArray, List.set_cons_zero, List.set_cons_succ]
              refine skipT (i := 25) rfl (by kernel_rfl) (by kernel_rfl) (by kernel_rfl) (fun _ _ _ h => h) rfl (by assumption) ?_
              simp only [List.setIfInBounds_toArray, List.set_cons_zero, List.set_cons_succ]
              refine takeT (i := 26) (v := (.bool true)) rfl (by kernel_rfl) (by kernel_rfl) (by kernel_rfl) (fun _ _ _ h => h) rfl ?_ (by assumption) ?_
              · intro w' hw'; go_split_ands; go_simp
              simp only [List.setIfInBounds_toArray, List.set_cons_zero, List.set_cons_succ]
              refine wpAnyH_done (by kernel_rfl) ?_ _
              go_wp2
              go_meet
              case rel => exact ⟨⟨_, rfl⟩, rfl, congrArg Value.bool hbad.out.symm, B1.out⟩
            | false =>
              have hbad : Hid (bad F p = decide (8 < lvl F p.f3 + ht F p.f2)) := by
                unfold Hid bad
                simp [hw, hnone]
              rw [hw] at HWI
              clear ha hs hw hnone
              have B0 := Lib.hid ((Below.refl W.heap.size W).drew)
              refine wp_region_held_drew (S := fun w' => w'.cell? ⟨wr.heap.size, 2, none⟩ = some (.int .i64 p.f2) ∧ w'.cell? ⟨wr.heap.size, 3, none⟩ = some (.int .i64 p.f3) ∧ Below W.heap.size W w') (by kernel_rfl) (HK.out _ B0.out) (fun hHeld => ?_)
              refine takeT (i := 0) (v := (.pointer (some ⟨wr.heap.size, 3, none⟩))) rfl (by kernel_rfl) (by kernel_rfl) (by kernel_rfl) (fun _ _ _ h => h) rfl ?_ (by assumption) ?_
              · intro w' hw'; go_split_ands; go_simp
              simp only [List.setIfInBounds_toArray, List.set_cons_zero, List.set_cons_succ]
              refine takeT (i := 1) (v := (.int .i64 p.f3)) rfl (by kernel_rfl) (by kernel_rfl) (by kernel_rfl) (fun _ _ _ h => h) rfl ?_ (by assumption) ?_
              · intro w' hw'; go_split_ands; go_simp
              simp only [List.setIfInBounds_toArray, List.set_cons_zero, List.set_cons_succ]
              refine takeT (i := 2) (v := (.bool true)) rfl (by kernel_rfl) (by kernel_rfl) (by kernel_rfl) (fun _ _ _ h => h) rfl ?_ (by assumption) ?_
              · intro w' hw'; go_split_ands; go_simp
              simp only [List.setIfInBounds_toArray, List.set_cons_zero, List.set_cons_succ]
              refine takeT (i := 3) (v := (.bool true)) rfl (by kernel_rfl) (by kernel_rfl) (by kernel_rfl) (fun _ _ _ h => h) rfl ?_ (by assumption) ?_
              · intro w' hw'; go_split_ands; go_simp
              simp only [List.setIfInBounds_toArray, List.set_cons_zero, List.set_cons_succ]
              refine takeT (i := 4) (v := (.bool true)) rfl (by kernel_rfl) (by kernel_rfl) (by kernel_rfl) (fun _ _ _ h => h) rfl ?_ (by assumption) ?_
              · intro w' hw'; go_split_ands; go_simp
              simp only [List.setIfInBounds_toArray, List.set_cons_zero, List.set_cons_succ]
              refine takeT (i := 5) (v := (.bool false)) rfl (by kernel_rfl) (by kernel_rfl) (by kernel_rfl) (fun _ _ _ h => h) rfl ?_ (by assumption) ?_
              · intro w' hw'; go_split_ands; go_simp
              simp only [List.setIfInBounds_toArray, List.set_cons_zero, List.set_cons_succ]
              refine takeT (i := 6) (v := (.bool false)) rfl (by kernel_rfl) (by kernel_rfl) (by kernel_rfl) (fun _ _ _ h => h) rfl ?_ (by assumption) ?_
              · intro w' hw'; go_split_ands; go_simp
              simp only [List.setIfInBounds_toArray, List.set_cons_zero, List.set_cons_succ]
              refine takeT (i := 7) (v := (.map (some w.heap.size))) rfl (by kernel_rfl) (by kernel_rfl) (by kernel_rfl) (fun _ _ _ h => h) rfl ?_ (by assumption) ?_
              · intro w' hw'; go_split_ands; go_simp
              simp only [List.setIfInBounds_toArray, List.set_cons_zero, List.set_cons_succ]
              refine takeT (i := 8) (v := (.pointer (some ⟨wr.heap.size, 3, none⟩))) rfl (by kernel_rfl) (by kernel_rfl) (by kernel_rfl) (fun _ _ _ h => h) rfl ?_ (by assumption) ?_
              · intro w' hw'; go_split_ands; go_simp
              simp only [List.setIfInBounds_toArray, List.set_cons_zero, List.set_cons_succ]
              refine takeT (i := 9) (v := (.int .i64 p.f3)) rfl (by kernel_rfl) (by kernel_rfl) (by kernel_rfl) (fun _ _ _ h => h) rfl ?_ (by assumption) ?_
              · intro w' hw'; go_split_ands; go_simp
              simp only [List.setIfInBounds_toArray, List.set_cons_zero, List.set_cons_succ]
              refine takeT (i := 10) (v := (.pointer (some ⟨wr.heap.size, 2, none⟩))) rfl (by kernel_rfl) (by kernel_rfl) (by kernel_rfl) (fun _ _ _ h => h) rfl ?_ (by assumption) ?_
              · intro w' hw'; go_split_ands; go_simp
              simp only [List.setIfInBounds_toArray, List.set_cons_zero, List.set_cons_succ]
              refine takeT (i := 11) (v := (.int .i64 p.f2)) rfl (by kernel_rfl) (by kernel_rfl) (by kernel_rfl) (fun _ _ _ h => h) rfl ?_ (by assumption) ?_
              · intro w' hw'; go_split_ands; go_simp
              simp only [List.setIfInBounds_toArray, List.set_cons_zero, List.set_cons_succ]
              refine wpAnyH_all (rs := [12]) (by kernel_rfl) (by simp) ?_
              intro i hi
              simp only [List.mem_cons, List.not_mem_nil, or_false] at hi
              subst hi
              refine wpOp_step rfl (fun K' hK' => ?_)
              rw [if_pos (by rfl)]
              go_simp
              go_at_call 28
              refine (HWI.out _ B0.out).mono ?_
              rintro e wB1 ⟨rfl, hBB1⟩
              have B1 := Lib.hid (below_go B0.out hBB1)
              have hSB1 := HK.out wB1 B1.out
              refine hK' _ _ ⟨hSB1, ?_⟩
              try simp only [Act.put, List.setIfInBounds_toArray, List.set_cons_zero, List.set_cons_succ]
              refine takeT (i := 13) (v := (.bool false)) rfl (by kernel_rfl) (by kernel_rfl) (by kernel_rfl) (fun _ _ _ h => h) rfl ?_ (by assumption) ?_
              · intro w' hw'; go_split_ands; go_simp
              simp only [List.setIfInBounds_toArray, List.set_cons_zero, List.set_cons_succ]
              refine takeT (i := 14) (v := (.bool false)) rfl (by kernel_rfl) (by kernel_rfl) (by kernel_rfl) (fun _ _ _ h => h) rfl ?_ (by assumption) ?_
              · intro w' hw'; go_split_ands; go_simp
              simp only [List.setIfInBounds_toArray, List.set_cons_zero, List.set_cons_succ]
              refine takeT (i := 15) (v := (.bool false)) rfl (by kernel_rfl) (by kernel_rfl) (by kernel_rfl) (fun _ _ _ h => h) rfl ?_ (by assumption) ?_
              · intro w' hw'; go_split_ands; go_simp
              simp only [List.setIfInBounds_toArray, List.set_cons_zero, List.set_cons_succ]
              refine takeT (i := 16) (v := (.map (some w.heap.size))) rfl (by kernel_rfl) (by kernel_rfl) (by kernel_rfl) (fun _ _ _ h => h) rfl ?_ (by assumption) ?_
              · intro w' hw'; go_split_ands; go_simp
              simp only [List.setIfInBounds_toArray, List.set_cons_zero, List.set_cons_succ]
              refine takeT (i := 17) (v := (.pointer (some ⟨wr.heap.size, 3, none⟩))) rfl (by kernel_rfl) (by kernel_rfl) (by kernel_rfl) (fun _ _ _ h => h) rfl ?_ (by assumption) ?_
              · intro w' hw'; go_split_ands; go_simp
              simp only [List.setIfInBounds_toArray, List.set_cons_zero, List.set_cons_succ]
              refine takeT (i := 18) (v := (.int .i64 p.f3)) rfl (by kernel_rfl) (by kernel_rfl) (by kernel_rfl) (fun _ _ _ h => h) rfl ?_ (by assumption) ?_
              · intro w' hw'; go_split_ands; go_simp
              simp only [List.setIfInBounds_toArray, List.set_cons_zero, List.set_cons_succ]
              refine takeT (i := 20) (v := (.map (some w.heap.size))) rfl (by kernel_rfl) (by kernel_rfl) (by kernel_rfl) (fun _ _ _ h => h) rfl ?_ (by assumption) ?_
              · intro w' hw'; go_split_ands; go_simp
              simp only [List.setIfInBounds_toArray, List.set_cons_zero, List.set_cons_succ]
              refine takeT (i := 21) (v := (.pointer (some ⟨wr.heap.size, 2, none⟩))) rfl (by kernel_rfl) (by kernel_rfl) (by kernel_rfl) (fun _ _ _ h => h) rfl ?_ (by assumption) ?_
              · intro w' hw'; go_split_ands; go_simp
              simp only [List.setIfInBounds_toArray, List.set_cons_zero, List.set_cons_succ]
              refine takeT (i := 22) (v := (.int .i64 p.f2)) rfl (by kernel_rfl) (by kernel_rfl) (by kernel_rfl) (fun _ _ _ h => h) rfl ?_ (by assumption) ?_
              · intro w' hw'; go_split_ands; go_simp
              simp only [List.setIfInBounds_toArray, List.set_cons_zero, List.set_cons_succ]
              refine wpAnyH_all (rs := [19]) (by kernel_rfl) (by simp) ?_
              intro i hi
              simp only [List.mem_cons, List.not_mem_nil, or_false] at hi
              subst hi
              refine wpOp_step rfl (fun K' hK' => ?_)
              rw [if_pos (by rfl)]
              go_simp
              go_at_call 47
              refine (HLV.out _ B1.out).mono ?_
              rintro e wB2 ⟨rfl, hBB2⟩
              have B2 := Lib.hid (below_go B1.out hBB2)
              have hSB2 := HK.out wB2 B2.out
              refine hK' _ _ ⟨hSB2, ?_⟩
              try simp only [Act.put, List.setIfInBounds_toArray, List.set_cons_zero, List.set_cons_succ]
              refine wpAnyH_all (rs := [23]) (by kernel_rfl) (by simp) ?_
              intro i hi
              simp only [List.mem_cons, List.not_mem_nil, or_false] at hi
              subst hi
              refine wpOp_step rfl (fun K' hK' => ?_)
              rw [if_pos (by rfl)]
              go_simp
              go_at_call 48
              refine (HHT.out _ B2.out).mono ?_
              rintro e wB3 ⟨rfl, hBB3⟩
              have B3 := Lib.hid (below_go B2.out hBB3)
              have hSB3 := HK.out wB3 B3.out
              refine hK' _ _ ⟨hSB3, ?_⟩
              try simp only [Act.put, List.setIfInBounds_toArray, List.set_cons_zero, List.set_cons_succ]
              refine takeT (i := 24) (v := (.int .i64 ((lvl F p.f3 + ht F p.f2 : Nat) : Int))) rfl (by kernel_rfl) (by kernel_rfl) (by kernel_rfl) (fun _ _ _ h => h) rfl ?_ (by assumption) ?_
              · intro w' hw'; go_split_ands; go_simp; rw [IntKind.wrap_i64]; omega
              simp only [List.setIfInBounds_toArray, List.set_cons_zero, List.set_cons_succ]
              refine takeT (i := 25) (v := (.bool (decide (8 < lvl F p.f3 + ht F p.f2)))) rfl (by kernel_rfl) (by kernel_rfl) (by kernel_rfl) (fun _ _ _ h => h) rfl ?_ (by assumption) ?_
              · intro w' hw'; go_split_ands; go_simp; omega
              simp only [List.setIfInBounds_toArray, List.set_cons_zero, List.set_cons_succ]
              refine takeT (i := 26) (v := (.bool (decide (8 < lvl F p.f3 + ht F p.f2)))) rfl (by kernel_rfl) (by kernel_rfl) (by kernel_rfl) (fun _ _ _ h => h) rfl ?_ (by assumption) ?_
              · intro w' hw'; go_split_ands; go_simp
              simp only [List.setIfInBounds_toArray, List.set_cons_zero, List.set_cons_succ]
              refine wpAnyH_done (by kernel_rfl) ?_ _
              go_wp2
              go_meet
              case rel => exact ⟨⟨_, rfl⟩, rfl, congrArg Value.bool hbad.out.symm, B3.out⟩
        · have da : decide (0 ≤ p.f3) = false := decide_eq_false ha
          have hbad : Hid (bad F p = decide (8 < lvl F p.f3 + ht F p.f2)) := by
            unfold Hid bad
            simp [ha]
          clear ha
          have B0 := Lib.hid ((Below.refl W.heap.size W).drew)
          refine wp_region_held_drew (S := fun w' => w'.cell? ⟨wr.heap.size, 2, none⟩ = some (.int .i64 p.f2) ∧ w'.cell? ⟨wr.heap.size, 3, none⟩ = some (.int .i64 p.f3) ∧ Below W.heap.size W w') (by kernel_rfl) (HK.out _ B0.out) (fun hHeld => ?_)
          refine takeT (i := 0) (v := (.pointer (some ⟨wr.heap.size, 3, none⟩))) rfl (by kernel_rfl) (by kernel_rfl) (by kernel_rfl) (fun _ _ _ h => h) rfl ?_ (by assumption) ?_
          · intro w' hw'; go_split_ands; go_simp
          simp only [List.setIfInBounds_toArray, List.set_cons_zero, List.set_cons_succ]
          refine takeT (i := 1) (v := (.int .i64 p.f3)) rfl (by kernel_rfl) (by kernel_rfl) (by kernel_rfl) (fun _ _ _ h => h) rfl ?_ (by assumption) ?_
          · intro w' hw'; go_split_ands; go_simp
          simp only [List.setIfInBounds_toArray, List.set_cons_zero, List.set_cons_succ]
          refine takeT (i := 2) (v := (.bool false)) rfl (by kernel_rfl) (by kernel_rfl) (by kernel_rfl) (fun _ _ _ h => h) rfl ?_ (by assumption) ?_
          · intro w' hw'; go_split_ands; go_simp
          simp only [List.setIfInBounds_toArray, List.set_cons_zero, List.set_cons_succ]
          refine takeT (i := 3) (v := (.bool false)) rfl (by kernel_rfl) (by kernel_rfl) (by kernel_rfl) (fun _ _ _ h => h) rfl ?_ (by assumption) ?_
          · intro w' hw'; go_split_ands; go_simp
          simp only [List.setIfInBounds_toArray, List.set_cons_zero, List.set_cons_succ]
          refine skipT (i := 4) rfl (by kernel_rfl) (by kernel_rfl) (by kernel_rfl) (fun _ _ _ h => h) rfl (by assumption) ?_
          simp only [List.setIfInBounds_toArray, List.set_cons_zero, List.set_cons_succ]
          refine skipT (i := 5) rfl (by kernel_rfl) (by kernel_rfl) (by kernel_rfl) (fun _ _ _ h => h) rfl (by assumption) ?_
          simp only [List.setIfInBounds_toArray, List.set_cons_zero, List.set_cons_succ]
          refine skipT (i := 6) rfl (by kernel_rfl) (by kernel_rfl) (by kernel_rfl) (fun _ _ _ h => h) rfl (by assumption) ?_
          simp only [List.setIfInBounds_toArray, List.set_cons_zero, List.set_cons_succ]
          refine skipT (i := 7) rfl (by kernel_rfl) (by kernel_rfl) (by kernel_rfl) (fun _ _ _ h => h) rfl (by assumption) ?_
          simp only [List.setIfInBounds_toArray, List.set_cons_zero, List.set_cons_succ]
          refine skipT (i := 8) rfl (by kernel_rfl) (by kernel_rfl) (by kernel_rfl) (fun _ _ _ h => h) rfl (by assumption) ?_
          simp only [List.setIfInBounds_toArray, List.set_cons_zero, List.set_cons_succ]
          refine skipT (i := 9) rfl (by kernel_rfl) (by kernel_rfl) (by kernel_rfl) (fun _ _ _ h => h) rfl (by assumption) ?_
          simp only [List.setIfInBounds_toArray, List.set_cons_zero, List.set_cons_succ]
          refine skipT (i := 10) rfl (by kernel_rfl) (by kernel_rfl) (by kernel_rfl) (fun _ _ _ h => h) rfl (by assumption) ?_
          simp only [List.setIfInBounds_toArray, List.set_cons_zero, List.set_cons_succ]
          refine skipT (i := 11) rfl (by kernel_rfl) (by kernel_rfl) (by kernel_rfl) (fun _ _ _ h => h) rfl (by assumption) ?_
          simp only [List.setIfInBounds_toArray, List.set_cons_zero, List.set_cons_succ]
          refine skipT (i := 12) rfl (by kernel_rfl) (by kernel_rfl) (by kernel_rfl) (fun _ _ _ h => h) rfl (by assumption) ?_
          simp only [List.setIfInBounds_toArray, List.set_cons_zero, List.set_cons_succ]
          refine skipT (i := 13) rfl (by kernel_rfl) (by kernel_rfl) (by kernel_rfl) (fun _ _ _ h => h) rfl (by assumption) ?_
          simp only [List.setIfInBounds_toArray, List.set_cons_zero, List.set_cons_succ]
          refine takeT (i := 14) (v := (.bool false)) rfl (by kernel_rfl) (by kernel_rfl) (by kernel_rfl) (fun _ _ _ h => h) rfl ?_ (by assumption) ?_
          · intro w' hw'; go_split_ands; go_simp
          simp only [List.setIfInBounds_toArray, List.set_cons_zero, List.set_cons_succ]
          refine takeT (i := 15) (v := (.bool false)) rfl (by kernel_rfl) (by kernel_rfl) (by kernel_rfl) (fun _ _ _ h => h) rfl ?_ (by assumption) ?_
          · intro w' hw'; go_split_ands; go_simp
          simp only [List.setIfInBounds_toArray, List.set_cons_zero, List.set_cons_succ]
          refine takeT (i := 16) (v := (.map (some w.heap.size))) rfl (by kernel_rfl) (by kernel_rfl) (by kernel_rfl) (fun _ _ _ h => h) rfl ?_ (by assumption) ?_
          · intro w' hw'; go_split_ands; go_simp
          simp only [List.setIfInBounds_toArray, List.set_cons_zero, List.set_cons_succ]
          refine takeT (i := 17) (v := (.pointer (some ⟨wr.heap.size, 3, none⟩))) rfl (by kernel_rfl) (by kernel_rfl) (by kernel_rfl) (fun _ _ _ h => h) rfl ?_ (by assumption) ?_
          · intro w' hw'; go_split_ands; go_simp
          simp only [List.setIfInBounds_toArray, List.set_cons_zero, List.set_cons_succ]
          refine takeT (i := 18) (v := (.int .i64 p.f3)) rfl (by kernel_rfl) (by kernel_rfl) (by kernel_rfl) (fun _ _ _ h => h) rfl ?_ (by assumption) ?_
          · intro w' hw'; go_split_ands; go_simp
          simp only [List.setIfInBounds_toArray, List.set_cons_zero, List.set_cons_succ]
          refine takeT (i := 20) (v := (.map (some w.heap.size))) rfl (by kernel_rfl) (by kernel_rfl) (by kernel_rfl) (fun _ _ _ h => h) rfl ?_ (by assumption) ?_
          · intro w' hw'; go_split_ands; go_simp
          simp only [List.setIfInBounds_toArray, List.set_cons_zero, List.set_cons_succ]
          refine takeT (i := 21) (v := (.pointer (some ⟨wr.heap.size, 2, none⟩))) rfl (by kernel_rfl) (by kernel_rfl) (by kernel_rfl) (fun _ _ _ h => h) rfl ?_ (by assumption) ?_
          · intro w' hw'; go_split_ands; go_simp
          simp only [List.setIfInBounds_toArray, List.set_cons_zero, List.set_cons_succ]
          refine takeT (i := 22) (v := (.int .i64 p.f2)) rfl (by kernel_rfl) (by kernel_rfl) (by kernel_rfl) (fun _ _ _ h => h) rfl ?_ (by assumption) ?_
          · intro w' hw'; go_split_ands; go_simp
          simp only [List.setIfInBounds_toArray, List.set_cons_zero, List.set_cons_succ]
          refine wpAnyH_all (rs := [19]) (by kernel_rfl) (by simp) ?_
          intro i hi
          simp only [List.mem_cons, List.not_mem_nil, or_false] at hi
          subst hi
          refine wpOp_step rfl (fun K' hK' => ?_)
          rw [if_pos (by rfl)]
          go_simp
          go_at_call 47
          refine (HLV.out _ B0.out).mono ?_
          rintro e wB2 ⟨rfl, hBB2⟩
          have B2 := Lib.hid (below_go B0.out hBB2)
          have hSB2 := HK.out wB2 B2.out
          refine hK' _ _ ⟨hSB2, ?_⟩
          try simp only [Act.put, List.setIfInBounds_toArray, List.set_cons_zero, List.set_cons_succ]
          refine wpAnyH_all (rs := [23]) (by kernel_rfl) (by simp) ?_
          intro i hi
          simp only [List.mem_cons, List.not_mem_nil, or_false] at hi
          subst hi
          refine wpOp_step rfl (fun K' hK' => ?_)
          rw [if_pos (by rfl)]
          go_simp
          go_at_call 48
          refine (HHT.out _ B2.out).mono ?_
          rintro e wB3 ⟨rfl, hBB3⟩
          have B3 := Lib.hid (below_go B2.out hBB3)
          have hSB3 := HK.out wB3 B3.out
          refine hK' _ _ ⟨hSB3, ?_⟩
          try simp only [Act.put, List.setIfInBounds_toArray, List.set_cons_zero, List.set_cons_succ]
          refine takeT (i := 24) (v := (.int .i64 ((lvl F p.f3 + ht F p.f2 : Nat) : Int))) rfl (by kernel_rfl) (by kernel_rfl) (by kernel_rfl) (fun _ _ _ h => h) rfl ?_ (by assumption) ?_
          · intro w' hw'; go_split_ands; go_simp; rw [IntKind.wrap_i64]; omega
          simp only [List.setIfInBounds_toArray, List.set_cons_zero, List.set_cons_succ]
          refine takeT (i := 25) (v := (.bool (decide (8 < lvl F p.f3 + ht F p.f2)))) rfl (by kernel_rfl) (by kernel_rfl) (by kernel_rfl) (fun _ _ _ h => h) rfl ?_ (by assumption) ?_
          · intro w' hw'; go_split_ands; go_simp; omega
          simp only [List.setIfInBounds_toArray, List.set_cons_zero, List.set_cons_succ]
          refine takeT (i := 26) (v := (.bool (decide (8 < lvl F p.f3 + ht F p.f2)))) rfl (by kernel_rfl) (by kernel_rfl) (by kernel_rfl) (fun _ _ _ h => h) rfl ?_ (by assumption) ?_
          · intro w' hw'; go_split_ands; go_simp
          simp only [List.setIfInBounds_toArray, List.set_cons_zero, List.set_cons_succ]
          refine wpAnyH_done (by kernel_rfl) ?_ _
          go_wp2
          go_meet
          case rel => exact ⟨⟨_, rfl⟩, rfl, congrArg Value.bool hbad.out.symm, B3.out⟩
      case rest =>
        obtain ⟨⟨bv, rfl⟩, rfl, rfl, hBc⟩ := hcut
        have hMc := HM2.out.below hBc.out HM2.out.lt
        have hRc := HRW.out.below hBc.out
        have hBWc := below_step HBW.out HBW.out.size hBc.out
        have hbc := HbW.out.below hBc.out
        obtain ⟨q0, q1, q2, q3, q4⟩ := hbc.cell
        cases hbad : bad F p with
        | true =>
          have hst : foldK zs (k + 1) = F := by rw [HSUCC.out]; unfold step; rw [hbad]; rfl
          have HST := Lib.hid hst
          have HRC := Lib.hid hRc
          have HBWC := Lib.hid hBWc
          clear hst hbad hRc hBWc
          go_wp2
          go_roundg (m - (k + 1))
          case measure => omega
          case rel => exact ⟨k + 1, by go_num, by omega, Nat.le_refl _, by rw [HST.out]; exact hMc.mono (by omega), HRC.out, HBWC.out⟩
        | false =>
          have hst : foldK zs (k + 1) = F.set p.f2 p := by rw [HSUCC.out]; unfold step; rw [hbad]; rfl
          have HST := Lib.hid hst
          have HRC := Lib.hid hRc
          have HBWC := Lib.hid hBWc
          have hok2 : (K3).ok p.f2 := wf_small (by have := HBD.out; omega) (by have := HBD.out; omega)
          have hmlt := hMc.lt
          clear hst hbad hRc hBWc
          go_wp2_with (at_mapUpdate; refine wpList_put rfl (.tmp 55) (.tmp 57) (.tmp 58) 48 rfl keyed3 Try.underlying48 rfl hMc (by unfold maxLen; omega) (x := p.f2) hok2 rfl (c := p) rfl ?_; intro w4 hM4 hg4)
          go_roundg (m - (k + 1))
          case measure => omega
          case rel =>
            refine ⟨k + 1, by go_num, by omega, Nat.le_refl _, by rw [HST.out]; exact hM4, HRC.out.block hg4.size (hg4.block g HRC.out.1 (fun e => hgne (Option.some.inj e).symm)), HBWC.out.grown hg4 HBWC.out.size (fun j hj => by cases hj; exact Nat.le_refl _)⟩
    · have hk' : k = m := by omega
      subst hk'
      have dlt : decide ((k : Int) < (k : Int)) = false := decide_eq_false (by omega)
      have HMf := Lib.hid hM
      clear hM
      go_wp2
      go_ret
      exact ⟨w.heap.size, k, rfl, Nat.le_refl _, by omega, HMf.out, hB.out⟩

theorem grow27 (A : Option Addr) (c : Nat) (l : List S29) (w : World) (hl : l.length ≤ 100) (h : Kd.C k29 w A l.length l) :
    Calls Try.prog 27 #[.slice A l.length c] w fun e w' => ∃ mb cnt, e = .returned (.map (some mb)) ∧ w.heap.size ≤ mb ∧ cnt ≤ 200 ∧ MapIs K3 S29.val w' mb cnt (growF l) ∧ Below w.heap.size w w' := by
  obtain ⟨_, hc⟩ := cells_of_C h
  cases A with
  | none =>
    have hn : l = [] := by
      cases l with
      | nil => rfl
      | cons x xs => obtain ⟨ad, e, _⟩ := hc (by simp); cases e
    subst hn
    exact grow27_nil c w
  | some a =>
    refine grow27_some a c l w hl fun j x hx i v hv => ?_
    have hp : 0 < l.length := by have := (List.getElem?_eq_some_iff.1 hx).1; omega
    obtain ⟨ad, e, hcell⟩ := hc hp
    cases e
    exact hcell j x hx i v hv
end Go.Proofs.Ytihpiejlfdinaaa.PF
