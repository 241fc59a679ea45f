import Derived.Test.YtihpiejlfdinaaaQf
import Derived.Test.YtihpiejlfdinaaaQs
import Derived.Test.YtihpiejlfdinaaaPd
import Derived.Deep.RegionHeld3
/-
  FoldersFindSpec: the walk.
-/
namespace Go.Proofs.Ytihpiejlfdinaaa.PF
open Go Go.RowKit Go.Maps Go.My Go.Shelf Go.Sort Go.Proofs.YtihpiejlfdinaaaW.PrintWords

theorem wp_put {P : Program} {k e : TypeId} {κ α : Type} [DecidableEq κ] {E : KeyEnc P k κ} {ev : α → Value} {w : World} {b n : Nat} {f : κ → Option α} {o : Oper} {a : Act} {K' : Act → World → Prop} {Q : Exit → Act → World → Prop}
    (m y v : Operand) (t : TypeId) (hop : o.op = Op.mapUpdate t m y v) (K : Keyed P k) (ht : P.underlying t = some (.map k e))
    (hm : a.eval m = .map (some b)) (h : MapIs E ev w b n f) (hn : n < maxLen) {x : κ} (hx : E.ok x) (hy : a.eval y = E.ek x) {c : α} (hv : a.eval v = ev c)
    (hK : ∀ w', MapIs E ev w' b (n + 1) (upd f x (some c)) → w.grownBy w' (some b) → K' (a.put o.dst undef) w') : o.wp P a w K' Q := by
  obtain ⟨w', hrun, r2, r3⟩ := h.put (t := t) K ht hn hx c
  unfold Oper.wp
  simp [execOp, hop, hm, hy, hv, hrun, Result.andThen]
  exact hK w' r2 r3

/-- Where a row of places lies. -/
theorem pls_spot {w : World} {A : Option Addr} {n : Nat} {xs : List S29} (h : Kd.C k29 w A n xs) :
    ∃ b off, (0 < n → A = some ⟨b, off, none⟩) ∧ ∀ j x, xs[j]? = some x → ∀ i v, (cellsOf x)[i]? = some v → w.cell? ⟨b, off + (j * 5 + i), none⟩ = some v := by
  obtain ⟨hl, hc⟩ := cells_of_C h
  cases xs with
  | nil => exact ⟨0, 0, fun h => by rw [← hl] at h; simp at h, fun j x hx => by cases hx⟩
  | cons x xs =>
    obtain ⟨ad, rfl, hcell⟩ := hc (by rw [← hl]; simp)
    have hs := World.cell?_spot (hcell 0 x rfl 0 _ rfl)
    obtain ⟨b, off, sp⟩ := ad
    obtain rfl : sp = none := hs
    exact ⟨b, off, fun _ => rfl, fun j y hy i v hv => by
      have := hcell j y hy i v hv
      rw [Addr.add_lit] at this
      exact this⟩
theorem ints_spot {w : World} {A : Option Addr} {n : Nat} {xs : List Int} (h : Kd.C (Kd.int .i64) w A n xs) :
    ∃ b off, (0 < n → A = some ⟨b, off, none⟩) ∧ ∀ j y, xs[j]? = some y → w.cell? ⟨b, off + j, none⟩ = some (.int .i64 y) := by
  obtain ⟨hl, _, hc⟩ := h
  cases xs with
  | nil => exact ⟨0, 0, fun h => by rw [← hl] at h; simp at h, fun j x hx => by cases hx⟩
  | cons x xs =>
    obtain ⟨ad, rfl, hcell⟩ := hc (by rw [← hl]; simp)
    have key : ∀ j y, (x :: xs)[j]? = some y → w.cell? (ad.add j) = some (.int .i64 y) := fun j y hy => by
      obtain ⟨c, _, hK, hcc⟩ := hcell j y hy
      have hK : c = [Value.int .i64 y] := hK
      subst hK
      have := hcc 0 _ rfl
      have e : j * (Kd.int .i64).sz + 0 = j := Nat.mul_one j
      rw [e] at this
      exact this
    have hs := World.cell?_spot (key 0 x rfl)
    obtain ⟨b, off, sp⟩ := ad
    obtain rfl : sp = none := hs
    exact ⟨b, off, fun _ => rfl, fun j y hy => by
      have := key j y hy
      rw [Addr.add_lit] at this
      exact this⟩
theorem own_oneS (w : World) (s : ByteArray) {base : Nat} (hb : base ≤ w.heap.size) : (w.alloc (.cells #[.string s] 9)).ownsRow base 9 1 (.slice (some ⟨w.heap.size, 0, none⟩) 1 1) 1 [.string s] :=
  ⟨rfl, .inr ⟨w.heap.size, 1, _, rfl, hb, heap_alloc_new w _, Nat.le_refl _, by unfold maxLen; omega, rfl, rfl⟩⟩
theorem own_someS {w : World} {base : Nat} {v : Value} {n : Nat} {xs : List Value} (h : w.ownsRow base 9 1 v n xs) (hn : 0 < n) : ∃ g c, v = .slice (some ⟨g, 0, none⟩) n c ∧ n ≤ c := by
  rcases h.2 with ⟨_, h0⟩ | ⟨g, cap, cur, rfl, _, _, h2, _⟩
  · omega
  · exact ⟨g, cap, rfl, h2⟩
theorem own_strs {w : World} {base : Nat} {A : Option Addr} {n c : Nat} {xs : List ByteArray} (h : w.ownsRow base 9 1 (.slice A n c) n (xs.map Value.string)) (hn : n = xs.length) : n ≤ c ∧ Kd.C Kd.string w A xs.length xs := by
  subst hn
  have hR : Kd.R Kd.string 9 w base (fun _ => True) (.slice A xs.length c) xs := Kd.R_of_own h (fun _ _ => trivial)
  obtain ⟨A', c', e, h1, h2⟩ := Kd.R_reads hR
  cases e
  exact ⟨h1, h2⟩
theorem elim_str (o : Option ByteArray) : o.elim (Value.string ⟨#[]⟩) Value.string = .string (o.getD ⟨#[]⟩) := by cases o <;> rfl
theorem zero9 (w : World) : (zeroValue 9).run Try.prog w = .ok (.string ⟨#[]⟩) w := by kernel_rfl

section
variable (A0 A1 : Option Addr) (n c0 m c1 : Nat) (w : World) (zs : List S29) (up : Int → List Int) (fd : List ByteArray → Int × Bool) (fa : Int) (fb : Bool)

set_option maxRecDepth 100000 in
set_option maxHeartbeats 4000000 in
theorem find7_walk (hzl : zs.length ≤ 16) (hzw : ∀ y ∈ zs, (Lit.int .i64 y.f2).wf = true) (hul : ∀ x, (up x).length ≤ 7) (huw : ∀ x, ∀ y ∈ up x, (Lit.int .i64 y).wf = true) (hm20 : m ≤ 20)
    (HS : Hid (∀ W : World, Calls Try.prog 10 #[] W fun e w' => e = .returned (.bool true) ∧ Below W.heap.size W w'))
    (HFew : Hid (∀ W : World, Below w.heap.size w W → Calls Try.prog 11 #[.slice A0 n c0, .slice none 0 0] W fun e w' => e = .returned (.bool true) ∧ Below W.heap.size W w'))
    (HF0 : Hid (∀ W : World, Below w.heap.size w W → Calls Try.prog 24 #[.slice A0 n c0, .slice A1 m c1] W fun e w' => e = .returned (.tuple #[.int .i64 fa, .bool fb]) ∧ Below W.heap.size W w'))
    (HR0 : Hid (∀ W : World, Below w.heap.size w W → Calls Try.prog 25 #[.slice A0 n c0, .slice A1 m c1] W fun e w' => e = .returned (.tuple #[.int .i64 fa, .bool fb]) ∧ Below W.heap.size W w'))
    (HF : Hid (∀ (W : World) (A : Option Addr) (k c : Nat) (xs : List ByteArray), Below w.heap.size w W → k = xs.length → k ≤ c → k ≤ 100 → Kd.C Kd.string W A xs.length xs → Calls Try.prog 24 #[.slice A0 n c0, .slice A k c] W fun e w' => e = .returned (.tuple #[.int .i64 (fd xs).1, .bool (fd xs).2]) ∧ Below W.heap.size W w'))
    (HR : Hid (∀ (W : World) (A : Option Addr) (k c : Nat) (xs : List ByteArray), Below w.heap.size w W → k = xs.length → k ≤ c → k ≤ 100 → Kd.C Kd.string W A xs.length xs → Calls Try.prog 25 #[.slice A0 n c0, .slice A k c] W fun e w' => e = .returned (.tuple #[.int .i64 (fd xs).1, .bool (fd xs).2]) ∧ Below W.heap.size W w'))
    (HT : Hid (∀ W : World, Below w.heap.size w W → Calls Try.prog 19 #[.slice A0 n c0] W fun e w' => ∃ A c, e = .returned (.slice A zs.length c) ∧ Kd.C k29 w' A zs.length zs ∧ Below W.heap.size W w'))
    (HU : Hid (∀ (W : World) (x : Int), Below w.heap.size w W → (Lit.int .i64 x).wf = true → Calls Try.prog 23 #[.slice A0 n c0, .int .i64 x] W fun e w' => ∃ A c, e = .returned (.slice A (up x).length c) ∧ Kd.C (Kd.int .i64) w' A (up x).length (up x) ∧ Below W.heap.size W w')) :
    Calls Try.prog 7 #[.slice A0 n c0, .slice A1 m c1] w fun e w' => e = .returned (.bool true) ∧ Below w.heap.size w w' := by
  obtain ⟨i0, hi, hz0, hz1, hz2⟩ := info_parts info9
  have hmm := @run_makeMap Try.prog
  obtain ⟨nz, hnz⟩ : ∃ nz, nz = zs.length := ⟨_, rfl⟩
  have HNZ := Lib.hid hnz
  rw [← hnz] at HT hzl
  have HZW := Lib.hid hzw
  have HUL := Lib.hid hul
  have HUW := Lib.hid huw
  clear hnz hzw hul huw
  go_enter Try.func7, Try.ntmps7
  go_wp2_with (first
    | (go_at_call 10; refine (HS.out _).mono ?_; rintro e w1 ⟨rfl, hB1⟩; have HB1 := Lib.hid hB1; clear hB1)
    | (go_at_call 11; refine (HFew.out _ HB1.out).mono ?_; rintro e w2 ⟨rfl, hB2⟩; have HB2 := Lib.hid (below_go HB1.out hB2); clear hB2)
    | (go_at_call 24; refine (HF0.out _ HB2.out).mono ?_; rintro e w3 ⟨rfl, hB3⟩; have HB3 := Lib.hid (below_go HB2.out hB3); clear hB3)
    | (go_at_call 25; refine (HR0.out _ HB3.out).mono ?_; rintro e w4 ⟨rfl, hB4⟩; have HB4 := Lib.hid (below_go HB3.out hB4); clear hB4)
    | (go_at_call 19; refine (HT.out _ HB4.out).mono ?_; rintro e w5 ⟨AT, cT, rfl, hCT, hB5⟩; have HB5 := Lib.hid (below_go HB4.out hB5); have HCT := Lib.hid hCT; clear hB5 hCT))
  obtain ⟨b, off, hAT, htc⟩ := pls_spot HCT.out
  have HTC := Lib.hid htc
  clear htc HCT HF0 HR0 HFew HS HT
  have HM0 := Lib.hid (MapIs.made K3 Value.string w5)
  have hBm : Below w5.heap.size w5 (w5.alloc (.map #[] 0)) := (Below.refl _ w5).alloc (Nat.le_refl _) _
  have HBm := Lib.hid hBm
  clear hBm
  go_loopg [11] nz (fun gg s11 wr => ∃ (k : Nat) (f : Int → Option ByteArray), s11 = .int .i64 k ∧ k ≤ nz ∧ nz - k ≤ gg ∧ Hid (MapIs K3 Value.string wr w5.heap.size k f) ∧ Hid (Below w5.heap.size w5 wr))
  case atStart => exact ⟨0, _, rfl, by omega, by omega, HM0.out, HBm.out⟩
  case round =>
    obtain ⟨k, f, rfl, hkm, hgg, hM, hB⟩ := hrel
    by_cases hlt : k < nz
    · obtain ⟨y, hy⟩ : ∃ y, zs[k]? = some y := ⟨_, List.getElem?_eq_getElem (by rw [← HNZ.out]; exact hlt)⟩
      obtain rfl := hAT (by omega)
      have hok : (K3).ok y.f2 := HZW.out y (List.mem_of_getElem? hy)
      have d2 := HTC.out k y hy 2 _ rfl
      have d4 := HTC.out k y hy 4 _ rfl
      rw [← Nat.add_assoc] at d2 d4
      have HK := Lib.hid fun (w' : World) (hb : Below w5.heap.size w5 w') => (show w'.cell? ⟨b, off + k * 5 + 2, none⟩ = some (.int .i64 y.f2) ∧ w'.cell? ⟨b, off + k * 5 + 4, none⟩ = some (.string y.f4) ∧ Below w5.heap.size w5 w' from ⟨cellK d2 hb, cellK d4 hb, hb⟩)
      clear hy d2 d4
      go_wp2
      have B0 := Lib.hid ((hB.out).drew)
      refine wp_region_held_drew (S := fun w' => w'.cell? ⟨b, off + k * 5 + 2, none⟩ = some (.int .i64 y.f2) ∧ w'.cell? ⟨b, off + k * 5 + 4, none⟩ = some (.string y.f4) ∧ Below w5.heap.size w5 w') (by kernel_rfl) (HK.out _ B0.out) (fun hHeld => ?_)
      refine takeT (i := 0) (v := (.map (some w5.heap.size))) rfl (by kernel_rfl) (by kernel_rfl) (by kernel_rfl) (fun _ _ _ h => h) rfl ?_ (by assumption) ?_
      · intro w' hw'; go_split_ands; go_simp
      simp only [List.setIfInBounds_toArray, List.set_cons_zero, List.set_cons_succ]
      refine takeT (i := 1) (v := (.slice (some ⟨b, off, none⟩) nz cT)) rfl (by kernel_rfl) (by kernel_rfl) (by kernel_rfl) (fun _ _ _ h => h) rfl ?_ (by assumption) ?_
      · intro w' hw'; go_split_ands; go_simp
      simp only [List.setIfInBounds_toArray, List.set_cons_zero, List.set_cons_succ]
      refine takeT (i := 2) (v := (.int .i64 (k : Int))) rfl (by kernel_rfl) (by kernel_rfl) (by kernel_rfl) (fun _ _ _ h => h) rfl ?_ (by assumption) ?_
      · intro w' hw'; go_split_ands; go_simp
      simp only [List.setIfInBounds_toArray, List.set_cons_zero, List.set_cons_succ]
      refine takeT (i := 3) (v := (.pointer (some ⟨b, off + k * 5, none⟩))) rfl (by kernel_rfl) (by kernel_rfl) (by kernel_rfl) (fun _ _ _ h => h) rfl ?_ (by assumption) ?_
      · intro w' hw'; go_split_ands; go_simp
      simp only [List.setIfInBounds_toArray, List.set_cons_zero, List.set_cons_succ]
      refine takeT (i := 4) (v := (.pointer (some ⟨b, off + k * 5 + 2, none⟩))) rfl (by kernel_rfl) (by kernel_rfl) (by kernel_rfl) (fun _ _ _ h => h) rfl ?_ (by assumption) ?_
      · intro w' hw'; go_split_ands; go_simp
      simp only [List.setIfInBounds_toArray, List.set_cons_zero, List.set_cons_succ]
      refine takeT (i := 5) (v := (.int .i64 y.f2)) rfl (by kernel_rfl) (by kernel_rfl) (by kernel_rfl) (fun _ _ _ h => h) rfl ?_ (by assumption) ?_
      · intro w' hw'; go_split_ands; go_simp
      simp only [List.setIfInBounds_toArray, List.set_cons_zero, List.set_cons_succ]
      refine takeT (i := 6) (v := (.slice (some ⟨b, off, none⟩) nz cT)) rfl (by kernel_rfl) (by kernel_rfl) (by kernel_rfl) (fun _ _ _ h => h) rfl ?_ (by assumption) ?_
      · intro w' hw'; go_split_ands; go_simp
      simp only [List.setIfInBounds_toArray, List.set_cons_zero, List.set_cons_succ]
      refine takeT (i := 7) (v := (.int .i64 (k : Int))) rfl (by kernel_rfl) (by kernel_rfl) (by kernel_rfl) (fun _ _ _ h => h) rfl ?_ (by assumption) ?_
      · intro w' hw'; go_split_ands; go_simp
      simp only [List.setIfInBounds_toArray, List.set_cons_zero, List.set_cons_succ]
      refine takeT (i := 8) (v := (.pointer (some ⟨b, off + k * 5, none⟩))) rfl (by kernel_rfl) (by kernel_rfl) (by kernel_rfl) (fun _ _ _ h => h) rfl ?_ (by assumption) ?_
      · intro w' hw'; go_split_ands; go_simp
      simp only [List.setIfInBounds_toArray, List.set_cons_zero, List.set_cons_succ]
      refine takeT (i := 9) (v := (.pointer (some ⟨b, off + k * 5 + 4, none⟩))) rfl (by kernel_rfl) (by kernel_rfl) (by kernel_rfl) (fun _ _ _ h => h) rfl ?_ (by assumption) ?_
      · intro w' hw'; go_split_ands; go_simp
      simp only [List.setIfInBounds_toArray, List.set_cons_zero, List.set_cons_succ]
      refine takeT (i := 10) (v := (.string y.f4)) rfl (by kernel_rfl) (by kernel_rfl) (by kernel_rfl) (fun _ _ _ h => h) rfl ?_ (by assumption) ?_
      · intro w' hw'; go_split_ands; go_simp
      simp only [List.setIfInBounds_toArray, List.set_cons_zero, List.set_cons_succ]
      refine wpAnyH_all (rs := [11]) (by kernel_rfl) (by simp) ?_
      intro i hi
      simp only [List.mem_cons, List.not_mem_nil, or_false] at hi
      subst hi
      refine wpOp_step rfl (fun K' hK' => ?_)
      rw [if_pos (by rfl)]
      refine wp_put (.tmp 59) (.tmp 64) (.tmp 69) 40 rfl keyed3 Try.underlying40 rfl hM.out.drew (by unfold maxLen; omega) (x := y.f2) hok rfl (c := y.f4) rfl ?_
      intro w6 hM6 hg6
      have B6 := Lib.hid (B0.out.grown hg6 B0.out.size (by intro j hj; cases hj; exact Nat.le_refl _))
      have hS6 := HK.out w6 B6.out
      refine hK' _ _ ⟨hS6, ?_⟩
      refine wpAnyH_done (by kernel_rfl) ?_ _
      go_wp2
      go_roundg (nz - (k + 1))
      case measure => omega
      case rel => exact ⟨k + 1, _, by go_num, by omega, Nat.le_refl _, hM6, B6.out⟩
    · obtain rfl : k = nz := by omega
      have dlt : decide ((k : Int) < (k : Int)) = false := decide_eq_false (by omega)
      rename World => wa
      have HBw := Lib.hid (below_go HB5.out hB.out)
      have hms := hM.out.lt
      clear hgg
      go_wp2
      go_loopg [12] k (fun gg s12 wq => ∃ (i : Nat), s12 = .int .i64 i ∧ i ≤ k ∧ k - i ≤ gg ∧ Hid (Below wa.heap.size wa wq))
      case atStart => exact ⟨0, rfl, by omega, by omega, Below.refl _ _⟩
      case round =>
        rename World => wq
        obtain ⟨i, rfl, hik, hgg2, hBq⟩ := hrel
        by_cases hlt2 : i < k
        · obtain ⟨y, hy⟩ : ∃ y, zs[i]? = some y := ⟨_, List.getElem?_eq_getElem (by rw [← HNZ.out]; exact hlt2)⟩
          obtain rfl := hAT (by omega)
          have hyw := HZW.out y (List.mem_of_getElem? hy)
          have d2 := HTC.out i y hy 2 _ rfl
          have d4 := HTC.out i y hy 4 _ rfl
          rw [← Nat.add_assoc] at d2 d4
          have hB5q := below_go hB.out hBq.out
          have x2 := cellK d2 hB5q
          have x4 := cellK d4 hB5q
          have x2' := Lib.cell?_alloc_some (.cells #[.string y.f4] 9) x2
          have HOW := Lib.hid (own_oneS wq y.f4 (Nat.le_refl wq.heap.size))
          have hBa : Below wq.heap.size wq (wq.alloc (.cells #[.string y.f4] 9)) := (Below.refl _ _).alloc (Nat.le_refl _) _
          have HBa := Lib.hid (below_go HBw.out (below_go hBq.out hBa))
          have HBqa := Lib.hid (below_go hBq.out hBa)
          have HLU := Lib.hid (HUL.out y.f2)
          have HWU := Lib.hid (HUW.out y.f2)
          have HUC := Lib.hid (HU.out _ y.f2 HBa.out hyw)
          clear hy d2 d4 hB5q hBa hyw
          generalize up y.f2 = us at *
          obtain ⟨nu, hnu⟩ : ∃ nu, nu = us.length := ⟨_, rfl⟩
          have HNU := Lib.hid hnu
          rw [← hnu] at HUC HLU
          clear hnu
          go_wp2_with (go_at_call 23; refine HUC.out.mono ?_; rintro e w7 ⟨AU, cU, rfl, hCU, hB7⟩; have HCU := Lib.hid hCU; have HB7 := Lib.hid hB7; clear hCU hB7)
          obtain ⟨bu, ou, hAU, huc⟩ := ints_spot HCU.out
          have HUI := Lib.hid huc
          have hlu := HLU.out
          have HO7 := Lib.hid (ownsRow_frame HOW.out (fun j hj => HB7.out.block j (HOW.out.lt j hj).2))
          have HBq7 := Lib.hid (below_go HBqa.out HB7.out)
          have HM7 := Lib.hid (hM.out.below HBq7.out hms)
          have hq7 : wq.heap.size ≤ w7.heap.size := by have := HB7.out.size; simp at this; omega
          clear huc HCU HUC HB7 HOW HBqa HBa HLU
          have h7s := HM7.out.lt
          go_loopg [13, 15] nu (fun gg s13 s15 wv => ∃ (j g c : Nat) (ss : List ByteArray), s13 = .slice (some ⟨g, 0, none⟩) (1 + j) c ∧ s15 = .int .i64 j ∧ j ≤ nu ∧ nu - j ≤ gg ∧ Hid (ss.length = 1 + j) ∧ Hid (wv.ownsRow wq.heap.size 9 1 (.slice (some ⟨g, 0, none⟩) (1 + j) c) (1 + j) (ss.map Value.string)) ∧ Hid (Below w7.heap.size w7 wv))
          case atStart => exact ⟨0, wq.heap.size, 1, [y.f4], rfl, rfl, by omega, by omega, rfl, HO7.out, Below.refl _ _⟩
          case round =>
            rename World => wv
            obtain ⟨j, g, c, ss, rfl, rfl, hju, hgg3, hss, hown, hBv⟩ := hrel
            by_cases hlt3 : j < nu
            · obtain ⟨z, hz⟩ : ∃ z, us[j]? = some z := ⟨_, List.getElem?_eq_getElem (by rw [← HNU.out]; exact hlt3)⟩
              obtain rfl := hAU (by omega)
              have u0 := cellK (HUI.out j z hz) hBv.out
              have hokz : (K3).ok z := HWU.out z (List.mem_of_getElem? hz)
              have hMv := HM7.out.below hBv.out h7s
              have hqv : wq.heap.size ≤ wv.heap.size := Nat.le_trans hq7 hBv.out.size
              clear hz
              go_wp2_with (first
                | (at_lookup; refine wpList_get rfl (.tmp 95) (.tmp 99) 40 rfl keyed3 Try.underlying40 (zero9 _) rfl hMv (x := z) hokz rfl ?_; rw [elim_str])
                | (at_builtin; refine wpList_append_own _ rfl (.tmp 101) (.tmp 102) 37 rfl wq.heap.size 9 i0 _ 1 16 Try.underlying37 hi hz0 hz1 hz2 rfl (by decide) _ 1 [.string ((f z).getD ⟨#[]⟩)] rfl (own_oneS wv _ hqv) ⟨g, 0, none⟩ (1 + j) c (ss.map Value.string) rfl (by rw [List.length_map, hss.out, Nat.mul_one]) (fun t u hu => Lib.cell?_alloc_some _ (World.ownsRow.cells hown.out rfl t u hu)) (fun u hu => by obtain ⟨t, _, rfl⟩ := List.mem_map.1 hu; rfl) (by unfold maxLen; omega) (by omega) (by simp; omega) ?_; intro v8 w8 hown8 hg8 hnil8; obtain ⟨g8, c8, rfl, hc8⟩ := own_someS hown8 (by omega)))
              go_roundg (nu - (j + 1))
              case measure => omega
              case rel =>
                have e : 1 + (j + 1) = 1 + (1 + j) := by omega
                refine ⟨j + 1, g8, c8, (f z).getD ⟨#[]⟩ :: ss, by rw [e], by go_num, by omega, Nat.le_refl _, ?_, ?_, ?_⟩
                · unfold Hid
                  rw [List.length_cons, hss.out]; omega
                · unfold Hid
                  rw [e]
                  exact hown8
                · exact (hBv.out.alloc hBv.out.size _).grown hg8 (by have := hBv.out.size; simp; omega) (by intro t ht; cases ht; exact hBv.out.size)
            · obtain rfl : j = nu := by omega
              have dlt3 : decide ((j : Int) < (j : Int)) = false := decide_eq_false (by omega)
              obtain ⟨hcc, hCs⟩ := own_strs hown.out hss.out.symm
              have HCS := Lib.hid hCs
              have HBX := Lib.hid (below_go (below_go HBw.out HBq7.out) hBv.out)
              have HBV := Lib.hid (below_go HBq7.out hBv.out)
              clear hCs
              go_wp2_with (first
                | (go_at_call 24; refine (HF.out _ _ _ _ ss HBX.out hss.out.symm hcc (by omega) HCS.out).mono ?_; rintro e w8 ⟨rfl, hB8⟩; have HB8 := Lib.hid hB8; clear hB8)
                | (go_at_call 25; refine (HR.out _ _ _ _ ss (below_go HBX.out HB8.out) hss.out.symm hcc (by omega) (Kd.C_below HCS.out HB8.out)).mono ?_; rintro e w9 ⟨rfl, hB9⟩; have HB9 := Lib.hid hB9; clear hB9))
              go_roundg (k - (i + 1))
              case measure => omega
              case rel => exact ⟨i + 1, by go_num, by omega, Nat.le_refl _, below_go (below_go HBV.out HB8.out) HB9.out⟩
        · obtain rfl : i = k := by omega
          have dlt2 : decide ((i : Int) < (i : Int)) = false := decide_eq_false (by omega)
          go_wp2
          go_ret
          exact ⟨rfl, below_go HBw.out hBq.out⟩
end
end Go.Proofs.Ytihpiejlfdinaaa.PF

