import Derived.Test.YtihpiejlfdinaaaWm
/-
  FoldersForest: the walk.
-/
namespace Go.Proofs.Ytihpiejlfdinaaa.PF
open Go Go.RowKit Go.Maps Go.My Go.Shelf Go.Sort Go.Proofs.YtihpiejlfdinaaaW.PrintWords

theorem s29_beqA (a b : S29) : (a.f0 == b.f0 && (a.f1 == b.f1 && (a.f2 == b.f2 && (a.f3 == b.f3 && a.f4.toList == b.f4.toList)))) = decide (a = b) := by
  have := s29_beq a b
  rw [← Bool.not_not (decide (a = b)), ← this]
  simp only [Bool.not_or, Bool.not_not]

theorem zero3 (w : World) : (zeroValue 3).run Try.prog w = .ok (.int .i64 0) w := by kernel_rfl
section
attribute [local go_sem high] eqA29
set_option maxRecDepth 100000 in
set_option maxHeartbeats 4000000 in
theorem forest9_walk (A0 : Option Addr) (n c0 : Nat) (w : World) (l : List S29) (F : Forest) (hF : FInv F) (hn : n = l.length) (hl : n ≤ 30) (hmem : ∀ y ∈ treeP F, y ∈ l) (hC : Kd.C k29 w A0 n l)
    (HS : Hid (∀ W : World, Calls Try.prog 10 #[] W fun e w' => e = .returned (.bool true) ∧ Below W.heap.size W w'))
    (HFew : Hid (∀ W : World, Below w.heap.size w W → Calls Try.prog 11 #[.slice A0 n c0, .slice none 0 0] W fun e w' => e = .returned (.bool true) ∧ Below W.heap.size W w'))
    (HT : Hid (∀ W : World, Below w.heap.size w W → Calls Try.prog 14 #[.slice A0 n c0] W fun e w' => ∃ A c, e = .returned (.slice A (treeP F).length c) ∧ Kd.C k29 w' A (treeP F).length (treeP F) ∧ Below W.heap.size W w'))
    (HU : Hid (∀ (W : World) (x : Int), Below w.heap.size w W → (Lit.int .i64 x).wf = true → Calls Try.prog 13 #[.slice A0 n c0, .int .i64 x] W fun e w' => ∃ A c, e = .returned (.slice A (upL F x).length c) ∧ Kd.C (Kd.int .i64) w' A (upL F x).length (upL F x) ∧ Below W.heap.size W w')) :
    Calls Try.prog 9 #[.slice A0 n c0] w fun e w' => e = .returned (.bool true) ∧ Below w.heap.size w w' := by
  have hmm := @run_makeMap Try.prog
  have hsort := treeP_sorted hF.keys
  have hmemF : ∀ y ∈ treeP F, F y.f2 = some y := fun y hy => (mem_treeP hF).1 hy
  have hFmem : ∀ x q, F x = some q → q ∈ treeP F ∧ q.f2 = x := fun x q hq => by
    have e := (hF.key x q hq).1
    exact ⟨(mem_treeP hF).2 (by rw [e]; exact hq), e⟩
  have hzl := treeP_length F
  obtain ⟨zs, hzs⟩ : ∃ zs, zs = treeP F := ⟨_, rfl⟩
  rw [← hzs] at HT hsort hmemF hFmem hzl hmem
  obtain ⟨nz, hnz⟩ : ∃ nz, nz = zs.length := ⟨_, rfl⟩
  have HNZ := Lib.hid hnz
  rw [← hnz] at HT hzl
  have HN := Lib.hid hn
  have HSORT := Lib.hid hsort
  have HMF := Lib.hid hmemF
  have HFM := Lib.hid hFmem
  have HML := Lib.hid hmem
  have HFI := Lib.hid hF
  obtain ⟨bl, ol, hA0, hlc⟩ := pls_spot hC
  have HLC := Lib.hid hlc
  clear hzs hnz hn hsort hmemF hFmem hmem hF hC hlc
  go_enter Try.func9, Try.ntmps9
  go_wp2_with (first
    | (go_at_call 10; refine (HS.out _).mono ?_; rintro e w1 ⟨rfl, hB1⟩; have HB1 := Lib.hid hB1; clear hB1)
    | (go_at_call 11; refine (HFew.out _ HB1.out).mono ?_; rintro e w2 ⟨rfl, hB2⟩; have HB2 := Lib.hid (below_go HB1.out hB2); clear hB2)
    | (go_at_call 14; refine (HT.out _ HB2.out).mono ?_; rintro e w5 ⟨AT, cT, rfl, hCT, hB5⟩; have HB5 := Lib.hid (below_go HB2.out hB5); have HCT := Lib.hid hCT; clear hB5 hCT))
  obtain ⟨b, off, hAT, htc⟩ := pls_spot HCT.out
  have HTC := Lib.hid htc
  clear htc HCT HFew HS HT
  have HM0 := Lib.hid (MapIs.made K3 (Value.int .i64) w5)
  have hBm : Below w5.heap.size w5 (w5.alloc (.map #[] 0)) := (Below.refl _ w5).alloc (Nat.le_refl _) _
  have HBm := Lib.hid hBm
  clear hBm
  go_loopg [5] nz (fun gg s5 wr => ∃ (k : Nat) (f : Int → Option Int), s5 = .int .i64 k ∧ k ≤ nz ∧ nz - k ≤ gg ∧ Hid (MapIs K3 (Value.int .i64) wr w5.heap.size k f) ∧ Hid (∀ j y, zs[j]? = some y → j < k → f y.f2 = some y.f3) ∧ Hid (Below w5.heap.size w5 wr))
  case atStart => exact ⟨0, _, rfl, by omega, by omega, HM0.out, fun j y _ h => absurd h (by omega), HBm.out⟩
  case round =>
    obtain ⟨k, f, rfl, hkm, hgg, hM, hf, hB⟩ := hrel
    rename World => wa
    by_cases hlt : k < nz
    · obtain ⟨y, hy⟩ : ∃ y, zs[k]? = some y := ⟨_, List.getElem?_eq_getElem (by rw [← HNZ.out]; exact hlt)⟩
      obtain rfl := hAT (by omega)
      have HY := Lib.hid hy
      have hyl := HML.out y (List.mem_of_getElem? hy)
      have hyq := (HFI.out.key y.f2 y (HMF.out y (List.mem_of_getElem? hy))).2
      have d0 := cellK (HTC.out k y hy 0 _ rfl) hB.out
      have d1 := cellK (HTC.out k y hy 1 _ rfl) hB.out
      have d2 := cellK (HTC.out k y hy 2 _ rfl) hB.out
      have d3 := cellK (HTC.out k y hy 3 _ rfl) hB.out
      have d4 := cellK (HTC.out k y hy 4 _ rfl) hB.out
      rw [← Nat.add_assoc] at d0 d1 d2 d3 d4
      rw [Nat.add_zero] at d0
      have HBX := Lib.hid (Box5.new wa y)
      have hBa : Below wa.heap.size wa (wa.alloc (.cells #[.int .i64 y.f0, .int .i64 y.f1, .int .i64 y.f2, .int .i64 y.f3, .string y.f4] 29)) := (Below.refl _ _).alloc (Nat.le_refl _) _
      have HBa := Lib.hid hBa
      have HYL := Lib.hid hyl
      have HYQ := Lib.hid hyq
      clear hy hyl hyq hBa
      go_wp2
      obtain ⟨wb, hwb⟩ : ∃ x, x = wa.alloc (.cells #[.int .i64 y.f0, .int .i64 y.f1, .int .i64 y.f2, .int .i64 y.f3, .string y.f4] 29) := ⟨_, rfl⟩
      rw [← hwb] at HBX HBa ⊢
      clear hwb d0 d1 d2 d3 d4
      obtain ⟨k0, k1, k2, k3, k4⟩ := HBX.out.cell
      have HBw := Lib.hid (below_go (below_go HB5.out hB.out) HBa.out)
      go_loopg [7, 8] n (fun gg s7 s8 wv => ∃ (j : Nat) (lb : Bool), s7 = .bool lb ∧ s8 = .int .i64 j ∧ j ≤ n ∧ n - j ≤ gg ∧ Hid (lb = (l.take j).any fun q => decide (q = y)) ∧ Hid (Below wb.heap.size wb wv))
      case atStart => exact ⟨0, false, rfl, rfl, by omega, by omega, rfl, Below.refl _ _⟩
      case round =>
        rename World => wv
        obtain ⟨j, lb, rfl, rfl, hjn, hgg2, hlb, hBv⟩ := hrel
        have y0 := cellK k0 hBv.out
        have y1 := cellK k1 hBv.out
        have y2 := cellK k2 hBv.out
        have y3 := cellK k3 hBv.out
        have y4 := cellK k4 hBv.out
        by_cases hlt2 : j < n
        · obtain ⟨q, hq⟩ : ∃ q, l[j]? = some q := ⟨_, List.getElem?_eq_getElem (by rw [← HN.out]; exact hlt2)⟩
          obtain rfl := hA0 (by omega)
          have HQ := Lib.hid hq
          have hBwv := below_go HBw.out hBv.out
          have q0 := cellK (HLC.out j q hq 0 _ rfl) hBwv
          have q1 := cellK (HLC.out j q hq 1 _ rfl) hBwv
          have q2 := cellK (HLC.out j q hq 2 _ rfl) hBwv
          have q3 := cellK (HLC.out j q hq 3 _ rfl) hBwv
          have q4 := cellK (HLC.out j q hq 4 _ rfl) hBwv
          rw [← Nat.add_assoc] at q0 q1 q2 q3 q4
          rw [Nat.add_zero] at q0
          clear hq hBwv
          cases lb with
          | true =>
            go_wp2
            have HK := Lib.hid fun (w' : World) (hb : Below wv.heap.size wv w') => (show Below wv.heap.size wv w' from hb)
            have B0 := Lib.hid ((Below.refl wv.heap.size wv).drew)
            refine wp_region_held_drew (S := fun w' => Below wv.heap.size wv w') (by kernel_rfl) (HK.out _ B0.out) (fun hHeld => ?_)
            refine takeT (i := 0) (v := (.bool true)) rfl (by kernel_rfl) (by kernel_rfl) (by kernel_rfl) (fun _ _ _ h => h) rfl ?_ (by assumption) ?_
            · intro w' hw'; go_split_ands; go_simp
            simp only [List.setIfInBounds_toArray, List.set_cons_zero, List.set_cons_succ]
            refine takeT (i := 1) (v := (.bool true)) rfl (by kernel_rfl) (by kernel_rfl) (by kernel_rfl) (fun _ _ _ h => h) rfl ?_ (by assumption) ?_
            · intro w' hw'; go_split_ands; go_simp
            simp only [List.setIfInBounds_toArray, List.set_cons_zero, List.set_cons_succ]
            refine skipT (i := 2) rfl (by kernel_rfl) (by kernel_rfl) (by kernel_rfl) (fun _ _ _ h => h) rfl (by assumption) ?_
            simp only [List.setIfInBounds_toArray, List.set_cons_zero, List.set_cons_succ]
            refine skipT (i := 3) rfl (by kernel_rfl) (by kernel_rfl) (by kernel_rfl) (fun _ _ _ h => h) rfl (by assumption) ?_
            simp only [List.setIfInBounds_toArray, List.set_cons_zero, List.set_cons_succ]
            refine skipT (i := 4) rfl (by kernel_rfl) (by kernel_rfl) (by kernel_rfl) (fun _ _ _ h => h) rfl (by assumption) ?_
            simp only [List.setIfInBounds_toArray, List.set_cons_zero, List.set_cons_succ]
            refine skipT (i := 5) rfl (by kernel_rfl) (by kernel_rfl) (by kernel_rfl) (fun _ _ _ h => h) rfl (by assumption) ?_
            simp only [List.setIfInBounds_toArray, List.set_cons_zero, List.set_cons_succ]
            refine skipT (i := 6) rfl (by kernel_rfl) (by kernel_rfl) (by kernel_rfl) (fun _ _ _ h => h) rfl (by assumption) ?_
            simp only [List.setIfInBounds_toArray, List.set_cons_zero, List.set_cons_succ]
            refine skipT (i := 7) rfl (by kernel_rfl) (by kernel_rfl) (by kernel_rfl) (fun _ _ _ h => h) rfl (by assumption) ?_
            simp only [List.setIfInBounds_toArray, List.set_cons_zero, List.set_cons_succ]
            refine takeT (i := 8) (v := (.bool true)) rfl (by kernel_rfl) (by kernel_rfl) (by kernel_rfl) (fun _ _ _ h => h) rfl ?_ (by assumption) ?_
            · intro w' hw'; go_split_ands; go_simp
            simp only [List.setIfInBounds_toArray, List.set_cons_zero, List.set_cons_succ]
            refine takeT (i := 9) (v := (.bool true)) rfl (by kernel_rfl) (by kernel_rfl) (by kernel_rfl) (fun _ _ _ h => h) rfl ?_ (by assumption) ?_
            · intro w' hw'; go_split_ands; go_simp
            simp only [List.setIfInBounds_toArray, List.set_cons_zero, List.set_cons_succ]
            refine wpAnyH_done (by kernel_rfl) ?_ _
            go_wp2
            go_roundg (n - (j + 1))
            case measure => omega
            case rel =>
              refine ⟨j + 1, true, rfl, by go_num, by omega, Nat.le_refl _, ?_, below_go hBv.out B0.out⟩
              unfold Hid
              rw [take_snoc HQ.out, List.any_append, ← hlb.out]; rfl
          | false =>
            go_wp2
            have HK := Lib.hid fun (w' : World) (hb : Below wv.heap.size wv w') => (show w'.cell? ⟨bl, ol + j * 5, none⟩ = some (.int .i64 q.f0) ∧ w'.cell? ⟨bl, ol + j * 5 + 1, none⟩ = some (.int .i64 q.f1) ∧ w'.cell? ⟨bl, ol + j * 5 + 2, none⟩ = some (.int .i64 q.f2) ∧ w'.cell? ⟨bl, ol + j * 5 + 3, none⟩ = some (.int .i64 q.f3) ∧ w'.cell? ⟨bl, ol + j * 5 + 4, none⟩ = some (.string q.f4) ∧ w'.cell? ⟨wa.heap.size, 0, none⟩ = some (.int .i64 y.f0) ∧ w'.cell? ⟨wa.heap.size, 1, none⟩ = some (.int .i64 y.f1) ∧ w'.cell? ⟨wa.heap.size, 2, none⟩ = some (.int .i64 y.f2) ∧ w'.cell? ⟨wa.heap.size, 3, none⟩ = some (.int .i64 y.f3) ∧ w'.cell? ⟨wa.heap.size, 4, none⟩ = some (.string y.f4) ∧ Below wv.heap.size wv w' from ⟨cellK q0 hb, cellK q1 hb, cellK q2 hb, cellK q3 hb, cellK q4 hb, cellK y0 hb, cellK y1 hb, cellK y2 hb, cellK y3 hb, cellK y4 hb, hb⟩)
            have B0 := Lib.hid ((Below.refl wv.heap.size wv).drew)
            refine wp_region_held_drew (S := fun w' => w'.cell? ⟨bl, ol + j * 5, none⟩ = some (.int .i64 q.f0) ∧ w'.cell? ⟨bl, ol + j * 5 + 1, none⟩ = some (.int .i64 q.f1) ∧ w'.cell? ⟨bl, ol + j * 5 + 2, none⟩ = some (.int .i64 q.f2) ∧ w'.cell? ⟨bl, ol + j * 5 + 3, none⟩ = some (.int .i64 q.f3) ∧ w'.cell? ⟨bl, ol + j * 5 + 4, none⟩ = some (.string q.f4) ∧ w'.cell? ⟨wa.heap.size, 0, none⟩ = some (.int .i64 y.f0) ∧ w'.cell? ⟨wa.heap.size, 1, none⟩ = some (.int .i64 y.f1) ∧ w'.cell? ⟨wa.heap.size, 2, none⟩ = some (.int .i64 y.f2) ∧ w'.cell? ⟨wa.heap.size, 3, none⟩ = some (.int .i64 y.f3) ∧ w'.cell? ⟨wa.heap.size, 4, none⟩ = some (.string y.f4) ∧ Below wv.heap.size wv w') (by kernel_rfl) (HK.out _ B0.out) (fun hHeld => ?_)
            refine takeT (i := 0) (v := (.bool false)) rfl (by kernel_rfl) (by kernel_rfl) (by kernel_rfl) (fun _ _ _ h => h) rfl ?_ (by assumption) ?_
            · intro w' hw'; go_split_ands; go_simp
            simp only [List.setIfInBounds_toArray, List.set_cons_zero, List.set_cons_succ]
            refine takeT (i := 1) (v := (.bool false)) rfl (by kernel_rfl) (by kernel_rfl) (by kernel_rfl) (fun _ _ _ h => h) rfl ?_ (by assumption) ?_
            · intro w' hw'; go_split_ands; go_simp
            simp only [List.setIfInBounds_toArray, List.set_cons_zero, List.set_cons_succ]
            refine takeT (i := 2) (v := (.slice (some ⟨bl, ol, none⟩) n c0)) rfl (by kernel_rfl) (by kernel_rfl) (by kernel_rfl) (fun _ _ _ h => h) rfl ?_ (by assumption) ?_
            · intro w' hw'; go_split_ands; go_simp
            simp only [List.setIfInBounds_toArray, List.set_cons_zero, List.set_cons_succ]
            refine takeT (i := 3) (v := (.int .i64 (j : Int))) rfl (by kernel_rfl) (by kernel_rfl) (by kernel_rfl) (fun _ _ _ h => h) rfl ?_ (by assumption) ?_
            · intro w' hw'; go_split_ands; go_simp
            simp only [List.setIfInBounds_toArray, List.set_cons_zero, List.set_cons_succ]
            refine takeT (i := 4) (v := (.pointer (some ⟨bl, ol + j * 5, none⟩))) rfl (by kernel_rfl) (by kernel_rfl) (by kernel_rfl) (fun _ _ _ h => h) rfl ?_ (by assumption) ?_
            · intro w' hw'; go_split_ands; go_simp
            simp only [List.setIfInBounds_toArray, List.set_cons_zero, List.set_cons_succ]
            refine takeT (i := 5) (v := (.agg #[.int .i64 q.f0, .int .i64 q.f1, .int .i64 q.f2, .int .i64 q.f3, .string q.f4])) rfl (by kernel_rfl) (by kernel_rfl) (by kernel_rfl) (fun _ _ _ h => h) rfl ?_ (by assumption) ?_
            · intro w' hw'; go_split_ands; go_simp
            simp only [List.setIfInBounds_toArray, List.set_cons_zero, List.set_cons_succ]
            refine takeT (i := 6) (v := (.agg #[.int .i64 y.f0, .int .i64 y.f1, .int .i64 y.f2, .int .i64 y.f3, .string y.f4])) rfl (by kernel_rfl) (by kernel_rfl) (by kernel_rfl) (fun _ _ _ h => h) rfl ?_ (by assumption) ?_
            · intro w' hw'; go_split_ands; go_simp
            simp only [List.setIfInBounds_toArray, List.set_cons_zero, List.set_cons_succ]
            refine takeT (i := 7) (v := (.bool (decide (q = y)))) rfl (by kernel_rfl) (by kernel_rfl) (by kernel_rfl) (fun _ _ _ h => h) rfl ?_ (by assumption) ?_
            · intro w' hw'; go_split_ands; go_simp; exact s29_beqA q y
            simp only [List.setIfInBounds_toArray, List.set_cons_zero, List.set_cons_succ]
            refine takeT (i := 8) (v := (.bool (decide (q = y)))) rfl (by kernel_rfl) (by kernel_rfl) (by kernel_rfl) (fun _ _ _ h => h) rfl ?_ (by assumption) ?_
            · intro w' hw'; go_split_ands; go_simp
            simp only [List.setIfInBounds_toArray, List.set_cons_zero, List.set_cons_succ]
            refine takeT (i := 9) (v := (.bool (decide (q = y)))) rfl (by kernel_rfl) (by kernel_rfl) (by kernel_rfl) (fun _ _ _ h => h) rfl ?_ (by assumption) ?_
            · intro w' hw'; go_split_ands; go_simp
            simp only [List.setIfInBounds_toArray, List.set_cons_zero, List.set_cons_succ]
            refine wpAnyH_done (by kernel_rfl) ?_ _
            go_wp2
            go_roundg (n - (j + 1))
            case measure => omega
            case rel =>
              refine ⟨j + 1, decide (q = y), rfl, by go_num, by omega, Nat.le_refl _, ?_, below_go hBv.out B0.out⟩
              unfold Hid
              rw [take_snoc HQ.out, List.any_append, ← hlb.out]
              simp
        · obtain rfl : j = n := by omega
          have dlt2 : decide ((j : Int) < (j : Int)) = false := decide_eq_false (by omega)
          have hl1 : lb = true := by
            rw [hlb.out, HN.out, List.take_length, List.any_eq_true]
            exact ⟨y, HYL.out, decide_eq_true rfl⟩
          subst hl1
          clear hlb hgg2 hlt2
          have HCK := Lib.hid fun (W : World) => check16 y W
          rw [HYQ.out] at HCK
          unfold S29.val at HCK
          have hok : (K3).ok y.f2 := wf_small (by have := ok_bounds HYQ.out; omega) (by have := ok_bounds HYQ.out; omega)
          have hrest : ∀ (f' : Int → Option Int), (∀ z, f' z = if z = y.f2 then some y.f3 else f z) → ∀ t u, zs[t]? = some u → t < k + 1 → f' u.f2 = some u.f3 := by
            intro f' hf' t u hu ht
            rw [hf']
            by_cases e : u.f2 = y.f2
            · have h1 := HMF.out u (List.mem_of_getElem? hu)
              have h2 := HMF.out y (List.mem_of_getElem? HY.out)
              rw [e, h2] at h1
              cases h1
              rw [if_pos rfl]
            · rw [if_neg e]
              rcases Nat.lt_succ_iff_lt_or_eq.1 ht with h | h
              · exact hf.out t u hu h
              · rw [h, HY.out] at hu; cases hu; exact absurd rfl e
          have HREST := Lib.hid hrest
          clear hrest
          rcases Nat.eq_zero_or_pos k with hk0 | hk0
          · have hkle : k ≤ 0 := by omega
            clear hk0
            go_wp2
            have HK := Lib.hid fun (w' : World) (hb : Below wv.heap.size wv w') => (show w'.cell? ⟨wa.heap.size, 0, none⟩ = some (.int .i64 y.f0) ∧ w'.cell? ⟨wa.heap.size, 1, none⟩ = some (.int .i64 y.f1) ∧ w'.cell? ⟨wa.heap.size, 2, none⟩ = some (.int .i64 y.f2) ∧ w'.cell? ⟨wa.heap.size, 3, none⟩ = some (.int .i64 y.f3) ∧ w'.cell? ⟨wa.heap.size, 4, none⟩ = some (.string y.f4) ∧ Below wv.heap.size wv w' from ⟨cellK y0 hb, cellK y1 hb, cellK y2 hb, cellK y3 hb, cellK y4 hb, hb⟩)
            have B0 := Lib.hid ((Below.refl wv.heap.size wv).drew)
            refine wp_region_held_drew (S := fun w' => w'.cell? ⟨wa.heap.size, 0, none⟩ = some (.int .i64 y.f0) ∧ w'.cell? ⟨wa.heap.size, 1, none⟩ = some (.int .i64 y.f1) ∧ w'.cell? ⟨wa.heap.size, 2, none⟩ = some (.int .i64 y.f2) ∧ w'.cell? ⟨wa.heap.size, 3, none⟩ = some (.int .i64 y.f3) ∧ w'.cell? ⟨wa.heap.size, 4, none⟩ = some (.string y.f4) ∧ Below wv.heap.size wv w') (by kernel_rfl) (HK.out _ B0.out) (fun hHeld => ?_)
            refine takeT (i := 0) (v := (.bool true)) rfl (by kernel_rfl) (by kernel_rfl) (by kernel_rfl) (fun _ _ _ h => h) rfl ?_ (by assumption) ?_
            · intro w' hw'; go_split_ands; go_simp
            simp only [List.setIfInBounds_toArray, List.set_cons_zero, List.set_cons_succ]
            refine takeT (i := 1) (v := (.bool false)) rfl (by kernel_rfl) (by kernel_rfl) (by kernel_rfl) (fun _ _ _ h => h) rfl ?_ (by assumption) ?_
            · intro w' hw'; go_split_ands; go_simp
            simp only [List.setIfInBounds_toArray, List.set_cons_zero, List.set_cons_succ]
            refine takeT (i := 2) (v := (.bool false)) rfl (by kernel_rfl) (by kernel_rfl) (by kernel_rfl) (fun _ _ _ h => h) rfl ?_ (by assumption) ?_
            · intro w' hw'; go_split_ands; go_simp
            simp only [List.setIfInBounds_toArray, List.set_cons_zero, List.set_cons_succ]
            refine takeT (i := 3) (v := (.agg #[.int .i64 y.f0, .int .i64 y.f1, .int .i64 y.f2, .int .i64 y.f3, .string y.f4])) rfl (by kernel_rfl) (by kernel_rfl) (by kernel_rfl) (fun _ _ _ h => h) rfl ?_ (by assumption) ?_
            · intro w' hw'; go_split_ands; go_simp
            simp only [List.setIfInBounds_toArray, List.set_cons_zero, List.set_cons_succ]
            refine wpAnyH_all (rs := [4]) (by kernel_rfl) (by simp) ?_
            intro i hi
            simp only [List.mem_cons, List.not_mem_nil, or_false] at hi
            subst hi
            refine wpOp_step rfl (fun K' hK' => ?_)
            rw [if_pos (by rfl)]
            go_simp
            go_at_call 16
            refine (HCK.out _).mono ?_
            rintro e wB ⟨rfl, hBB⟩
            have B1 := Lib.hid (below_go B0.out hBB)
            have hSB1 := HK.out wB B1.out
            refine hK' _ _ ⟨hSB1, ?_⟩
            try simp only [Act.put, List.setIfInBounds_toArray, List.set_cons_zero, List.set_cons_succ]
            refine takeT (i := 5) (v := (.bool false)) rfl (by kernel_rfl) (by kernel_rfl) (by kernel_rfl) (fun _ _ _ h => h) rfl ?_ (by assumption) ?_
            · intro w' hw'; go_split_ands; go_simp
            simp only [List.setIfInBounds_toArray, List.set_cons_zero, List.set_cons_succ]
            refine takeT (i := 6) (v := (.bool false)) rfl (by kernel_rfl) (by kernel_rfl) (by kernel_rfl) (fun _ _ _ h => h) rfl ?_ (by assumption) ?_
            · intro w' hw'; go_split_ands; go_simp
            simp only [List.setIfInBounds_toArray, List.set_cons_zero, List.set_cons_succ]
            refine takeT (i := 7) (v := (.bool false)) rfl (by kernel_rfl) (by kernel_rfl) (by kernel_rfl) (fun _ _ _ h => h) rfl ?_ (by assumption) ?_
            · intro w' hw'; go_split_ands; go_simp
            simp only [List.setIfInBounds_toArray, List.set_cons_zero, List.set_cons_succ]
            refine takeT (i := 8) (v := (.int .i64 (k : Int))) rfl (by kernel_rfl) (by kernel_rfl) (by kernel_rfl) (fun _ _ _ h => h) rfl ?_ (by assumption) ?_
            · intro w' hw'; go_split_ands; go_simp
            simp only [List.setIfInBounds_toArray, List.set_cons_zero, List.set_cons_succ]
            refine takeT (i := 9) (v := (.bool false)) rfl (by kernel_rfl) (by kernel_rfl) (by kernel_rfl) (fun _ _ _ h => h) rfl ?_ (by assumption) ?_
            · intro w' hw'; go_split_ands; go_simp
            simp only [List.setIfInBounds_toArray, List.set_cons_zero, List.set_cons_succ]
            refine takeT (i := 10) (v := (.bool false)) rfl (by kernel_rfl) (by kernel_rfl) (by kernel_rfl) (fun _ _ _ h => h) rfl ?_ (by assumption) ?_
            · intro w' hw'; go_split_ands; go_simp
            simp only [List.setIfInBounds_toArray, List.set_cons_zero, List.set_cons_succ]
            refine skipT (i := 11) rfl (by kernel_rfl) (by kernel_rfl) (by kernel_rfl) (fun _ _ _ h => h) rfl (by assumption) ?_
            simp only [List.setIfInBounds_toArray, List.set_cons_zero, List.set_cons_succ]
            refine skipT (i := 12) rfl (by kernel_rfl) (by kernel_rfl) (by kernel_rfl) (fun _ _ _ h => h) rfl (by assumption) ?_
            simp only [List.setIfInBounds_toArray, List.set_cons_zero, List.set_cons_succ]
            refine skipT (i := 13) rfl (by kernel_rfl) (by kernel_rfl) (by kernel_rfl) (fun _ _ _ h => h) rfl (by assumption) ?_
            simp only [List.setIfInBounds_toArray, List.set_cons_zero, List.set_cons_succ]
            refine skipT (i := 14) rfl (by kernel_rfl) (by kernel_rfl) (by kernel_rfl) (fun _ _ _ h => h) rfl (by assumption) ?_
            simp only [List.setIfInBounds_toArray, List.set_cons_zero, List.set_cons_succ]
            refine skipT (i := 15) rfl (by kernel_rfl) (by kernel_rfl) (by kernel_rfl) (fun _ _ _ h => h) rfl (by assumption) ?_
            simp only [List.setIfInBounds_toArray, List.set_cons_zero, List.set_cons_succ]
            refine skipT (i := 16) rfl (by kernel_rfl) (by kernel_rfl) (by kernel_rfl) (fun _ _ _ h => h) rfl (by assumption) ?_
            simp only [List.setIfInBounds_toArray, List.set_cons_zero, List.set_cons_succ]
            refine skipT (i := 17) rfl (by kernel_rfl) (by kernel_rfl) (by kernel_rfl) (fun _ _ _ h => h) rfl (by assumption) ?_
            simp only [List.setIfInBounds_toArray, List.set_cons_zero, List.set_cons_succ]
            refine skipT (i := 18) rfl (by kernel_rfl) (by kernel_rfl) (by kernel_rfl) (fun _ _ _ h => h) rfl (by assumption) ?_
            simp only [List.setIfInBounds_toArray, List.set_cons_zero, List.set_cons_succ]
            refine skipT (i := 19) rfl (by kernel_rfl) (by kernel_rfl) (by kernel_rfl) (fun _ _ _ h => h) rfl (by assumption) ?_
            simp only [List.setIfInBounds_toArray, List.set_cons_zero, List.set_cons_succ]
            refine takeT (i := 20) (v := (.bool false)) rfl (by kernel_rfl) (by kernel_rfl) (by kernel_rfl) (fun _ _ _ h => h) rfl ?_ (by assumption) ?_
            · intro w' hw'; go_split_ands; go_simp
            simp only [List.setIfInBounds_toArray, List.set_cons_zero, List.set_cons_succ]
            refine takeT (i := 21) (v := (.bool false)) rfl (by kernel_rfl) (by kernel_rfl) (by kernel_rfl) (fun _ _ _ h => h) rfl ?_ (by assumption) ?_
            · intro w' hw'; go_split_ands; go_simp
            simp only [List.setIfInBounds_toArray, List.set_cons_zero, List.set_cons_succ]
            refine wpAnyH_done (by kernel_rfl) ?_ _
            have v2 := cellK y2 B1.out
            have v3 := cellK y3 B1.out
            have hBB := below_go hBv.out B1.out
            have hMB := hM.out.below (below_go HBa.out hBB) hM.out.lt
            have HBB := Lib.hid (below_go (below_go hB.out HBa.out) hBB)
            clear hBB
            go_wp2_with (at_mapUpdate; refine wpList_put rfl (.tmp 70) (.tmp 72) (.tmp 74) 44 rfl keyed3 Try.underlying44 rfl hMB (by unfold maxLen; omega) (x := y.f2) hok rfl (c := y.f3) rfl ?_; intro w6 hM6 hg6)
            go_roundg (nz - (k + 1))
            case measure => omega
            case rel => exact ⟨k + 1, _, by go_num, by omega, Nat.le_refl _, hM6, HREST.out _ (fun z => rfl), HBB.out.grown hg6 HBB.out.size (by intro t ht; cases ht; exact Nat.le_refl _)⟩
          · obtain ⟨pr, hpr⟩ : ∃ pr, zs[k - 1]? = some pr := ⟨_, List.getElem?_eq_getElem (by rw [← HNZ.out]; omega)⟩
            have hless : pr.f2 < y.f2 := by
              obtain ⟨g1, e1⟩ := List.getElem?_eq_some_iff.1 hpr
              obtain ⟨g2, e2⟩ := List.getElem?_eq_some_iff.1 HY.out
              rw [← e1, ← e2]
              exact List.pairwise_iff_getElem.1 HSORT.out _ _ g1 g2 (by omega)
            have p2 := cellK (HTC.out (k - 1) pr hpr 2 _ rfl) (below_go (below_go hB.out HBa.out) hBv.out)
            rw [← Nat.add_assoc] at p2
            clear hpr
            go_wp2
            have HK := Lib.hid fun (w' : World) (hb : Below wv.heap.size wv w') => (show w'.cell? ⟨wa.heap.size, 0, none⟩ = some (.int .i64 y.f0) ∧ w'.cell? ⟨wa.heap.size, 1, none⟩ = some (.int .i64 y.f1) ∧ w'.cell? ⟨wa.heap.size, 2, none⟩ = some (.int .i64 y.f2) ∧ w'.cell? ⟨wa.heap.size, 3, none⟩ = some (.int .i64 y.f3) ∧ w'.cell? ⟨wa.heap.size, 4, none⟩ = some (.string y.f4) ∧ w'.cell? ⟨b, off + (k - 1) * 5 + 2, none⟩ = some (.int .i64 pr.f2) ∧ Below wv.heap.size wv w' from ⟨cellK y0 hb, cellK y1 hb, cellK y2 hb, cellK y3 hb, cellK y4 hb, cellK p2 hb, hb⟩)
            have B0 := Lib.hid ((Below.refl wv.heap.size wv).drew)
            refine wp_region_held_drew (S := fun w' => w'.cell? ⟨wa.heap.size, 0, none⟩ = some (.int .i64 y.f0) ∧ w'.cell? ⟨wa.heap.size, 1, none⟩ = some (.int .i64 y.f1) ∧ w'.cell? ⟨wa.heap.size, 2, none⟩ = some (.int .i64 y.f2) ∧ w'.cell? ⟨wa.heap.size, 3, none⟩ = some (.int .i64 y.f3) ∧ w'.cell? ⟨wa.heap.size, 4, none⟩ = some (.string y.f4) ∧ w'.cell? ⟨b, off + (k - 1) * 5 + 2, none⟩ = some (.int .i64 pr.f2) ∧ Below wv.heap.size wv w') (by kernel_rfl) (HK.out _ B0.out) (fun hHeld => ?_)
            refine takeT (i := 0) (v := (.bool true)) rfl (by kernel_rfl) (by kernel_rfl) (by kernel_rfl) (fun _ _ _ h => h) rfl ?_ (by assumption) ?_
            · intro w' hw'; go_split_ands; go_simp
            simp only [List.setIfInBounds_toArray, List.set_cons_zero, List.set_cons_succ]
            refine takeT (i := 1) (v := (.bool false)) rfl (by kernel_rfl) (by kernel_rfl) (by kernel_rfl) (fun _ _ _ h => h) rfl ?_ (by assumption) ?_
            · intro w' hw'; go_split_ands; go_simp
            simp only [List.setIfInBounds_toArray, List.set_cons_zero, List.set_cons_succ]
            refine takeT (i := 2) (v := (.bool false)) rfl (by kernel_rfl) (by kernel_rfl) (by kernel_rfl) (fun _ _ _ h => h) rfl ?_ (by assumption) ?_
            · intro w' hw'; go_split_ands; go_simp
            simp only [List.setIfInBounds_toArray, List.set_cons_zero, List.set_cons_succ]
            refine takeT (i := 3) (v := (.agg #[.int .i64 y.f0, .int .i64 y.f1, .int .i64 y.f2, .int .i64 y.f3, .string y.f4])) rfl (by kernel_rfl) (by kernel_rfl) (by kernel_rfl) (fun _ _ _ h => h) rfl ?_ (by assumption) ?_
            · intro w' hw'; go_split_ands; go_simp
            simp only [List.setIfInBounds_toArray, List.set_cons_zero, List.set_cons_succ]
            refine wpAnyH_all (rs := [4]) (by kernel_rfl) (by simp) ?_
            intro i hi
            simp only [List.mem_cons, List.not_mem_nil, or_false] at hi
            subst hi
            refine wpOp_step rfl (fun K' hK' => ?_)
            rw [if_pos (by rfl)]
            go_simp
            go_at_call 16
            refine (HCK.out _).mono ?_
            rintro e wB ⟨rfl, hBB⟩
            have B1 := Lib.hid (below_go B0.out hBB)
            have hSB1 := HK.out wB B1.out
            refine hK' _ _ ⟨hSB1, ?_⟩
            try simp only [Act.put, List.setIfInBounds_toArray, List.set_cons_zero, List.set_cons_succ]
            refine takeT (i := 5) (v := (.bool false)) rfl (by kernel_rfl) (by kernel_rfl) (by kernel_rfl) (fun _ _ _ h => h) rfl ?_ (by assumption) ?_
            · intro w' hw'; go_split_ands; go_simp
            simp only [List.setIfInBounds_toArray, List.set_cons_zero, List.set_cons_succ]
            refine takeT (i := 6) (v := (.bool false)) rfl (by kernel_rfl) (by kernel_rfl) (by kernel_rfl) (fun _ _ _ h => h) rfl ?_ (by assumption) ?_
            · intro w' hw'; go_split_ands; go_simp
            simp only [List.setIfInBounds_toArray, List.set_cons_zero, List.set_cons_succ]
            refine takeT (i := 7) (v := (.bool false)) rfl (by kernel_rfl) (by kernel_rfl) (by kernel_rfl) (fun _ _ _ h => h) rfl ?_ (by assumption) ?_
            · intro w' hw'; go_split_ands; go_simp
            simp only [List.setIfInBounds_toArray, List.set_cons_zero, List.set_cons_succ]
            refine takeT (i := 8) (v := (.int .i64 (k : Int))) rfl (by kernel_rfl) (by kernel_rfl) (by kernel_rfl) (fun _ _ _ h => h) rfl ?_ (by assumption) ?_
            · intro w' hw'; go_split_ands; go_simp
            simp only [List.setIfInBounds_toArray, List.set_cons_zero, List.set_cons_succ]
            refine takeT (i := 9) (v := (.bool true)) rfl (by kernel_rfl) (by kernel_rfl) (by kernel_rfl) (fun _ _ _ h => h) rfl ?_ (by assumption) ?_
            · intro w' hw'; go_split_ands; go_simp
            simp only [List.setIfInBounds_toArray, List.set_cons_zero, List.set_cons_succ]
            refine takeT (i := 10) (v := (.bool true)) rfl (by kernel_rfl) (by kernel_rfl) (by kernel_rfl) (fun _ _ _ h => h) rfl ?_ (by assumption) ?_
            · intro w' hw'; go_split_ands; go_simp
            simp only [List.setIfInBounds_toArray, List.set_cons_zero, List.set_cons_succ]
            refine takeT (i := 11) (v := (.slice (some ⟨b, off, none⟩) nz cT)) rfl (by kernel_rfl) (by kernel_rfl) (by kernel_rfl) (fun _ _ _ h => h) rfl ?_ (by assumption) ?_
            · intro w' hw'; go_split_ands; go_simp
            simp only [List.setIfInBounds_toArray, List.set_cons_zero, List.set_cons_succ]
            refine takeT (i := 12) (v := (.int .i64 (k : Int))) rfl (by kernel_rfl) (by kernel_rfl) (by kernel_rfl) (fun _ _ _ h => h) rfl ?_ (by assumption) ?_
            · intro w' hw'; go_split_ands; go_simp
            simp only [List.setIfInBounds_toArray, List.set_cons_zero, List.set_cons_succ]
            refine takeT (i := 13) (v := (.int .i64 ((k - 1 : Nat) : Int))) rfl (by kernel_rfl) (by kernel_rfl) (by kernel_rfl) (fun _ _ _ h => h) rfl ?_ (by assumption) ?_
            · intro w' hw'; go_split_ands; go_simp; rw [IntKind.wrap_i64]; omega
            simp only [List.setIfInBounds_toArray, List.set_cons_zero, List.set_cons_succ]
            refine takeT (i := 14) (v := (.pointer (some ⟨b, off + (k - 1) * 5, none⟩))) rfl (by kernel_rfl) (by kernel_rfl) (by kernel_rfl) (fun _ _ _ h => h) rfl ?_ (by assumption) ?_
            · intro w' hw'; go_split_ands; go_simp; intro h; omega
            simp only [List.setIfInBounds_toArray, List.set_cons_zero, List.set_cons_succ]
            refine takeT (i := 15) (v := (.pointer (some ⟨b, off + (k - 1) * 5 + 2, none⟩))) rfl (by kernel_rfl) (by kernel_rfl) (by kernel_rfl) (fun _ _ _ h => h) rfl ?_ (by assumption) ?_
            · intro w' hw'; go_split_ands; go_simp
            simp only [List.setIfInBounds_toArray, List.set_cons_zero, List.set_cons_succ]
            refine takeT (i := 16) (v := (.int .i64 pr.f2)) rfl (by kernel_rfl) (by kernel_rfl) (by kernel_rfl) (fun _ _ _ h => h) rfl ?_ (by assumption) ?_
            · intro w' hw'; go_split_ands; go_simp
            simp only [List.setIfInBounds_toArray, List.set_cons_zero, List.set_cons_succ]
            refine takeT (i := 17) (v := (.pointer (some ⟨wa.heap.size, 2, none⟩))) rfl (by kernel_rfl) (by kernel_rfl) (by kernel_rfl) (fun _ _ _ h => h) rfl ?_ (by assumption) ?_
            · intro w' hw'; go_split_ands; go_simp
            simp only [List.setIfInBounds_toArray, List.set_cons_zero, List.set_cons_succ]
            refine takeT (i := 18) (v := (.int .i64 y.f2)) rfl (by kernel_rfl) (by kernel_rfl) (by kernel_rfl) (fun _ _ _ h => h) rfl ?_ (by assumption) ?_
            · intro w' hw'; go_split_ands; go_simp
            simp only [List.setIfInBounds_toArray, List.set_cons_zero, List.set_cons_succ]
            refine takeT (i := 19) (v := (.bool false)) rfl (by kernel_rfl) (by kernel_rfl) (by kernel_rfl) (fun _ _ _ h => h) rfl ?_ (by assumption) ?_
            · intro w' hw'; go_split_ands; go_simp
            simp only [List.setIfInBounds_toArray, List.set_cons_zero, List.set_cons_succ]
            refine takeT (i := 20) (v := (.bool false)) rfl (by kernel_rfl) (by kernel_rfl) (by kernel_rfl) (fun _ _ _ h => h) rfl ?_ (by assumption) ?_
            · intro w' hw'; go_split_ands; go_simp
            simp only [List.setIfInBounds_toArray, List.set_cons_zero, List.set_cons_succ]
            refine takeT (i := 21) (v := (.bool false)) rfl (by kernel_rfl) (by kernel_rfl) (by kernel_rfl) (fun _ _ _ h => h) rfl ?_ (by assumption) ?_
            · intro w' hw'; go_split_ands; go_simp
            simp only [List.setIfInBounds_toArray, List.set_cons_zero, List.set_cons_succ]
            refine wpAnyH_done (by kernel_rfl) ?_ _
            have v2 := cellK y2 B1.out
            have v3 := cellK y3 B1.out
            have hBB := below_go hBv.out B1.out
            have hMB := hM.out.below (below_go HBa.out hBB) hM.out.lt
            have HBB := Lib.hid (below_go (below_go hB.out HBa.out) hBB)
            clear hBB
            go_wp2_with (at_mapUpdate; refine wpList_put rfl (.tmp 70) (.tmp 72) (.tmp 74) 44 rfl keyed3 Try.underlying44 rfl hMB (by unfold maxLen; omega) (x := y.f2) hok rfl (c := y.f3) rfl ?_; intro w6 hM6 hg6)
            go_roundg (nz - (k + 1))
            case measure => omega
            case rel => exact ⟨k + 1, _, by go_num, by omega, Nat.le_refl _, hM6, HREST.out _ (fun z => rfl), HBB.out.grown hg6 HBB.out.size (by intro t ht; cases ht; exact Nat.le_refl _)⟩
    · obtain rfl : k = nz := by omega
      have dlt : decide ((k : Int) < (k : Int)) = false := decide_eq_false (by omega)
      have HBw := Lib.hid (below_go HB5.out hB.out)
      have hms := hM.out.lt
      clear hgg
      go_wp2
      go_loopg [9] k (fun gg s9 wq => ∃ i : Nat, s9 = .int .i64 i ∧ i ≤ k ∧ k - i ≤ gg ∧ Hid (Below wa.heap.size wa wq))
      case atStart => exact ⟨0, rfl, by omega, by omega, Below.refl _ _⟩
      case round =>
        rename World => wq
        obtain ⟨i, rfl, hik, hgg2, hBq⟩ := hrel
        by_cases hlt2 : i < k
        · obtain ⟨y, hy⟩ : ∃ y, zs[i]? = some y := ⟨_, List.getElem?_eq_getElem (by rw [← HNZ.out]; exact hlt2)⟩
          obtain rfl := hAT (by omega)
          have hyF := HMF.out y (List.mem_of_getElem? hy)
          have hyq := ok_bounds (HFI.out.key y.f2 y hyF).2
          have hyw : (Lit.int .i64 y.f2).wf = true := wf_small (by omega) (by omega)
          have hyw3 : (Lit.int .i64 y.f3).wf = true := wf_small (by omega) (by omega)
          have x2 := cellK (HTC.out i y hy 2 _ rfl) (below_go hB.out hBq.out)
          have x3 := cellK (HTC.out i y hy 3 _ rfl) (below_go hB.out hBq.out)
          rw [← Nat.add_assoc] at x2 x3
          have HUC := Lib.hid (HU.out wq y.f2 (below_go HBw.out hBq.out) hyw)
          have hUl := HFI.out.up_ends y.f2
          have hAt : ∀ t z, (upL F y.f2)[t]? = some z ↔ t < 8 ∧ steps F (t + 1) y.f2 z := fun t z => upF_at
          have h0 : 0 ≤ y.f3 → (upL F y.f2)[0]? = some y.f3 := fun h => (hAt 0 y.f3).2 ⟨by omega, y, hyF, h, rfl⟩
          have h1 : y.f3 < 0 → (upL F y.f2).length = 0 := fun h => by
            have : upL F y.f2 = [] := upF_stop fun q hq => by rw [hyF] at hq; cases hq; exact h
            rw [this]; rfl
          generalize upL F y.f2 = us at *
          obtain ⟨nu, hnu⟩ : ∃ nu, nu = us.length := ⟨_, rfl⟩
          rw [← hnu] at HUC hUl h1
          have HNU := Lib.hid hnu
          have HAT := Lib.hid hAt
          have H0 := Lib.hid h0
          have H1 := Lib.hid h1
          have HW3 := Lib.hid hyw3
          clear hy hyF hyq hnu hAt h0 h1 hyw3 hyw
          go_wp2_with (go_at_call 13; refine HUC.out.mono ?_; rintro e w7 ⟨AU, cU, rfl, hCU, hB7⟩; have HCU := Lib.hid hCU; have HB7 := Lib.hid hB7; clear hCU hB7)
          obtain ⟨bu, ou, hAU, huc⟩ := ints_spot HCU.out
          have HUI := Lib.hid huc
          have z2 := cellK x2 HB7.out
          have hM7 := hM.out.below (below_go hBq.out HB7.out) hms
          have HBq7 := Lib.hid (below_go hBq.out HB7.out)
          clear huc HCU HUC HB7 x2 x3
          go_loopg [10, 11] 8 (fun gg s10 s11 wv => ∃ (t : Nat) (a : Int), s10 = .int .i64 a ∧ s11 = .int .i64 t ∧ t ≤ nu ∧ 8 - t ≤ gg ∧ Hid (0 ≤ a → us[t]? = some a) ∧ Hid (a < 0 → t = nu) ∧ Hid ((Lit.int .i64 a).wf = true) ∧ Hid (wv = w7))
          case atStart => exact ⟨0, y.f3, rfl, rfl, by omega, by omega, H0.out, fun h => (H1.out h).symm, HW3.out, rfl⟩
          case round =>
            rename World => wv
            obtain ⟨t, a, rfl, rfl, htn, hgg3, hat, hneg, hwf, he⟩ := hrel
            obtain rfl := he.out
            by_cases ha : 0 ≤ a
            · have hta := hat.out ha
              have htl : t < nu := by rw [HNU.out]; exact (List.getElem?_eq_some_iff.1 hta).1
              obtain rfl := hAU (by omega)
              have hst := ((HAT.out t a).1 hta).2
              obtain ⟨q, hq⟩ := Option.isSome_iff_exists.1 (steps_placed HFI.out hst).2
              have hqz := HFM.out a q hq
              obtain ⟨ix, hix⟩ := List.getElem?_of_mem hqz.1
              have hfa : f a = some q.f3 := by
                rw [← hqz.2]
                exact hf.out ix q hix (by rw [HNZ.out]; exact (List.getElem?_eq_some_iff.1 hix).1)
              have u0 := HUI.out t a hta
              have hne : a ≠ y.f2 := fun e => not_self HFI.out (j := t) (by rw [e] at hst; exact hst)
              have d0 : (a == y.f2) = false := beq_eq_false_iff_ne.2 hne
              have hok : (K3).ok a := hwf.out
              have hqb := ok_bounds (HFI.out.key a q hq).2
              have n0 : 0 ≤ q.f3 → us[t + 1]? = some q.f3 := fun h => (HAT.out (t + 1) q.f3).2 ⟨by omega, steps_add hst (steps_one hq h rfl)⟩
              have n1 : q.f3 < 0 → t + 1 = nu := fun h => by
                rcases Nat.lt_or_ge (t + 1) nu with h' | h'
                · obtain ⟨z, hz⟩ : ∃ z, us[t + 1]? = some z := ⟨_, List.getElem?_eq_getElem (by rw [← HNU.out]; exact h')⟩
                  obtain ⟨m, hm1, hm2⟩ := steps_split (j := t + 1) (k := 1) ((HAT.out (t + 1) z).1 hz).2
                  have := steps_fun hst hm1
                  subst this
                  obtain ⟨q', hq', hq0, _⟩ := hm2
                  rw [hq] at hq'; cases hq'; omega
                · omega
              have N0 := Lib.hid n0
              have N1 := Lib.hid n1
              have HFA := Lib.hid hfa
              have HQW : Hid ((Lit.int .i64 q.f3).wf = true) := wf_small (by omega) (by omega)
              clear hta hst hq hqz hix hfa hne hqb n0 n1 he
              go_wp2_with (at_lookup; refine wpList_look rfl (.tmp 96) (.tmp 97) 44 rfl keyed3 Try.underlying44 (zero3 _) rfl hM7 (x := a) hok rfl ?_; simp only [HFA.out, Option.elim, Option.isSome])
              go_roundg (8 - (t + 1))
              case measure => omega
              case rel => exact ⟨t + 1, q.f3, rfl, by go_num, by omega, Nat.le_refl _, N0.out, N1.out, HQW.out, rfl⟩
            · have htnu := hneg.out (by omega)
              obtain rfl : t = nu := htnu
              go_wp2
              go_roundg (k - (i + 1))
              case measure => omega
              case rel => exact ⟨i + 1, by go_num, by omega, Nat.le_refl _, HBq7.out⟩
        · obtain rfl : i = k := by omega
          have dlt2 : decide ((i : Int) < (i : Int)) = false := decide_eq_false (by omega)
          go_wp2
          go_ret
          exact ⟨rfl, below_go HBw.out hBq.out⟩
end
end Go.Proofs.Ytihpiejlfdinaaa.PF

