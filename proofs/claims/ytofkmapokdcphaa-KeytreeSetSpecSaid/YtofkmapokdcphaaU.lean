import Derived.Test.YtofkmapokdcphaaT
namespace Go.Proofs.Ytofkmapokdcphaa
open Go Go.RowKit Go.Maps Go.My Go.Shelf

/-- Some keys set, in their order. -/
def updL (f : Int → Option Int) (L : List (Int × Int)) : Int → Option Int := L.foldl (fun f n => upd f n.1 (some n.2)) f
theorem updL_snoc (f : Int → Option Int) (L : List (Int × Int)) (n : Int × Int) : updL f (L ++ [n]) = upd (updL f L) n.1 (some n.2) := by
  unfold updL; rw [List.foldl_append]; rfl

def renF (f : Int → Option Int) (d : Int) (ps : List Int) : Int → Option Int := updL (chF f d) ((anc d).zip ps)

def renewL (xs : List Nd) (d : Int) (ps : List Int) : List Nd × Int :=
  if checkL xs ≠ 0 then ([], 210) else if d < 0 ∨ 512 ≤ d ∨ ofF xs (512 + d) = none then ([], 200) else if ps.length ≠ 10 ∨ ps.any badP = true then ([], 50) else (treeL (renF (ofF xs) d ps), 0)

theorem updL_some : ∀ (L : List (Int × Int)) (f : Int → Option Int) (x c : Int), updL f L x = some c → f x = some c ∨ (x, c) ∈ L
  | [], f, x, c, h => .inl h
  | n :: L, f, x, c, h => by
    rcases updL_some L (upd f n.1 (some n.2)) x c h with h | h
    · unfold upd at h
      split at h
      · rename_i e
        cases h
        exact .inr (by rw [e]; simp)
      · exact .inl h
    · exact .inr (by simp [h])

theorem anc_range {d : Nat} (hd : d < 512) {x : Int} (hx : x ∈ anc d) : 1 ≤ x ∧ x ≤ 1023 := by
  unfold anc at hx
  rcases List.mem_cons.1 hx with rfl | h
  · omega
  · rw [Int.toNat_natCast] at h
    obtain ⟨j, hj, e⟩ := List.mem_iff_getElem.1 h
    have := pathL_range (d := d) (j := j) (y := x) hd (by rw [List.getElem?_eq_getElem hj, e])
    omega

set_option maxRecDepth 100000 in
set_option maxHeartbeats 1000000 in
theorem renew_fail (v vp : Value) (xs : List Nd) (ps : List Int) (d er : Int) (w : World) (h : TreeAt w v xs) (e : renewL xs d ps = ([], er)) (her : er = 210 ∨ er = 200)
    (HC : ∀ W v, TreeAt W v xs → Calls Try.prog 45 #[v, .int .i64 d, .bool true] W fun e w' => e = .returned (.tuple #[.map none, .slice none 0 0, .int .i64 er]) ∧ Below W.heap.size W w') :
    Calls Try.prog 25 #[v, .int .i64 d, vp] w fun e w' => ∃ v', e = .returned (.tuple #[v', .int .i64 (renewL xs d ps).2]) ∧ TreeAt w' v' (renewL xs d ps).1 ∧ Below w.heap.size w w' := by
  obtain ⟨a, cap, rfl, hr, hw⟩ := h
  have ht : TreeAt ((w.alloc (.cells #[.slice a xs.length cap] 24)).alloc (.cells #[.slice none 0 0] 24)) (.agg #[.slice a xs.length cap]) xs := TreeAt.box (TreeAt.box ⟨a, cap, rfl, hr, hw⟩ _) _
  have hB0 : Below w.heap.size w ((w.alloc (.cells #[.slice a xs.length cap] 24)).alloc (.cells #[.slice none 0 0] 24)) := ((Below.refl _ _).alloc (Nat.le_refl _) _).alloc (by simp) _
  have hbx6 : Boxed ((w.alloc (.cells #[.slice a xs.length cap] 24)).alloc (.cells #[.slice none 0 0] 24)) (w.heap.size + 1) 24 (.slice none 0 0) := by
    have := Boxed.new (w.alloc (.cells #[.slice a xs.length cap] 24)) 24 (.slice none 0 0)
    simp only [World.size_alloc] at this
    exact this
  have HE := Lib.hid e
  have HC := Lib.hid (HC _ _ ht)
  clear hr hw ht e
  generalize xs.length = n at *
  rcases her with rfl | rfl
  all_goals
    go_enter Try.func25, Try.ntmps25
    go_wp2_with (go_at_call 45; refine HC.out.mono ?_; rintro e w1 ⟨rfl, hB⟩; have hb1 : Boxed w1 (w.heap.size + 1) 24 (.slice none 0 0) := (hB.block _ (by simp)).trans hbx6; have c1 := hb1.cell; have f1 := hb1.frozen)
    refine bodyPost_ret (results_tree rfl _ _ (w.heap.size + 1) _ rfl (hb1.set _)) rfl ?_
    rw [HE.out]
    exact ⟨_, rfl, treeAt_nil _, (hB0.trans (hB.mono (by simp only [World.size_alloc]; omega))).setCell (p := ⟨w.heap.size + 1, 0, none⟩) (by show w.heap.size ≤ w.heap.size + 1; omega) _⟩

set_option maxRecDepth 100000 in
set_option maxHeartbeats 1000000 in
theorem renew_any (v vp : Value) (xs : List Nd) (ps : List Int) (d : Int) (w : World) (hm : xs.length ≤ 100) (hmp : ps.length ≤ 100) (h : TreeAt w v xs) (hp : IntsAt w vp ps) (hpw : ∀ p ∈ ps, (Lit.int .i64 p).wf = true) :
    Calls Try.prog 25 #[v, .int .i64 d, vp] w fun e w' => ∃ v', e = .returned (.tuple #[v', .int .i64 (renewL xs d ps).2]) ∧ TreeAt w' v' (renewL xs d ps).1 ∧ Below w.heap.size w w' := by
  rcases checkL_or xs with hc | hc
  case inr =>
    exact renew_fail v vp xs ps d 210 w h (by unfold renewL; rw [if_pos (by simp [hc])]) (.inl rfl) (fun W v hW => change_tree v xs d true W hm hW hc)
  by_cases hd : d < 0 ∨ 512 ≤ d
  · exact renew_fail v vp xs ps d 200 w h (by unfold renewL; rw [if_neg (by simp [hc]), if_pos (by omega)]) (.inr rfl) (fun W v hW => change_dev v xs d true W hm hW hc hd)
  by_cases hn : ofF xs (512 + d) = none
  · exact renew_fail v vp xs ps d 200 w h (by unfold renewL; rw [if_neg (by simp [hc]), if_pos (.inr (.inr hn))]) (.inr rfl) (fun W v hW => change_none v xs d W hm hW hc (by omega) (by omega) hn)
  have hng : ¬ (d < 0 ∨ 512 ≤ d ∨ ofF xs (512 + d) = none) := by rintro (q | q | q); omega; omega; exact hn q
  have hwf : ∀ x c, chF (ofF xs) d x = some c → (Lit.int .i64 c).wf = true := fun x c => chF_wf h d x c
  have HWF := Lib.hid hwf
  have hd0 : 0 ≤ d := by omega
  obtain ⟨a, cap, rfl, hr, hw⟩ := h
  have ht : TreeAt ((w.alloc (.cells #[.slice a xs.length cap] 24)).alloc (.cells #[.slice none 0 0] 24)) (.agg #[.slice a xs.length cap]) xs := TreeAt.box (TreeAt.box ⟨a, cap, rfl, hr, hw⟩ _) _
  have hB0 : Below w.heap.size w ((w.alloc (.cells #[.slice a xs.length cap] 24)).alloc (.cells #[.slice none 0 0] 24)) := ((Below.refl _ _).alloc (Nat.le_refl _) _).alloc (by simp) _
  have hp2 := (hp.below ((Below.refl _ _).alloc (Nat.le_refl _) (.cells #[.slice a xs.length cap] 24))).below ((Below.refl _ _).alloc (Nat.le_refl _) (.cells #[.slice none 0 0] 24))
  have hbx6 : Boxed ((w.alloc (.cells #[.slice a xs.length cap] 24)).alloc (.cells #[.slice none 0 0] 24)) (w.heap.size + 1) 24 (.slice none 0 0) := by
    have := Boxed.new (w.alloc (.cells #[.slice a xs.length cap] 24)) 24 (.slice none 0 0)
    simp only [World.size_alloc] at this
    exact this
  have HR := Lib.hid fun (x : Int) (hx : (chF (ofF xs) d x).isSome = true) => chF_range hc d x hx
  obtain ⟨dn, rfl⟩ := Int.eq_ofNat_of_zero_le hd0
  have HC := Lib.hid (change_ok _ xs dn true _ hm ht hc (by omega) (.inr (by cases q : ofF xs (512 + (dn : Int)) with | none => exact absurd q hn | some c => rfl)))
  have HCF := Lib.hid fun W (hB : Below ((w.alloc (.cells #[.slice a xs.length cap] 24)).alloc (.cells #[.slice none 0 0] 24)).heap.size ((w.alloc (.cells #[.slice a xs.length cap] 24)).alloc (.cells #[.slice none 0 0] 24)) W) =>
    containsFunc_any vp ps W hmp (hp2.below hB)
  have HP2 := Lib.hid hp2
  have HPW := Lib.hid hpw
  obtain ⟨ap, capp, bp, op, rfl, hap, hcp⟩ := hp
  have HAP := Lib.hid hap
  have HCP := Lib.hid hcp
  clear hpw hap hcp hp2
  obtain ⟨lp, hlp⟩ : ∃ lp, lp = ps.length := ⟨_, rfl⟩
  rw [← hlp] at HCF HP2 hmp ⊢
  by_cases hl : lp = 10
  · by_cases hb : ps.any badP = true
    · have e : renewL xs dn ps = ([], 50) := by unfold renewL; rw [if_neg (by simp [hc]), if_neg hng, if_pos (.inr hb)]
      have HE := Lib.hid e
      rw [hb] at HCF
      clear hr hw ht e hn hd hwf hc hb HWF HR hng
      generalize ofF xs = f at *
      generalize xs.length = n at *
      clear hlp
      subst hl
      go_enter Try.func25, Try.ntmps25
      go_wp2_with (first
        | (go_at_call 45; refine HC.out.mono ?_; rintro e w1 ⟨m, v2, rfl, hlm, hM, _, hB⟩; have hb1 : Boxed w1 (w.heap.size + 1) 24 (.slice none 0 0) := (hB.block _ (by simp)).trans hbx6)
        | (go_at_call 50; refine (HCF.out w1 hB).mono ?_; rintro e w2 ⟨rfl, hB2⟩; have hb2 : Boxed w2 (w.heap.size + 1) 24 (.slice none 0 0) := (hB2.block _ hb1.lt).trans hb1; have c2 := hb2.cell; have f2 := hb2.frozen))
      refine bodyPost_ret (results_tree rfl _ _ (w.heap.size + 1) _ rfl (hb2.set _)) rfl ?_
      rw [HE.out]
      have s1 := hB.size
      simp only [World.size_alloc] at s1
      exact ⟨_, rfl, treeAt_nil _, ((hB0.trans (hB.mono (by simp only [World.size_alloc]; omega))).trans (hB2.mono (by omega))).setCell (p := ⟨w.heap.size + 1, 0, none⟩) (by show w.heap.size ≤ w.heap.size + 1; omega) _⟩
    · rw [Bool.not_eq_true] at hb
      have e : renewL xs dn ps = (treeL (renF (ofF xs) dn ps), 0) := by unfold renewL; rw [if_neg (by simp [hc]), if_neg hng, if_neg (by rintro (q | q); omega; rw [hb] at q; cases q)]
      have HE := Lib.hid e
      rw [hb] at HCF
      have hl0 : 0 < lp := by omega
      obtain ⟨p0, hp0⟩ : ∃ p, ps[0]? = some p := ⟨_, List.getElem?_eq_getElem (by omega)⟩
      have hok : (K3).ok (512 + (dn : Int)) := wf_small (by omega) (by omega)
      have hdn : dn < 512 := by omega
      have hap : ap = some ⟨bp, op, none⟩ := by
        rcases HAP.out with h | h
        · exact h
        · rw [h] at hp0; cases hp0
      subst hap
      have hcp0 := HCP.out 0 p0 hp0
      have HP0 := Lib.hid hp0
      clear hr hw ht e hn hd hwf hc hb hng hp0
      generalize ofF xs = f at *
      generalize xs.length = n at *
      have HLP := Lib.hid hlp
      clear hlp
      subst hl
      go_enter Try.func25, Try.ntmps25
      go_wp2_with (first
        | (go_at_call 45; refine HC.out.mono ?_; rintro e w1 ⟨m, v2, rfl, hlm, hM, ⟨a2, cap2, b2, off2, rfl, ha2, hc2⟩, hB⟩; have HA2 := Lib.hid ha2; have HC2 := Lib.hid hc2; clear ha2 hc2; rw [pathL_length]; have hb1 : Boxed w1 (w.heap.size + 1) 24 (.slice none 0 0) := (hB.block _ (by simp)).trans hbx6; have hMs := hM.lt)
        | (go_at_call 50; refine (HCF.out w1 hB).mono ?_; rintro e w2 ⟨rfl, hB2⟩; have hb2 : Boxed w2 (w.heap.size + 1) 24 (.slice none 0 0) := (hB2.block _ hb1.lt).trans hb1; have hM2 := hM.below hB2 hMs; have gp0 := (hB2.cell (p := ⟨bp, op + 0, none⟩) (by have := hB.size; simp at this; have := lt_of_cell hcp0; simp at this; show bp < _; omega)).trans ((hB.cell (p := ⟨bp, op + 0, none⟩) (by have := lt_of_cell hcp0; simp at this; show bp < _; simp; omega)).trans ((hB0.cell (p := ⟨bp, op + 0, none⟩) (lt_of_cell hcp0)).trans hcp0)); simp only [Nat.add_zero] at gp0)
        | (at_mapUpdate; refine wpList_put rfl (.tmp 31) (.tmp 33) (.tmp 36) 59 rfl keyed3 Try.underlying59 rfl hM2 (by unfold maxLen; omega) (x := 512 + (dn : Int)) hok rfl (c := p0) rfl ?_; intro w3 hM3 hg3))
      have ha2 : a2 = some ⟨b2, off2, none⟩ := by
        rcases HA2.out with h | h
        · exact h
        · have := pathL_length dn; rw [h] at this; cases this
      subst ha2
      have s1 := hB.size
      have s2 := hB2.size
      have s3 := hg3.size
      simp only [World.size_alloc] at s1
      have hlm' : w.heap.size ≤ m := by simp only [World.size_alloc] at hlm; omega
      have hbp := lt_of_cell hcp0
      have hc3 : Chg (fun j => j = m) w2 w3 := (Chg.refl _ _).grown hg3 (fun j hj => by cases hj; exact .inl rfl)
      have hcp3 : ∀ i x, ps[i]? = some x → w2.cell? ⟨bp, op + i, none⟩ = some (.int .i64 x) := fun i x hx => by
        have h0 := HCP.out i x hx
        exact (hB2.cell (p := ⟨bp, op + i, none⟩) (by show bp < _; simp at hbp; omega)).trans ((hB.cell (p := ⟨bp, op + i, none⟩) (by show bp < _; simp only [World.size_alloc]; simp at hbp; omega)).trans ((hB0.cell (p := ⟨bp, op + i, none⟩) (lt_of_cell h0)).trans h0))
      have hc23 : ∀ i x, (pathL dn)[i]? = some x → w2.cell? ⟨b2, off2 + i, none⟩ = some (.int .i64 x) := fun i x hx => by
        have h0 := HC2.out i x hx
        exact (hB2.cell (p := ⟨b2, off2 + i, none⟩) (lt_of_cell h0)).trans h0
      have hno : ∀ p : Addr, p.block = m → w2.cell? p = none := fun p hp => hM2.nocell hp
      have hb3 : Boxed w3 (w.heap.size + 1) 24 (.slice none 0 0) := (hc3.same _ hb2.lt (fun e => by simp at hlm; have e : w.heap.size + 1 = m := e; omega)).trans hb2
      have hBw3 : Below w.heap.size w w2 := (hB0.trans (hB.mono (by simp only [World.size_alloc]; omega))).trans (hB2.mono (by omega))
      have HCP3 := Lib.hid hcp3
      have HC23 := Lib.hid hc23
      have HNO := Lib.hid hno
      have HBW := Lib.hid hBw3
      have hM3' : MapIs K3 evI w3 m (n + 1) (updL (chF f dn) [(512 + (dn : Int), p0)]) := hM3
      have HM3 := Lib.hid hM3'
      have HC3 := Lib.hid hc3
      clear hcp3 hc23 hno hBw3 hM3 hM3' hc3 hg3 hM hMs hM2 hB hB2 hB0 gp0 hcp0 HC HCF hb1 hb3 hbx6 HP2
      have hmw : m ≠ w.heap.size + 1 := by simp at hlm; omega
      go_loopw [39] (fun i wr => ∃ j : Nat, j ≤ 9 ∧ i = .int .i64 j ∧ MapIs K3 evI wr m (n + 1 + j) (updL (chF f dn) ((512 + (dn : Int), p0) :: ((pathL dn).zip (ps.drop 1)).take j)) ∧ Chg (fun j => j = m) w2 wr) (fun i _ => 9 - (intOf i).toNat)
      case atStart => exact ⟨0, by omega, rfl, HM3.out, HC3.out⟩
      case round =>
        obtain ⟨j, hj, rfl, hM5, hC5⟩ := hrel
        by_cases hj9 : j < 9
        · obtain ⟨y, hy⟩ : ∃ y, (pathL dn)[j]? = some y := ⟨_, List.getElem?_eq_getElem (by rw [pathL_length]; exact hj9)⟩
          obtain ⟨p, hp⟩ : ∃ p, ps[j + 1]? = some p := ⟨_, List.getElem?_eq_getElem (by have := HLP.out; omega)⟩
          have g2 := hC5.cell (HC23.out j y hy) (fun e => by have := HNO.out ⟨b2, off2 + j, none⟩ e; rw [HC23.out j y hy] at this; cases this)
          have g3 := hC5.cell (HCP3.out (j + 1) p hp) (fun e => by have := HNO.out ⟨bp, op + (j + 1), none⟩ e; rw [HCP3.out (j + 1) p hp] at this; cases this)
          have hyr := pathL_range hdn hy
          have hoky : (K3).ok y := wf_small (by omega) (by omega)
          have hz : ((pathL dn).zip (ps.drop 1))[j]? = some (y, p) := by
            rw [List.getElem?_zip_eq_some]
            exact ⟨hy, by rw [List.getElem?_drop, Nat.add_comm]; exact hp⟩
          have HSJ := Lib.hid (take_snoc hz)
          clear hy hp hyr hz
          go_wp2_with (at_mapUpdate; refine wpList_put rfl (.tmp 44) (.tmp 45) (.tmp 50) 59 rfl keyed3 Try.underlying59 rfl hM5 (by unfold maxLen; omega) (x := y) hoky rfl (c := p) rfl ?_; intro w6 hM6 hg6)
          have hM7 : MapIs K3 evI w6 m (n + 1 + (j + 1)) (updL (chF f dn) ((512 + (dn : Int), p0) :: ((pathL dn).zip (ps.drop 1)).take (j + 1))) := by
            rw [HSJ.out, ← List.cons_append]
            exact hM6.congr (fun x => by rw [updL_snoc])
          have HM7 := Lib.hid hM7
          clear hM6 hM7
          go_roundw
          case rel => exact ⟨j + 1, by omega, by go_num, HM7.out, hC5.grown hg6 (fun j hj => by cases hj; exact .inl rfl)⟩
          case measure => simp [intOf]; omega
        · have hj' : j = 9 := by omega
          subst hj'
          have hlen9 : ((pathL dn).zip (ps.drop 1)).length = 9 := by rw [List.length_zip, pathL_length, List.length_drop, ← HLP.out]; rfl
          rw [List.take_of_length_le (by omega)] at hM5
          have hps : ps = p0 :: ps.drop 1 := by
            have h0 := HP0.out
            cases ps with
            | nil => cases h0
            | cons q qs => simp at h0; subst h0; rfl
          have hM6 : MapIs K3 evI wr m (n + 1 + 9) (renF f dn ps) := by
            unfold renF anc
            rw [Int.toNat_natCast, hps]
            exact hM5
          have HPS := Lib.hid hps
          have HM6 := Lib.hid hM6
          have hwfF : ∀ x c, renF f dn ps x = some c → (Lit.int .i64 c).wf = true := by
            intro x c hx
            rcases updL_some _ _ _ _ hx with h | h
            · exact HWF.out x c h
            · exact HPW.out c (List.of_mem_zip h).2
          have hrgF : ∀ x, (renF f dn ps x).isSome = true → 0 ≤ x ∧ x < 1024 := by
            intro x hx
            obtain ⟨c, hc⟩ := Option.isSome_iff_exists.1 hx
            rcases updL_some _ _ _ _ hc with h | h
            · have := HR.out x (by rw [h]; rfl); omega
            · have := anc_range hdn (List.of_mem_zip h).1; omega
          have HT46 := Lib.hid (tree46_any wr m (n + 1 + 9) _ (by omega) hM6 hwfF)
          have HRG := Lib.hid hrgF
          have hb5 : Boxed wr (w.heap.size + 1) 24 (.slice none 0 0) := by
            exact (hC5.same _ hb2.lt (fun e => hmw (Eq.symm e))).trans hb2
          clear hM5 hM6 hps hwfF hrgF hlen9
          go_wp2_with (go_at_call 46; refine HT46.out.mono ?_; rintro e w7 ⟨v7, ys, rfl, hT7, hsort, hof, _, hB7⟩; have HT7 := Lib.hid hT7; obtain ⟨a7, cap7, rfl, _, _⟩ := hT7; have hb7 : Boxed w7 (w.heap.size + 1) 24 (.slice none 0 0) := (hB7.block _ hb5.lt).trans hb5; have c7 := hb7.cell; have f7 := hb7.frozen)
          have hys := treeL_uniq HRG.out hsort hof
          have hT8 := HT7.out.store (u := .slice a7 ys.length cap7) hb7
          refine bodyPost_ret (results_tree rfl _ _ (w.heap.size + 1) _ rfl (hb7.set _)) rfl ?_
          rw [HE.out]
          refine ⟨_, rfl, ?_, ?_⟩
          · rw [hys] at hT8 ⊢; exact hT8
          · exact ((HBW.out.trans (hC5.below (fun j h => by omega) (by omega))).trans (hB7.mono (by have := hC5.size; omega))).setCell (p := ⟨w.heap.size + 1, 0, none⟩) (by show w.heap.size ≤ w.heap.size + 1; omega) _
  · have e : renewL xs dn ps = ([], 50) := by unfold renewL; rw [if_neg (by simp [hc]), if_neg hng, if_pos (.inl (by omega))]
    have HE := Lib.hid e
    have hl' : ¬ (lp : Int) = 10 := by omega
    have hl'' : ((lp : Int) != 10) = true := by simpa using hl'
    clear hr hw ht e hn hd hwf hc HWF HR hng hlp
    generalize ofF xs = f at *
    generalize xs.length = n at *
    go_enter Try.func25, Try.ntmps25
    go_wp2_with (go_at_call 45; refine HC.out.mono ?_; rintro e w1 ⟨m, v2, rfl, hlm, hM, _, hB⟩; have hb1 : Boxed w1 (w.heap.size + 1) 24 (.slice none 0 0) := (hB.block _ (by simp)).trans hbx6; have c1 := hb1.cell; have f1 := hb1.frozen)
    refine bodyPost_ret (results_tree rfl _ _ (w.heap.size + 1) _ rfl (hb1.set _)) rfl ?_
    rw [HE.out]
    exact ⟨_, rfl, treeAt_nil _, (hB0.trans (hB.mono (by simp only [World.size_alloc]; omega))).setCell (p := ⟨w.heap.size + 1, 0, none⟩) (by show w.heap.size ≤ w.heap.size + 1; omega) _⟩
end Go.Proofs.Ytofkmapokdcphaa
