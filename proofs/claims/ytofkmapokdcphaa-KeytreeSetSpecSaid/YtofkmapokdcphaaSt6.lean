import Derived.Test.YtofkmapokdcphaaSt5
import Derived.Test.YtofkmapokdcphaaRn1
namespace Go.Proofs.Ytofkmapokdcphaa
open Go Go.RowKit Go.Maps Go.My Go.Shelf

theorem renew_eq {xs : List Nd} (h : checkL xs = 0) {d : Nat} (hd : d < 512) {ps : List Int} (hp : ps.length = 10) (hc : ∀ p ∈ ps, chk p = 0) : renUp xs d ps 10 = treeL (renF (ofF xs) d ps) := by
  obtain ⟨h1, h2⟩ := renUp_mem h hd ps 10 (Nat.le_refl _)
  refine treeL_uniq (valid_range (renF_valid (valid_of h) hd hp hc)) h1 fun x => ofF_of_mem h1 (fun x c => ?_) x
  rw [h2]
  by_cases hx : x ∈ anc d
  · have hch : chF (ofF xs) d x = none := by unfold chF chL; rw [if_pos hx]
    rw [hch]
    obtain ⟨j, hj, e⟩ := List.mem_iff_getElem.1 hx
    rw [anc_length] at hj
    have hat : (anc d)[j]? = some x := by rw [List.getElem?_eq_getElem (by rw [anc_length]; exact hj), e]
    have hpj : ps[j]? = some (ps.getD j 0) := by
      rw [List.getD_eq_getElem?_getD, List.getElem?_eq_getElem (by omega)]; rfl
    rw [renF_in (F := ofF xs) hd hp hj hat hpj]
    have hxj : x = (((512 + d) / 2 ^ j : Nat) : Int) := by
      have := anc_at' d j hj
      rw [hat] at this
      exact Option.some.inj this
    constructor
    · rintro (q | ⟨i, hi, q1, q2⟩)
      · cases q
      · have e1 := lvl_tab' d hd i hi
        have e2 := lvl_tab' d hd j hj
        rw [← q1, hxj, e2] at e1
        have : i = j := by omega
        rw [q2, this]
    · intro q
      exact .inr ⟨j, hj, hxj, (Option.some.inj q).symm⟩
  · rw [renF_out hx]
    have hch : chF (ofF xs) d x = ofF xs x := by unfold chF chL; rw [if_neg hx]
    rw [hch]
    constructor
    · rintro (q | ⟨i, hi, q1, _⟩)
      · exact q
      · exact absurd (by rw [q1]; exact List.mem_of_getElem? (anc_at' d i hi)) hx
    · exact .inl

set_option maxRecDepth 100000 in
set_option maxHeartbeats 4000000 in
theorem renew26 (v vp : Value) (xs : List Nd) (ps : List Int) (d : Int) (w : World) (hm : xs.length ≤ 80) (hmp : ps.length ≤ 100) (h : TreeAt w v xs) (hp : IntsAt w vp ps) (hpw : ∀ p ∈ ps, (Lit.int .i64 p).wf = true) :
    Calls Try.prog 26 #[v, .int .i64 d, vp] w fun e w' => ∃ v', e = .returned (.tuple #[v', .int .i64 (renewL xs d ps).2]) ∧ TreeAt w' v' (renewL xs d ps).1 ∧ Below w.heap.size w w' := by
  have KC := Lib.hid fun W v (hv : TreeAt W v xs) => check18 v xs W (by omega) hv
  have KD1 := Lib.hid fun (a : 0 ≤ d) (b : d < 512) W => device_yes d W a b
  have KD2 := Lib.hid fun (a : d < 0 ∨ 512 ≤ d) W => device_no d W a
  have KB := Lib.hid fun W v (hv : TreeAt W v xs) => blank44 v xs (512 + d) W (by omega) hv
  have KW := Lib.hid fun (a : 0 ≤ d) (b : d < 512) W v (hv : TreeAt W v xs) => without49 v xs d W (by omega) a b hv
  have HM := Lib.hid hm
  have HT := Lib.hid h
  have HP := Lib.hid hp
  have HPW := Lib.hid hpw
  obtain ⟨a0, c0, rfl⟩ := h.form
  obtain ⟨aP, cP, rfl⟩ := hp.form
  have hbt := (Boxed.new w 24 (.slice a0 xs.length c0)).alloc b24
  have hbr := Boxed.new (w.alloc (.cells #[.slice a0 xs.length c0] 24)) 24 (.slice none 0 0)
  simp only [World.size_alloc] at hbr
  have hB0 : Below w.heap.size w ((w.alloc (.cells #[.slice a0 xs.length c0] 24)).alloc b24) := ((Below.refl _ _).alloc (Nat.le_refl _) _).alloc (by simp) _
  have hT0 := Lib.hid ((HT.out.box (.cells #[.slice a0 xs.length c0] 24)).box b24)
  have hbt1 := hbt.cell
  rcases checkL_or xs with hc | hc
  case inr =>
    rw [hc] at KC
    have hr : renewL xs d ps = ([], 210) := by unfold renewL; rw [if_pos (by simp [hc])]
    rw [hr]
    clear hc hr h hm hp hpw
    generalize xs.length = n at *
    generalize ps.length = np at *
    go_enter Try.func26, Try.ntmps26
    go_wp2_with (go_at_call 18; refine (KC.out _ _ hT0.out).mono ?_; rintro e w1 ⟨rfl, hB1⟩; have hb1 : Boxed w1 (w.heap.size + 1) 24 (.slice none 0 0) := (hB1.block _ (by simp)).trans hbr; have c1 := hb1.cell; have f1 := hb1.frozen)
    refine bodyPost_ret (results_tree rfl _ _ (w.heap.size + 1) _ rfl (hb1.set _)) rfl ?_
    exact ⟨_, rfl, treeAt_nil _, (hB0.trans (hB1.mono (by simp; omega))).setCell (p := ⟨w.heap.size + 1, 0, none⟩) (by simp) _⟩
  case inl =>
    rw [hc] at KC
    by_cases hdd : d < 0 ∨ 512 ≤ d
    · have hr : renewL xs d ps = ([], 200) := by unfold renewL; rw [if_neg (by simp [hc]), if_pos (by omega)]
      rw [hr]
      have HD := Lib.hid hdd
      clear hc hr h hm hdd hp hpw
      generalize xs.length = n at *
      generalize ps.length = np at *
      go_enter Try.func26, Try.ntmps26
      go_wp2_with (first
        | (go_at_call 18; refine (KC.out _ _ hT0.out).mono ?_; rintro e w1 ⟨rfl, hB1⟩; have hb1 : Boxed w1 (w.heap.size + 1) 24 (.slice none 0 0) := (hB1.block _ (by simp)).trans hbr; have c1 := hb1.cell; have f1 := hb1.frozen)
        | (go_at_call 47; refine (KD2.out HD.out _).mono ?_; rintro e w2 ⟨rfl, rfl⟩))
      refine bodyPost_ret (results_tree rfl _ _ (w.heap.size + 1) _ rfl (hb1.set _)) rfl ?_
      exact ⟨_, rfl, treeAt_nil _, (hB0.trans (hB1.mono (by simp; omega))).setCell (p := ⟨w.heap.size + 1, 0, none⟩) (by simp) _⟩
    · obtain ⟨dn, rfl⟩ := Int.eq_ofNat_of_zero_le (show 0 ≤ d by omega)
      have hd1 : dn < 512 := by omega
      have HD := Lib.hid (show (0 : Int) ≤ (dn : Int) ∧ (dn : Int) < 512 by omega)
      cases ho : (ofF xs (512 + (dn : Int))).isSome with
      | false =>
        have hr : renewL xs dn ps = ([], 200) := by
          unfold renewL
          rw [if_neg (by simp [hc]), if_pos (.inr (.inr (by
            cases hx : ofF xs (512 + (dn : Int)) with
            | none => rfl
            | some y => rw [hx] at ho; cases ho)))]
        rw [hr]
        rw [ho] at KB
        clear hc hr h hm hdd ho hp hpw
        generalize xs.length = n at *
        generalize ps.length = np at *
        go_enter Try.func26, Try.ntmps26
        go_wp2_with (first
          | (go_at_call 18; refine (KC.out _ _ hT0.out).mono ?_; rintro e w1 ⟨rfl, hB1⟩; have hb1 : Boxed w1 (w.heap.size + 1) 24 (.slice none 0 0) := (hB1.block _ (by simp)).trans hbr; have c1 := cell_kept hbt1 hB1; have hT1 := Lib.hid (hT0.out.below hB1))
          | (go_at_call 47; refine (KD1.out HD.out.1 HD.out.2 _).mono ?_; rintro e w2 ⟨rfl, rfl⟩)
          | (go_at_call 44; refine (KB.out _ _ hT1.out).mono ?_; rintro e w3 ⟨rfl, hB3⟩; have hb3 : Boxed w3 (w.heap.size + 1) 24 (.slice none 0 0) := (hB3.block _ hb1.lt).trans hb1; have c3 := hb3.cell; have f3 := hb3.frozen; have hs3 := (hB0.trans (hB1.mono (by simp; omega))).trans (hB3.mono (Nat.le_trans (by simp; omega) hB1.size))))
        refine bodyPost_ret (results_tree rfl _ _ (w.heap.size + 1) _ rfl (hb3.set _)) rfl ?_
        exact ⟨_, rfl, treeAt_nil _, hs3.setCell (p := ⟨w.heap.size + 1, 0, none⟩) (by simp) _⟩
      | true =>
        rw [ho] at KB
        have hne : ¬ ofF xs (512 + (dn : Int)) = none := fun e => by rw [e] at ho; cases ho
        have hbase : renewL xs dn ps = if ps.length ≠ 10 ∨ ps.any badP = true then ([], 50) else (treeL (renF (ofF xs) dn ps), 0) := by
          unfold renewL
          rw [if_neg (by simp [hc]), if_neg (by rintro (q | q | q); omega; omega; exact hne q)]
        by_cases hpl : ps.length = 10
        case neg =>
          have hr : renewL xs dn ps = ([], 50) := by rw [hbase, if_pos (.inl hpl)]
          rw [hr]
          have hpl2 : ((ps.length : Int) != 10) = true := by simpa using (show ¬ (ps.length : Int) = 10 by omega)
          clear hc hr h hm hdd ho hp hpw hbase hpl hne
          generalize xs.length = n at *
          generalize ps.length = np at *
          go_enter Try.func26, Try.ntmps26
          go_wp2_with (first
            | (go_at_call 18; refine (KC.out _ _ hT0.out).mono ?_; rintro e w1 ⟨rfl, hB1⟩; have hb1 : Boxed w1 (w.heap.size + 1) 24 (.slice none 0 0) := (hB1.block _ (by simp)).trans hbr; have c1 := cell_kept hbt1 hB1; have hT1 := Lib.hid (hT0.out.below hB1))
            | (go_at_call 47; refine (KD1.out HD.out.1 HD.out.2 _).mono ?_; rintro e w2 ⟨rfl, rfl⟩)
            | (go_at_call 44; refine (KB.out _ _ hT1.out).mono ?_; rintro e w3 ⟨rfl, hB3⟩; have hb3 : Boxed w3 (w.heap.size + 1) 24 (.slice none 0 0) := (hB3.block _ hb1.lt).trans hb1; have c3 := hb3.cell; have f3 := hb3.frozen; have hs3 := (hB0.trans (hB1.mono (by simp; omega))).trans (hB3.mono (Nat.le_trans (by simp; omega) hB1.size))))
          refine bodyPost_ret (results_tree rfl _ _ (w.heap.size + 1) _ rfl (hb3.set _)) rfl ?_
          exact ⟨_, rfl, treeAt_nil _, hs3.setCell (p := ⟨w.heap.size + 1, 0, none⟩) (by simp) _⟩
        case pos =>
          have HBASE := Lib.hid hbase
          have HC := Lib.hid hc
          have HPL := Lib.hid hpl
          rw [hpl]
          clear hc h hm hdd ho hp hpw hbase hpl hne hmp
          have HRL := Lib.hid fun (k : Nat) (hk : k ≤ 10) => (show (renUp xs dn ps k).length ≤ 100 from by have h1 := renUp_length xs dn ps k; have h2 := HM.out; omega)
          clear HM
          generalize xs.length = n at *
          go_enter Try.func26, Try.ntmps26
          go_wp2_with (first
            | (go_at_call 18; refine (KC.out _ _ hT0.out).mono ?_; rintro e w1 ⟨rfl, hB1⟩; have hb1 : Boxed w1 (w.heap.size + 1) 24 (.slice none 0 0) := (hB1.block _ (by simp)).trans hbr; have c1 := cell_kept hbt1 hB1; have hT1 := Lib.hid (hT0.out.below hB1))
            | (go_at_call 47; refine (KD1.out HD.out.1 HD.out.2 _).mono ?_; rintro e w2 ⟨rfl, rfl⟩)
            | (go_at_call 44; refine (KB.out _ _ hT1.out).mono ?_; rintro e w3 ⟨rfl, hB3⟩; have hb3 : Boxed w3 (w.heap.size + 1) 24 (.slice none 0 0) := (hB3.block _ hb1.lt).trans hb1; have c3 := hb3.cell; have f3 := hb3.frozen; have ct3 := cell_kept c1 hB3; have hT3 := Lib.hid (hT1.out.below hB3); have hs3 := (hB0.trans (hB1.mono (by simp; omega))).trans (hB3.mono (Nat.le_trans (by simp; omega) hB1.size))))
          have HS3 := Lib.hid hs3
          obtain ⟨aP', cP', bP, oP, eP, haP, hcP⟩ := HP.out
          rw [HPL.out] at eP
          cases eP
          have haP' : aP = some ⟨bP, oP, none⟩ := by
            rcases haP with h | h
            · exact h
            · have := HPL.out; rw [h] at this; cases this
          subst haP'
          have HCP := Lib.hid hcP
          have hsz3 : w.heap.size + 1 < w3.heap.size := hb3.lt
          clear hcP haP hB1 hB3 hb1 c1 hT1 hs3 hB0 hbt hbr hbt1 hT0
          go_loopw [9] (fun i wr => ∃ k : Nat, k ≤ 10 ∧ i = .int .i64 k ∧ Hid (∀ j p, j < k → ps[j]? = some p → chk p = 0) ∧ Hid (wr = w3)) (fun i _ => 10 - (intOf i).toNat)
          case atStart => exact ⟨0, Nat.zero_le _, rfl, fun j p hj => by omega, Lib.hid rfl⟩
          case round =>
            obtain ⟨k, hk, rfl, hall, he⟩ := hrel
            obtain rfl := he.out
            clear he
            by_cases hlt : k < 10
            · obtain ⟨pk, hpk⟩ : ∃ p, ps[k]? = some p := ⟨_, List.getElem?_eq_getElem (by rw [HPL.out]; exact hlt)⟩
              have g0 := cell_kept (HCP.out k pk hpk) HS3.out
              have K4 := Lib.hid fun W => check04_any pk W
              have HPK := Lib.hid hpk
              clear hpk
              have hck : chk pk = 0 ∨ chk pk = 40 := by unfold chk; split <;> simp
              rcases hck with h4 | h4
              · rw [h4] at K4
                have H4 := Lib.hid h4
                clear h4
                go_wp2_with (go_at_call 40; refine (K4.out _).mono ?_; rintro e w' ⟨rfl, rfl⟩)
                refine ⟨⟨k + 1, by omega, by go_num, fun j p hj hp => ?_, Lib.hid trivial⟩, by simp [intOf]; omega⟩
                by_cases hjk : j < k
                · exact hall.out j p hjk hp
                · have : j = k := by omega
                  rw [this, HPK.out] at hp
                  cases hp
                  exact H4.out
              · rw [h4] at K4
                have hr : renewL xs dn ps = ([], 50) := by
                  rw [HBASE.out]
                  exact if_pos (.inr (List.any_eq_true.2 ⟨pk, List.mem_of_getElem? HPK.out, by unfold badP; simp [h4]⟩))
                have HRR := Lib.hid hr
                clear h4 hr
                go_wp2_with (go_at_call 40; refine (K4.out _).mono ?_; rintro e w' ⟨rfl, rfl⟩)
                refine bodyPost_ret (results_tree rfl _ _ (w.heap.size + 1) _ rfl (hb3.set _)) rfl ?_
                rw [HRR.out]
                exact ⟨_, rfl, treeAt_nil _, HS3.out.setCell (p := ⟨w.heap.size + 1, 0, none⟩) (by simp) _⟩
            · have hk' : k = 10 := by omega
              subst hk'
              have hgood : ∀ p ∈ ps, chk p = 0 := fun p hp => by
                obtain ⟨j, hj, e⟩ := List.mem_iff_getElem.1 hp
                exact hall.out j p (by rw [← HPL.out]; exact hj) (by rw [List.getElem?_eq_getElem hj, e])
              have hr : renewL xs dn ps = (renUp xs dn ps 10, 0) := by
                rw [HBASE.out, if_neg, renew_eq HC.out hd1 HPL.out hgood]
                rintro (q | q)
                · exact q HPL.out
                · obtain ⟨p, hp1, hp2⟩ := List.any_eq_true.1 q
                  unfold badP at hp2
                  simp [hgood p hp1] at hp2
              have HRR := Lib.hid hr
              clear hr hall
              go_wp2_with (go_at_call 49; refine (KW.out HD.out.1 HD.out.2 _ _ hT3.out).mono ?_; rintro e w4 ⟨v4, rfl, hT4, hB4⟩; have HT4 := Lib.hid hT4; obtain ⟨a4, k4, rfl⟩ := hT4.form; clear hT4)
              have hs4 : Below w.heap.size w w4 := HS3.out.trans (hB4.mono (by omega))
              have hb4 : Boxed w4 (w.heap.size + 1) 24 (.slice none 0 0) := (hB4.block _ hsz3).trans hb3
              have hsz4 : w.heap.size + 1 < w4.heap.size := hb4.lt
              generalize hX0 : (xs.filter fun n => !undB (512 + (dn : Int)) n.1) = X0 at *
              have hX0' : renUp xs dn ps 0 = X0 := by rw [← hX0]; rfl
              have hbx4 := Boxed.new w4 24 (.slice a4 X0.length k4)
              have hT5 : TreeAt (w4.alloc (.cells #[.slice a4 X0.length k4] 24)) (.agg #[.slice a4 X0.length k4]) (renUp xs dn ps 0) := by rw [hX0']; exact HT4.out.box _
              have HT5 := Lib.hid hT5
              have HS4 := Lib.hid hs4
              clear hX0 hX0' hT5 hs4 hB4 hT3 ct3 c3 f3 hb3 HS3
              go_loopw [11, 12] (fun nd i wr => ∃ (k : Nat) (u : Value), k ≤ 10 ∧ nd = .int .i64 (((512 + dn) / 2 ^ k : Nat) : Int) ∧ i = .int .i64 k ∧ Boxed wr w4.heap.size 24 u ∧ Hid (TreeAt wr (.agg #[u]) (renUp xs dn ps k)) ∧ Boxed wr (w.heap.size + 1) 24 (.slice none 0 0) ∧ Below w.heap.size w wr) (fun _ i _ => 10 - (intOf i).toNat)
              case atStart => exact ⟨0, _, Nat.zero_le _, by simp, rfl, hbx4, HT5, hb4.alloc _, HS4.out.alloc (by omega) _⟩
              case round =>
                obtain ⟨k, u, hk, rfl, rfl, hbx2, hTr, hbr2, hB2⟩ := hrel
                have hxw : w4.heap.size < wr.heap.size := hbx2.lt
                by_cases hlt : k < 10
                · obtain ⟨af, cf, ef⟩ := hTr.out.form
                  have ef : u = .slice af (renUp xs dn ps k).length cf := by simpa using ef
                  subst ef
                  obtain ⟨pk, hpk⟩ : ∃ p, ps[k]? = some p := ⟨_, List.getElem?_eq_getElem (by rw [HPL.out]; exact hlt)⟩
                  have hcw := HCP.out k pk hpk
                  have hbw := lt_of_cell hcw
                  simp only at hbw
                  have g0 := cell_kept hcw hB2
                  have hpkw := HPW.out pk (List.mem_of_getElem? hpk)
                  have hlvr : (512 + dn) / 2 ^ k ≤ 1023 := Nat.le_trans (Nat.div_le_self _ _) (by omega)
                  have hnext : (512 + dn) / 2 ^ (k + 1) = (512 + dn) / 2 ^ k / 2 := by rw [Nat.pow_succ, ← Nat.div_div_eq_div_mul]
                  have hgd : ps.getD k 0 = pk := by rw [List.getD_eq_getElem?_getD, hpk]; rfl
                  have hru : renUp xs dn ps (k + 1) = insL ((((512 + dn) / 2 ^ k : Nat) : Int), pk) (renUp xs dn ps k) := by show insL _ _ = _; rw [hgd]
                  have HRU := Lib.hid hru
                  have HNX := Lib.hid hnext
                  clear hru hgd hpk hcw hnext
                  generalize (512 + dn) / 2 ^ k = cn at *
                  have KWI := Lib.hid fun W v (hv : TreeAt W v (renUp xs dn ps k)) => with48 v _ (cn : Int) pk W (HRL.out k (by omega)) (wf_small (by omega) (by omega)) hpkw hv
                  have cx := hbx2.cell
                  have hk0 : (0 : Int) ≤ (k : Int) := by omega
                  have hk1 : (k : Int) < 10 := by omega
                  have HMK := Lib.hid fun (V : World) (hV : Chg (fun j => j = w4.heap.size) wr V) => (show V.cell? ⟨bP, oP + k, none⟩ = some (.int .i64 pk) ∧ Chg (fun j => j = w4.heap.size) wr V from ⟨hV.cell g0 (fun e => by have e : bP = w4.heap.size := e; omega), hV⟩)
                  go_upto_region 18 with fail
                  refine wp_region_held_drew (S := fun w' => w'.cell? ⟨bP, oP + k, none⟩ = some (.int .i64 pk) ∧ Chg (fun j => j = w4.heap.size) wr w') (by kernel_rfl) (HMK.out _ (Chg.refl _ _).drew) (fun hHeld => ?_)
                  refine takeT (i := 1) (v := (.int .i64 (cn : Int))) rfl (by kernel_rfl) (by kernel_rfl) (by kernel_rfl) (fun _ _ _ h => h) rfl ?_ (by assumption) ?_
                  · intro w' hw'; go_split_ands; go_simp
                  simp only [List.setIfInBounds_toArray, List.set_cons_zero, List.set_cons_succ]
                  refine takeT (i := 2) (v := (.slice (some ⟨bP, oP, none⟩) 10 cP)) rfl (by kernel_rfl) (by kernel_rfl) (by kernel_rfl) (fun _ _ _ h => h) rfl ?_ (by assumption) ?_
                  · intro w' hw'; go_split_ands; go_simp
                  simp only [List.setIfInBounds_toArray, List.set_cons_zero, List.set_cons_succ]
                  refine takeT (i := 3) (v := (.int .i64 (k : Int))) rfl (by kernel_rfl) (by kernel_rfl) (by kernel_rfl) (fun _ _ _ h => h) rfl ?_ (by assumption) ?_
                  · intro w' hw'; go_split_ands; go_simp
                  simp only [List.setIfInBounds_toArray, List.set_cons_zero, List.set_cons_succ]
                  refine takeT (i := 4) (v := (.pointer (some ⟨bP, oP + k, none⟩))) rfl (by kernel_rfl) (by kernel_rfl) (by kernel_rfl) (fun _ _ _ h => h) rfl ?_ (by assumption) ?_
                  · intro w' hw'; go_split_ands; go_simp
                  simp only [List.setIfInBounds_toArray, List.set_cons_zero, List.set_cons_succ]
                  refine takeT (i := 5) (v := (.int .i64 pk)) rfl (by kernel_rfl) (by kernel_rfl) (by kernel_rfl) (fun _ _ _ h => h) rfl ?_ (by assumption) ?_
                  · intro w' hw'; go_split_ands; go_simp
                  simp only [List.setIfInBounds_toArray, List.set_cons_zero, List.set_cons_succ]
                  refine takeT (i := 6) (v := (.agg #[.int .i64 (cn : Int), .int .i64 pk])) rfl (by kernel_rfl) (by kernel_rfl) (by kernel_rfl) (fun _ _ _ h => h) rfl ?_ (by assumption) ?_
                  · intro w' hw'; go_split_ands; go_simp
                  simp only [List.setIfInBounds_toArray, List.set_cons_zero, List.set_cons_succ]
                  refine wpAnyH_all (rs := [0]) (by kernel_rfl) (by simp) ?_
                  intro i hi
                  simp only [List.mem_cons, List.not_mem_nil, or_false] at hi
                  subst hi
                  refine wpOp_step rfl (fun K' hK => ?_)
                  rw [if_pos (by rfl)]
                  go_simp
                  refine hK _ _ ⟨HMK.out _ (Chg.refl _ _).drew, ?_⟩
                  try simp only [Act.put, List.setIfInBounds_toArray, List.set_cons_zero, List.set_cons_succ]
                  refine wpAnyH_all (rs := [7]) (by kernel_rfl) (by simp) ?_
                  intro i hi
                  simp only [List.mem_cons, List.not_mem_nil, or_false] at hi
                  subst hi
                  refine wpOp_step rfl (fun K' hK => ?_)
                  rw [if_pos (by rfl)]
                  go_simp
                  go_at_call 48
                  refine (KWI.out wr.drew _ hTr.out).mono ?_
                  rintro e w5 ⟨v5, rfl, hT5, hB5⟩
                  obtain ⟨a5, k5, rfl⟩ := hT5.form
                  have hb5 : Boxed w5 w4.heap.size 24 _ := (hB5.block _ hxw).trans hbx2
                  have c5 := hb5.cell
                  have f5 := hb5.frozen
                  have hC5 : Chg (fun j => j = w4.heap.size) wr w5 := (Chg.refl _ _).drew.trans (Chg.of_below' hB5) (fun _ h => h.elim)
                  refine hK _ _ ⟨HMK.out _ hC5, ?_⟩
                  try simp only [Act.put, List.setIfInBounds_toArray, List.set_cons_zero, List.set_cons_succ]
                  refine wpAnyH_all (rs := [8]) (by kernel_rfl) (by simp) ?_
                  intro i hi
                  simp only [List.mem_cons, List.not_mem_nil, or_false] at hi
                  subst hi
                  refine wpOp_step rfl (fun K' hK => ?_)
                  rw [if_pos (by rfl)]
                  go_simp
                  refine hK _ _ ⟨HMK.out _ (hC5.setCell (.inl rfl) _), ?_⟩
                  try simp only [Act.put]
                  refine wpAnyH_done (by kernel_rfl) ?_ _
                  go_wp2
                  refine ⟨⟨k + 1, _, by omega, by rw [HNX.out]; rfl, by go_num, hb5.set _, ?_, ?_, ?_⟩, by simp [intOf]; omega⟩
                  · unfold Hid
                    rw [HRU.out]
                    exact hT5.store hb5
                  · exact (hC5.setCell (p := ⟨w4.heap.size, 0, none⟩) (.inl rfl) _).kept hbr2 (fun e => by have e : w.heap.size + 1 = w4.heap.size := e; omega)
                  · exact (hB2.trans (hC5.below (B := w.heap.size) (fun j h => by omega) (by omega))).setCell (p := ⟨w4.heap.size, 0, none⟩) (by show w.heap.size ≤ w4.heap.size; omega) _
                · have hk' : k = 10 := by omega
                  subst hk'
                  have hf := hTr.out.form
                  obtain ⟨af, cf, ef⟩ := hf
                  have ef : u = .slice af (renUp xs dn ps 10).length cf := by simpa using ef
                  subst ef
                  have cx := hbx2.cell
                  have cr := hbr2.cell
                  have fr := hbr2.frozen
                  have hlenF := Lib.hid hTr.out
                  generalize (renUp xs dn ps 10).length = lf at *
                  go_wp2
                  refine bodyPost_ret (results_tree rfl _ _ (w.heap.size + 1) _ rfl (hbr2.set _)) rfl ?_
                  rw [HRR.out]
                  exact ⟨_, rfl, hlenF.out.store hbr2, hB2.setCell (p := ⟨w.heap.size + 1, 0, none⟩) (by simp) _⟩
end Go.Proofs.Ytofkmapokdcphaa
