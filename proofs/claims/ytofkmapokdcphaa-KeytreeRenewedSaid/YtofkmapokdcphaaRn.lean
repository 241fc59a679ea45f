import Derived.Test.YtofkmapokdcphaaRn1
import Derived.Laws.OwnMore
import Derived.Laws.BitsLemmas
import Derived.Deep.RegionHeld3
namespace Go.Proofs.Ytofkmapokdcphaa
open Go Go.RowKit Go.Maps Go.My Go.Shelf

theorem and1023 (a : Int) : ∃ b : Nat, b ≤ 1023 ∧ bits .and .i64 a 1023 = (b : Int) := by
  refine ⟨(BitVec.ofInt 64 a &&& BitVec.ofInt 64 1023).toNat, ?_, ?_⟩
  · rw [BitVec.toNat_and]
    exact Nat.le_trans Nat.and_le_right (by decide)
  · show IntKind.i64.wrap ((BitVec.ofInt 64 a &&& BitVec.ofInt 64 1023).toNat : Int) = _
    have h : (BitVec.ofInt 64 a &&& BitVec.ofInt 64 1023).toNat ≤ 1023 := by
      rw [BitVec.toNat_and]
      exact Nat.le_trans Nat.and_le_right (by decide)
    rw [IntKind.wrap_i64]
    omega

theorem keepAlloc {p q : Prop} {w0 w : World} (o : Obj) (h : p ∧ q ∧ Below w0.heap.size w0 w) : Below w0.heap.size w0 (w.alloc o) := h.2.2.alloc h.2.2.size o
theorem keepCall {p q : Prop} {w0 w w' : World} (h : p ∧ q ∧ Below w0.heap.size w0 w) (hB : Below w.heap.size w w') : Below w0.heap.size w0 w' := below_step h.2.2 h.2.2.size hB
theorem keepSet0 {p q : Prop} {w0 w : World} {v : Value} (h : p ∧ q ∧ Below w0.heap.size w0 w) : Below w0.heap.size w0 (w.setCell ⟨w0.heap.size, 0, none⟩ v) := h.2.2.setCell (Nat.le_refl _) v
theorem keepSet {p q p' q' : Prop} {w0 w w1 : World} {v : Value} (h : p ∧ q ∧ Below w0.heap.size w0 w) (h1 : p' ∧ q' ∧ Below w0.heap.size w0 w1) : Below w0.heap.size w0 (w.setCell ⟨w1.heap.size, 0, none⟩ v) := h.2.2.setCell h1.2.2.size v

set_option maxRecDepth 100000 in
set_option maxHeartbeats 4000000 in
theorem rn_walk (v : Value) (xs X Y : List Nd) (M ps : List Int) (d bn : Nat) (n2 p0 : Int) (nm q : Nat) (w : World) (hm : xs.length ≤ 80) (h : TreeAt w v xs) (hc : checkL xs = 0)
    (hM : memL xs = M) (hnm : M.length = nm) (hn0 : 0 < nm) (hq : q < 256) (hd : M[q % nm]? = some (d : Int)) (d1 : d < 512)
    (hbn : bn ≤ 1023) (hbits : bits .and .i64 n2 1023 = (bn : Int)) (hpl : ps.length = 10) (hps : ∀ k, k < 10 → ps[k]? = some (pw 4 (bn * 16 + k))) (hp0 : ps[0]? = some p0) (hpw : ∀ p ∈ ps, (Lit.int .i64 p).wf = true)
    (hR : RenFacts xs X Y M d ps) :
    Calls Try.prog 7 #[v, .int .u8 q, .int .i64 n2] w fun e w' => e = .returned (.bool true) ∧ Below w.heap.size w w' := by
  have KF := Lib.hid fun W v (hv : TreeAt W v xs) => few_any v xs W hv
  have KC := Lib.hid fun W v (hv : TreeAt W v xs) => check17_any v xs W (by omega) hv
  have KM := Lib.hid fun W v (hv : TreeAt W v xs) => members_any v xs W (by omega) hv
  have KB := Lib.hid fun (k : Nat) (hk : k < 10) W => base04_ok (bn * 16 + k) W (by omega)
  have hdd : decide (xs.length ≤ 80) = true := decide_eq_true hm
  rw [hdd] at KF; rw [hc] at KC; rw [hM] at KM
  have hml : nm ≤ 80 := by rw [← hnm, ← hM]; exact Nat.le_trans (memL_length xs) hm
  have HD := Lib.hid hd
  have HNM := Lib.hid hnm
  have HR := Lib.hid hR
  have HPS := Lib.hid hps
  have HPL := Lib.hid hpl
  have HP0 := Lib.hid hp0
  have HPW := Lib.hid hpw
  have HT := Lib.hid h
  have hmm := @run_makeMap Try.prog
  obtain ⟨a0, c0, rfl⟩ := h.form
  have hbx := Boxed.new w 24 (.slice a0 xs.length c0)
  have hB0 : Below w.heap.size w (w.alloc (.cells #[.slice a0 xs.length c0] 24)) := (Below.refl _ _).alloc (Nat.le_refl _) _
  have hne0 : ((nm : Int) == 0) = false := by simp; omega
  clear h hdd hc hM hd hnm hR hps hpl hp0 hpw
  obtain ⟨n, hn⟩ : ∃ n, n = xs.length := ⟨_, rfl⟩
  rw [← hn] at hm hbx hB0 HT ⊢
  have HN := Lib.hid hn
  clear hn
  have hin : (0 : Int) ≤ (q : Int) % (nm : Int) ∧ (q : Int) % (nm : Int) < (nm : Int) := ⟨Int.emod_nonneg _ (by omega), Int.emod_lt_of_pos _ (by omega)⟩
  obtain ⟨i0, hi0, hz0, hz1, hz2⟩ := info_parts info3
  go_enter Try.func7, Try.ntmps7
  go_wp2_with (first
    | (go_at_call 10; refine (sane_any _).mono ?_; rintro e w1 ⟨rfl, hB1⟩; have hB1' := below_step hB0 hB0.size hB1; have x1 := cell_kept hbx.cell hB1)
    | (go_at_call 11; refine (KF.out w1 _ (HT.out.below hB1')).mono ?_; rintro e w2 ⟨rfl, hB2⟩; have hB2' := below_step hB1' hB1'.size hB2; have x2 := cell_kept x1 hB2; have T2x := HT.out.below hB2'; have HT2 := Lib.hid T2x)
    | (go_at_call 17; refine (KC.out w2 _ HT2.out).mono ?_; rintro e w3 ⟨rfl, hB3⟩; have hB3' := below_step hB2' hB2'.size hB3; have x3 := cell_kept x2 hB3; have T3x := HT.out.below hB3'; have HT3 := Lib.hid T3x)
    | (go_at_call 19; refine (KM.out w3 _ HT3.out).mono ?_; rintro e w4 ⟨vM, rfl, hIM, hB4⟩; have hB4' := below_step hB3' hB3'.size hB4; have x4 := cell_kept x3 hB4; have HT4 := Lib.hid (HT.out.below hB4'); obtain ⟨aM, cM, bM, oM, rfl, haM, hcM⟩ := hIM; have gM := hcM (q % nm) _ HD.out; (have haM' : aM = some ⟨bM, oM, none⟩ := by (rcases haM with h | h; exact h; have h2 := HD.out; rw [h] at h2; cases h2)); subst haM'; rw [HNM.out]; have HCM := Lib.hid hcM; clear hcM haM))
  have HB4 := Lib.hid hB4'
  have h0w : w.heap.size < w4.heap.size := lt_of_cell x4
  clear hB1 hB2 hB3 hB4 hB1' hB2' hB3' hB4' x1 x2 x3 T2x T3x HT2 HT3 hbx hB0 gM
  go_loopw [9, 66] (fun u i wr => ∃ k : Nat, k ≤ 10 ∧ i = .int .i64 k ∧ Hid (wr.ownsRow w4.heap.size 3 1 u k ((ps.take k).map (Value.int .i64))) ∧ Below w4.heap.size w4 wr) (fun _ i _ => 10 - (intOf i).toNat)
  case atStart => exact ⟨0, Nat.zero_le _, rfl, World.ownsRow_made w4 #[] 0 (Nat.le_refl _) (Nat.zero_le _) rfl, (Below.refl _ _).alloc (Nat.le_refl _) _⟩
  case round =>
    obtain ⟨k, hk, rfl, hown, hB⟩ := hrel
    by_cases hlt : k < 10
    · have hpk := HPS.out k hlt
      have KBk := KB.out k hlt
      rw [show ((bn * 16 + k : Nat) : Int) = (bn : Int) * 16 + (k : Int) by omega] at KBk
      obtain ⟨pk, hpk'⟩ : ∃ pk, pk = pw 4 (bn * 16 + k) := ⟨_, rfl⟩
      rw [← hpk'] at hpk KBk
      have HS2 := Lib.hid (take_snoc hpk)
      have HKB := Lib.hid KBk
      have hsz := hB.size
      clear hpk KBk hpk'
      go_wp2_with (first
        | (go_at_call 30; refine (HKB.out _).mono ?_; rintro e w5 ⟨rfl, rfl⟩)
        | (at_builtin; refine wpList_append_own _ rfl (.tmp 80) (.tmp 82) 27 rfl w4.heap.size 3 i0 (.int .i64 0) 1 8 Try.underlying27 hi0 hz0 hz1 hz2 rfl (by decide) _ k _ rfl (hown.out.alloc _) ⟨wr.heap.size, 0, none⟩ 1 1 [.int .i64 pk] rfl rfl (cell_one_new _ _ _) (fun x hx => by simp at hx; subst hx; rfl) (by unfold maxLen; omega) (by omega) (by simp; omega) ?_; intro u' w3 hown' hgrow hnil))
      refine ⟨⟨k + 1, by omega, by go_num, ?_, ?_⟩, by simp [intOf]; omega⟩
      · unfold Hid
        rw [HS2.out, List.map_append]
        exact hown'
      · exact (hB.alloc hB.size _).grown hgrow (by simp; omega) (fun j hj => (hown.out.lt j hj).1)
    · have hk' : k = 10 := by omega
      subst hk'
      rw [List.take_of_length_le (by rw [HPL.out]; exact Nat.le_refl _)] at hown
      obtain ⟨gP, cP, rfl⟩ := ownsRow_succ hown.out
      have hIP : IntsAt wr (.slice (some ⟨gP, 0, none⟩) 10 cP) ps := .of_own hown.out
      have HIP := Lib.hid hIP
      have hcp0 : wr.cell? ⟨gP, 0, none⟩ = some (.int .i64 p0) := by
        obtain ⟨a, c, b, o, e, hab, hcc⟩ := hIP
        rw [HPL.out] at e
        cases e
        rcases hab with h | h
        · cases h
          exact hcc 0 p0 HP0.out
        · have := HPL.out
          rw [h] at this
          cases this
      have xr := cell_kept x4 hB
      have HTr := Lib.hid (HT4.out.below hB)
      have HBr := Lib.hid (below_step HB4.out HB4.out.size hB)
      have HCMr := Lib.hid fun i x (h : M[i]? = some x) => cell_kept (HCM.out i x h) hB
      have KR := Lib.hid fun W v vp (hv : TreeAt W v xs) (hp : IntsAt W vp ps) => renew_any v vp xs ps d W (by have := HN.out; omega) (by have := HPL.out; omega) hv hp HPW.out
      simp only [HR.out.ren] at KR
      have KS := Lib.hid fun W v (hv : TreeAt W v xs) => set_any v xs d p0 W (by have := HN.out; omega) hv (wf_small (by omega) (by omega)) (HPW.out p0 (List.mem_of_getElem? HP0.out))
      simp only [HR.out.set p0 HP0.out] at KS
      clear hown hB HCM HT4 x4 HB4 hIP KF KC KM KB
      generalize wr = w5 at *
      have h0w5 : w.heap.size < w5.heap.size := lt_of_cell xr
      go_upto_region 19 with (first
        | (go_at_call 25; refine (KR.out _ _ _ HTr.out HIP.out).mono ?_; rintro e w6 ⟨vX, rfl, hTX, hB6⟩; have x6 := cell_kept xr hB6; have HT6 := Lib.hid (HTr.out.below hB6); have p6 := cell_kept hcp0 hB6; have HTX6 := Lib.hid hTX; obtain ⟨aX, cX, rfl⟩ := hTX.form; have hbX := Boxed.new w6 24 (.slice aX X.length cX); have x6a := cell_old x6 (.cells #[.slice aX X.length cX] 24); have p6a := cell_old p6 (.cells #[.slice aX X.length cX] 24); have HB6 := Lib.hid ((hB6).alloc hB6.size (.cells #[.slice aX X.length cX] 24)); clear hB6 hTX))
      have cX7 := hbX.cell
      have hT7 := HT6.out.box (.cells #[.slice aX X.length cX] 24)
      have HTX7 := Lib.hid (HTX6.out.box (.cells #[.slice aX X.length cX] 24))
      have hIP7 := (HIP.out.below HB6.out)
      have hB67 : Below w5.heap.size w5 (w6.alloc (.cells #[.slice aX X.length cX] 24)) := HB6.out
      clear HT6 HTX6 hbX x6 p6 HB6
      generalize w6.alloc (.cells #[.slice aX X.length cX] 24) = w7 at *
      generalize w6.heap.size = bX at *
      have HIP7 := Lib.hid hIP7
      have HB67 := Lib.hid hB67
      have HMK := Lib.hid fun (W : World) (hW : Below w7.heap.size w7 W) => (show W.cell? ⟨w.heap.size, 0, none⟩ = some (.slice a0 n c0) ∧ W.cell? ⟨gP, 0, none⟩ = some (.int .i64 p0) ∧ Below w7.heap.size w7 W from ⟨cell_kept x6a hW, cell_kept p6a hW, hW⟩)
      have HTK := Lib.hid fun (W : World) (hW : W.cell? ⟨w.heap.size, 0, none⟩ = some (.slice a0 n c0) ∧ W.cell? ⟨gP, 0, none⟩ = some (.int .i64 p0) ∧ Below w7.heap.size w7 W) => hT7.below hW.2.2
      clear hIP7 hB67 hT7
      go_cut [15, 16] (fun u15 u16 wc => u16 = .int .i64 0 ∧ ∃ b a c, u15 = .pointer (some ⟨b, 0, none⟩) ∧ Boxed wc b 24 (.slice a Y.length c) ∧ TreeAt wc (.agg #[.slice a Y.length c]) Y ∧ Below w7.heap.size w7 wc)
      case first =>
        go_region_held3 (fun w' => w'.cell? ⟨w.heap.size, 0, none⟩ = some (.slice a0 n c0) ∧ w'.cell? ⟨gP, 0, none⟩ = some (.int .i64 p0) ∧ Below w7.heap.size w7 w')
          (first | exact HMK.out _ (Below.refl _ _).drew | exact HMK.out _ (keepAlloc _ (by assumption)) | exact HMK.out _ (keepSet0 (by assumption)) | exact HMK.out _ (keepSet (by assumption) (by assumption)) | exact HMK.out _ (keepCall (by assumption) (by assumption)) | exact HMK.out _ (Below.alloc (below_step (Below.refl _ _).drew (Nat.le_refl _) hBY) hBY.size _))
          (first | (go_at_call 21; refine (KS.out _ _ (HTK.out _ (by assumption))).mono ?_; rintro e wY ⟨vY, rfl, hTY, hBY⟩; have HTY := Lib.hid hTY; obtain ⟨aY, cY, rfl⟩ := hTY.form; clear hTY; (try (have hbY := (hBY.block w7.heap.size (by simp)).trans (Boxed.new w7.drew 24 (.slice none 0 0)); have cbY := Boxed.cell hbY; have fbY := Boxed.frozen hbY))))
        all_goals
          go_wp2
          go_meet
          first
            | exact ⟨rfl, wY.heap.size, aY, cY, rfl, Boxed.new wY 24 _, HTY.out.box _, Below.alloc (below_step (Below.refl _ _).drew (Nat.le_refl _) hBY) hBY.size _⟩
            | exact ⟨rfl, w7.heap.size, aY, cY, rfl, Boxed.set _ hbY, HTY.out.store hbY, Below.setCell (((((Below.refl _ w7).alloc (Nat.le_refl _) _).drew).trans (hBY.mono (by simp)))) (Nat.le_refl _) _⟩
      case rest =>
        obtain ⟨rfl, bY, aY, cY, rfl, hbY, hTY, hB7⟩ := hcut
        have HB7 := Lib.hid hB7
        have xc := cell_kept x6a hB7
        have cXc := cell_kept cX7 hB7
        have cYc := hbY.cell
        have hBc : Below w5.heap.size w5 wc := HB67.out.trans (hB7.mono HB67.out.size)
        have HTc := Lib.hid (HTr.out.below hBc)
        have HTXc := Lib.hid (HTX7.out.below hB7)
        have HTYc := Lib.hid hTY
        have HIPc := Lib.hid (HIP.out.below hBc)
        have HMc := Lib.hid fun i x (h : M[i]? = some x) => cell_kept (HCMr.out i x h) hBc
        have HBc := Lib.hid (below_step HBr.out HBr.out.size hBc)
        have KCX := Lib.hid fun W v (hv : TreeAt W v X) => check17_any v X W HR.out.lX hv
        have KCY := Lib.hid fun W v (hv : TreeAt W v Y) => check17_any v Y W HR.out.lY hv
        rw [HR.out.cX] at KCX
        rw [HR.out.cY] at KCY
        clear hbY hTY hB7 hBc x6a p6a cX7 HTX7 HTK HMK HIP7 HB67 HB7 KS KR xr hcp0
        generalize hlX : X.length = lX at *
        generalize hlY : Y.length = lY at *
        have HLX := Lib.hid hlX
        have HLY := Lib.hid hlY
        clear hlX hlY
        go_upto_region 25 with (first
          | (go_at_call 28; refine (leaf_ok (d : Int) _ (by omega) (by omega)).mono ?_; rintro e w8 ⟨rfl, rfl⟩)
          | (go_at_call 29; refine (path_ok d d1 _).mono ?_; rintro e w9 ⟨vA, rfl, hIA, hB9⟩; have x9 := cell_kept xc hB9; have cX9 := cell_kept cXc hB9; have cY9 := cell_kept cYc hB9; have HTX9 := Lib.hid (HTXc.out.below hB9); have HTY9 := Lib.hid (HTYc.out.below hB9); have HB9 := Lib.hid hB9; have HIA9 := Lib.hid hIA; obtain ⟨aA, cA, bA, oA, rfl, haA, hcA⟩ := hIA; rw [show ((ups (512 + d)).map fun x => x / 2).length = 9 from pathL_length d]; (have haA' : aA = some ⟨bA, oA, none⟩ := by (rcases haA with h | h; exact h; have h2 := pathL_length d; unfold pathL at h2; rw [h] at h2; cases h2)); subst haA'; have HCA := Lib.hid hcA; clear hB9 hcA haA)
          | (go_at_call_has 17 aX; refine (KCX.out _ _ HTX9.out).mono ?_; rintro e w10 ⟨rfl, hB10⟩; have x10 := cell_kept x9 hB10; have cX10 := cell_kept cX9 hB10; have cY10 := cell_kept cY9 hB10; have HTY10 := Lib.hid (HTY9.out.below hB10); have HB10 := Lib.hid hB10; clear hB10)
          | (go_at_call_has 17 aY; refine (KCY.out _ _ HTY10.out).mono ?_; rintro e w11 ⟨rfl, hB11⟩; have x11 := cell_kept x10 hB11; have cX11 := cell_kept cX10 hB11; have cY11 := cell_kept cY10 hB11; have HB11 := Lib.hid hB11; clear hB11))
        have hB11 : Below w.heap.size w w11 := below_step (below_step (below_step HBc.out HBc.out.size HB9.out) (below_step HBc.out HBc.out.size HB9.out).size HB10.out) (below_step (below_step HBc.out HBc.out.size HB9.out) (below_step HBc.out HBc.out.size HB9.out).size HB10.out).size HB11.out
        have hc9 : Below w9.heap.size w9 w11 := below_step HB10.out HB10.out.size HB11.out
        have hcc : Below wc.heap.size wc w11 := below_step HB9.out HB9.out.size hc9
        have HT11 := Lib.hid (HTc.out.below hcc)
        have HTX11 := Lib.hid (HTXc.out.below hcc)
        have HTY11 := Lib.hid (HTYc.out.below hcc)
        have HIP11 := Lib.hid (HIPc.out.below hcc)
        have HM11 := Lib.hid fun i x (h : M[i]? = some x) => cell_kept (HMc.out i x h) hcc
        have HA11 := Lib.hid fun i x (h : (pathL d)[i]? = some x) => cell_kept (HCA.out i x h) hc9
        have HBB := Lib.hid hB11
        clear hB11 hc9 hcc HB9 HB10 HB11 HCA HTX9 HTY9 HTY10 HIA9 x9 x10 xc cXc cYc cX9 cX10 cY9 cY10 HTc HTXc HTYc HIPc HMc HBc KCX KCY
        have hMm : MapIs K3 Value.bool (w11.alloc (.map #[] 0)) w11.heap.size 0 (setF []) := (MapIs.made K3 Value.bool w11).congr (g := setF []) (fun _ => rfl)
        have hnews : ∀ j u, ((pathL d).map (Value.int .i64))[j]? = some u → ((w11.alloc (.map #[] 0)).alloc (.cells #[.int .i64 (512 + (d : Int))] 3)).cell? ((⟨bA, oA, none⟩ : Addr).add j) = some u := by
          intro j u hj
          rw [List.getElem?_map, Option.map_eq_some_iff] at hj
          obtain ⟨y, hy, rfl⟩ := hj
          have h0 := cell_old (cell_old (HA11.out j y hy) (.map #[] 0)) (.cells #[.int .i64 (512 + (d : Int))] 3)
          have ad : (⟨bA, oA, none⟩ : Addr).add j = ⟨bA, oA + j, none⟩ := by
            cases j with
            | zero => rfl
            | succ k => simp [Addr.add]
          rw [ad]
          exact h0
        have HNEWS := Lib.hid hnews
        clear hnews
        have hlit : ((w11.alloc (.map #[] 0)).alloc (.cells #[.int .i64 (512 + (d : Int))] 3)).ownsRow (w11.heap.size + 1) 3 1 (.slice (some ⟨w11.heap.size + 1, 0, none⟩) 1 1) 1 [.int .i64 (512 + (d : Int))] := by
          have := World.ownsRow_lit (base := w11.heap.size + 1) (e := 3) (size := 1) (w11.alloc (.map #[] 0)) #[.int .i64 (512 + (d : Int))] 1 (by simp) (by unfold maxLen; omega) rfl
          simp only [World.size_alloc] at this
          exact this
        have HLIT := Lib.hid hlit
        clear hlit
        go_wp2_with (at_builtin; (refine wpList_append_own _ rfl (.tmp 142) (.tmp 143) 27 rfl (w11.heap.size + 1) 3 i0 (.int .i64 0) 1 8 Try.underlying27 hi0 hz0 hz1 hz2 rfl (by decide) _ 1 _ rfl HLIT.out ⟨bA, oA, none⟩ 9 cA ((pathL d).map (Value.int .i64)) rfl (by rw [List.length_map, pathL_length]) HNEWS.out (fun x hx => by obtain ⟨y, _, rfl⟩ := List.mem_map.1 hx; rfl) (by unfold maxLen; omega) (by omega) (by simp) ?_; intro u' w12 hown' hgrow hnil; (have hown2 : w12.ownsRow (w11.heap.size + 1) 3 1 u' (9 + 1) _ := hown'); obtain ⟨gN, cN, rfl⟩ := ownsRow_succ hown2; clear hown2))
        have hancL : [Value.int .i64 (512 + (d : Int))] ++ (pathL d).map (Value.int .i64) = (anc d).map (Value.int .i64) := by unfold anc; rw [Int.toNat_natCast]; rfl
        rw [hancL] at hown'
        have hB12 : Below w11.heap.size w11 w12 := (((Below.refl _ w11).alloc (Nat.le_refl _) _).alloc (by simp) _).grown hgrow (by simp; omega) (fun j hj => by cases hj; exact Nat.le_succ _)
        have hM12 : MapIs K3 Value.bool w12 w11.heap.size 0 (setF []) := (hMm.alloc _).kept hgrow (by intro e; have e' : w11.heap.size = w11.heap.size + 1 := Option.some.inj e; omega)
        have hIN : IntsAt w12 (.slice (some ⟨gN, 0, none⟩) (9 + 1) cN) (anc d) := .of_own hown'
        obtain ⟨_, _, bN, oN, eN, haN, hcN⟩ := hIN
        rw [anc_length] at eN
        cases eN
        have haN' : some (⟨gN, 0, none⟩ : Addr) = some ⟨bN, oN, none⟩ := by
          rcases haN with h | h
          · exact h
          · have := anc_length d; rw [h] at this; cases this
        cases haN'
        have HCN := Lib.hid hcN
        have HB12 := Lib.hid hB12
        have HM12 := Lib.hid hM12
        have KPX := Lib.hid fun W v x (hv : TreeAt W v X) (hx : (Lit.int .i64 x).wf = true) => public_any v X x W HR.out.lX hx hv
        have KPY := Lib.hid fun W v x (hv : TreeAt W v Y) (hx : (Lit.int .i64 x).wf = true) => public_any v Y x W HR.out.lY hx hv
        have HPSC := Lib.hid fun (W : World) (hW : Below w11.heap.size w11 W) (k : Nat) (p : Int) (hp : ps[k]? = some p) => (show W.cell? ⟨gP, k, none⟩ = some (.int .i64 p) from by
          obtain ⟨a, c, b, o, e, hab, hcc⟩ := HIP11.out.below hW
          rw [HPL.out] at e
          cases e
          rcases hab with h | h
          · cases h
            have := hcc k p hp
            rwa [Nat.zero_add] at this
          · have := HPL.out
            rw [h] at this
            cases this)
        have hmw : w11.heap.size < w12.heap.size := hM12.lt
        clear hancL hown' hgrow hnil hMm hM12 hB12 hcN haN HNEWS HLIT HA11 HIP11
        go_loopw [146] (fun i wr => ∃ k : Nat, k ≤ 10 ∧ i = .int .i64 k ∧ MapIs K3 Value.bool wr w11.heap.size k (setF ((anc d).take k)) ∧ Chg (fun j => j = w11.heap.size) w12 wr) (fun i _ => 10 - (intOf i).toNat)
        case atStart => exact ⟨0, Nat.zero_le _, rfl, HM12.out, Chg.refl _ _⟩
        case round =>
          obtain ⟨k, hk, rfl, hMr, hC⟩ := hrel
          have hCB : Below w11.heap.size w11 wr := HB12.out.trans (hC.below (fun j h => by omega) (by omega))
          by_cases hlt : k < 10
          · obtain ⟨node, hnode⟩ : ∃ y, (anc d)[k]? = some y := ⟨_, List.getElem?_eq_getElem (by rw [anc_length]; exact hlt)⟩
            obtain ⟨pk, hpk⟩ : ∃ y, ps[k]? = some y := ⟨_, List.getElem?_eq_getElem (by rw [HPL.out]; exact hlt)⟩
            obtain ⟨o1, o2, o3, o4, o5, o6⟩ := HR.out.own k node pk hnode hpk
            have g0 := hC.cell (HCN.out k node hnode) (fun e => by have := HM12.out.nocell (p := ⟨gN, 0 + k, none⟩) e; rw [HCN.out k node hnode] at this; cases this)
            rw [Nat.zero_add] at g0
            have gx := cell_kept cX11 hCB
            have gy := cell_kept cY11 hCB
            have HTXr := Lib.hid (HTX11.out.below hCB)
            have HTYr := Lib.hid (HTY11.out.below hCB)
            have hwf : (Lit.int .i64 node).wf = true := wf_small (by omega) (by omega)
            have KLv := Level_ok node wr o3 (by omega)
            rw [o2] at KLv
            have KX := Lib.hid fun W v (hv : TreeAt W v X) => KPX.out W v node hv hwf
            simp only [o1, Option.getD_some, Option.isSome_some] at KX
            have KY := Lib.hid fun W v (hv : TreeAt W v Y) => KPY.out W v node hv hwf
            have HKL := Lib.hid KLv
            have HTS := Lib.hid (take_snoc hnode)
            have HPK := Lib.hid hpk
            have hok : (K3).ok node := hwf
            have HCB := Lib.hid hCB
            have HCh := Lib.hid hC
            clear KLv hnode hC hCB o1 o2
            rcases Nat.eq_zero_or_pos k with hk0 | hk0
            · subst hk0
              have o6' := o6 rfl
              have HKY := KY
              simp only [o6', Option.getD_some, Option.isSome_some] at HKY
              have hpe : pk = p0 := by have := HP0.out; rw [hpk] at this; exact Option.some.inj this
              subst hpe
              clear KY o5 o6 o6' hpk
              go_wp2_with (first
                | (go_at_call 31; refine HKL.out.mono ?_; rintro e w13 ⟨rfl, rfl⟩)
                | (go_at_call_has 14 aX; refine (KX.out _ _ HTXr.out).mono ?_; rintro e w14 ⟨rfl, hB14⟩; have gy14 := cell_kept gy hB14; have HTY14 := Lib.hid (HTYr.out.below hB14))
                | (go_at_call_has 14 aY; refine (HKY.out _ _ HTY14.out).mono ?_; rintro e w15 ⟨rfl, hB15⟩; have hB1w := below_step hB14 hB14.size hB15; have gp15 := HPSC.out _ (below_step HCB.out HCB.out.size hB1w) 0 _ HPK.out; have hM15 := hMr.below hB1w hMr.lt)
                | (at_mapUpdate; refine wpList_put rfl (.tmp 203) (.tmp 204) (.const (.bool true)) 46 rfl keyed3 Try.underlying46 rfl hM15 (by unfold maxLen; omega) (x := node) hok rfl (c := true) rfl ?_; intro w16 hM16 hg16))
              refine ⟨⟨0 + 1, by omega, by go_num, hM16.congr (fun x => by rw [setF_snoc, ← HTS.out]), (HCh.out.trans (Chg.of_below' hB1w) (fun _ h => h.elim)).grown hg16 (fun j hj => by cases hj; exact .inl rfl)⟩, by simp [intOf]⟩
            · have o5' : (ofF Y node).isSome = false := by rw [o5]; exact decide_eq_false (by omega)
              simp only [o5'] at KY
              generalize hyv : (ofF Y node).getD 0 = yv at *
              have hkn : ((k : Int) == 0) = false := by simp; omega
              have HK0 := Lib.hid hk0
              clear o5 o6 o5' hpk hk0 hyv
              go_wp2_with (first
                | (go_at_call 31; refine HKL.out.mono ?_; rintro e w13 ⟨rfl, rfl⟩)
                | (go_at_call_has 14 aX; refine (KX.out _ _ HTXr.out).mono ?_; rintro e w14 ⟨rfl, hB14⟩; have gy14 := cell_kept gy hB14; have HTY14 := Lib.hid (HTYr.out.below hB14))
                | (go_at_call_has 14 aY; refine (KY.out _ _ HTY14.out).mono ?_; rintro e w15 ⟨rfl, hB15⟩; have hB1w := below_step hB14 hB14.size hB15; have gp15 := HPSC.out _ (below_step HCB.out HCB.out.size hB1w) k _ HPK.out; have hM15 := hMr.below hB1w hMr.lt)
                | (at_mapUpdate; refine wpList_put rfl (.tmp 203) (.tmp 204) (.const (.bool true)) 46 rfl keyed3 Try.underlying46 rfl hM15 (by unfold maxLen; omega) (x := node) hok rfl (c := true) rfl ?_; intro w16 hM16 hg16))
              refine ⟨⟨k + 1, by omega, by go_num, hM16.congr (fun x => by rw [setF_snoc, ← HTS.out]), (HCh.out.trans (Chg.of_below' hB1w) (fun _ h => h.elim)).grown hg16 (fun j hj => by cases hj; exact .inl rfl)⟩, by simp [intOf]; omega⟩
          · have hk' : k = 10 := by omega
            subst hk'
            rw [List.take_of_length_le (by rw [anc_length]; exact Nat.le_refl _)] at hMr
            have gx := cell_kept x11 hCB
            have gX := cell_kept cX11 hCB
            have gY := cell_kept cY11 hCB
            have HTX2 := Lib.hid (HTX11.out.below hCB)
            have HTY2 := Lib.hid (HTY11.out.below hCB)
            have HM2 := Lib.hid fun i x (h : M[i]? = some x) => cell_kept (HM11.out i x h) hCB
            have HB2 := Lib.hid (below_step HBB.out HBB.out.size hCB)
            obtain ⟨_, _, e0, hRow, hWf⟩ := HT11.out.below hCB
            cases e0
            obtain ⟨n, hn⟩ : ∃ n, n = xs.length := ⟨_, rfl⟩
            rw [← hn] at hm gx ⊢
            clear HN
            have HN := Lib.hid hn
            have HROW := Lib.hid hRow
            have HWF := Lib.hid hWf
            have KLX := Lib.hid fun W v (hv : TreeAt W v X) => resolution_any v X 1 W HR.out.lX hv
            simp only [HR.out.root] at KLX
            have KMX := Lib.hid fun W v (hv : TreeAt W v X) => members_any v X W HR.out.lX hv
            have KMY := Lib.hid fun W v (hv : TreeAt W v Y) => members_any v Y W HR.out.lY hv
            simp only [HR.out.mX] at KMX
            simp only [HR.out.mY] at KMY
            clear hn hRow hWf hC hCB HT11 HTX11 HTY11 HM11 HBB x11 cX11 cY11 HCN HB12 HM12 HPSC
            generalize wr = w2 at *
            generalize w11.heap.size = m at *
            go_wp2
            go_loopw [209] (fun i wr => ∃ k : Nat, k ≤ n ∧ i = .int .i64 k ∧ Below w2.heap.size w2 wr) (fun i _ => n - (intOf i).toNat)
            case atStart => exact ⟨0, Nat.zero_le _, rfl, Below.refl _ _⟩
            case round =>
              obtain ⟨k, hk, rfl, hB⟩ := hrel
              by_cases hlt : k < n
              · obtain ⟨⟨n0, n1⟩, hy⟩ : ∃ y, xs[k]? = some y := ⟨_, List.getElem?_eq_getElem (by rw [← HN.out]; exact hlt)⟩
                obtain ⟨b1, off1, ha, hcr⟩ := HROW.out
                have ha : a0 = some ⟨b1, off1, none⟩ := by
                  rcases ha with h | h
                  · exact h
                  · rw [h] at hy; cases hy
                subst ha
                obtain ⟨h0, h1⟩ := hcr k _ hy
                have g0 := cell_kept h0 hB
                have g1 := cell_kept h1 hB
                have gXr := cell_old (cell_kept gX hB) (.cells #[.int .i64 n0, .int .i64 n1] 48)
                have gYr := cell_kept gY hB
                have HTXr := Lib.hid ((HTX2.out.below hB).box (.cells #[.int .i64 n0, .int .i64 n1] 48))
                have HTYr := Lib.hid ((HTY2.out.below hB).box (.cells #[.int .i64 n0, .int .i64 n1] 48))
                have hMk := (hMr.below hB hMr.lt).alloc (.cells #[.int .i64 n0, .int .i64 n1] 48)
                have hok : (K3).ok n0 := (HWF.out _ (List.mem_of_getElem? hy)).1
                have HMEM := Lib.hid (List.mem_of_getElem? hy)
                have HBr := Lib.hid hB
                clear hy h0 h1 hcr
                by_cases hq : n0 ∈ anc d
                · have hsf : setF (anc d) n0 = some true := by unfold setF; rw [if_pos hq]
                  clear hq
                  go_wp2_with (at_lookup; refine wpList_get rfl (.tmp 213) (.tmp 215) 46 rfl keyed3 Try.underlying46 (zero4 _) rfl hMk (x := n0) hok rfl ?_; simp only [hsf, Option.elim])
                  refine ⟨⟨_, _, _, _, _, _, _, ⟨k + 1, by omega, rfl, hB.alloc hB.size _⟩, rfl, rfl, rfl, rfl, rfl, rfl, by go_num⟩, by simp [intOf]; omega⟩
                · have hsf : setF (anc d) n0 = none := by unfold setF; rw [if_neg hq]
                  obtain ⟨q1, q2⟩ := HR.out.other _ HMEM.out hq
                  have KX := Lib.hid fun W v (hv : TreeAt W v X) => KPX.out W v n0 hv hok
                  simp only [q1, Option.getD_some, Option.isSome_some] at KX
                  have KY := Lib.hid fun W v (hv : TreeAt W v Y) => KPY.out W v n0 hv hok
                  simp only [q2, Option.getD_some, Option.isSome_some] at KY
                  have gn0 : (wr.alloc (.cells #[.int .i64 n0, .int .i64 n1] 48)).cell? ⟨wr.heap.size, 0, none⟩ = some (.int .i64 n0) := cell_at_new wr _ _ 0
                  have gn1 : (wr.alloc (.cells #[.int .i64 n0, .int .i64 n1] 48)).cell? ⟨wr.heap.size, 1, none⟩ = some (.int .i64 n1) := cell_at_new wr _ _ 1
                  have gYa := cell_old gYr (.cells #[.int .i64 n0, .int .i64 n1] 48)
                  have HBa := Lib.hid (hB.alloc hB.size (.cells #[.int .i64 n0, .int .i64 n1] 48))
                  clear hq q1 q2 hB
                  go_wp2_with (first
                    | (at_lookup; refine wpList_get rfl (.tmp 213) (.tmp 215) 46 rfl keyed3 Try.underlying46 (zero4 _) rfl hMk (x := n0) hok rfl ?_; simp only [hsf, Option.elim])
                    | (go_at_call_has 14 aX; refine (KX.out _ _ HTXr.out).mono ?_; rintro e w3 ⟨rfl, hB3⟩; have gY3 := cell_kept gYa hB3; have gn03 := cell_kept gn0 hB3; have gn13 := cell_kept gn1 hB3; have HTY3 := Lib.hid (HTYr.out.below hB3))
                    | (go_at_call_has 14 aY; refine (KY.out _ _ HTY3.out).mono ?_; rintro e w4 ⟨rfl, hB4⟩; have gn14 := cell_kept gn13 hB4))
                  refine ⟨⟨_, _, _, _, _, _, _, _, _, _, _, _, _, _, _, _, _, _, _, _, _, _, _, _, _, _, _, _, _, _, _, _, _, _, _, _, _, _, _, _, _, _, _, _, _, _, _, ⟨k + 1, by omega, by go_num, below_step (below_step HBa.out HBa.out.size hB3) (below_step HBa.out HBa.out.size hB3).size hB4⟩, rfl⟩, by simp [intOf]; omega⟩
              · have hk' : k = n := by omega
                subst hk'
                have gXr := cell_kept gX hB
                have gYr := cell_kept gY hB
                have HTXr := Lib.hid (HTX2.out.below hB)
                have HTYr := Lib.hid (HTY2.out.below hB)
                have HMr := Lib.hid fun i x (h : M[i]? = some x) => cell_kept (HM2.out i x h) hB
                have HBr := Lib.hid (below_step HB2.out HB2.out.size hB)
                clear hB
                have HI1 := Lib.hid fun W (hW : Below wr.heap.size wr W) => (show IntsAt W (.slice (some ⟨bM, oM, none⟩) nm cM) M from ⟨_, cM, bM, oM, by rw [HNM.out], .inl rfl, fun i x h => cell_kept (HMr.out i x h) hW⟩)
                go_wp2_with (first
                  | (go_at_call 12; refine (KLX.out _ _ HTXr.out).mono ?_; rintro e w3 ⟨vL, rfl, hIL, hB3⟩; have gX3 := cell_kept gXr hB3; have gY3 := cell_kept gYr hB3; have HTX3 := Lib.hid (HTXr.out.below hB3); have HTY3 := Lib.hid (HTYr.out.below hB3); have HIL := Lib.hid hIL; obtain ⟨aL, cL, rfl⟩ := hIL.form; clear hIL)
                  | (go_at_call_has 16 aL; refine (sameInts_yes _ _ _ [1] (by decide) (HIL.out.box _) (intsAt_lit w3 [1] 1 _ _ rfl)).mono ?_; rintro e w4 ⟨rfl, hB4⟩; have hB34 := below_step' hB3 hB3.size hB4; have gX4 := cell_kept gXr hB34; have gY4 := cell_kept gYr hB34; have HTX4 := Lib.hid (HTXr.out.below hB34); have HTY4 := Lib.hid (HTYr.out.below hB34))
                  | (go_at_call_has 19 aX; refine (KMX.out _ _ HTX4.out).mono ?_; rintro e w5 ⟨vMX, rfl, hIMX, hB5⟩; have hB35 := below_step hB34 hB34.size hB5; have gY5 := cell_kept gYr hB35; have HTY5 := Lib.hid (HTYr.out.below hB35); have HIMX := Lib.hid hIMX; clear hIMX)
                  | (go_at_call_has 16 vMX; refine (sameInts_yes _ _ _ M (by have := HNM.out; omega) HIMX.out (HI1.out _ hB35)).mono ?_; rintro e w6 ⟨rfl, hB6⟩; have hB36 := below_step hB35 hB35.size hB6; have gY6 := cell_kept gYr hB36; have HTY6 := Lib.hid (HTYr.out.below hB36))
                  | (go_at_call_has 19 aY; refine (KMY.out _ _ HTY6.out).mono ?_; rintro e w7 ⟨vMY, rfl, hIMY, hB7⟩; have hB37 := below_step hB36 hB36.size hB7; have HIMY := Lib.hid hIMY; clear hIMY)
                  | (go_at_call_has 16 vMY; refine (sameInts_yes _ _ _ M (by have := HNM.out; omega) HIMY.out (HI1.out _ hB37)).mono ?_; rintro e w8 ⟨rfl, hB8⟩; have hB38 := below_step hB37 hB37.size hB8))
                go_ret
                exact ⟨rfl, below_step HBr.out HBr.out.size hB38⟩
end Go.Proofs.Ytofkmapokdcphaa
