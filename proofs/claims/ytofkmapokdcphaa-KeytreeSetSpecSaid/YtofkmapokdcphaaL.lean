import Derived.Test.YtofkmapokdcphaaK
import Derived.Test.YtofkmapokdcphaaHeld
import Derived.Test.YtofkmapokdcphaaPl
namespace Go.Proofs.Ytofkmapokdcphaa
open Go Go.RowKit Go.Maps Go.My Go.Shelf

theorem _root_.Go.My.MapIs.nocell {P : Program} {k : TypeId} {κ α : Type} {E : KeyEnc P k κ} {ev : α → Value} {w : World} {b n : Nat} {f : κ → Option α} (h : MapIs E ev w b n f) {p : Addr} (hp : p.block = b) : w.cell? p = none := by
  obtain ⟨D, ⟨es, c, h1, _⟩, _⟩ := h
  obtain ⟨pb, po, pp⟩ := p
  subst hp
  simp [World.cell?, h1]

theorem IntsAt.chg {w w' : World} {v : Value} {xs : List Int} {S : Nat → Prop} (h : IntsAt w v xs) (hC : Chg S w w') (hS : ∀ p : Addr, S p.block → w.cell? p = none) : IntsAt w' v xs := by
  obtain ⟨a, cap, b, off, rfl, ha, hc⟩ := h
  exact ⟨a, cap, b, off, rfl, ha, fun i x hx => hC.cell (hc i x hx) (fun hs => by have := hS _ hs; rw [hc i x hx] at this; cases this)⟩

theorem RowN.chg {w w' : World} {a : Option Addr} {xs : List Nd} {S : Nat → Prop} (h : RowN w a xs) (hC : Chg S w w') (hS : ∀ p : Addr, S p.block → w.cell? p = none) : RowN w' a xs := by
  obtain ⟨b, off, ha, hc⟩ := h
  exact ⟨b, off, ha, fun i n hn => ⟨hC.cell (hc i n hn).1 (fun hs => by have := hS _ hs; rw [(hc i n hn).1] at this; cases this), hC.cell (hc i n hn).2 (fun hs => by have := hS _ hs; rw [(hc i n hn).2] at this; cases this)⟩⟩

/-- A set of numbers, as a map of Bools. -/
def setF (U : List Int) (x : Int) : Option Bool := if x ∈ U then some true else none
theorem setF_snoc (U : List Int) (y x : Int) : upd (setF U) y (some true) x = setF (U ++ [y]) x := by
  unfold upd setF
  by_cases h : x = y
  · subst h; simp
  · simp [h]

def pathL (d : Nat) : List Int := (ups (512 + d)).map (fun x => x / 2)
def anc (d : Int) : List Int := (512 + d) :: pathL d.toNat
theorem pathL_length (d : Nat) : (pathL d).length = 9 := by simp [pathL, ups_length]
theorem anc_length (d : Int) : (anc d).length = 10 := by simp [anc, pathL_length]

theorem zero4 (w : World) : (zeroValue 4).run Try.prog w = .ok (.bool false) w := by kernel_rfl

theorem mem_memL (xs : List Nd) (d : Int) : d ∈ memL xs ↔ (∃ n ∈ xs, n.1 = 512 + d) ∧ 0 ≤ d ∧ d < 512 := by
  unfold memL
  rw [mem_compact, List.mem_mergeSort, memRaw, List.mem_map]
  constructor
  · rintro ⟨n, hn, rfl⟩
    rw [List.mem_filter] at hn
    obtain ⟨h1, h2⟩ := hn
    simp at h2
    exact ⟨⟨n, h1, by omega⟩, by omega, by omega⟩
  · rintro ⟨⟨n, hn, e⟩, h0, h1⟩
    exact ⟨n, List.mem_filter.2 ⟨hn, by simp; omega⟩, by omega⟩
theorem memL_sorted (xs : List Nd) : (memL xs).Pairwise (· < ·) := compact_sorted _ (mergeSort_sorted _)
theorem memL_range (xs : List Nd) (d : Int) (h : d ∈ memL xs) : 0 ≤ d ∧ d < 512 := ((mem_memL xs d).1 h).2
theorem memL_length (xs : List Nd) : (memL xs).length ≤ xs.length := by
  refine Nat.le_trans (Lib.compact_length_le _) ?_
  rw [List.length_mergeSort]
  exact memRaw_length xs

def usedL (xs : List Nd) : List Int := (memL xs).flatMap anc
def okAt (xs : List Nd) (i : Nat) : Bool := match xs[i]? with
  | none => false
  | some n => decide (1 ≤ n.1) && decide (n.1 ≤ 1023) && (decide (i = 0) || match xs[i - 1]? with | none => false | some p => decide (p.1 < n.1)) && decide (chk n.2 = 0) && decide (n.1 ∈ usedL xs)
def checkL (xs : List Nd) : Int := if (List.range xs.length).all (okAt xs) then 0 else 210

theorem okAt_eq {xs : List Nd} {k : Nat} {n0 n1 : Int} (h : xs[k]? = some (n0, n1)) : okAt xs k = (decide (1 ≤ n0) && decide (n0 ≤ 1023) && (decide (k = 0) || match xs[k - 1]? with | none => false | some p => decide (p.1 < n0)) && decide (chk n1 = 0) && decide (n0 ∈ usedL xs)) := by
  unfold okAt; rw [h]
theorem okPrev_zero {k : Nat} (h : k = 0) {b : Bool} : (decide (k = 0) || b) = true := by simp [h]
theorem okPrev_pos {xs : List Nd} {k : Nat} {n0 p0 p1 : Int} (h : xs[k - 1]? = some (p0, p1)) (_hk : 0 < k) (hp : p0 < n0) : (decide (k = 0) || match xs[k - 1]? with | none => false | some p => decide (p.1 < n0)) = true := by
  rw [h]; simp [hp]
theorem okPrev_le {xs : List Nd} {k : Nat} {n0 p0 p1 : Int} (h : xs[k - 1]? = some (p0, p1)) (hk : 0 < k) (hp : n0 ≤ p0) : (decide (k = 0) || match xs[k - 1]? with | none => false | some p => decide (p.1 < n0)) = false := by
  rw [h]; simp; omega
theorem checkL_bad {xs : List Nd} {k : Nat} (hk : k < xs.length) (h : okAt xs k = false) : checkL xs = 210 := by
  unfold checkL
  rw [if_neg]
  intro hall
  rw [List.all_eq_true] at hall
  have := hall k (List.mem_range.2 hk)
  rw [h] at this; cases this
theorem checkL_good {xs : List Nd} (h : ∀ j, j < xs.length → okAt xs j = true) : checkL xs = 0 := by
  unfold checkL
  rw [if_pos]
  rw [List.all_eq_true]
  intro j hj
  exact h j (List.mem_range.1 hj)

theorem cell_at_new (w : World) (cs : Array Value) (t : TypeId) (i : Nat) : (w.alloc (.cells cs t)).cell? ⟨w.heap.size, i, none⟩ = cs[i]? := by
  have := World.alloc_heap_new w (.cells cs t)
  simp only [World.cell?, this]
  rfl

set_option maxRecDepth 100000 in
set_option maxHeartbeats 1000000 in
theorem check17_any (v : Value) (xs : List Nd) (w : World) (hm : xs.length ≤ 100) (h : TreeAt w v xs) :
    Calls Try.prog 17 #[v] w fun e w' => e = .returned (.int .i64 (checkL xs)) ∧ Below w.heap.size w w' := by
  obtain ⟨a, cap, rfl, hr, hw⟩ := h
  obtain ⟨len, hlen⟩ : ∃ len, len = xs.length := ⟨_, rfl⟩
  have HMEM := Lib.hid (members_any (.agg #[.slice a xs.length cap]) xs ((w.alloc (.cells #[.slice a xs.length cap] 24)).alloc (.map #[] 0)) hm
    ⟨a, cap, rfl, (hr.below ((Below.refl _ _).alloc (Nat.le_refl _) _)).below ((Below.refl _ _).alloc (Nat.le_refl _) _), hw⟩)
  have hml := memL_length xs
  rw [← hlen] at hm hml HMEM ⊢
  have HL := Lib.hid hlen
  have HR := Lib.hid hr
  have HW := Lib.hid hw
  clear hlen hr hw
  have hrange := Lib.hid (memL_range xs)
  have hmm := @run_makeMap Try.prog
  generalize hds : memL xs = ds at *
  have HDS := Lib.hid hds
  clear hds
  go_enter Try.func17, Try.ntmps17
  go_wp2_with (go_at_call 19; refine HMEM.out.mono ?_; rintro e w1 ⟨v', rfl, ⟨a1, cap1, b1, off1, rfl, ha1, hc1⟩, hB⟩; have HA1 := Lib.hid ha1; have HC1 := Lib.hid hc1; clear ha1 hc1)
  have HB := Lib.hid hB
  have hm1 : w.heap.size + 2 ≤ w1.heap.size := by have := hB.size; simp at this; omega
  have hM1 : MapIs K3 Value.bool w1 (w.heap.size + 1) 0 (setF []) := by
    have := MapIs.made K3 Value.bool (w.alloc (Obj.cells #[Value.slice a len cap] 24))
    simp only [World.size_alloc] at this
    exact (this.congr (g := setF []) (fun _ => rfl)).below hB (by simp)
  clear hB
  have hmax : ∀ x : Nat, x ≤ 2000 → x < maxLen := fun x hx => by unfold maxLen; omega
  obtain ⟨nm, hnm⟩ : ∃ nm, nm = ds.length := ⟨_, rfl⟩
  rw [← hnm] at hml ⊢
  have HNM := Lib.hid hnm
  clear hnm
  go_loopw [16] (fun i wr => ∃ k : Nat, k ≤ nm ∧ i = .int .i64 k ∧ MapIs K3 Value.bool wr (w.heap.size + 1) (k * 10) (setF ((ds.take k).flatMap anc)) ∧ Chg (fun j => j = w.heap.size + 1) w1 wr) (fun i _ => nm - (intOf i).toNat)
  case atStart => exact ⟨0, Nat.zero_le _, rfl, hM1, Chg.refl _ _⟩
  case round =>
    obtain ⟨k, hk, rfl, hM, hC⟩ := hrel
    by_cases hlt : k < nm
    · obtain ⟨d, hd⟩ : ∃ d, ds[k]? = some d := ⟨_, List.getElem?_eq_getElem (by rw [← HNM.out]; exact hlt)⟩
      obtain ⟨hd0, hd1⟩ := hrange.out d (List.mem_of_getElem? hd)
      obtain ⟨dn, rfl⟩ := Int.eq_ofNat_of_zero_le hd0
      have ha : a1 = some ⟨b1, off1, none⟩ := by
        rcases HA1.out with h | h
        · exact h
        · rw [h] at hd; cases hd
      subst ha
      have g0 := hC.cell (HC1.out k _ hd) (fun e => by have := hM1.nocell (p := ⟨b1, off1 + k, none⟩) e; rw [HC1.out k _ hd] at this; cases this)
      have hs := take_snoc hd
      have HS := Lib.hid hs
      have HD := Lib.hid hd
      have hMw : w.heap.size + 1 < wr.heap.size := hM.lt
      clear hd hs
      have hok : (K3).ok (512 + (dn : Int)) := wf_small (by omega) (by omega)
      have hdn : dn < 512 := by omega
      go_wp2_with (first
        | (go_at_call 29; refine (path_ok dn hdn _).mono ?_; rintro e w2 ⟨v2, rfl, ⟨a2, cap2, b2, off2, rfl, ha2, hc2⟩, hB2⟩; have HA2 := Lib.hid ha2; have HC2 := Lib.hid hc2; clear ha2 hc2; have hM2 := hM.below hB2 hMw; rw [show ((ups (512 + dn)).map fun x => x / 2).length = 9 from pathL_length dn])
        | (at_mapUpdate; refine wpList_put rfl (.tmp 25) (.tmp 27) (.const (.bool true)) 46 rfl keyed3 Try.underlying46 rfl hM2 (hmax _ (by omega)) (x := 512 + (dn : Int)) hok rfl (c := true) rfl ?_; intro w3 hM3 hg3))
      have hM3' := hM3.congr (setF_snoc _ _)
      have hC3 : Chg (fun j => j = w.heap.size + 1) w2 w3 := (Chg.refl _ _).grown hg3 (fun j hj => by cases hj; exact .inl rfl)
      have ha2 : a2 = some ⟨b2, off2, none⟩ := by
        rcases HA2.out with h | h
        · exact h
        · have := pathL_length dn; rw [show pathL dn = _ from h] at this; cases this
      subst ha2
      have HM3 := Lib.hid hM3'
      have HC3 := Lib.hid hC3
      clear hM3 hg3 hM3' hC3
      go_loopw [30] (fun i wr2 => ∃ j : Nat, j ≤ 9 ∧ i = .int .i64 j ∧ MapIs K3 Value.bool wr2 (w.heap.size + 1) (k * 10 + 1 + j) (setF ((ds.take k).flatMap anc ++ [512 + (dn : Int)] ++ (pathL dn).take j)) ∧ Chg (fun j => j = w.heap.size + 1) w2 wr2) (fun i _ => 9 - (intOf i).toNat)
      case atStart => exact ⟨0, by omega, rfl, HM3.out.congr (fun x => by rw [List.take_zero, List.append_nil]), HC3.out⟩
      case round =>
        obtain ⟨j, hj, rfl, hM4, hC4⟩ := hrel
        by_cases hj9 : j < 9
        · obtain ⟨y, hy⟩ : ∃ y, (pathL dn)[j]? = some y := ⟨_, List.getElem?_eq_getElem (by rw [pathL_length]; exact hj9)⟩
          have g2 := hC4.cell (HC2.out j y hy) (fun e => by have := hM2.nocell (p := ⟨b2, off2 + j, none⟩) e; rw [HC2.out j y hy] at this; cases this)
          have hy2 : 0 ≤ y ∧ y ≤ 1023 := by
            have h1 : (pathL dn)[j]? = some (((512 + dn) / 2 ^ j : Nat) / 2 : Int) := by unfold pathL; rw [List.getElem?_map, ups_at _ _ hj9]; rfl
            rw [h1] at hy
            have h2 := shift_bounds (512 + dn) j (by omega) (by omega) hj9
            cases hy
            omega
          have hoky : (K3).ok y := wf_small (by omega) (by omega)
          have hsj := take_snoc hy
          have HSJ := Lib.hid hsj
          clear hy hsj hy2
          go_wp2_with (at_mapUpdate; refine wpList_put rfl (.tmp 34) (.tmp 35) (.const (.bool true)) 46 rfl keyed3 Try.underlying46 rfl hM4 (hmax _ (by omega)) (x := y) hoky rfl (c := true) rfl ?_; intro w5 hM5 hg5)
          have hM5' := hM5.congr (setF_snoc _ _)
          go_roundw
          case rel => exact ⟨j + 1, by omega, by go_num, hM5'.congr (fun x => by simp only [HSJ.out, List.append_assoc]), hC4.grown hg5 (fun j hj => by cases hj; exact .inl rfl)⟩
          case measure => simp [intOf]; omega
        · have hj' : j = 9 := by omega
          subst hj'
          have hM6 : MapIs K3 Value.bool wr (w.heap.size + 1) ((k + 1) * 10) (setF ((ds.take (k + 1)).flatMap anc)) := by
            refine (hM4.mono (by omega)).congr (fun x => ?_)
            rw [HS.out, List.flatMap_append, List.take_of_length_le (l := pathL dn) (i := 9) (by rw [pathL_length]; exact Nat.le_refl _)]
            simp [anc]
          have hC6 : Chg (fun j => j = w.heap.size + 1) w1 wr := (hC.trans (Chg.of_below' hB2) (fun _ h => h.elim)).trans hC4 (fun _ h => .inl h)
          clear hM4 hC4
          go_wp2
          go_roundw
          case rel => exact ⟨k + 1, by omega, by go_num, hM6, hC6⟩
          case measure => simp [intOf]; omega
    · have hk' : k = nm := by omega
      subst hk'
      rw [List.take_of_length_le (by rw [← HNM.out]; exact Nat.le_refl _)] at hM
      have hRw : RowN wr a xs := by
        have h0 : RowN ((w.alloc (Obj.cells #[Value.slice a len cap] 24)).alloc (Obj.map #[] 0)) a xs := (HR.out.below ((Below.refl _ _).alloc (Nat.le_refl _) _)).below ((Below.refl _ _).alloc (Nat.le_refl _) _)
        exact (h0.below HB.out).chg hC (fun p hp => hM1.nocell hp)
      have hbox : wr.cell? ⟨w.heap.size, 0, none⟩ = some (.slice a len cap) := by
        refine hC.cell ?_ (fun e => by have e : w.heap.size = w.heap.size + 1 := e; omega)
        rw [HB.out.cell (p := ⟨w.heap.size, 0, none⟩) (by show w.heap.size < _; simp only [World.size_alloc]; omega)]
        exact ((Boxed.new w 24 (.slice a len cap)).alloc _).cell
      have hBw : Below w.heap.size w wr := by
        refine (((Below.refl _ _).alloc (Nat.le_refl _) (Obj.cells #[Value.slice a len cap] 24)).alloc (by simp) (Obj.map #[] 0)).trans ((HB.out.mono (by simp only [World.size_alloc]; omega)).trans ?_)
        exact hC.below (fun j h => by omega) (by omega)
      have HRW := Lib.hid hRw
      have HBW := Lib.hid hBw
      have hsz : w.heap.size + 2 ≤ wr.heap.size := by have := hC.size; omega
      have hu : ds.flatMap anc = usedL xs := by unfold usedL; rw [HDS.out]
      rw [hu] at hM
      clear hM1 hC hRw hBw hu HMEM hrange HC1 HA1 HNM HDS hml hm1 HB hlt hk
      generalize hw0 : wr = w0 at *
      clear hw0
      have hmw0 : w.heap.size + 1 < w0.heap.size := by omega
      go_wp2
      go_loopw [41] (fun i wr => ∃ k : Nat, k ≤ len ∧ i = .int .i64 k ∧ Hid (∀ j, j < k → okAt xs j = true) ∧ Below w0.heap.size w0 wr) (fun i _ => len - (intOf i).toNat)
      case atStart => exact ⟨0, Nat.zero_le _, rfl, fun j hj => by omega, Below.refl _ _⟩
      case round =>
        obtain ⟨k, hk, rfl, hok, hB⟩ := hrel
        by_cases hlt : k < len
        · obtain ⟨⟨n0, n1⟩, hn⟩ : ∃ n, xs[k]? = some n := ⟨_, List.getElem?_eq_getElem (by rw [← HL.out]; exact hlt)⟩
          obtain ⟨b, off, ha, hc⟩ := HRW.out
          have ha : a = some ⟨b, off, none⟩ := by
            rcases ha with h | h
            · exact h
            · rw [h] at hn; cases hn
          subst ha
          obtain ⟨h0, h1⟩ := hc k _ hn
          have hb : b < w0.heap.size := lt_of_cell h0
          have g0 := (hB.cell (p := ⟨b, off + k * 2, none⟩) hb).trans h0
          have g1 := (hB.cell (p := ⟨b, off + k * 2 + 1, none⟩) hb).trans h1
          have gb := (hB.cell (p := ⟨w.heap.size, 0, none⟩) (by show w.heap.size < _; omega)).trans hbox
          have wn : (K3).ok n0 := (HW.out _ (List.mem_of_getElem? hn)).1
          have hMr := hM.below hB hmw0
          have hget : ∀ w', Below wr.heap.size (wr.alloc (.cells #[.int .i64 n0, .int .i64 n1] 48)) w' → (Instr.lookup 46 (.map (some (w.heap.size + 1))) (.int .i64 n0) false).run Try.prog w' = .ok (.bool (decide (n0 ∈ usedL xs))) w' := by
            intro w' hw'
            have h := (((hMr.alloc (.cells #[.int .i64 n0, .int .i64 n1] 48)).below hw' hMr.lt).look keyed3 (t := 46) Try.underlying46 (zero4 _) wn).2
            refine h.trans ?_
            unfold setF
            by_cases q : n0 ∈ usedL xs
            · rw [if_pos q]; simp [q]
            · rw [if_neg q]; simp [q]
          have HOK := Lib.hid hok
          have HN := Lib.hid hn
          have hwsz : w.heap.size < wr.heap.size := by have := hB.size; omega
          have hbsz : b < wr.heap.size := by have := hB.size; omega
          clear hn h0 h1 hok
          by_cases q1 : n0 < 1
          · have hbad : okAt xs k = false := by rw [okAt_eq HN.out]; simp; omega
            have HBAD := Lib.hid hbad
            clear hbad hget
            have d1 : decide (n0 < 1) = true := decide_eq_true q1
            go_wp2
            go_quiet (fail)
            have hfin : Below w0.heap.size w0 ((wr.alloc (.cells #[.int .i64 n0, .int .i64 n1] 48)).drewN nq) := (hB.alloc hB.size (.cells #[.int .i64 n0, .int .i64 n1] 48)).trans (⟨rfl, rfl, rfl, Nat.le_refl _, fun _ _ => rfl⟩)
            have hfin' : Below w.heap.size w ((wr.alloc (.cells #[.int .i64 n0, .int .i64 n1] 48)).drewN nq) := HBW.out.trans (hfin.mono (by omega))
            have HFIN0 := Lib.hid hfin
            have HFIN := Lib.hid hfin'
            clear hfin hfin'
            go_wp2
            go_ret
            exact ⟨ret_int (checkL_bad (by rw [← HL.out]; exact hlt) HBAD.out).symm, HFIN.out⟩
          by_cases q2 : 1023 < n0
          · have hbad : okAt xs k = false := by rw [okAt_eq HN.out]; simp; omega
            have HBAD := Lib.hid hbad
            clear hbad hget
            have d1 : decide (n0 < 1) = false := decide_eq_false q1
            have d2 : decide (1023 < n0) = true := decide_eq_true q2
            go_wp2
            go_quiet (fail)
            have hfin : Below w0.heap.size w0 ((wr.alloc (.cells #[.int .i64 n0, .int .i64 n1] 48)).drewN nq) := (hB.alloc hB.size (.cells #[.int .i64 n0, .int .i64 n1] 48)).trans (⟨rfl, rfl, rfl, Nat.le_refl _, fun _ _ => rfl⟩)
            have hfin' : Below w.heap.size w ((wr.alloc (.cells #[.int .i64 n0, .int .i64 n1] 48)).drewN nq) := HBW.out.trans (hfin.mono (by omega))
            have HFIN0 := Lib.hid hfin
            have HFIN := Lib.hid hfin'
            clear hfin hfin'
            go_wp2
            go_ret
            exact ⟨ret_int (checkL_bad (by rw [← HL.out]; exact hlt) HBAD.out).symm, HFIN.out⟩
          have d1 : decide (n0 < 1) = false := decide_eq_false q1
          have d2 : decide (1023 < n0) = false := decide_eq_false q2
          have hc0 : ∀ w', Below (wr.heap.size + 1) (wr.alloc (.cells #[.int .i64 n0, .int .i64 n1] 48)) w' → (w'.cell? ⟨wr.heap.size, 0, none⟩ = some (.int .i64 n0) ∧ w'.cell? ⟨wr.heap.size, 1, none⟩ = some (.int .i64 n1) ∧
                (Instr.lookup 46 (.map (some (w.heap.size + 1))) (.int .i64 n0) false).run Try.prog w' = .ok (.bool (decide (n0 ∈ usedL xs))) w') := by
            intro w' hw'
            refine ⟨?_, ?_, hget w' (hw'.mono (by omega))⟩
            · rw [hw'.cell (by show wr.heap.size < _; omega)]; exact (cell_at_new wr _ _ 0)
            · rw [hw'.cell (by show wr.heap.size < _; omega)]; exact (cell_at_new wr _ _ 1)
          by_cases q0 : k = 0
          · have d0 : decide ((0 : Int) < (k : Int)) = false := decide_eq_false (by omega)
            have d0' : decide (0 < k) = false := decide_eq_false (by omega)
            have d0'' : ¬ 0 < k := by omega
            have Q0 := Lib.hid q0
            clear q0
            have HS := Lib.hid hc0
            clear hc0 hget
            by_cases q3 : chk n1 = 0
            · have d3 : decide (chk n1 = 0) = true := decide_eq_true q3
              go_wp2
              refine wp_region_held_drew (S := fun w' => w'.cell? ⟨wr.heap.size, 0, none⟩ = some (.int .i64 n0) ∧ w'.cell? ⟨wr.heap.size, 1, none⟩ = some (.int .i64 n1) ∧ (Instr.lookup 46 (.map (some (w.heap.size + 1))) (.int .i64 n0) false).run Try.prog w' = .ok (.bool (decide (n0 ∈ usedL xs))) w') (by kernel_rfl) (HS.out _ (Below.refl _ _).drew) (fun hHeld => ?_)
              refine takeT (i := 0) (v := (.pointer (some ⟨wr.heap.size, 0, none⟩))) rfl (by kernel_rfl) (by kernel_rfl) (by kernel_rfl) (fun _ _ _ h => h) rfl ?_ (by assumption) ?_
              · intro w' hw'; go_split_ands; go_simp
              simp only [List.setIfInBounds_toArray, List.set_cons_zero, List.set_cons_succ]
              refine takeT (i := 1) (v := (.int .i64 n0)) rfl (by kernel_rfl) (by kernel_rfl) (by kernel_rfl) (fun _ _ _ h => h) rfl ?_ (by assumption) ?_
              · intro w' hw'; go_split_ands; go_simp
              simp only [List.setIfInBounds_toArray, List.set_cons_zero, List.set_cons_succ]
              refine takeT (i := 2) (v := (.bool false)) rfl (by kernel_rfl) (by kernel_rfl) (by kernel_rfl) (fun _ _ _ h => h) rfl ?_ (by assumption) ?_
              · intro w' hw'; go_split_ands; go_simp
              simp only [List.setIfInBounds_toArray, List.set_cons_zero, List.set_cons_succ]
              refine takeT (i := 3) (v := (.bool false)) rfl (by kernel_rfl) (by kernel_rfl) (by kernel_rfl) (fun _ _ _ h => h) rfl ?_ (by assumption) ?_
              · intro w' hw'; go_split_ands; go_simp
              simp only [List.setIfInBounds_toArray, List.set_cons_zero, List.set_cons_succ]
              refine takeT (i := 4) (v := (.pointer (some ⟨wr.heap.size, 0, none⟩))) rfl (by kernel_rfl) (by kernel_rfl) (by kernel_rfl) (fun _ _ _ h => h) rfl ?_ (by assumption) ?_
              · intro w' hw'; go_split_ands; go_simp
              simp only [List.setIfInBounds_toArray, List.set_cons_zero, List.set_cons_succ]
              refine takeT (i := 5) (v := (.int .i64 n0)) rfl (by kernel_rfl) (by kernel_rfl) (by kernel_rfl) (fun _ _ _ h => h) rfl ?_ (by assumption) ?_
              · intro w' hw'; go_split_ands; go_simp
              simp only [List.setIfInBounds_toArray, List.set_cons_zero, List.set_cons_succ]
              refine takeT (i := 6) (v := (.bool false)) rfl (by kernel_rfl) (by kernel_rfl) (by kernel_rfl) (fun _ _ _ h => h) rfl ?_ (by assumption) ?_
              · intro w' hw'; go_split_ands; go_simp
              simp only [List.setIfInBounds_toArray, List.set_cons_zero, List.set_cons_succ]
              refine takeT (i := 7) (v := (.bool false)) rfl (by kernel_rfl) (by kernel_rfl) (by kernel_rfl) (fun _ _ _ h => h) rfl ?_ (by assumption) ?_
              · intro w' hw'; go_split_ands; go_simp
              simp only [List.setIfInBounds_toArray, List.set_cons_zero, List.set_cons_succ]
              refine takeT (i := 8) (v := (.bool false)) rfl (by kernel_rfl) (by kernel_rfl) (by kernel_rfl) (fun _ _ _ h => h) rfl ?_ (by assumption) ?_
              · intro w' hw'; go_split_ands; go_simp
              simp only [List.setIfInBounds_toArray, List.set_cons_zero, List.set_cons_succ]
              refine takeT (i := 9) (v := (.int .i64 (k : Int))) rfl (by kernel_rfl) (by kernel_rfl) (by kernel_rfl) (fun _ _ _ h => h) rfl ?_ (by assumption) ?_
              · intro w' hw'; go_split_ands; go_simp
              simp only [List.setIfInBounds_toArray, List.set_cons_zero, List.set_cons_succ]
              refine takeT (i := 10) (v := (.bool false)) rfl (by kernel_rfl) (by kernel_rfl) (by kernel_rfl) (fun _ _ _ h => h) rfl ?_ (by assumption) ?_
              · intro w' hw'; go_split_ands; go_simp
              simp only [List.setIfInBounds_toArray, List.set_cons_zero, List.set_cons_succ]
              refine takeT (i := 11) (v := (.bool false)) rfl (by kernel_rfl) (by kernel_rfl) (by kernel_rfl) (fun _ _ _ h => h) rfl ?_ (by assumption) ?_
              · intro w' hw'; go_split_ands; go_simp
              simp only [List.setIfInBounds_toArray, List.set_cons_zero, List.set_cons_succ]
              refine skipT (i := 12) rfl (by kernel_rfl) (by kernel_rfl) (by kernel_rfl) (fun _ _ _ h => h) rfl (by assumption) ?_
              simp only [List.setIfInBounds_toArray, List.set_cons_zero, List.set_cons_succ]
              refine skipT (i := 13) rfl (by kernel_rfl) (by kernel_rfl) (by kernel_rfl) (fun _ _ _ h => h) rfl (by assumption) ?_
              simp only [List.setIfInBounds_toArray, List.set_cons_zero, List.set_cons_succ]
              refine skipT (i := 14) rfl (by kernel_rfl) (by kernel_rfl) (by kernel_rfl) (fun _ _ _ h => h) rfl (by assumption) ?_
              simp only [List.setIfInBounds_toArray, List.set_cons_zero, List.set_cons_succ]
              refine skipT (i := 15) rfl (by kernel_rfl) (by kernel_rfl) (by kernel_rfl) (fun _ _ _ h => h) rfl (by assumption) ?_
              simp only [List.setIfInBounds_toArray, List.set_cons_zero, List.set_cons_succ]
              refine skipT (i := 16) rfl (by kernel_rfl) (by kernel_rfl) (by kernel_rfl) (fun _ _ _ h => h) rfl (by assumption) ?_
              simp only [List.setIfInBounds_toArray, List.set_cons_zero, List.set_cons_succ]
              refine skipT (i := 17) rfl (by kernel_rfl) (by kernel_rfl) (by kernel_rfl) (fun _ _ _ h => h) rfl (by assumption) ?_
              simp only [List.setIfInBounds_toArray, List.set_cons_zero, List.set_cons_succ]
              refine skipT (i := 18) rfl (by kernel_rfl) (by kernel_rfl) (by kernel_rfl) (fun _ _ _ h => h) rfl (by assumption) ?_
              simp only [List.setIfInBounds_toArray, List.set_cons_zero, List.set_cons_succ]
              refine skipT (i := 19) rfl (by kernel_rfl) (by kernel_rfl) (by kernel_rfl) (fun _ _ _ h => h) rfl (by assumption) ?_
              simp only [List.setIfInBounds_toArray, List.set_cons_zero, List.set_cons_succ]
              refine skipT (i := 20) rfl (by kernel_rfl) (by kernel_rfl) (by kernel_rfl) (fun _ _ _ h => h) rfl (by assumption) ?_
              simp only [List.setIfInBounds_toArray, List.set_cons_zero, List.set_cons_succ]
              refine skipT (i := 21) rfl (by kernel_rfl) (by kernel_rfl) (by kernel_rfl) (fun _ _ _ h => h) rfl (by assumption) ?_
              simp only [List.setIfInBounds_toArray, List.set_cons_zero, List.set_cons_succ]
              refine takeT (i := 22) (v := (.bool false)) rfl (by kernel_rfl) (by kernel_rfl) (by kernel_rfl) (fun _ _ _ h => h) rfl ?_ (by assumption) ?_
              · intro w' hw'; go_split_ands; go_simp
              simp only [List.setIfInBounds_toArray, List.set_cons_zero, List.set_cons_succ]
              refine takeT (i := 23) (v := (.bool false)) rfl (by kernel_rfl) (by kernel_rfl) (by kernel_rfl) (fun _ _ _ h => h) rfl ?_ (by assumption) ?_
              · intro w' hw'; go_split_ands; go_simp
              simp only [List.setIfInBounds_toArray, List.set_cons_zero, List.set_cons_succ]
              refine takeT (i := 24) (v := (.bool false)) rfl (by kernel_rfl) (by kernel_rfl) (by kernel_rfl) (fun _ _ _ h => h) rfl ?_ (by assumption) ?_
              · intro w' hw'; go_split_ands; go_simp
              simp only [List.setIfInBounds_toArray, List.set_cons_zero, List.set_cons_succ]
              refine takeT (i := 25) (v := (.pointer (some ⟨wr.heap.size, 1, none⟩))) rfl (by kernel_rfl) (by kernel_rfl) (by kernel_rfl) (fun _ _ _ h => h) rfl ?_ (by assumption) ?_
              · intro w' hw'; go_split_ands; go_simp
              simp only [List.setIfInBounds_toArray, List.set_cons_zero, List.set_cons_succ]
              refine takeT (i := 26) (v := (.int .i64 n1)) rfl (by kernel_rfl) (by kernel_rfl) (by kernel_rfl) (fun _ _ _ h => h) rfl ?_ (by assumption) ?_
              · intro w' hw'; go_split_ands; go_simp
              simp only [List.setIfInBounds_toArray, List.set_cons_zero, List.set_cons_succ]
              refine wpAnyH_all (rs := [27]) (by kernel_rfl) (by simp) ?_
              intro i hi
              simp only [List.mem_cons, List.not_mem_nil, or_false] at hi
              subst hi
              refine wpOp_step rfl (fun K' hK => ?_)
              rw [if_pos (by rfl)]
              go_simp
              go_at_call 39
              refine (check_any _ _).mono ?_
              rintro e w3 ⟨rfl, hB3⟩
              have hS3 := HS.out w3 ((Below.refl _ _).drew.trans (hB3.mono (show wr.heap.size + 1 ≤ _ by simp)))
              refine hK _ _ ⟨hS3, ?_⟩
              try simp only [Act.put, List.setIfInBounds_toArray, List.set_cons_zero, List.set_cons_succ]
              refine takeT (i := 28) (v := (.bool false)) rfl (by kernel_rfl) (by kernel_rfl) (by kernel_rfl) (fun _ _ _ h => h) rfl ?_ (by assumption) ?_
              · intro w' hw'; go_split_ands; go_simp
              simp only [List.setIfInBounds_toArray, List.set_cons_zero, List.set_cons_succ]
              refine takeT (i := 29) (v := (.bool false)) rfl (by kernel_rfl) (by kernel_rfl) (by kernel_rfl) (fun _ _ _ h => h) rfl ?_ (by assumption) ?_
              · intro w' hw'; go_split_ands; go_simp
              simp only [List.setIfInBounds_toArray, List.set_cons_zero, List.set_cons_succ]
              refine takeT (i := 30) (v := (.bool false)) rfl (by kernel_rfl) (by kernel_rfl) (by kernel_rfl) (fun _ _ _ h => h) rfl ?_ (by assumption) ?_
              · intro w' hw'; go_split_ands; go_simp
              simp only [List.setIfInBounds_toArray, List.set_cons_zero, List.set_cons_succ]
              refine takeT (i := 31) (v := (.map (some (w.heap.size + 1)))) rfl (by kernel_rfl) (by kernel_rfl) (by kernel_rfl) (fun _ _ _ h => h) rfl ?_ (by assumption) ?_
              · intro w' hw'; go_split_ands; go_simp
              simp only [List.setIfInBounds_toArray, List.set_cons_zero, List.set_cons_succ]
              refine takeT (i := 32) (v := (.pointer (some ⟨wr.heap.size, 0, none⟩))) rfl (by kernel_rfl) (by kernel_rfl) (by kernel_rfl) (fun _ _ _ h => h) rfl ?_ (by assumption) ?_
              · intro w' hw'; go_split_ands; go_simp
              simp only [List.setIfInBounds_toArray, List.set_cons_zero, List.set_cons_succ]
              refine takeT (i := 33) (v := (.int .i64 n0)) rfl (by kernel_rfl) (by kernel_rfl) (by kernel_rfl) (fun _ _ _ h => h) rfl ?_ (by assumption) ?_
              · intro w' hw'; go_split_ands; go_simp
              simp only [List.setIfInBounds_toArray, List.set_cons_zero, List.set_cons_succ]
              refine takeT (i := 34) (v := (.bool (decide (n0 ∈ usedL xs)))) rfl (by kernel_rfl) (by kernel_rfl) (by kernel_rfl) (fun _ _ _ h => h) rfl ?_ (by assumption) ?_
              · intro w' hw'; go_split_ands; go_simp
              simp only [List.setIfInBounds_toArray, List.set_cons_zero, List.set_cons_succ]
              refine takeT (i := 35) (v := (.bool (!decide (n0 ∈ usedL xs)))) rfl (by kernel_rfl) (by kernel_rfl) (by kernel_rfl) (fun _ _ _ h => h) rfl ?_ (by assumption) ?_
              · intro w' hw'; go_split_ands; go_simp
              simp only [List.setIfInBounds_toArray, List.set_cons_zero, List.set_cons_succ]
              refine takeT (i := 36) (v := (.bool (!decide (n0 ∈ usedL xs)))) rfl (by kernel_rfl) (by kernel_rfl) (by kernel_rfl) (fun _ _ _ h => h) rfl ?_ (by assumption) ?_
              · intro w' hw'; go_split_ands; go_simp
              simp only [List.setIfInBounds_toArray, List.set_cons_zero, List.set_cons_succ]
              refine wpAnyH_done (by kernel_rfl) ?_ _
              have hfin : Below w0.heap.size w0 w3 := (hB.alloc hB.size (.cells #[.int .i64 n0, .int .i64 n1] 48)).trans ((Below.refl _ _).drew.trans (hB3.mono (show w0.heap.size ≤ _ by have := hB.size; simp; omega)))
              have hfin' : Below w.heap.size w w3 := HBW.out.trans (hfin.mono (by omega))
              have HFIN0 := Lib.hid hfin
              have HFIN := Lib.hid hfin'
              clear hfin hfin'
              by_cases q4 : n0 ∈ usedL xs
              · have hgood : okAt xs k = true := by rw [okAt_eq HN.out]; simp [okPrev_zero Q0.out, q3, q4]; omega
                have HGOOD := Lib.hid hgood
                rw [show (!decide (n0 ∈ usedL xs)) = false by simp [q4]]
                clear hgood
                go_wp2
                refine ⟨⟨k + 1, by omega, by go_num, fun j hj => ?_, HFIN0.out⟩, by simp [intOf]; omega⟩
                by_cases e : j < k
                · exact HOK.out j e
                · have e' : j = k := by omega
                  rw [e']
                  exact HGOOD.out
              · have hbad : okAt xs k = false := by rw [okAt_eq HN.out]; simp [q4]
                have HBAD := Lib.hid hbad
                rw [show (!decide (n0 ∈ usedL xs)) = true by simp [q4]]
                clear hbad
                go_wp2
                go_ret
                exact ⟨ret_int (checkL_bad (by rw [← HL.out]; exact hlt) HBAD.out).symm, HFIN.out⟩
            · have d3 : decide (chk n1 = 0) = false := decide_eq_false q3
              have hbad : okAt xs k = false := by rw [okAt_eq HN.out]; simp [q3]
              have HBAD := Lib.hid hbad
              clear hbad
              go_wp2
              refine wp_region_held_drew (S := fun w' => w'.cell? ⟨wr.heap.size, 0, none⟩ = some (.int .i64 n0) ∧ w'.cell? ⟨wr.heap.size, 1, none⟩ = some (.int .i64 n1) ∧ (Instr.lookup 46 (.map (some (w.heap.size + 1))) (.int .i64 n0) false).run Try.prog w' = .ok (.bool (decide (n0 ∈ usedL xs))) w') (by kernel_rfl) (HS.out _ (Below.refl _ _).drew) (fun hHeld => ?_)
              refine takeT (i := 0) (v := (.pointer (some ⟨wr.heap.size, 0, none⟩))) rfl (by kernel_rfl) (by kernel_rfl) (by kernel_rfl) (fun _ _ _ h => h) rfl ?_ (by assumption) ?_
              · intro w' hw'; go_split_ands; go_simp
              simp only [List.setIfInBounds_toArray, List.set_cons_zero, List.set_cons_succ]
              refine takeT (i := 1) (v := (.int .i64 n0)) rfl (by kernel_rfl) (by kernel_rfl) (by kernel_rfl) (fun _ _ _ h => h) rfl ?_ (by assumption) ?_
              · intro w' hw'; go_split_ands; go_simp
              simp only [List.setIfInBounds_toArray, List.set_cons_zero, List.set_cons_succ]
              refine takeT (i := 2) (v := (.bool false)) rfl (by kernel_rfl) (by kernel_rfl) (by kernel_rfl) (fun _ _ _ h => h) rfl ?_ (by assumption) ?_
              · intro w' hw'; go_split_ands; go_simp
              simp only [List.setIfInBounds_toArray, List.set_cons_zero, List.set_cons_succ]
              refine takeT (i := 3) (v := (.bool false)) rfl (by kernel_rfl) (by kernel_rfl) (by kernel_rfl) (fun _ _ _ h => h) rfl ?_ (by assumption) ?_
              · intro w' hw'; go_split_ands; go_simp
              simp only [List.setIfInBounds_toArray, List.set_cons_zero, List.set_cons_succ]
              refine takeT (i := 4) (v := (.pointer (some ⟨wr.heap.size, 0, none⟩))) rfl (by kernel_rfl) (by kernel_rfl) (by kernel_rfl) (fun _ _ _ h => h) rfl ?_ (by assumption) ?_
              · intro w' hw'; go_split_ands; go_simp
              simp only [List.setIfInBounds_toArray, List.set_cons_zero, List.set_cons_succ]
              refine takeT (i := 5) (v := (.int .i64 n0)) rfl (by kernel_rfl) (by kernel_rfl) (by kernel_rfl) (fun _ _ _ h => h) rfl ?_ (by assumption) ?_
              · intro w' hw'; go_split_ands; go_simp
              simp only [List.setIfInBounds_toArray, List.set_cons_zero, List.set_cons_succ]
              refine takeT (i := 6) (v := (.bool false)) rfl (by kernel_rfl) (by kernel_rfl) (by kernel_rfl) (fun _ _ _ h => h) rfl ?_ (by assumption) ?_
              · intro w' hw'; go_split_ands; go_simp
              simp only [List.setIfInBounds_toArray, List.set_cons_zero, List.set_cons_succ]
              refine takeT (i := 7) (v := (.bool false)) rfl (by kernel_rfl) (by kernel_rfl) (by kernel_rfl) (fun _ _ _ h => h) rfl ?_ (by assumption) ?_
              · intro w' hw'; go_split_ands; go_simp
              simp only [List.setIfInBounds_toArray, List.set_cons_zero, List.set_cons_succ]
              refine takeT (i := 8) (v := (.bool false)) rfl (by kernel_rfl) (by kernel_rfl) (by kernel_rfl) (fun _ _ _ h => h) rfl ?_ (by assumption) ?_
              · intro w' hw'; go_split_ands; go_simp
              simp only [List.setIfInBounds_toArray, List.set_cons_zero, List.set_cons_succ]
              refine takeT (i := 9) (v := (.int .i64 (k : Int))) rfl (by kernel_rfl) (by kernel_rfl) (by kernel_rfl) (fun _ _ _ h => h) rfl ?_ (by assumption) ?_
              · intro w' hw'; go_split_ands; go_simp
              simp only [List.setIfInBounds_toArray, List.set_cons_zero, List.set_cons_succ]
              refine takeT (i := 10) (v := (.bool false)) rfl (by kernel_rfl) (by kernel_rfl) (by kernel_rfl) (fun _ _ _ h => h) rfl ?_ (by assumption) ?_
              · intro w' hw'; go_split_ands; go_simp
              simp only [List.setIfInBounds_toArray, List.set_cons_zero, List.set_cons_succ]
              refine takeT (i := 11) (v := (.bool false)) rfl (by kernel_rfl) (by kernel_rfl) (by kernel_rfl) (fun _ _ _ h => h) rfl ?_ (by assumption) ?_
              · intro w' hw'; go_split_ands; go_simp
              simp only [List.setIfInBounds_toArray, List.set_cons_zero, List.set_cons_succ]
              refine skipT (i := 12) rfl (by kernel_rfl) (by kernel_rfl) (by kernel_rfl) (fun _ _ _ h => h) rfl (by assumption) ?_
              simp only [List.setIfInBounds_toArray, List.set_cons_zero, List.set_cons_succ]
              refine skipT (i := 13) rfl (by kernel_rfl) (by kernel_rfl) (by kernel_rfl) (fun _ _ _ h => h) rfl (by assumption) ?_
              simp only [List.setIfInBounds_toArray, List.set_cons_zero, List.set_cons_succ]
              refine skipT (i := 14) rfl (by kernel_rfl) (by kernel_rfl) (by kernel_rfl) (fun _ _ _ h => h) rfl (by assumption) ?_
              simp only [List.setIfInBounds_toArray, List.set_cons_zero, List.set_cons_succ]
              refine skipT (i := 15) rfl (by kernel_rfl) (by kernel_rfl) (by kernel_rfl) (fun _ _ _ h => h) rfl (by assumption) ?_
              simp only [List.setIfInBounds_toArray, List.set_cons_zero, List.set_cons_succ]
              refine skipT (i := 16) rfl (by kernel_rfl) (by kernel_rfl) (by kernel_rfl) (fun _ _ _ h => h) rfl (by assumption) ?_
              simp only [List.setIfInBounds_toArray, List.set_cons_zero, List.set_cons_succ]
              refine skipT (i := 17) rfl (by kernel_rfl) (by kernel_rfl) (by kernel_rfl) (fun _ _ _ h => h) rfl (by assumption) ?_
              simp only [List.setIfInBounds_toArray, List.set_cons_zero, List.set_cons_succ]
              refine skipT (i := 18) rfl (by kernel_rfl) (by kernel_rfl) (by kernel_rfl) (fun _ _ _ h => h) rfl (by assumption) ?_
              simp only [List.setIfInBounds_toArray, List.set_cons_zero, List.set_cons_succ]
              refine skipT (i := 19) rfl (by kernel_rfl) (by kernel_rfl) (by kernel_rfl) (fun _ _ _ h => h) rfl (by assumption) ?_
              simp only [List.setIfInBounds_toArray, List.set_cons_zero, List.set_cons_succ]
              refine skipT (i := 20) rfl (by kernel_rfl) (by kernel_rfl) (by kernel_rfl) (fun _ _ _ h => h) rfl (by assumption) ?_
              simp only [List.setIfInBounds_toArray, List.set_cons_zero, List.set_cons_succ]
              refine skipT (i := 21) rfl (by kernel_rfl) (by kernel_rfl) (by kernel_rfl) (fun _ _ _ h => h) rfl (by assumption) ?_
              simp only [List.setIfInBounds_toArray, List.set_cons_zero, List.set_cons_succ]
              refine takeT (i := 22) (v := (.bool false)) rfl (by kernel_rfl) (by kernel_rfl) (by kernel_rfl) (fun _ _ _ h => h) rfl ?_ (by assumption) ?_
              · intro w' hw'; go_split_ands; go_simp
              simp only [List.setIfInBounds_toArray, List.set_cons_zero, List.set_cons_succ]
              refine takeT (i := 23) (v := (.bool false)) rfl (by kernel_rfl) (by kernel_rfl) (by kernel_rfl) (fun _ _ _ h => h) rfl ?_ (by assumption) ?_
              · intro w' hw'; go_split_ands; go_simp
              simp only [List.setIfInBounds_toArray, List.set_cons_zero, List.set_cons_succ]
              refine takeT (i := 24) (v := (.bool false)) rfl (by kernel_rfl) (by kernel_rfl) (by kernel_rfl) (fun _ _ _ h => h) rfl ?_ (by assumption) ?_
              · intro w' hw'; go_split_ands; go_simp
              simp only [List.setIfInBounds_toArray, List.set_cons_zero, List.set_cons_succ]
              refine takeT (i := 25) (v := (.pointer (some ⟨wr.heap.size, 1, none⟩))) rfl (by kernel_rfl) (by kernel_rfl) (by kernel_rfl) (fun _ _ _ h => h) rfl ?_ (by assumption) ?_
              · intro w' hw'; go_split_ands; go_simp
              simp only [List.setIfInBounds_toArray, List.set_cons_zero, List.set_cons_succ]
              refine takeT (i := 26) (v := (.int .i64 n1)) rfl (by kernel_rfl) (by kernel_rfl) (by kernel_rfl) (fun _ _ _ h => h) rfl ?_ (by assumption) ?_
              · intro w' hw'; go_split_ands; go_simp
              simp only [List.setIfInBounds_toArray, List.set_cons_zero, List.set_cons_succ]
              refine wpAnyH_all (rs := [27]) (by kernel_rfl) (by simp) ?_
              intro i hi
              simp only [List.mem_cons, List.not_mem_nil, or_false] at hi
              subst hi
              refine wpOp_step rfl (fun K' hK => ?_)
              rw [if_pos (by rfl)]
              go_simp
              go_at_call 39
              refine (check_any _ _).mono ?_
              rintro e w3 ⟨rfl, hB3⟩
              have hS3 := HS.out w3 ((Below.refl _ _).drew.trans (hB3.mono (show wr.heap.size + 1 ≤ _ by simp)))
              refine hK _ _ ⟨hS3, ?_⟩
              try simp only [Act.put, List.setIfInBounds_toArray, List.set_cons_zero, List.set_cons_succ]
              refine takeT (i := 28) (v := (.bool true)) rfl (by kernel_rfl) (by kernel_rfl) (by kernel_rfl) (fun _ _ _ h => h) rfl ?_ (by assumption) ?_
              · intro w' hw'; go_split_ands; go_simp
              simp only [List.setIfInBounds_toArray, List.set_cons_zero, List.set_cons_succ]
              refine takeT (i := 29) (v := (.bool true)) rfl (by kernel_rfl) (by kernel_rfl) (by kernel_rfl) (fun _ _ _ h => h) rfl ?_ (by assumption) ?_
              · intro w' hw'; go_split_ands; go_simp
              simp only [List.setIfInBounds_toArray, List.set_cons_zero, List.set_cons_succ]
              refine takeT (i := 30) (v := (.bool true)) rfl (by kernel_rfl) (by kernel_rfl) (by kernel_rfl) (fun _ _ _ h => h) rfl ?_ (by assumption) ?_
              · intro w' hw'; go_split_ands; go_simp
              simp only [List.setIfInBounds_toArray, List.set_cons_zero, List.set_cons_succ]
              refine skipT (i := 31) rfl (by kernel_rfl) (by kernel_rfl) (by kernel_rfl) (fun _ _ _ h => h) rfl (by assumption) ?_
              simp only [List.setIfInBounds_toArray, List.set_cons_zero, List.set_cons_succ]
              refine skipT (i := 32) rfl (by kernel_rfl) (by kernel_rfl) (by kernel_rfl) (fun _ _ _ h => h) rfl (by assumption) ?_
              simp only [List.setIfInBounds_toArray, List.set_cons_zero, List.set_cons_succ]
              refine skipT (i := 33) rfl (by kernel_rfl) (by kernel_rfl) (by kernel_rfl) (fun _ _ _ h => h) rfl (by assumption) ?_
              simp only [List.setIfInBounds_toArray, List.set_cons_zero, List.set_cons_succ]
              refine skipT (i := 34) rfl (by kernel_rfl) (by kernel_rfl) (by kernel_rfl) (fun _ _ _ h => h) rfl (by assumption) ?_
              simp only [List.setIfInBounds_toArray, List.set_cons_zero, List.set_cons_succ]
              refine skipT (i := 35) rfl (by kernel_rfl) (by kernel_rfl) (by kernel_rfl) (fun _ _ _ h => h) rfl (by assumption) ?_
              simp only [List.setIfInBounds_toArray, List.set_cons_zero, List.set_cons_succ]
              refine takeT (i := 36) (v := (.bool true)) rfl (by kernel_rfl) (by kernel_rfl) (by kernel_rfl) (fun _ _ _ h => h) rfl ?_ (by assumption) ?_
              · intro w' hw'; go_split_ands; go_simp
              simp only [List.setIfInBounds_toArray, List.set_cons_zero, List.set_cons_succ]
              refine wpAnyH_done (by kernel_rfl) ?_ _
              have hfin : Below w0.heap.size w0 w3 := (hB.alloc hB.size (.cells #[.int .i64 n0, .int .i64 n1] 48)).trans ((Below.refl _ _).drew.trans (hB3.mono (show w0.heap.size ≤ _ by have := hB.size; simp; omega)))
              have hfin' : Below w.heap.size w w3 := HBW.out.trans (hfin.mono (by omega))
              have HFIN0 := Lib.hid hfin
              have HFIN := Lib.hid hfin'
              clear hfin hfin'
              go_wp2
              go_ret
              exact ⟨ret_int (checkL_bad (by rw [← HL.out]; exact hlt) HBAD.out).symm, HFIN.out⟩
          · have d0 : decide ((0 : Int) < (k : Int)) = true := decide_eq_true (by omega)
            have d0' : decide (0 < k) = true := decide_eq_true (by omega)
            have d0'' : 0 < k := by omega
            obtain ⟨⟨p0, p1⟩, hp⟩ : ∃ n, xs[k - 1]? = some n := ⟨_, List.getElem?_eq_getElem (by rw [← HL.out]; omega)⟩
            have hp0 := (hc (k - 1) _ hp).1
            have gp := (hB.cell (p := ⟨b, off + (k - 1) * 2, none⟩) hb).trans hp0
            have HP := Lib.hid hp
            have hk1 : ((k : Int) - 1).toNat = k - 1 := by omega
            have hk2 : (0 : Int) ≤ (k : Int) - 1 := by omega
            have hk5 : ¬ (k : Int) < 1 := by omega
            have hk6 : (1 : Int) ≤ (k : Int) := by omega
            have hk3 : (k : Int) - 1 < (len : Int) := by omega
            have hk4 : IntKind.i64.wrap ((k : Int) - 1) = (k : Int) - 1 := IntWalk.i64_in _ (by omega)
            have hS : ∀ w', Below (wr.heap.size + 1) (wr.alloc (.cells #[.int .i64 n0, .int .i64 n1] 48)) w' → (w'.cell? ⟨wr.heap.size, 0, none⟩ = some (.int .i64 n0) ∧ w'.cell? ⟨wr.heap.size, 1, none⟩ = some (.int .i64 n1) ∧
                (Instr.lookup 46 (.map (some (w.heap.size + 1))) (.int .i64 n0) false).run Try.prog w' = .ok (.bool (decide (n0 ∈ usedL xs))) w' ∧ w'.cell? ⟨w.heap.size, 0, none⟩ = some (.slice (some ⟨b, off, none⟩) len cap) ∧ w'.cell? ⟨b, off + (k - 1) * 2, none⟩ = some (.int .i64 p0)) := by
              intro w' hw'
              obtain ⟨s1, s2, s3⟩ := hc0 w' hw'
              refine ⟨s1, s2, s3, ?_, ?_⟩
              · rw [hw'.cell (by show w.heap.size < _; omega)]; exact ((Below.refl _ wr).alloc (Nat.le_refl _) _).cell (p := ⟨w.heap.size, 0, none⟩) (by show w.heap.size < _; omega) |>.trans gb
              · rw [hw'.cell (by show b < _; omega)]; exact ((Below.refl _ wr).alloc (Nat.le_refl _) _).cell (p := ⟨b, off + (k - 1) * 2, none⟩) (by show b < _; omega) |>.trans gp
            have HS := Lib.hid hS
            have HC := Lib.hid hc
            clear hc0 hget hS hc hp q0
            by_cases q5 : n0 ≤ p0
            · have hbad : okAt xs k = false := by rw [okAt_eq HN.out]; simp [okPrev_le HP.out d0'' q5]
              have HBAD := Lib.hid hbad
              clear hbad
              have d5 : decide (n0 ≤ p0) = true := decide_eq_true q5
              go_wp2
              go_quiet (fail)
              have hfin : Below w0.heap.size w0 ((wr.alloc (.cells #[.int .i64 n0, .int .i64 n1] 48)).drewN nq) := (hB.alloc hB.size (.cells #[.int .i64 n0, .int .i64 n1] 48)).trans (⟨rfl, rfl, rfl, Nat.le_refl _, fun _ _ => rfl⟩)
              have hfin' : Below w.heap.size w ((wr.alloc (.cells #[.int .i64 n0, .int .i64 n1] 48)).drewN nq) := HBW.out.trans (hfin.mono (by omega))
              have HFIN0 := Lib.hid hfin
              have HFIN := Lib.hid hfin'
              clear hfin hfin'
              go_wp2
              go_ret
              exact ⟨ret_int (checkL_bad (by rw [← HL.out]; exact hlt) HBAD.out).symm, HFIN.out⟩
            have d5 : decide (n0 ≤ p0) = false := decide_eq_false q5
            have HP5 := Lib.hid (Int.not_le.1 q5)
            by_cases q3 : chk n1 = 0
            · have d3 : decide (chk n1 = 0) = true := decide_eq_true q3
              go_wp2
              refine wp_region_held_drew (S := fun w' => w'.cell? ⟨wr.heap.size, 0, none⟩ = some (.int .i64 n0) ∧ w'.cell? ⟨wr.heap.size, 1, none⟩ = some (.int .i64 n1) ∧ (Instr.lookup 46 (.map (some (w.heap.size + 1))) (.int .i64 n0) false).run Try.prog w' = .ok (.bool (decide (n0 ∈ usedL xs))) w' ∧ w'.cell? ⟨w.heap.size, 0, none⟩ = some (.slice (some ⟨b, off, none⟩) len cap) ∧ w'.cell? ⟨b, off + (k - 1) * 2, none⟩ = some (.int .i64 p0)) (by kernel_rfl) (HS.out _ (Below.refl _ _).drew) (fun hHeld => ?_)
              refine takeT (i := 0) (v := (.pointer (some ⟨wr.heap.size, 0, none⟩))) rfl (by kernel_rfl) (by kernel_rfl) (by kernel_rfl) (fun _ _ _ h => h) rfl ?_ (by assumption) ?_
              · intro w' hw'; go_split_ands; go_simp
              simp only [List.setIfInBounds_toArray, List.set_cons_zero, List.set_cons_succ]
              refine takeT (i := 1) (v := (.int .i64 n0)) rfl (by kernel_rfl) (by kernel_rfl) (by kernel_rfl) (fun _ _ _ h => h) rfl ?_ (by assumption) ?_
              · intro w' hw'; go_split_ands; go_simp
              simp only [List.setIfInBounds_toArray, List.set_cons_zero, List.set_cons_succ]
              refine takeT (i := 2) (v := (.bool false)) rfl (by kernel_rfl) (by kernel_rfl) (by kernel_rfl) (fun _ _ _ h => h) rfl ?_ (by assumption) ?_
              · intro w' hw'; go_split_ands; go_simp
              simp only [List.setIfInBounds_toArray, List.set_cons_zero, List.set_cons_succ]
              refine takeT (i := 3) (v := (.bool false)) rfl (by kernel_rfl) (by kernel_rfl) (by kernel_rfl) (fun _ _ _ h => h) rfl ?_ (by assumption) ?_
              · intro w' hw'; go_split_ands; go_simp
              simp only [List.setIfInBounds_toArray, List.set_cons_zero, List.set_cons_succ]
              refine takeT (i := 4) (v := (.pointer (some ⟨wr.heap.size, 0, none⟩))) rfl (by kernel_rfl) (by kernel_rfl) (by kernel_rfl) (fun _ _ _ h => h) rfl ?_ (by assumption) ?_
              · intro w' hw'; go_split_ands; go_simp
              simp only [List.setIfInBounds_toArray, List.set_cons_zero, List.set_cons_succ]
              refine takeT (i := 5) (v := (.int .i64 n0)) rfl (by kernel_rfl) (by kernel_rfl) (by kernel_rfl) (fun _ _ _ h => h) rfl ?_ (by assumption) ?_
              · intro w' hw'; go_split_ands; go_simp
              simp only [List.setIfInBounds_toArray, List.set_cons_zero, List.set_cons_succ]
              refine takeT (i := 6) (v := (.bool false)) rfl (by kernel_rfl) (by kernel_rfl) (by kernel_rfl) (fun _ _ _ h => h) rfl ?_ (by assumption) ?_
              · intro w' hw'; go_split_ands; go_simp
              simp only [List.setIfInBounds_toArray, List.set_cons_zero, List.set_cons_succ]
              refine takeT (i := 7) (v := (.bool false)) rfl (by kernel_rfl) (by kernel_rfl) (by kernel_rfl) (fun _ _ _ h => h) rfl ?_ (by assumption) ?_
              · intro w' hw'; go_split_ands; go_simp
              simp only [List.setIfInBounds_toArray, List.set_cons_zero, List.set_cons_succ]
              refine takeT (i := 8) (v := (.bool false)) rfl (by kernel_rfl) (by kernel_rfl) (by kernel_rfl) (fun _ _ _ h => h) rfl ?_ (by assumption) ?_
              · intro w' hw'; go_split_ands; go_simp
              simp only [List.setIfInBounds_toArray, List.set_cons_zero, List.set_cons_succ]
              refine takeT (i := 9) (v := (.int .i64 (k : Int))) rfl (by kernel_rfl) (by kernel_rfl) (by kernel_rfl) (fun _ _ _ h => h) rfl ?_ (by assumption) ?_
              · intro w' hw'; go_split_ands; go_simp
              simp only [List.setIfInBounds_toArray, List.set_cons_zero, List.set_cons_succ]
              refine takeT (i := 10) (v := (.bool true)) rfl (by kernel_rfl) (by kernel_rfl) (by kernel_rfl) (fun _ _ _ h => h) rfl ?_ (by assumption) ?_
              · intro w' hw'; go_split_ands; go_simp
              simp only [List.setIfInBounds_toArray, List.set_cons_zero, List.set_cons_succ]
              refine takeT (i := 11) (v := (.bool true)) rfl (by kernel_rfl) (by kernel_rfl) (by kernel_rfl) (fun _ _ _ h => h) rfl ?_ (by assumption) ?_
              · intro w' hw'; go_split_ands; go_simp
              simp only [List.setIfInBounds_toArray, List.set_cons_zero, List.set_cons_succ]
              refine takeT (i := 12) (v := (.pointer (some ⟨wr.heap.size, 0, none⟩))) rfl (by kernel_rfl) (by kernel_rfl) (by kernel_rfl) (fun _ _ _ h => h) rfl ?_ (by assumption) ?_
              · intro w' hw'; go_split_ands; go_simp
              simp only [List.setIfInBounds_toArray, List.set_cons_zero, List.set_cons_succ]
              refine takeT (i := 13) (v := (.int .i64 n0)) rfl (by kernel_rfl) (by kernel_rfl) (by kernel_rfl) (fun _ _ _ h => h) rfl ?_ (by assumption) ?_
              · intro w' hw'; go_split_ands; go_simp
              simp only [List.setIfInBounds_toArray, List.set_cons_zero, List.set_cons_succ]
              refine takeT (i := 14) (v := (.pointer (some ⟨w.heap.size, 0, none⟩))) rfl (by kernel_rfl) (by kernel_rfl) (by kernel_rfl) (fun _ _ _ h => h) rfl ?_ (by assumption) ?_
              · intro w' hw'; go_split_ands; go_simp
              simp only [List.setIfInBounds_toArray, List.set_cons_zero, List.set_cons_succ]
              refine takeT (i := 15) (v := (.slice (some ⟨b, off, none⟩) len cap)) rfl (by kernel_rfl) (by kernel_rfl) (by kernel_rfl) (fun _ _ _ h => h) rfl ?_ (by assumption) ?_
              · intro w' hw'; go_split_ands; go_simp
              simp only [List.setIfInBounds_toArray, List.set_cons_zero, List.set_cons_succ]
              refine takeT (i := 16) (v := (.int .i64 (k : Int))) rfl (by kernel_rfl) (by kernel_rfl) (by kernel_rfl) (fun _ _ _ h => h) rfl ?_ (by assumption) ?_
              · intro w' hw'; go_split_ands; go_simp
              simp only [List.setIfInBounds_toArray, List.set_cons_zero, List.set_cons_succ]
              refine takeT (i := 17) (v := (.int .i64 ((k : Int) - 1))) rfl (by kernel_rfl) (by kernel_rfl) (by kernel_rfl) (fun _ _ _ h => h) rfl ?_ (by assumption) ?_
              · intro w' hw'; go_split_ands; go_simp
              simp only [List.setIfInBounds_toArray, List.set_cons_zero, List.set_cons_succ]
              refine takeT (i := 18) (v := (.pointer (some ⟨b, off + (k - 1) * 2, none⟩))) rfl (by kernel_rfl) (by kernel_rfl) (by kernel_rfl) (fun _ _ _ h => h) rfl ?_ (by assumption) ?_
              · intro w' hw'; go_split_ands; go_simp
              simp only [List.setIfInBounds_toArray, List.set_cons_zero, List.set_cons_succ]
              refine takeT (i := 19) (v := (.pointer (some ⟨b, off + (k - 1) * 2, none⟩))) rfl (by kernel_rfl) (by kernel_rfl) (by kernel_rfl) (fun _ _ _ h => h) rfl ?_ (by assumption) ?_
              · intro w' hw'; go_split_ands; go_simp
              simp only [List.setIfInBounds_toArray, List.set_cons_zero, List.set_cons_succ]
              refine takeT (i := 20) (v := (.int .i64 p0)) rfl (by kernel_rfl) (by kernel_rfl) (by kernel_rfl) (fun _ _ _ h => h) rfl ?_ (by assumption) ?_
              · intro w' hw'; go_split_ands; go_simp
              simp only [List.setIfInBounds_toArray, List.set_cons_zero, List.set_cons_succ]
              refine takeT (i := 21) (v := (.bool false)) rfl (by kernel_rfl) (by kernel_rfl) (by kernel_rfl) (fun _ _ _ h => h) rfl ?_ (by assumption) ?_
              · intro w' hw'; go_split_ands; go_simp
              simp only [List.setIfInBounds_toArray, List.set_cons_zero, List.set_cons_succ]
              refine takeT (i := 22) (v := (.bool false)) rfl (by kernel_rfl) (by kernel_rfl) (by kernel_rfl) (fun _ _ _ h => h) rfl ?_ (by assumption) ?_
              · intro w' hw'; go_split_ands; go_simp
              simp only [List.setIfInBounds_toArray, List.set_cons_zero, List.set_cons_succ]
              refine takeT (i := 23) (v := (.bool false)) rfl (by kernel_rfl) (by kernel_rfl) (by kernel_rfl) (fun _ _ _ h => h) rfl ?_ (by assumption) ?_
              · intro w' hw'; go_split_ands; go_simp
              simp only [List.setIfInBounds_toArray, List.set_cons_zero, List.set_cons_succ]
              refine takeT (i := 24) (v := (.bool false)) rfl (by kernel_rfl) (by kernel_rfl) (by kernel_rfl) (fun _ _ _ h => h) rfl ?_ (by assumption) ?_
              · intro w' hw'; go_split_ands; go_simp
              simp only [List.setIfInBounds_toArray, List.set_cons_zero, List.set_cons_succ]
              refine takeT (i := 25) (v := (.pointer (some ⟨wr.heap.size, 1, none⟩))) rfl (by kernel_rfl) (by kernel_rfl) (by kernel_rfl) (fun _ _ _ h => h) rfl ?_ (by assumption) ?_
              · intro w' hw'; go_split_ands; go_simp
              simp only [List.setIfInBounds_toArray, List.set_cons_zero, List.set_cons_succ]
              refine takeT (i := 26) (v := (.int .i64 n1)) rfl (by kernel_rfl) (by kernel_rfl) (by kernel_rfl) (fun _ _ _ h => h) rfl ?_ (by assumption) ?_
              · intro w' hw'; go_split_ands; go_simp
              simp only [List.setIfInBounds_toArray, List.set_cons_zero, List.set_cons_succ]
              refine wpAnyH_all (rs := [27]) (by kernel_rfl) (by simp) ?_
              intro i hi
              simp only [List.mem_cons, List.not_mem_nil, or_false] at hi
              subst hi
              refine wpOp_step rfl (fun K' hK => ?_)
              rw [if_pos (by rfl)]
              go_simp
              go_at_call 39
              refine (check_any _ _).mono ?_
              rintro e w3 ⟨rfl, hB3⟩
              have hS3 := HS.out w3 ((Below.refl _ _).drew.trans (hB3.mono (show wr.heap.size + 1 ≤ _ by simp)))
              refine hK _ _ ⟨hS3, ?_⟩
              try simp only [Act.put, List.setIfInBounds_toArray, List.set_cons_zero, List.set_cons_succ]
              refine takeT (i := 28) (v := (.bool false)) rfl (by kernel_rfl) (by kernel_rfl) (by kernel_rfl) (fun _ _ _ h => h) rfl ?_ (by assumption) ?_
              · intro w' hw'; go_split_ands; go_simp
              simp only [List.setIfInBounds_toArray, List.set_cons_zero, List.set_cons_succ]
              refine takeT (i := 29) (v := (.bool false)) rfl (by kernel_rfl) (by kernel_rfl) (by kernel_rfl) (fun _ _ _ h => h) rfl ?_ (by assumption) ?_
              · intro w' hw'; go_split_ands; go_simp
              simp only [List.setIfInBounds_toArray, List.set_cons_zero, List.set_cons_succ]
              refine takeT (i := 30) (v := (.bool false)) rfl (by kernel_rfl) (by kernel_rfl) (by kernel_rfl) (fun _ _ _ h => h) rfl ?_ (by assumption) ?_
              · intro w' hw'; go_split_ands; go_simp
              simp only [List.setIfInBounds_toArray, List.set_cons_zero, List.set_cons_succ]
              refine takeT (i := 31) (v := (.map (some (w.heap.size + 1)))) rfl (by kernel_rfl) (by kernel_rfl) (by kernel_rfl) (fun _ _ _ h => h) rfl ?_ (by assumption) ?_
              · intro w' hw'; go_split_ands; go_simp
              simp only [List.setIfInBounds_toArray, List.set_cons_zero, List.set_cons_succ]
              refine takeT (i := 32) (v := (.pointer (some ⟨wr.heap.size, 0, none⟩))) rfl (by kernel_rfl) (by kernel_rfl) (by kernel_rfl) (fun _ _ _ h => h) rfl ?_ (by assumption) ?_
              · intro w' hw'; go_split_ands; go_simp
              simp only [List.setIfInBounds_toArray, List.set_cons_zero, List.set_cons_succ]
              refine takeT (i := 33) (v := (.int .i64 n0)) rfl (by kernel_rfl) (by kernel_rfl) (by kernel_rfl) (fun _ _ _ h => h) rfl ?_ (by assumption) ?_
              · intro w' hw'; go_split_ands; go_simp
              simp only [List.setIfInBounds_toArray, List.set_cons_zero, List.set_cons_succ]
              refine takeT (i := 34) (v := (.bool (decide (n0 ∈ usedL xs)))) rfl (by kernel_rfl) (by kernel_rfl) (by kernel_rfl) (fun _ _ _ h => h) rfl ?_ (by assumption) ?_
              · intro w' hw'; go_split_ands; go_simp
              simp only [List.setIfInBounds_toArray, List.set_cons_zero, List.set_cons_succ]
              refine takeT (i := 35) (v := (.bool (!decide (n0 ∈ usedL xs)))) rfl (by kernel_rfl) (by kernel_rfl) (by kernel_rfl) (fun _ _ _ h => h) rfl ?_ (by assumption) ?_
              · intro w' hw'; go_split_ands; go_simp
              simp only [List.setIfInBounds_toArray, List.set_cons_zero, List.set_cons_succ]
              refine takeT (i := 36) (v := (.bool (!decide (n0 ∈ usedL xs)))) rfl (by kernel_rfl) (by kernel_rfl) (by kernel_rfl) (fun _ _ _ h => h) rfl ?_ (by assumption) ?_
              · intro w' hw'; go_split_ands; go_simp
              simp only [List.setIfInBounds_toArray, List.set_cons_zero, List.set_cons_succ]
              refine wpAnyH_done (by kernel_rfl) ?_ _
              have hfin : Below w0.heap.size w0 w3 := (hB.alloc hB.size (.cells #[.int .i64 n0, .int .i64 n1] 48)).trans ((Below.refl _ _).drew.trans (hB3.mono (show w0.heap.size ≤ _ by have := hB.size; simp; omega)))
              have hfin' : Below w.heap.size w w3 := HBW.out.trans (hfin.mono (by omega))
              have HFIN0 := Lib.hid hfin
              have HFIN := Lib.hid hfin'
              clear hfin hfin'
              by_cases q4 : n0 ∈ usedL xs
              · have hgood : okAt xs k = true := by rw [okAt_eq HN.out]; simp [okPrev_pos HP.out d0'' HP5.out, q3, q4]; omega
                have HGOOD := Lib.hid hgood
                rw [show (!decide (n0 ∈ usedL xs)) = false by simp [q4]]
                clear hgood
                go_wp2
                refine ⟨⟨k + 1, by omega, by go_num, fun j hj => ?_, HFIN0.out⟩, by simp [intOf]; omega⟩
                by_cases e : j < k
                · exact HOK.out j e
                · have e' : j = k := by omega
                  rw [e']
                  exact HGOOD.out
              · have hbad : okAt xs k = false := by rw [okAt_eq HN.out]; simp [q4]
                have HBAD := Lib.hid hbad
                rw [show (!decide (n0 ∈ usedL xs)) = true by simp [q4]]
                clear hbad
                go_wp2
                go_ret
                exact ⟨ret_int (checkL_bad (by rw [← HL.out]; exact hlt) HBAD.out).symm, HFIN.out⟩
            · have d3 : decide (chk n1 = 0) = false := decide_eq_false q3
              have hbad : okAt xs k = false := by rw [okAt_eq HN.out]; simp [q3]
              have HBAD := Lib.hid hbad
              clear hbad
              go_wp2
              refine wp_region_held_drew (S := fun w' => w'.cell? ⟨wr.heap.size, 0, none⟩ = some (.int .i64 n0) ∧ w'.cell? ⟨wr.heap.size, 1, none⟩ = some (.int .i64 n1) ∧ (Instr.lookup 46 (.map (some (w.heap.size + 1))) (.int .i64 n0) false).run Try.prog w' = .ok (.bool (decide (n0 ∈ usedL xs))) w' ∧ w'.cell? ⟨w.heap.size, 0, none⟩ = some (.slice (some ⟨b, off, none⟩) len cap) ∧ w'.cell? ⟨b, off + (k - 1) * 2, none⟩ = some (.int .i64 p0)) (by kernel_rfl) (HS.out _ (Below.refl _ _).drew) (fun hHeld => ?_)
              refine takeT (i := 0) (v := (.pointer (some ⟨wr.heap.size, 0, none⟩))) rfl (by kernel_rfl) (by kernel_rfl) (by kernel_rfl) (fun _ _ _ h => h) rfl ?_ (by assumption) ?_
              · intro w' hw'; go_split_ands; go_simp
              simp only [List.setIfInBounds_toArray, List.set_cons_zero, List.set_cons_succ]
              refine takeT (i := 1) (v := (.int .i64 n0)) rfl (by kernel_rfl) (by kernel_rfl) (by kernel_rfl) (fun _ _ _ h => h) rfl ?_ (by assumption) ?_
              · intro w' hw'; go_split_ands; go_simp
              simp only [List.setIfInBounds_toArray, List.set_cons_zero, List.set_cons_succ]
              refine takeT (i := 2) (v := (.bool false)) rfl (by kernel_rfl) (by kernel_rfl) (by kernel_rfl) (fun _ _ _ h => h) rfl ?_ (by assumption) ?_
              · intro w' hw'; go_split_ands; go_simp
              simp only [List.setIfInBounds_toArray, List.set_cons_zero, List.set_cons_succ]
              refine takeT (i := 3) (v := (.bool false)) rfl (by kernel_rfl) (by kernel_rfl) (by kernel_rfl) (fun _ _ _ h => h) rfl ?_ (by assumption) ?_
              · intro w' hw'; go_split_ands; go_simp
              simp only [List.setIfInBounds_toArray, List.set_cons_zero, List.set_cons_succ]
              refine takeT (i := 4) (v := (.pointer (some ⟨wr.heap.size, 0, none⟩))) rfl (by kernel_rfl) (by kernel_rfl) (by kernel_rfl) (fun _ _ _ h => h) rfl ?_ (by assumption) ?_
              · intro w' hw'; go_split_ands; go_simp
              simp only [List.setIfInBounds_toArray, List.set_cons_zero, List.set_cons_succ]
              refine takeT (i := 5) (v := (.int .i64 n0)) rfl (by kernel_rfl) (by kernel_rfl) (by kernel_rfl) (fun _ _ _ h => h) rfl ?_ (by assumption) ?_
              · intro w' hw'; go_split_ands; go_simp
              simp only [List.setIfInBounds_toArray, List.set_cons_zero, List.set_cons_succ]
              refine takeT (i := 6) (v := (.bool false)) rfl (by kernel_rfl) (by kernel_rfl) (by kernel_rfl) (fun _ _ _ h => h) rfl ?_ (by assumption) ?_
              · intro w' hw'; go_split_ands; go_simp
              simp only [List.setIfInBounds_toArray, List.set_cons_zero, List.set_cons_succ]
              refine takeT (i := 7) (v := (.bool false)) rfl (by kernel_rfl) (by kernel_rfl) (by kernel_rfl) (fun _ _ _ h => h) rfl ?_ (by assumption) ?_
              · intro w' hw'; go_split_ands; go_simp
              simp only [List.setIfInBounds_toArray, List.set_cons_zero, List.set_cons_succ]
              refine takeT (i := 8) (v := (.bool false)) rfl (by kernel_rfl) (by kernel_rfl) (by kernel_rfl) (fun _ _ _ h => h) rfl ?_ (by assumption) ?_
              · intro w' hw'; go_split_ands; go_simp
              simp only [List.setIfInBounds_toArray, List.set_cons_zero, List.set_cons_succ]
              refine takeT (i := 9) (v := (.int .i64 (k : Int))) rfl (by kernel_rfl) (by kernel_rfl) (by kernel_rfl) (fun _ _ _ h => h) rfl ?_ (by assumption) ?_
              · intro w' hw'; go_split_ands; go_simp
              simp only [List.setIfInBounds_toArray, List.set_cons_zero, List.set_cons_succ]
              refine takeT (i := 10) (v := (.bool true)) rfl (by kernel_rfl) (by kernel_rfl) (by kernel_rfl) (fun _ _ _ h => h) rfl ?_ (by assumption) ?_
              · intro w' hw'; go_split_ands; go_simp
              simp only [List.setIfInBounds_toArray, List.set_cons_zero, List.set_cons_succ]
              refine takeT (i := 11) (v := (.bool true)) rfl (by kernel_rfl) (by kernel_rfl) (by kernel_rfl) (fun _ _ _ h => h) rfl ?_ (by assumption) ?_
              · intro w' hw'; go_split_ands; go_simp
              simp only [List.setIfInBounds_toArray, List.set_cons_zero, List.set_cons_succ]
              refine takeT (i := 12) (v := (.pointer (some ⟨wr.heap.size, 0, none⟩))) rfl (by kernel_rfl) (by kernel_rfl) (by kernel_rfl) (fun _ _ _ h => h) rfl ?_ (by assumption) ?_
              · intro w' hw'; go_split_ands; go_simp
              simp only [List.setIfInBounds_toArray, List.set_cons_zero, List.set_cons_succ]
              refine takeT (i := 13) (v := (.int .i64 n0)) rfl (by kernel_rfl) (by kernel_rfl) (by kernel_rfl) (fun _ _ _ h => h) rfl ?_ (by assumption) ?_
              · intro w' hw'; go_split_ands; go_simp
              simp only [List.setIfInBounds_toArray, List.set_cons_zero, List.set_cons_succ]
              refine takeT (i := 14) (v := (.pointer (some ⟨w.heap.size, 0, none⟩))) rfl (by kernel_rfl) (by kernel_rfl) (by kernel_rfl) (fun _ _ _ h => h) rfl ?_ (by assumption) ?_
              · intro w' hw'; go_split_ands; go_simp
              simp only [List.setIfInBounds_toArray, List.set_cons_zero, List.set_cons_succ]
              refine takeT (i := 15) (v := (.slice (some ⟨b, off, none⟩) len cap)) rfl (by kernel_rfl) (by kernel_rfl) (by kernel_rfl) (fun _ _ _ h => h) rfl ?_ (by assumption) ?_
              · intro w' hw'; go_split_ands; go_simp
              simp only [List.setIfInBounds_toArray, List.set_cons_zero, List.set_cons_succ]
              refine takeT (i := 16) (v := (.int .i64 (k : Int))) rfl (by kernel_rfl) (by kernel_rfl) (by kernel_rfl) (fun _ _ _ h => h) rfl ?_ (by assumption) ?_
              · intro w' hw'; go_split_ands; go_simp
              simp only [List.setIfInBounds_toArray, List.set_cons_zero, List.set_cons_succ]
              refine takeT (i := 17) (v := (.int .i64 ((k : Int) - 1))) rfl (by kernel_rfl) (by kernel_rfl) (by kernel_rfl) (fun _ _ _ h => h) rfl ?_ (by assumption) ?_
              · intro w' hw'; go_split_ands; go_simp
              simp only [List.setIfInBounds_toArray, List.set_cons_zero, List.set_cons_succ]
              refine takeT (i := 18) (v := (.pointer (some ⟨b, off + (k - 1) * 2, none⟩))) rfl (by kernel_rfl) (by kernel_rfl) (by kernel_rfl) (fun _ _ _ h => h) rfl ?_ (by assumption) ?_
              · intro w' hw'; go_split_ands; go_simp
              simp only [List.setIfInBounds_toArray, List.set_cons_zero, List.set_cons_succ]
              refine takeT (i := 19) (v := (.pointer (some ⟨b, off + (k - 1) * 2, none⟩))) rfl (by kernel_rfl) (by kernel_rfl) (by kernel_rfl) (fun _ _ _ h => h) rfl ?_ (by assumption) ?_
              · intro w' hw'; go_split_ands; go_simp
              simp only [List.setIfInBounds_toArray, List.set_cons_zero, List.set_cons_succ]
              refine takeT (i := 20) (v := (.int .i64 p0)) rfl (by kernel_rfl) (by kernel_rfl) (by kernel_rfl) (fun _ _ _ h => h) rfl ?_ (by assumption) ?_
              · intro w' hw'; go_split_ands; go_simp
              simp only [List.setIfInBounds_toArray, List.set_cons_zero, List.set_cons_succ]
              refine takeT (i := 21) (v := (.bool false)) rfl (by kernel_rfl) (by kernel_rfl) (by kernel_rfl) (fun _ _ _ h => h) rfl ?_ (by assumption) ?_
              · intro w' hw'; go_split_ands; go_simp
              simp only [List.setIfInBounds_toArray, List.set_cons_zero, List.set_cons_succ]
              refine takeT (i := 22) (v := (.bool false)) rfl (by kernel_rfl) (by kernel_rfl) (by kernel_rfl) (fun _ _ _ h => h) rfl ?_ (by assumption) ?_
              · intro w' hw'; go_split_ands; go_simp
              simp only [List.setIfInBounds_toArray, List.set_cons_zero, List.set_cons_succ]
              refine takeT (i := 23) (v := (.bool false)) rfl (by kernel_rfl) (by kernel_rfl) (by kernel_rfl) (fun _ _ _ h => h) rfl ?_ (by assumption) ?_
              · intro w' hw'; go_split_ands; go_simp
              simp only [List.setIfInBounds_toArray, List.set_cons_zero, List.set_cons_succ]
              refine takeT (i := 24) (v := (.bool false)) rfl (by kernel_rfl) (by kernel_rfl) (by kernel_rfl) (fun _ _ _ h => h) rfl ?_ (by assumption) ?_
              · intro w' hw'; go_split_ands; go_simp
              simp only [List.setIfInBounds_toArray, List.set_cons_zero, List.set_cons_succ]
              refine takeT (i := 25) (v := (.pointer (some ⟨wr.heap.size, 1, none⟩))) rfl (by kernel_rfl) (by kernel_rfl) (by kernel_rfl) (fun _ _ _ h => h) rfl ?_ (by assumption) ?_
              · intro w' hw'; go_split_ands; go_simp
              simp only [List.setIfInBounds_toArray, List.set_cons_zero, List.set_cons_succ]
              refine takeT (i := 26) (v := (.int .i64 n1)) rfl (by kernel_rfl) (by kernel_rfl) (by kernel_rfl) (fun _ _ _ h => h) rfl ?_ (by assumption) ?_
              · intro w' hw'; go_split_ands; go_simp
              simp only [List.setIfInBounds_toArray, List.set_cons_zero, List.set_cons_succ]
              refine wpAnyH_all (rs := [27]) (by kernel_rfl) (by simp) ?_
              intro i hi
              simp only [List.mem_cons, List.not_mem_nil, or_false] at hi
              subst hi
              refine wpOp_step rfl (fun K' hK => ?_)
              rw [if_pos (by rfl)]
              go_simp
              go_at_call 39
              refine (check_any _ _).mono ?_
              rintro e w3 ⟨rfl, hB3⟩
              have hS3 := HS.out w3 ((Below.refl _ _).drew.trans (hB3.mono (show wr.heap.size + 1 ≤ _ by simp)))
              refine hK _ _ ⟨hS3, ?_⟩
              try simp only [Act.put, List.setIfInBounds_toArray, List.set_cons_zero, List.set_cons_succ]
              refine takeT (i := 28) (v := (.bool true)) rfl (by kernel_rfl) (by kernel_rfl) (by kernel_rfl) (fun _ _ _ h => h) rfl ?_ (by assumption) ?_
              · intro w' hw'; go_split_ands; go_simp
              simp only [List.setIfInBounds_toArray, List.set_cons_zero, List.set_cons_succ]
              refine takeT (i := 29) (v := (.bool true)) rfl (by kernel_rfl) (by kernel_rfl) (by kernel_rfl) (fun _ _ _ h => h) rfl ?_ (by assumption) ?_
              · intro w' hw'; go_split_ands; go_simp
              simp only [List.setIfInBounds_toArray, List.set_cons_zero, List.set_cons_succ]
              refine takeT (i := 30) (v := (.bool true)) rfl (by kernel_rfl) (by kernel_rfl) (by kernel_rfl) (fun _ _ _ h => h) rfl ?_ (by assumption) ?_
              · intro w' hw'; go_split_ands; go_simp
              simp only [List.setIfInBounds_toArray, List.set_cons_zero, List.set_cons_succ]
              refine skipT (i := 31) rfl (by kernel_rfl) (by kernel_rfl) (by kernel_rfl) (fun _ _ _ h => h) rfl (by assumption) ?_
              simp only [List.setIfInBounds_toArray, List.set_cons_zero, List.set_cons_succ]
              refine skipT (i := 32) rfl (by kernel_rfl) (by kernel_rfl) (by kernel_rfl) (fun _ _ _ h => h) rfl (by assumption) ?_
              simp only [List.setIfInBounds_toArray, List.set_cons_zero, List.set_cons_succ]
              refine skipT (i := 33) rfl (by kernel_rfl) (by kernel_rfl) (by kernel_rfl) (fun _ _ _ h => h) rfl (by assumption) ?_
              simp only [List.setIfInBounds_toArray, List.set_cons_zero, List.set_cons_succ]
              refine skipT (i := 34) rfl (by kernel_rfl) (by kernel_rfl) (by kernel_rfl) (fun _ _ _ h => h) rfl (by assumption) ?_
              simp only [List.setIfInBounds_toArray, List.set_cons_zero, List.set_cons_succ]
              refine skipT (i := 35) rfl (by kernel_rfl) (by kernel_rfl) (by kernel_rfl) (fun _ _ _ h => h) rfl (by assumption) ?_
              simp only [List.setIfInBounds_toArray, List.set_cons_zero, List.set_cons_succ]
              refine takeT (i := 36) (v := (.bool true)) rfl (by kernel_rfl) (by kernel_rfl) (by kernel_rfl) (fun _ _ _ h => h) rfl ?_ (by assumption) ?_
              · intro w' hw'; go_split_ands; go_simp
              simp only [List.setIfInBounds_toArray, List.set_cons_zero, List.set_cons_succ]
              refine wpAnyH_done (by kernel_rfl) ?_ _
              have hfin : Below w0.heap.size w0 w3 := (hB.alloc hB.size (.cells #[.int .i64 n0, .int .i64 n1] 48)).trans ((Below.refl _ _).drew.trans (hB3.mono (show w0.heap.size ≤ _ by have := hB.size; simp; omega)))
              have hfin' : Below w.heap.size w w3 := HBW.out.trans (hfin.mono (by omega))
              have HFIN0 := Lib.hid hfin
              have HFIN := Lib.hid hfin'
              clear hfin hfin'
              go_wp2
              go_ret
              exact ⟨ret_int (checkL_bad (by rw [← HL.out]; exact hlt) HBAD.out).symm, HFIN.out⟩
        · have hk' : k = len := by omega
          have HOK := Lib.hid hok
          clear hok
          go_wp2
          go_ret
          exact ⟨ret_int (checkL_good (fun j hj => HOK.out j (by rw [hk', HL.out]; exact hj))).symm, HBW.out.trans (hB.mono (by omega))⟩
end Go.Proofs.Ytofkmapokdcphaa
