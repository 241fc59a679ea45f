import Derived.Test.YtofkmapokdcphaaPr
namespace Go.Proofs.Ytofkmapokdcphaa
open Go Go.RowKit Go.Maps Go.My Go.Shelf

/-- A node is another one or under it. -/
def Und (n a : Int) : Prop := 1 ≤ a ∧ ∃ j : Nat, n / 2 ^ j = a

theorem und_neg {n a : Int} (h : n < 1) : ¬ Und n a := by
  rintro ⟨h1, j, rfl⟩
  have := Int.ediv_le_self (a := n) (2 ^ j)
  by_cases h0 : 0 ≤ n
  · have h2 : n = 0 := by omega
    subst h2
    simp at h1
  · have := Int.ediv_neg_of_neg_of_pos (show n < 0 by omega) (show (0 : Int) < 2 ^ j from Int.pow_pos (by omega))
    omega

theorem pow_add_ediv (n : Nat) (j k : Nat) : n / 2 ^ (j + k) = n / 2 ^ j / 2 ^ k := by rw [Nat.pow_add, Nat.div_div_eq_div_mul]

set_option maxRecDepth 100000 in
set_option maxHeartbeats 1000000 in
theorem under41 (n a : Int) (w : World) (ha : (Lit.int .i64 n).wf = true) :
    Calls Try.prog 41 #[.int .i64 n, .int .i64 a] w fun e w' => ∃ b, e = .returned (.bool b) ∧ (b = true ↔ Und n a) ∧ w = w' := by
  by_cases h : n < 1
  · have hn := Lib.hid (und_neg (a := a) h)
    go_enter Try.func41, Try.ntmps41
    go_wp2
    go_loopw [5] (fun u wr => u = .int .i64 n ∧ Hid (wr = w)) (fun _ _ => 0)
    case atStart => exact ⟨rfl, Lib.hid rfl⟩
    case round =>
      obtain ⟨rfl, he⟩ := hrel
      obtain rfl := he.out
      clear he
      go_wp2
      go_ret
      exact ⟨false, rfl, by simp [hn.out], rfl⟩
  · obtain ⟨m, rfl⟩ := Int.eq_ofNat_of_zero_le (show 0 ≤ n by omega)
    have hm : m < 9223372036854775808 := by
      simp [Lit.wf, IntKind.min, IntKind.max, IntKind.signed, IntKind.bits] at ha
      omega
    clear ha h
    go_enter Try.func41, Try.ntmps41
    go_wp2
    go_loopw [5] (fun u wr => ∃ j : Nat, u = .int .i64 ((m / 2 ^ j : Nat) : Int) ∧ Hid (∀ i, i < j → ((m / 2 ^ i : Nat) : Int) ≠ a) ∧ Hid (wr = w)) (fun u _ => (intOf u).toNat)
    case atStart => exact ⟨0, by simp, fun i hi => by omega, Lib.hid rfl⟩
    case round =>
      obtain ⟨j, rfl, hne, he⟩ := hrel
      obtain rfl := he.out
      clear he
      obtain ⟨c, hc⟩ : ∃ c, c = m / 2 ^ j := ⟨_, rfl⟩
      have hcm : c < 9223372036854775808 := by rw [hc]; exact Nat.lt_of_le_of_lt (Nat.div_le_self _ _) hm
      rw [← hc]
      have HC := Lib.hid hc
      clear hc
      by_cases h1 : 1 ≤ c
      · by_cases h2 : (c : Int) = a
        · have e : (((c : Int)) == a) = true := by simpa using h2
          have H2 := Lib.hid h2
          clear h2
          go_wp2
          go_ret
          refine ⟨true, rfl, ⟨fun _ => ?_, fun _ => rfl⟩, rfl⟩
          refine ⟨by have := H2.out; omega, j, ?_⟩
          have := HC.out
          rw [← H2.out, this]
          simp
        · have e : (((c : Int)) == a) = false := by simpa using h2
          have H2 := Lib.hid h2
          clear h2
          go_wp2
          refine ⟨⟨j + 1, by rw [Nat.pow_succ, ← Nat.div_div_eq_div_mul, ← HC.out]; rfl, fun i hi => ?_, Lib.hid trivial⟩, by simp [intOf]; omega⟩
          by_cases hij : i < j
          · exact hne.out i hij
          · have : i = j := by omega
            rw [this, ← HC.out]
            exact H2.out
      · go_wp2
        go_ret
        refine ⟨false, rfl, ?_, rfl⟩
        constructor
        · intro h; cases h
        · rintro ⟨g1, i, g2⟩
          exfalso
          have g3 : ((m / 2 ^ i : Nat) : Int) = a := by rw [← g2]; simp
          by_cases hij : i < j
          · exact hne.out i hij g3
          · have hz : m / 2 ^ j = 0 := by rw [← HC.out]; omega
            obtain ⟨t, rfl⟩ : ∃ t, i = j + t := ⟨i - j, by omega⟩
            rw [pow_add_ediv, hz, Nat.zero_div] at g3
            omega

theorem anc_at' (d k : Nat) (hk : k < 10) : (anc d)[k]? = some (((512 + d) / 2 ^ k : Nat) : Int) := by
  unfold anc
  cases k with
  | zero => simp
  | succ k =>
    rw [List.getElem?_cons_succ, Int.toNat_natCast]
    unfold pathL
    rw [List.getElem?_map, ups_at _ _ (by omega)]
    simp only [Option.map_some]
    rw [Nat.pow_succ, ← Nat.div_div_eq_div_mul]
    rfl

theorem und_anc {l a : Int} (h0 : 512 ≤ l) (h1 : l ≤ 1023) : Und l a ↔ a ∈ anc (l - 512) := by
  obtain ⟨d, hd⟩ : ∃ d : Nat, l = 512 + d := ⟨(l - 512).toNat, by omega⟩
  subst hd
  rw [show (512 + (d : Int)) - 512 = d by omega]
  have hd : d < 512 := by omega
  constructor
  · rintro ⟨g1, j, g2⟩
    have g3 : (((512 + d) / 2 ^ j : Nat) : Int) = a := by rw [← g2]; simp
    by_cases hj : j < 10
    · have := anc_at' d j hj
      rw [g3] at this
      exact List.mem_of_getElem? this
    · exfalso
      obtain ⟨t, rfl⟩ : ∃ t, j = 10 + t := ⟨j - 10, by omega⟩
      rw [pow_add_ediv, show (512 + d) / 2 ^ 10 = 0 by omega, Nat.zero_div] at g3
      omega
  · intro hm
    obtain ⟨k, hk, e⟩ := List.mem_iff_getElem.1 hm
    rw [anc_length] at hk
    have := anc_at' d k hk
    rw [List.getElem?_eq_getElem (by rw [anc_length]; exact hk), e] at this
    have hr := anc_range hd hm
    exact ⟨hr.1, k, by rw [Option.some.inj this]; simp⟩

/-- The first node of a place. -/
theorem ofF_none {xs : List Nd} {x : Int} (h : ∀ (j : Nat) (n : Nd), xs[j]? = some n → n.1 ≠ x) : ofF xs x = none := by
  unfold ofF
  rw [Option.map_eq_none_iff, List.find?_eq_none]
  intro n hn e
  obtain ⟨j, hj, rfl⟩ := List.mem_iff_getElem.1 hn
  exact h j _ (List.getElem?_eq_getElem hj) (by simpa using e)
theorem ofF_first : ∀ {xs : List Nd} {x : Int} {k : Nat} {n : Nd}, xs[k]? = some n → n.1 = x → (∀ (j : Nat) (m : Nd), j < k → xs[j]? = some m → m.1 ≠ x) → ofF xs x = some n.2
  | [], x, k, n, h, _, _ => by cases h
  | y :: ys, x, 0, n, h, e, _ => by
    simp at h
    subst h
    unfold ofF
    simp [e]
  | y :: ys, x, k + 1, n, h, e, hne => by
    have h0 : y.1 ≠ x := hne 0 y (by omega) rfl
    have h0' : (y.1 == x) = false := by simpa using h0
    have ih := ofF_first (xs := ys) (x := x) (k := k) (n := n) (by simpa using h) e (fun j m hj hm => hne (j + 1) m (by omega) (by simpa using hm))
    unfold ofF at ih ⊢
    rw [List.find?_cons, h0']
    exact ih
theorem ofF_isSome {xs : List Nd} {x : Int} : (ofF xs x).isSome = true ↔ ∃ n ∈ xs, n.1 = x := by
  unfold ofF
  rw [Option.isSome_map, List.find?_isSome]
  constructor
  · rintro ⟨n, hn, e⟩; exact ⟨n, hn, by simpa using e⟩
  · rintro ⟨n, hn, e⟩; exact ⟨n, hn, by simpa using e⟩

set_option maxRecDepth 100000 in
set_option maxHeartbeats 1000000 in
theorem public15 (v : Value) (xs : List Nd) (x : Int) (w : World) (hm : xs.length ≤ 100) (h : TreeAt w v xs) :
    Calls Try.prog 15 #[v, .int .i64 x] w fun e w' => e = .returned (.tuple #[.int .i64 ((ofF xs x).getD 0), .bool (ofF xs x).isSome]) ∧ Below w.heap.size w w' := by
  obtain ⟨a, cap, rfl, ⟨b, off, ha, hc⟩, hw⟩ := h
  obtain ⟨len, hlen⟩ : ∃ len, len = xs.length := ⟨_, rfl⟩
  rw [← hlen] at hm ⊢
  have HL := Lib.hid hlen
  have HC := Lib.hid hc
  have HA := Lib.hid ha
  have hB0 : Below w.heap.size w (w.alloc (.cells #[.slice a len cap] 24)) := (Below.refl _ _).alloc (Nat.le_refl _) _
  have hbx := (Boxed.new w 24 (.slice a len cap)).cell
  clear hlen hc ha hw
  go_enter Try.func15, Try.ntmps15
  go_wp2
  go_loopw [6] (fun u wr => ∃ k : Nat, k ≤ len ∧ u = .int .i64 k ∧ Hid (∀ j m, j < k → xs[j]? = some m → m.1 ≠ x) ∧ Hid (wr = w.alloc (.cells #[.slice a len cap] 24))) (fun u _ => len - (intOf u).toNat)
  case atStart => exact ⟨0, Nat.zero_le _, rfl, fun j m hj => by omega, Lib.hid rfl⟩
  case round =>
    obtain ⟨k, hk, rfl, hne, he⟩ := hrel
    obtain rfl := he.out
    clear he
    by_cases hlt : k < len
    · obtain ⟨⟨n0, n1⟩, hn⟩ : ∃ n, xs[k]? = some n := ⟨_, List.getElem?_eq_getElem (by rw [← HL.out]; exact hlt)⟩
      have ha : a = some ⟨b, off, none⟩ := by
        rcases HA.out with h | h
        · exact h
        · rw [h] at hn; cases hn
      subst ha
      obtain ⟨h0, h1⟩ := HC.out k _ hn
      have g0 := cell_old h0 (.cells #[.slice (some ⟨b, off, none⟩) len cap] 24)
      have g1 := cell_old h1 (.cells #[.slice (some ⟨b, off, none⟩) len cap] 24)
      have hk0 : (0 : Int) ≤ (k : Int) := by omega
      have hk1 : (k : Int) < (len : Int) := by omega
      have HN := Lib.hid hn
      clear hn h0 h1
      by_cases hx : n0 = x
      · have e : (n0 == x) = true := by simpa using hx
        have HX := Lib.hid hx
        clear hx
        go_wp2
        go_ret2
        have hf := ofF_first HN.out HX.out hne.out
        rw [hf]
        exact ⟨rfl, hB0⟩
      · have e : (n0 == x) = false := by simpa using hx
        have HX := Lib.hid hx
        clear hx
        go_wp2
        refine ⟨⟨k + 1, by omega, by go_num, fun j m hj hm => ?_, Lib.hid trivial⟩, by simp [intOf]; omega⟩
        by_cases hjk : j < k
        · exact hne.out j m hjk hm
        · have : j = k := by omega
          rw [this, HN.out] at hm
          cases hm
          exact HX.out
    · go_wp2
      go_ret2
      have hf : ofF xs x = none := ofF_none fun j n hj => hne.out j n (by have := (List.getElem?_eq_some_iff.1 hj).1; have := HL.out; omega) hj
      rw [hf]
      exact ⟨rfl, hB0⟩

set_option maxRecDepth 100000 in
set_option maxHeartbeats 1000000 in
theorem blank44 (v : Value) (xs : List Nd) (x : Int) (w : World) (hm : xs.length ≤ 100) (h : TreeAt w v xs) :
    Calls Try.prog 44 #[v, .int .i64 x] w fun e w' => e = .returned (.bool (!(ofF xs x).isSome)) ∧ Below w.heap.size w w' := by
  have KP := Lib.hid fun W v (hv : TreeAt W v xs) => public15 v xs x W hm hv
  have HT := Lib.hid h
  obtain ⟨a0, c0, rfl⟩ := h.form
  have hB0 : Below w.heap.size w (w.alloc (.cells #[.slice a0 xs.length c0] 24)) := (Below.refl _ _).alloc (Nat.le_refl _) _
  clear h hm
  generalize xs.length = n at *
  generalize (ofF xs x).getD 0 = y at *
  generalize (ofF xs x).isSome = bb at *
  go_enter Try.func44, Try.ntmps44
  go_wp2_with (go_at_call 15; refine (KP.out _ _ (HT.out.box _)).mono ?_; rintro e w1 ⟨rfl, hB1⟩)
  go_ret
  exact ⟨rfl, below_step' (Below.refl _ _) (Nat.le_refl _) hB1⟩

theorem grownBy_below {w w' : World} (h : Below w.heap.size w w') (row : Option Nat) : w.grownBy w' row := ⟨h.os, h.tape, h.output, h.size, fun k hk _ => h.block k hk⟩
theorem own_below {w w' : World} {base size n : Nat} {e : TypeId} {v : Value} {xs : List Value} (h : w.ownsRow base e size v n xs) (hB : Below w.heap.size w w') : w'.ownsRow base e size v n xs := by
  refine h.kept (grownBy_below hB none) ?_
  cases v.ownBlock with
  | none => exact .inl rfl
  | some j => exact .inr (by simp)

/-- The devices up to k that have a leaf. -/
def memUp (xs : List Nd) (k : Nat) : List Int := ((List.range k).filter fun d : Nat => (ofF xs (512 + (d : Int))).isSome).map fun d : Nat => (d : Int)
theorem memUp_succ (xs : List Nd) (k : Nat) : memUp xs (k + 1) = memUp xs k ++ (if (ofF xs (512 + (k : Int))).isSome = true then [(k : Int)] else []) := by
  unfold memUp
  rw [List.range_succ, List.filter_append, List.map_append]
  congr 1
  by_cases h : (ofF xs (512 + (k : Int))).isSome = true
  · rw [if_pos h, List.filter_cons_of_pos (by simpa using h)]; rfl
  · rw [if_neg h, List.filter_cons_of_neg (by simpa using h)]; rfl
theorem memUp_length (xs : List Nd) (k : Nat) : (memUp xs k).length ≤ k := by
  unfold memUp
  rw [List.length_map]
  exact Nat.le_trans (List.length_filter_le _ _) (by rw [List.length_range]; exact Nat.le_refl _)
theorem memUp_all (xs : List Nd) : memUp xs 512 = memL xs := by
  refine sorted_ext ?_ (memL_sorted _) fun x => ?_
  · unfold memUp
    rw [List.pairwise_map]
    exact (List.pairwise_lt_range (n := 512)).filter _ |>.imp (fun h => by omega)
  · rw [mem_memL]
    unfold memUp
    rw [List.mem_map]
    constructor
    · rintro ⟨d, hd, rfl⟩
      obtain ⟨h1, h2⟩ := List.mem_filter.1 hd
      exact ⟨ofF_isSome.1 h2, by omega, by have := List.mem_range.1 h1; omega⟩
    · rintro ⟨h1, h2, h3⟩
      obtain ⟨d, rfl⟩ := Int.eq_ofNat_of_zero_le h2
      exact ⟨d, List.mem_filter.2 ⟨List.mem_range.2 (by omega), ofF_isSome.2 h1⟩, rfl⟩

set_option maxRecDepth 100000 in
set_option maxHeartbeats 1000000 in
theorem members20 (v : Value) (xs : List Nd) (w : World) (hm : xs.length ≤ 100) (h : TreeAt w v xs) :
    Calls Try.prog 20 #[v] w fun e w' => ∃ v', e = .returned v' ∧ IntsAt w' v' (memL xs) ∧ Below w.heap.size w w' := by
  have KB := Lib.hid fun W v x (hv : TreeAt W v xs) => blank44 v xs x W hm hv
  have HT := Lib.hid h
  obtain ⟨i0, hi0, hz0, hz1, hz2⟩ := info_parts info3
  obtain ⟨a0, c0, rfl⟩ := h.form
  clear h hm
  generalize xs.length = n at *
  go_enter Try.func20, Try.ntmps20
  go_wp2
  go_loopw [3, 4] (fun u i wr => ∃ k : Nat, k ≤ 512 ∧ i = .int .i64 k ∧ Boxed wr w.heap.size 24 (.slice a0 n c0) ∧ Hid (wr.ownsRow (w.heap.size + 1) 3 1 u (memUp xs k).length ((memUp xs k).map (Value.int .i64))) ∧ Below w.heap.size w wr) (fun _ i _ => 512 - (intOf i).toNat)
  case atStart =>
    refine ⟨0, Nat.zero_le _, rfl, (Boxed.new w 24 (.slice a0 n c0)).alloc _, ?_, ((Below.refl _ _).alloc (Nat.le_refl _) _).alloc (by simp) _⟩
    have := World.ownsRow_made (base := w.heap.size + 1) (e := 3) (size := 1) (w.alloc (.cells #[.slice a0 n c0] 24)) #[] 0 (by simp) (Nat.zero_le _) rfl
    simp only [World.size_alloc] at this
    exact this
  case round =>
    obtain ⟨k, hk, rfl, hb, hown, hB⟩ := hrel
    have hwr : w.heap.size < wr.heap.size := hb.lt
    by_cases hlt : k < 512
    · have gx := hb.cell
      have HTr := Lib.hid (HT.out.below hB)
      have HSU := Lib.hid (memUp_succ xs k)
      have hml := memUp_length xs k
      obtain ⟨nl, hnl⟩ : ∃ nl, nl = (memUp xs k).length := ⟨_, rfl⟩
      rw [← hnl] at hown hml
      have HNL := Lib.hid hnl
      have KBk := Lib.hid fun W v (hv : TreeAt W v xs) => KB.out W v (512 + (k : Int)) hv
      clear hnl
      cases hbl : (ofF xs (512 + (k : Int))).isSome with
      | true =>
        simp only [hbl] at KBk
        have HBB := Lib.hid hbl
        clear hbl
        go_wp2_with (first
          | (go_at_call 44; refine (KBk.out _ _ HTr.out).mono ?_; rintro e w2 ⟨rfl, hB2⟩; have hs2 := hB2.size; have ho2 := Lib.hid (own_below hown.out hB2); have hb2 : Boxed w2 w.heap.size 24 (.slice a0 n c0) := (hB2.block _ hwr).trans hb)
          | (at_builtin; refine wpList_append_own _ rfl (.tmp 15) (.tmp 17) 27 rfl (w.heap.size + 1) 3 i0 (.int .i64 0) 1 8 Try.underlying27 hi0 hz0 hz1 hz2 rfl (by decide) _ nl _ rfl (ho2.out.alloc _) ⟨w2.heap.size, 0, none⟩ 1 1 [.int .i64 (k : Int)] rfl rfl (cell_one_new _ _ _) (fun x hx => by simp at hx; subst hx; rfl) (by unfold maxLen; omega) (by omega) (by simp; omega) ?_; intro u' w3 hown' hgrow hnil))
        refine ⟨⟨k + 1, by omega, by go_num, (hb2.alloc _).kept hgrow (hb2.not_row (by decide) ho2.out), ?_, Below.grown ((below_step hB hB.size hB2).alloc (by omega) _) hgrow (by simp; omega) (fun j hj => Nat.le_of_succ_le (ho2.out.lt j hj).1)⟩, by simp [intOf]; omega⟩
        unfold Hid
        rw [HSU.out, if_pos HBB.out, List.map_append, List.length_append, ← HNL.out]
        exact hown'
      | false =>
        simp only [hbl] at KBk
        have HBB := Lib.hid hbl
        clear hbl
        go_wp2_with (go_at_call 44; refine (KBk.out _ _ HTr.out).mono ?_; rintro e w2 ⟨rfl, hB2⟩; have hs2 := hB2.size)
        refine ⟨⟨k + 1, by omega, by go_num, (hB2.block _ hwr).trans hb, ?_, below_step hB hB.size hB2⟩, by simp [intOf]; omega⟩
        unfold Hid
        rw [HSU.out, if_neg (by rw [HBB.out]; decide), List.append_nil, ← HNL.out]
        exact own_below hown.out hB2
    · have hk' : k = 512 := by omega
      subst hk'
      rw [memUp_all] at hown
      go_wp2
      go_ret
      exact ⟨_, rfl, .of_own hown.out, hB⟩
end Go.Proofs.Ytofkmapokdcphaa
