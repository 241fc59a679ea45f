import Derived.Test.YtihpiejlfdinaaaWg
import Derived.Sort.OwnSortedInts
namespace Go.Proofs.Ytihpiejlfdinaaa.PF
open Go Go.RowKit Go.Maps Go.My Go.Shelf Go.Sort Go.Proofs.YtihpiejlfdinaaaW.PrintWords

/-! ### Above -/

theorem R_ints {w : World} {base : Nat} {v : Value} {xs : List Int} (h : w.ownsRow base 3 1 v xs.length (xs.map (Value.int .i64))) : Kd.R (Kd.int .i64) 3 w base (fun _ => True) v xs := Kd.R_of_own h (fun _ _ => trivial)

set_option maxRecDepth 100000 in
set_option maxHeartbeats 1000000 in
theorem above13 (A : Option Addr) (c : Nat) (l : List S29) (x : Int) (w : World) (hl : l.length ≤ 100) (h : Kd.C k29 w A l.length l) (hx : (Lit.int .i64 x).wf = true) :
    Calls Try.prog 13 #[.slice A l.length c, .int .i64 x] w fun e w' => ∃ v, e = .returned v ∧ Kd.R (Kd.int .i64) 3 w' w.heap.size (fun _ => True) v (upL (growF l) x) ∧ Below w.heap.size w w' := by
  have HG := Lib.hid (grow27 A c l w hl h)
  have hFI := growF_inv l
  have HU := Lib.hid fun (W : World) (mb cnt : Nat) (hM : MapIs K3 S29.val W mb cnt (growF l)) => collect_up mb cnt 8 (growF l) x (hFI.fin x) (by have := hFI.up_ends x; unfold upL at this; omega) hFI.wf hx W hM
  generalize growF l = F at *
  obtain ⟨n, hn⟩ : ∃ n, n = l.length := ⟨_, rfl⟩
  rw [← hn] at HG ⊢
  clear hn h hFI hl
  go_enter Try.func13, Try.ntmps13
  go_wp2_with (first
    | (go_at_call 27; refine HG.out.mono ?_; rintro e w1 ⟨mb, cnt, rfl, hmb, hcnt, hM, hB1⟩; have H30 := HU.out w1 mb cnt hM)
    | (go_at_call 31; refine (up31 _ _ _).mono ?_; rintro e w2 ⟨rfl, rfl⟩)
    | (go_at_call 30; refine H30.mono ?_; rintro e w3 ⟨v, rfl, hrow, hB3⟩))
  go_ret
  refine ⟨v, rfl, R_ints (own_weaken hrow hB1.size), hB1.trans (hB3.mono hB1.size)⟩
/-! ### the keys, sorted -/
theorem mergeSort_sorted (zs : List Int) : (zs.mergeSort fun x y => decide (x ≤ y)).Pairwise (· ≤ ·) := by
  have := List.pairwise_mergeSort (le := fun x y : Int => decide (x ≤ y)) (by simp; omega) (by simp; omega) zs
  exact this.imp (by simp)

theorem sorted_ext : ∀ {xs ys : List Int}, xs.Pairwise (· < ·) → ys.Pairwise (· < ·) → (∀ x, x ∈ xs ↔ x ∈ ys) → xs = ys
  | [], [], _, _, _ => rfl
  | [], y :: ys, _, _, h => by have := (h y).2 (by simp); cases this
  | x :: xs, [], _, _, h => by have := (h x).1 (by simp); cases this
  | x :: xs, y :: ys, hx, hy, h => by
    rw [List.pairwise_cons] at hx hy
    have e : x = y := by
      rcases List.mem_cons.1 ((h x).1 (by simp)) with e | h1
      · exact e
      · rcases List.mem_cons.1 ((h y).2 (by simp)) with e | h2
        · exact e.symm
        · have := hx.1 y h2; have := hy.1 x h1; omega
    subst e
    congr 1
    refine sorted_ext hx.2 hy.2 fun z => ?_
    constructor
    · intro hz
      rcases List.mem_cons.1 ((h z).1 (by simp [hz])) with e | h1
      · have := hx.1 z hz; omega
      · exact h1
    · intro hz
      rcases List.mem_cons.1 ((h z).2 (by simp [hz])) with e | h1
      · have := hy.1 z hz; omega
      · exact h1
theorem mapIs_keys {α : Type} {ev : α → Value} {w : World} {b n : Nat} {f : Int → Option α} (h : MapIs K3 ev w b n f) :
    ∃ D : DataW Value, w.ownsMap Try.prog 3 hv b n D ∧ (intKeys D).Nodup ∧ (∀ x, x ∈ intKeys D ↔ (f x).isSome = true) ∧ (∀ x, (f x).isSome = true → (Lit.int .i64 x).wf = true) ∧ Maps.size D ≤ n := by
  obtain ⟨D, h1, h2, h3, h4⟩ := h
  obtain ⟨es, hD, hpw, _⟩ := h1.entries keyed3
  obtain ⟨es', hD', hko⟩ := h1.keysOf
  obtain rfl : es = es' := by rw [hD] at hD'; simpa using hD'
  subst hD
  have hk : ∀ p ∈ es, ∃ x, p.1 = .int .i64 x := fun p hp => by obtain ⟨v, hv⟩ := hko p hp; obtain ⟨x, _, hx, _⟩ := Maps.keyOf_i64 Try.underlying3 hv; exact ⟨x, hx⟩
  refine ⟨_, h1, ?_, ?_, ?_, h1.size_le⟩
  · show (es.map fun p => Go.intOf p.1).Nodup
    refine List.pairwise_map.2 (hpw.imp_of_mem fun {p q} hp' hq' hne e => hne ?_)
    obtain ⟨a, ha⟩ := hk p hp'
    obtain ⟨b, hb⟩ := hk q hq'
    rw [ha, hb] at e ⊢
    exact congrArg _ e
  · intro x
    have hx : x ∈ intKeys (.map es) ↔ has (.map es) (.int .i64 x) = true := by
      rw [has_eq, List.any_eq_true]
      show x ∈ es.map (fun p => Go.intOf p.1) ↔ _
      rw [List.mem_map]
      constructor
      · rintro ⟨p, hp', rfl⟩
        obtain ⟨a, ha⟩ := hk p hp'
        exact ⟨p, hp', by rw [ha]; simp [Lit.sameKey, Go.intOf]⟩
      · rintro ⟨p, hp', hs⟩
        obtain ⟨a, ha⟩ := hk p hp'
        rw [ha] at hs
        exact ⟨p, hp', by rw [ha]; simpa [Lit.sameKey, Go.intOf] using hs⟩
    rw [hx]
    cases hf : f x with
    | none => have := h3 x hf; change has _ (.int .i64 x) = false at this; rw [this]; simp
    | some a => have := (h4 x a hf).2.1; change has _ (.int .i64 x) = true at this; rw [this]; simp
  · intro x hx
    obtain ⟨a, ha⟩ := Option.isSome_iff_exists.1 hx
    exact (h4 x a ha).1

theorem keys33_any (mb : Option Nat) (W : World) : Calls Try.prog 33 #[.map mb] W fun e w' => e = .returned (.func (.func 53) #[] #[.pointer (some ⟨W.heap.size, 0, none⟩)]) ∧ w' = W.alloc (.cells #[.map mb] 48) :=
  (callsIn_wide (n := 5)).1 (AnyZI.keys_in Try.keys33 Fence.wide 5 trivial rfl mb W)

theorem sorted32_map {α : Type} {ev : α → Value} (w : World) (b n : Nat) (f : Int → Option α) (hn : n ≤ 5000) (h : MapIs K3 ev w b n f) :
    Calls Try.prog 32 #[.func (.func 53) #[] #[.pointer (some ⟨w.heap.size, 0, none⟩)]] (w.alloc (.cells #[.map (some b)] 48)) fun e w' => ∃ (v : Value) (ks : List Int), e = .returned v ∧ ks.Pairwise (· < ·) ∧ (∀ x, x ∈ ks ↔ (f x).isSome = true) ∧ ks.length ≤ n ∧
      w'.ownsRow w.heap.size 3 1 v ks.length (ks.map (Value.int .i64)) ∧ Below w.heap.size w w' := by
  obtain ⟨D, hown, hnd, hmem, hwf, hsz⟩ := mapIs_keys h
  have hbl := hown.lt
  have hseq : SeqGives Fence.wide 2 Try.prog 53 #[.pointer (some ⟨w.heap.size, 0, none⟩)] encZ (fun ss => ss.Perm (intKeys D)) (Maps.size D) (w.alloc (.cells #[.map (some b)] 48)) :=
    AnyZI.keys_gives (ρ := Try.keys33_ren) { Try.keys33 with } Fence.wide _ trivial rfl (by omega) w.heap.size b n D _ (by simp) (by simp) (by
      obtain ⟨es, clock, hb, Ft, hs, hD⟩ := hown
      exact ⟨es, clock, (Below.heap_alloc _ _ b hbl).trans hb, Ft, hs, hD⟩)
  have cS := AnyZI.sorted_in Try.sorted32 Fence.wide 5 trivial trivial trivial trivial rfl (by omega) (Try.sorts32 _) (enters_of Try.func29 (by kernel_rfl) rfl) 53 #[.pointer (some ⟨w.heap.size, 0, none⟩)] trivial (enters_of Try.func53 (by kernel_rfl) rfl) _ _ (by unfold maxLen; omega) (by omega) _ hseq
  have cS' : CallsIn Fence.wide 5 Try.prog 32 _ _ _ := cS
  refine ((callsIn_wide (n := 5)).1 cS').mono ?_
  rintro e w' ⟨v, ss, rfl, hperm, hrow, _, hB⟩
  have hnd' : ss.Nodup := hperm.nodup_iff.2 hnd
  refine ⟨v, ss.mergeSort (fun x y => decide (x ≤ y)), rfl, ?_, ?_, ?_, own_weaken (by rw [List.length_mergeSort]; exact hrow) (by simp), ((Below.refl _ w).alloc (Nat.le_refl _) _).trans (hB.mono (by simp))⟩
  · have h1 := mergeSort_sorted ss
    have h2 : (ss.mergeSort (fun x y => decide (x ≤ y))).Nodup := (List.mergeSort_perm ss _).nodup_iff.2 hnd'
    exact (h1.and h2).imp (fun ⟨a, b⟩ => by omega)
  · intro x
    rw [List.mem_mergeSort, ← hmem x]
    exact hperm.mem_iff
  · rw [List.length_mergeSort, hperm.length_eq]
    refine Nat.le_trans ?_ hsz
    cases D <;> simp [intKeys, Maps.size]


/-! ### Tree -/

theorem keysF_sorted (F : Forest) : (keysF F).Pairwise (· < ·) := by
  unfold keysF
  refine List.Pairwise.filter _ ?_
  rw [List.pairwise_map]
  exact List.pairwise_lt_range.imp (fun {a b} h => by omega)
theorem mem_keysF {F : Forest} (hF : FKeys F) {x : Int} : x ∈ keysF F ↔ (F x).isSome = true := by
  unfold keysF
  rw [List.mem_filter]
  refine ⟨fun h => h.2, fun h => ⟨?_, h⟩⟩
  obtain ⟨q, hq⟩ := Option.isSome_iff_exists.1 h
  obtain ⟨_, h0, h1, _⟩ := hF x q hq
  exact List.mem_map.2 ⟨x.toNat, List.mem_range.2 (by omega), by omega⟩
theorem keysF_length (F : Forest) : (keysF F).length ≤ 16 := by
  unfold keysF
  refine Nat.le_trans (List.length_filter_le _ _) ?_
  simp
theorem treeP_at : ∀ {F : Forest} {ks : List Int} {k : Nat} {y : Int}, (∀ x ∈ ks, (F x).isSome = true) → ks[k]? = some y → (ks.filterMap F)[k]? = F y ∧ (ks.filterMap F).length = ks.length
  | F, [], k, y, _, h => by cases h
  | F, x :: ks, k, y, hk, h => by
    obtain ⟨q, hq⟩ := Option.isSome_iff_exists.1 (hk x (by simp))
    have hl : (ks.filterMap F).length = ks.length := by
      clear h
      induction ks with
      | nil => rfl
      | cons z ks ih =>
        obtain ⟨r, hr⟩ := Option.isSome_iff_exists.1 (hk z (by simp))
        rw [List.filterMap_cons_some hr]
        simp only [List.length_cons]
        rw [ih (fun x hx => hk x (by simp at hx ⊢; rcases hx with h | h <;> simp [h]))]
    rw [List.filterMap_cons_some hq]
    refine ⟨?_, by simp [hl]⟩
    cases k with
    | zero => simp only [List.getElem?_cons_zero, Option.some.injEq] at h ⊢; rw [← h, hq]
    | succ k =>
      simp only [List.getElem?_cons_succ] at h ⊢
      exact (treeP_at (fun x hx => hk x (by simp [hx])) h).1
theorem flat_drop {xs : List S29} {j : Nat} {x : S29} (h : xs[j]? = some x) : ((flat xs).drop (j * 5)).take 5 = cellsOf x := by
  apply List.ext_getElem?
  intro i
  rw [List.getElem?_take]
  split
  · rename_i hi
    rw [List.getElem?_drop, flat_at xs j i x h hi]
  · rw [List.getElem?_eq_none]; simp [cellsOf]; omega
theorem R_pls {w : World} {base : Nat} {v : Value} {xs : List S29} (h : w.ownsRow base 29 5 v xs.length (flat xs)) : Kd.R k29 29 w base (fun _ => True) v xs :=
  ⟨fun _ _ => trivial, flat xs, h, by rw [flat_length]; rfl, fun j p hp => by
    show k29.M _ _ _ p (((flat xs).drop (j * 5)).take 5)
    rw [flat_drop hp]
    exact k29_mkM _ _ _ p⟩
theorem flat_snoc (xs : List S29) (x : S29) : flat (xs ++ [x]) = flat xs ++ cellsOf x := by simp [flat]
theorem cell_five_new (w : World) (x : S29) : ∀ j u, (cellsOf x)[j]? = some u → (w.alloc (.cells #[.int .i64 x.f0, .int .i64 x.f1, .int .i64 x.f2, .int .i64 x.f3, .string x.f4] 29)).cell? ((⟨w.heap.size, 0, none⟩ : Addr).add j) = some u := by
  intro j u hj
  have := cell_at_new w #[.int .i64 x.f0, .int .i64 x.f1, .int .i64 x.f2, .int .i64 x.f3, .string x.f4] 29 j
  rw [Addr.add_lit, Nat.zero_add, this]
  simpa [cellsOf] using hj

set_option maxRecDepth 100000 in
set_option maxHeartbeats 2000000 in
theorem tree14 (A : Option Addr) (c : Nat) (l : List S29) (w : World) (hl : l.length ≤ 100) (h : Kd.C k29 w A l.length l) :
    Calls Try.prog 14 #[.slice A l.length c] w fun e w' => ∃ v, e = .returned v ∧ Kd.R k29 29 w' w.heap.size (fun _ => True) v (treeP (growF l)) ∧ Below w.heap.size w w' := by
  obtain ⟨i0, hi, hz0, hz1, hz2⟩ := info_parts info29
  have HG := Lib.hid (grow27 A c l w hl h)
  have hFI := growF_inv l
  generalize growF l = F at *
  obtain ⟨n, hn⟩ : ∃ n, n = l.length := ⟨_, rfl⟩
  rw [← hn] at HG ⊢
  have HFI := Lib.hid hFI
  clear hn h hFI hl
  go_enter Try.func14, Try.ntmps14
  go_wp2_with (first
    | (go_at_call 27; refine HG.out.mono ?_; rintro e w1 ⟨mb, cnt, rfl, hmb, hcnt, hM, hB1⟩)
    | (go_at_call 33; refine (keys33_any (some mb) _).mono ?_; rintro e w2 ⟨rfl, rfl⟩)
    | (go_at_call 32; refine (sorted32_map w1 mb cnt F (by omega) hM).mono ?_; rintro e w3 ⟨v3, ks, rfl, hsort, hmem, hkn, hrow, hB3⟩; have hrow' := Lib.hid hrow; have hv3 := (show ∃ a cp, v3 = .slice a ks.length cp from by rcases hrow.2 with ⟨rfl, h0⟩ | ⟨g, cap, cur, rfl, _⟩; exact ⟨_, _, by rw [h0]⟩; exact ⟨_, _, rfl⟩); clear hrow; obtain ⟨a3, cp3, rfl⟩ := hv3))
  have hks : ks = keysF F := sorted_ext hsort (keysF_sorted F) fun x => by rw [hmem, mem_keysF HFI.out.keys]
  have hall : ∀ x ∈ ks, (F x).isSome = true := fun x hx => (hmem x).1 hx
  have hlen : ks.length ≤ 16 := by rw [hks]; exact keysF_length F
  have htl : (ks.filterMap F).length = ks.length := by
    cases hks0 : ks with
    | nil => rfl
    | cons y ys => rw [← hks0]; exact (treeP_at hall (k := 0) (y := y) (by rw [hks0]; rfl)).2
  have hC3 : ∀ k y, ks[k]? = some y → ∃ g, a3 = some ⟨g, 0, none⟩ ∧ w3.cell? ⟨g, k, none⟩ = some (.int .i64 y) := fun k y hy => by
    rcases hrow'.out.2 with ⟨e, h0⟩ | ⟨g, cap, cur, e, _⟩
    · rw [List.length_eq_zero_iff.1 h0] at hy; cases hy
    · have hr := hrow'.out
      cases e
      refine ⟨g, rfl, ?_⟩
      have hk := (List.getElem?_eq_some_iff.1 hy).1
      rw [hr.cellAt k (by omega), List.getElem?_map, hy]; rfl
  have HKS := Lib.hid hks
  have HALL := Lib.hid hall
  have HC3 := Lib.hid hC3
  have HTL := Lib.hid htl
  have hM3 : MapIs K3 S29.val w3 mb cnt F := hM.below hB3 hM.lt
  have HB3 := Lib.hid (below_step hB1 hB1.size hB3)
  have hmb3 : mb < w3.heap.size := hM3.lt
  clear hks hall hC3 htl hsort hmem hrow' hM hB1 hB3
  obtain ⟨nk, hnk⟩ : ∃ nk, nk = ks.length := ⟨_, rfl⟩
  rw [← hnk] at hlen HTL ⊢
  have HNK := Lib.hid hnk
  clear hnk
  go_loopg [2, 12] nk (fun gg s2 s12 wr => ∃ (k : Nat) (u : Value), s2 = u ∧ s12 = .int .i64 k ∧ k ≤ nk ∧ nk - k ≤ gg ∧ Hid (wr.ownsRow w3.heap.size 29 5 u k (flat ((ks.filterMap F).take k))) ∧ Below w3.heap.size w3 wr)
  case atStart => exact ⟨0, .slice none 0 0, rfl, rfl, by omega, by omega, World.ownsRow_nil _ _ _ _, Below.refl _ _⟩
  case round =>
    obtain ⟨k, u, rfl, rfl, hkn2, hgg, hown, hBr⟩ := hrel
    by_cases hlt : k < nk
    · obtain ⟨y, hy⟩ : ∃ y, ks[k]? = some y := ⟨_, List.getElem?_eq_getElem (by rw [← HNK.out]; exact hlt)⟩
      obtain ⟨q, hq⟩ := Option.isSome_iff_exists.1 (HALL.out y (List.mem_of_getElem? hy))
      obtain ⟨g3, rfl, hc0⟩ := HC3.out k y hy
      have g0 := cellK hc0 hBr
      have hMr := hM3.below hBr hmb3
      have hkb := HFI.out.keys y q hq
      have hok : (K3).ok y := wf_small (by omega) (by omega)
      have htk : Hid ((ks.filterMap F).take (k + 1) = (ks.filterMap F).take k ++ [q]) := take_snoc (by rw [(treeP_at HALL.out hy).1, hq])
      have HQ := Lib.hid hq
      have hown0 := hown.out
      have hB1r := hBr.size
      have hnf : ∀ x hx, x ∈ cellsOf q → x.oneCell' = hx → True := fun _ _ _ _ => trivial
      clear hy hc0 hq hkb hnf
      go_wp2_with (first
        | (at_lookup; refine wpList_get rfl (.tmp 17) (.tmp 18) 48 rfl keyed3 Try.underlying48 (zero29 _) rfl hMr (x := y) hok rfl ?_; simp only [HQ.out, Option.elim, S29.val])
        | (at_builtin; refine wpList_append_own _ rfl (.tmp 16) (.tmp 20) 22 rfl w3.heap.size 29 i0 _ 5 48 Try.underlying22 hi hz0 hz1 hz2 rfl (by decide) u2 k _ rfl (hown.out.alloc _) ⟨wr.heap.size, 0, none⟩ 1 1 (cellsOf q) rfl rfl (cell_five_new _ _) (cellsOf_one q) (by unfold maxLen; omega) (by omega) (by simp; omega) ?_; intro u' w4 hown' hgrow hnil))
      go_roundg (nk - (k + 1))
      case measure => omega
      case rel =>
        refine ⟨k + 1, u', rfl, by go_num, by omega, Nat.le_refl _, ?_, ?_⟩
        · unfold Hid
          rw [htk.out, flat_snoc]
          exact hown'
        · exact (hBr.alloc hB1r _).grown hgrow (by simp; omega) (fun j hj => (hown.out.lt j hj).1)
    · have hk' : k = nk := by omega
      subst hk'
      have dlt : decide ((k : Int) < (k : Int)) = false := decide_eq_false (by omega)
      have e0 : (ks.filterMap F).take k = ks.filterMap F := List.take_of_length_le (by rw [HTL.out]; exact Nat.le_refl _)
      rw [e0] at hown
      clear e0
      go_wp2
      go_ret
      refine ⟨_, rfl, ?_, below_step HB3.out HB3.out.size hBr⟩
      unfold treeP
      rw [← HKS.out]
      refine R_pls (own_weaken ?_ HB3.out.size)
      rw [HTL.out]
      exact hown.out
end Go.Proofs.Ytihpiejlfdinaaa.PF
