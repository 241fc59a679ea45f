import Derived.Test.YtihpiejlfdinaaaQa
import Derived.Test.YtihpiejlfdinaaaPb
/-
  The reference's walks over a tree, in plain Lean: place, up, within, put.
-/
namespace Go.Proofs.Ytihpiejlfdinaaa.PF
open Go Go.RowKit Go.Maps Go.My Go.Proofs.YtihpiejlfdinaaaW.PrintWords

/-! ### place -/
def plOf : Option S29 → Int × Int × Int × Int × ByteArray × Bool
  | none => (0, 0, 0, 0, ⟨#[]⟩, false)
  | some q => (q.f0, q.f1, q.f2, q.f3, q.f4, true)
theorem place_l0 : ∀ (k i : Nat) (t : List S29) (x : Int), t.length ≤ 1000 → i ≤ t.length → t.length < i + k → chartroomref27_place.l0 k t x i = some (plOf ((t.drop i).find? fun q => q.f2 == x))
  | 0, i, t, x, _, h1, h2 => by omega
  | k + 1, i, t, x, h0, h1, h2 => by
    rw [chartroomref27_place.l0]
    rcases at_or_end h1 with ⟨y, hy, hi⟩ | rfl
    · rw [if_pos (by omega), if_pos (by omega), rdP_of hy, drop_of hy, wrap_succ hi (by omega), List.find?_cons]
      by_cases e : y.f2 = x
      · rw [if_pos e, beq_iff_eq.2 e]; rfl
      · rw [if_neg e, beq_eq_false_iff_ne.2 e]
        exact place_l0 k (i + 1) t x h0 (by omega) (by omega)
    · rw [if_neg (by omega), List.drop_length]; rfl
theorem find_keys {F : Forest} (hF : FKeys F) (x : Int) : ∀ {ks : List Int}, (∀ y ∈ ks, (F y).isSome = true) → (ks.filterMap F).find? (fun q => q.f2 == x) = if x ∈ ks then F x else none
  | [], _ => by simp
  | y :: ks, h => by
    obtain ⟨q, hq⟩ := Option.isSome_iff_exists.1 (h y (by simp))
    have ih := find_keys hF x (ks := ks) (fun z hz => h z (by simp [hz]))
    have hqy := (hF y q hq).1
    rw [List.filterMap_cons_some hq, List.find?_cons]
    by_cases e : y = x
    · rw [beq_iff_eq.2 (hqy.trans e), if_pos (by simp [e]), ← e, hq]
    · rw [beq_eq_false_iff_ne.2 (fun h => e (hqy.symm.trans h)), ih]
      by_cases hx : x ∈ ks
      · rw [if_pos hx, if_pos (by simp [hx])]
      · rw [if_neg hx, if_neg (by simp [hx, Ne.symm e])]
theorem find_treeP {F : Forest} (hF : FKeys F) (x : Int) : (treeP F).find? (fun q => q.f2 == x) = F x := by
  unfold treeP
  rw [find_keys hF x (fun y hy => (mem_keysF hF).1 hy)]
  split
  · rfl
  · rename_i h
    rw [mem_keysF hF] at h
    cases e : F x with
    | none => rfl
    | some q => rw [e] at h; exact absurd rfl h
theorem place_f {F : Forest} (hF : FKeys F) {k : Nat} (hk : 16 < k) (x : Int) : chartroomref27_place.f k (treeP F) x = some (plOf (F x)) := by
  have hl := treeP_length F
  unfold chartroomref27_place.f
  have := place_l0 k 0 (treeP F) x (by omega) (by omega) (by omega)
  rw [List.drop_zero, find_treeP hF] at this
  exact this

/-! ### up -/
theorem up_l0 {F : Forest} (hF : FKeys F) : ∀ (k j : Nat) (acc : List Int) (x : Int), j + 20 < k → acc.length + j ≤ 100 → ends F j x →
    chartroomref27_up.l0 k (treeP F) acc (plOf (F x)).2.2.2.2.2 (plOf (F x)).1 (plOf (F x)).2.1 (plOf (F x)).2.2.1 (plOf (F x)).2.2.2.1 (plOf (F x)).2.2.2.2.1 = some (acc ++ upF F j x)
  | 0, j, _, _, h, _, _ => by omega
  | k + 1, j, acc, x, hk, ha, he => by
    rw [chartroomref27_up.l0]
    cases hx : F x with
    | none =>
      have : upF F j x = [] := upF_stop fun q hq => by rw [hx] at hq; cases hq
      rw [this, List.append_nil]
      rfl
    | some q =>
      show (if true = true then (if q.f3 ≥ 0 then _ else _) else _) = _
      rw [if_pos rfl]
      by_cases h0 : 0 ≤ q.f3
      · cases j with
        | zero => exact absurd (ends_iff.1 he x) (fun h => h rfl)
        | succ j =>
          have he' : ends F j q.f3 := by
            rw [ends_iff] at he ⊢
            intro z hz
            exact he z ⟨q, hx, h0, hz⟩
          rw [if_pos h0, if_pos (by omega), place_f hF (by omega), Option.bind_some]
          have ih := up_l0 hF k j (acc ++ [q.f3]) q.f3 (by omega) (by simp; omega) he'
          rw [upF_step hx h0]
          rw [List.append_assoc] at ih
          exact ih
      · rw [if_neg h0]
        have : upF F j x = [] := upF_stop fun q' hq => by rw [hx] at hq; cases hq; omega
        rw [this, List.append_nil]
theorem up_f {F : Forest} (hF : FKeys F) {k j : Nat} {x : Int} (hk : 60 < k) (hj : j ≤ 20) (he : ends F j x) : chartroomref27_up.f k (treeP F) x = some (upF F j x) := by
  unfold chartroomref27_up.f
  rw [place_f hF (by omega), Option.bind_some]
  exact up_l0 hF k j [] x (by omega) (by simp; omega) he

/-! ### within -/
theorem within_l0 : ∀ (k i : Nat) (l : List Int) (a : Int), l.length ≤ 1000 → i ≤ l.length → l.length < i + k → chartroomref27_within.l0 k a l i = some ((l.drop i).any fun z => decide (z = a))
  | 0, i, l, a, _, h1, h2 => by omega
  | k + 1, i, l, a, h0, h1, h2 => by
    rw [chartroomref27_within.l0]
    rcases at_or_end h1 with ⟨y, hy, hi⟩ | rfl
    · rw [if_pos (by omega), if_pos (by omega), rd_of hy, drop_of hy, wrap_succ hi (by omega), within_l0 k (i + 1) l a h0 (by omega) (by omega), List.any_cons]
      by_cases e : y = a
      · rw [if_pos e, decide_eq_true e, Bool.true_or]
      · rw [if_neg e, decide_eq_false e, Bool.false_or]
    · rw [if_neg (by omega), List.drop_length]; rfl
theorem within_f {F : Forest} (hF : FInv F) {k : Nat} (hk : 60 < k) (x y : Int) : chartroomref27_within.f k (treeP F) x y = some (withinF F x y) := by
  unfold chartroomref27_within.f withinF
  by_cases e : x = y
  · rw [if_pos e, decide_eq_true e, Bool.true_or]
  · have hl := hF.up_ends x
    unfold upL at hl
    rw [if_neg e, decide_eq_false e, Bool.false_or, up_f hF.keys hk (by omega) (hF.fin x), Option.bind_some]
    exact within_l0 k 0 (upF F 8 x) y (by omega) (by omega) (by omega)

/-! ### put: the new tree -/
def insT (p : S29) : List S29 → List S29
  | [] => [p]
  | q :: t => if q.f2 ≥ p.f2 then p :: (q :: t).filter (fun q => decide (q.f2 ≠ p.f2)) else q :: insT p t
theorem put_l0 (T : List S29) (p : S29) (r : Option (List S29 × Bool)) (hT : T.length ≤ 16) : ∀ (n i : Nat) (acc : List S29) (flag : Bool) (k : Nat), i + n = T.length → acc.length ≤ 2 * i + 1 → 100 + 2 * n < k →
    (∀ k, 100 ≤ k → chartroomref27_put.j3 k T (acc ++ (if flag then (T.drop i).filter (fun q => decide (q.f2 ≠ p.f2)) else insT p (T.drop i))) = r) → chartroomref27_put.l0 k T acc flag i p.f0 p.f1 p.f2 p.f3 p.f4 = r
  | 0, i, acc, flag, k, hn, ha, hk, hr => by
    obtain ⟨k, rfl⟩ : ∃ m, k = m + 1 := ⟨k - 1, by omega⟩
    have hd : T.drop i = [] := List.drop_of_length_le (by omega)
    rw [chartroomref27_put.l0, if_neg (by omega)]
    have := hr k (by omega)
    rw [hd] at this
    cases flag with
    | true =>
      rw [if_pos rfl] at this
      rw [List.filter_nil, List.append_nil] at this
      rw [if_pos rfl, this]
    | false =>
      rw [if_neg (by simp)] at this
      rw [if_neg (by simp), if_pos (by omega)]
      exact this
  | n + 1, i, acc, flag, k, hn, ha, hk, hr => by
    obtain ⟨k, rfl⟩ : ∃ m, k = m + 2 := ⟨k - 2, by omega⟩
    have hi : i < T.length := by omega
    obtain ⟨y, hy⟩ : ∃ y, T[i]? = some y := ⟨_, List.getElem?_eq_getElem hi⟩
    rw [chartroomref27_put.l0, if_pos (by omega)]
    rw [drop_of hy] at hr
    cases flag with
    | true =>
      rw [if_pos rfl, chartroomref27_put.j2, if_neg (by simp), if_pos (by omega), if_pos (by omega), rdP_of hy, wrap_succ hi (by omega)]
      simp only [if_true] at hr
      by_cases e : y.f2 = p.f2
      · rw [if_pos e]
        refine put_l0 T p r hT n (i + 1) acc true k (by omega) (by omega) (by omega) fun k hk => ?_
        have := hr k hk
        rw [List.filter_cons_of_neg (by simp [e])] at this
        rw [if_pos rfl]
        exact this
      · rw [if_neg e, if_pos (by omega)]
        refine put_l0 T p r hT n (i + 1) (acc ++ [y]) true k (by omega) (by simp; omega) (by omega) fun k hk => ?_
        have := hr k hk
        rw [List.filter_cons_of_pos (by simp [e])] at this
        rw [if_pos rfl, List.append_assoc]
        exact this
    | false =>
      rw [if_neg (by simp), if_pos (by omega), rdP_of hy]
      simp only [Bool.false_eq_true, if_false, insT] at hr
      by_cases hge : y.f2 ≥ p.f2
      · rw [decide_eq_true hge, chartroomref27_put.j2, if_pos rfl, if_pos (by omega), Option.bind_some, if_pos (by omega), if_pos (by omega), rdP_of hy, wrap_succ hi (by omega)]
        simp only [if_pos hge] at hr
        by_cases e : y.f2 = p.f2
        · rw [if_pos e]
          refine put_l0 T p r hT n (i + 1) (acc ++ [p]) true k (by omega) (by simp; omega) (by omega) fun k hk => ?_
          have := hr k hk
          rw [List.filter_cons_of_neg (by simp [e])] at this
          rw [if_pos rfl, List.append_assoc]
          exact this
        · rw [if_neg e, if_pos (by simp; omega)]
          refine put_l0 T p r hT n (i + 1) (acc ++ [p] ++ [y]) true k (by omega) (by simp; omega) (by omega) fun k hk => ?_
          have := hr k hk
          rw [List.filter_cons_of_pos (by simp [e])] at this
          rw [if_pos rfl, List.append_assoc, List.append_assoc]
          exact this
      · have e : y.f2 ≠ p.f2 := by omega
        rw [decide_eq_false hge, chartroomref27_put.j2, if_neg (by simp), if_pos (by omega), if_pos (by omega), rdP_of hy, wrap_succ hi (by omega), if_neg e, if_pos (by omega)]
        simp only [if_neg hge] at hr
        refine put_l0 T p r hT n (i + 1) (acc ++ [y]) false k (by omega) (by simp; omega) (by omega) fun k hk => ?_
        have := hr k hk
        rw [if_neg (by simp), List.append_assoc]
        exact this
abbrev ByF2 (l : List S29) : Prop := l.Pairwise fun x y => x.f2 < y.f2
theorem insT_mem {p : S29} : ∀ {t : List S29}, ByF2 t → ∀ y, y ∈ insT p t ↔ y = p ∨ (y ∈ t ∧ y.f2 ≠ p.f2)
  | [], _, y => by simp [insT]
  | q :: t, h, y => by
    rw [insT]
    split
    · simp [List.mem_filter]
    · rename_i hlt
      have h := List.pairwise_cons.1 h
      rw [List.mem_cons, insT_mem h.2 y, List.mem_cons]
      constructor
      · rintro (rfl | h1 | h1)
        · exact .inr ⟨.inl rfl, by omega⟩
        · exact .inl h1
        · exact .inr ⟨.inr h1.1, h1.2⟩
      · rintro (h1 | ⟨h1 | h1, h2⟩)
        · exact .inr (.inl h1)
        · exact .inl h1
        · exact .inr (.inr ⟨h1, h2⟩)
theorem insT_sorted {p : S29} : ∀ {t : List S29}, ByF2 t → ByF2 (insT p t)
  | [], _ => by simp [insT]
  | q :: t, h => by
    have h' := h
    have h := List.pairwise_cons.1 h
    rw [insT]
    split
    · rename_i hge
      refine List.pairwise_cons.2 ⟨fun y hy => ?_, h'.filter _⟩
      obtain ⟨h1, h2⟩ := List.mem_filter.1 hy
      have h2 : y.f2 ≠ p.f2 := by simpa using h2
      rcases List.mem_cons.1 h1 with rfl | h3
      · omega
      · have := h.1 y h3
        omega
    · rename_i hlt
      refine List.pairwise_cons.2 ⟨fun y hy => ?_, insT_sorted h.2⟩
      rcases (insT_mem h.2 y).1 hy with rfl | h1
      · omega
      · exact h.1 y h1.1
theorem byF2_ext : ∀ {l m : List S29}, ByF2 l → ByF2 m → (∀ x, x ∈ l ↔ x ∈ m) → l = m
  | [], [], _, _, _ => rfl
  | [], y :: ys, _, _, h => by have := (h y).2 (by simp); cases this
  | x :: xs, [], _, _, h => by have := (h x).1 (by simp); cases this
  | x :: xs, y :: ys, hx, hy, h => by
    have hx := List.pairwise_cons.1 hx
    have hy := List.pairwise_cons.1 hy
    have e : x = y := by
      rcases List.mem_cons.1 ((h x).1 (by simp)) with e | h1
      · exact e
      · rcases List.mem_cons.1 ((h y).2 (by simp)) with e | h2
        · exact e.symm
        · have := hx.1 y h2; have := hy.1 x h1; omega
    subst e
    congr 1
    refine byF2_ext hx.2 hy.2 fun z => ?_
    constructor
    · intro hz
      rcases List.mem_cons.1 ((h z).1 (by simp [hz])) with e | h1
      · have := hx.1 z hz; rw [e] at this; omega
      · exact h1
    · intro hz
      rcases List.mem_cons.1 ((h z).2 (by simp [hz])) with e | h1
      · have := hy.1 z hz; rw [e] at this; omega
      · exact h1
theorem treeP_sorted {F : Forest} (hF : FKeys F) : ByF2 (treeP F) := by
  unfold treeP
  have h : ∀ {ks : List Int}, ks.Pairwise (· < ·) → (∀ y ∈ ks, (F y).isSome = true) → ByF2 (ks.filterMap F) := by
    intro ks hp hs
    exact List.pairwise_filterMap.2 <| hp.imp fun {a b} hab x hx y hy => by
      have := (hF a x hx).1
      have := (hF b y hy).1
      omega
  exact h (keysF_sorted F) (fun y hy => (mem_keysF hF).1 hy)
theorem memK_treeP {F : Forest} (hF : FKeys F) {p : S29} : p ∈ treeP F ↔ F p.f2 = some p := by
  unfold treeP
  rw [List.mem_filterMap]
  constructor
  · rintro ⟨x, _, hx⟩
    rw [(hF x p hx).1, hx]
  · intro h
    exact ⟨p.f2, (mem_keysF hF).2 (by rw [h]; rfl), h⟩
theorem keys_set {F : Forest} (hF : FKeys F) {p : S29} (hp : p.ok = true) : FKeys (F.set p.f2 p) := by
  intro x q hq
  have hb := ok_bounds hp
  by_cases e : x = p.f2
  · subst e
    rw [set_same] at hq
    cases hq
    exact ⟨rfl, by omega, by omega, wf_small (by omega) (by omega)⟩
  · rw [set_other _ _ e] at hq
    exact hF x q hq
theorem insT_treeP {F : Forest} (hF : FKeys F) {p : S29} (hp : p.ok = true) : insT p (treeP F) = treeP (F.set p.f2 p) := by
  have hF' := keys_set hF hp
  refine byF2_ext (insT_sorted (treeP_sorted hF)) (treeP_sorted hF') fun y => ?_
  rw [insT_mem (treeP_sorted hF), memK_treeP hF, memK_treeP hF']
  by_cases e : y.f2 = p.f2
  · rw [e, set_same]
    constructor
    · rintro (h | ⟨_, h⟩)
      · rw [h]
      · exact absurd rfl h
    · intro h
      exact .inl (Option.some.inj h).symm
  · rw [set_other _ _ e]
    constructor
    · rintro (rfl | ⟨h, _⟩)
      · exact absurd rfl e
      · exact h
    · intro h
      exact .inr ⟨h, e⟩
end Go.Proofs.Ytihpiejlfdinaaa.PF
