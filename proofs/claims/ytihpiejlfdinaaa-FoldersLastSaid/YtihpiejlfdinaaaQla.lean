import Derived.Test.YtihpiejlfdinaaaQp2
import Derived.Test.YtihpiejlfdinaaaQs
import Derived.Test.YtihpiejlfdinaaaPi
/-
  FoldersLast, in plain Lean.
-/
namespace Go.Proofs.Ytihpiejlfdinaaa.PF
open Go Go.RowKit Go.Maps Go.My Go.Proofs.YtihpiejlfdinaaaW.PrintWords

theorem s29_beqA (a b : S29) : (a.f0 == b.f0 && (a.f1 == b.f1 && (a.f2 == b.f2 && (a.f3 == b.f3 && a.f4.toList == b.f4.toList)))) = decide (a = b) := by
  have := s29_beq a b
  rw [← Bool.not_not (decide (a = b)), ← this]
  simp only [Bool.not_or, Bool.not_not]

theorem last_l3 (T T2 : List S29) (p q : S29) (r : Option Bool) (K : Nat) (hT : T.length ≤ 16) (hT2 : T2.length ≤ 16) {i : Nat} (hq : T[i]? = some q) (cnt : Int)
    (hr : ∀ k, K ≤ k → last27.l2 k T T2 cnt ((i + 1 : Nat) : Int) p.f0 p.f1 p.f2 p.f3 p.f4 = r) :
    ∀ (n j k : Nat) (flag : Bool), j + n = T2.length → K + n < k → (flag || (T2.drop j).any fun y => decide (y = q)) = true → last27.l3 k T T2 cnt i flag j p.f0 p.f1 p.f2 p.f3 p.f4 = r
  | 0, j, k, flag, hn, hk, hf => by
    obtain ⟨k, rfl⟩ : ∃ m, k = m + 1 := ⟨k - 1, by omega⟩
    have hi := (List.getElem?_eq_some_iff.1 hq).1
    rw [List.drop_of_length_le (by omega), List.any_nil, Bool.or_false] at hf
    rw [last27.l3, if_neg (by omega), if_pos hf, wrap_succ hi (by omega)]
    exact hr k (by omega)
  | n + 1, j, k, flag, hn, hk, hf => by
    obtain ⟨k, rfl⟩ : ∃ m, k = m + 1 := ⟨k - 1, by omega⟩
    have hi := (List.getElem?_eq_some_iff.1 hq).1
    have hj : j < T2.length := by omega
    obtain ⟨y, hy⟩ : ∃ y, T2[j]? = some y := ⟨_, List.getElem?_eq_getElem hj⟩
    rw [drop_of hy, List.any_cons] at hf
    rw [last27.l3, if_pos (by omega), wrap_succ hj (by omega)]
    cases flag with
    | true =>
      rw [if_pos rfl]
      exact last_l3 T T2 p q r K hT hT2 hq cnt hr n (j + 1) k true (by omega) (by omega) (by simp)
    | false =>
      rw [if_neg (by simp), if_pos (by omega), if_pos (by omega), if_pos (by omega), rdP_of hy, rdP_of hq, s29_beqA]
      rw [Bool.false_or] at hf
      exact last_l3 T T2 p q r K hT hT2 hq cnt hr n (j + 1) k _ (by omega) (by omega) hf
theorem last_l2 (T T2 : List S29) (p : S29) (hT : T.length ≤ 16) (hT2 : T2.length ≤ 16) (hall : ∀ q ∈ T, q.f2 ≠ p.f2 → q ∈ T2) (hlen : T2.length = (T.filter fun q => decide (q.f2 ≠ p.f2)).length + 1) :
    ∀ (n i k : Nat) (cnt : Nat), i + n = T.length → 40 + 40 * n < k → cnt = ((T.take i).filter fun q => decide (q.f2 ≠ p.f2)).length → cnt ≤ i → last27.l2 k T T2 (cnt : Int) i p.f0 p.f1 p.f2 p.f3 p.f4 = some true
  | 0, i, k, cnt, hn, hk, hc, hci => by
    obtain ⟨k, rfl⟩ : ∃ m, k = m + 1 := ⟨k - 1, by omega⟩
    rw [List.take_of_length_le (by omega)] at hc
    have hw : wrap64 ((cnt : Int) + 1) = ((cnt + 1 : Nat) : Int) := by unfold wrap64; omega
    rw [last27.l2, if_neg (by omega), hw, hlen, hc, beq_self_eq_true]
  | n + 1, i, k, cnt, hn, hk, hc, hci => by
    obtain ⟨k, rfl⟩ : ∃ m, k = m + 1 := ⟨k - 1, by omega⟩
    have hi : i < T.length := by omega
    obtain ⟨q, hq⟩ : ∃ q, T[i]? = some q := ⟨_, List.getElem?_eq_getElem hi⟩
    have hw : wrap64 ((cnt : Int) + 1) = ((cnt + 1 : Nat) : Int) := by unfold wrap64; omega
    rw [last27.l2, if_pos (by omega), if_pos (by omega), rdP_of hq]
    by_cases e : q.f2 = p.f2
    · rw [if_pos e, wrap_succ hi (by omega)]
      refine last_l2 T T2 p hT hT2 hall hlen n (i + 1) k cnt (by omega) (by omega) ?_ (by omega)
      rw [take_snoc hq, List.filter_append, List.filter_cons_of_neg (by simp [e]), List.filter_nil, List.append_nil]
      exact hc
    · rw [if_neg e, hw]
      have hmem := hall q (List.mem_of_getElem? hq) e
      refine last_l3 T T2 p q _ (41 + 40 * n) hT hT2 hq _ (fun k' hk' => ?_) T2.length 0 k false (by omega) (by omega) ?_
      · refine last_l2 T T2 p hT hT2 hall hlen n (i + 1) k' (cnt + 1) (by omega) (by omega) ?_ (by omega)
        rw [take_snoc hq, List.filter_append, List.filter_cons_of_pos (by simp [e]), List.filter_nil, List.length_append, ← hc]
        rfl
      · rw [List.drop_zero, Bool.false_or, List.any_eq_true]
        exact ⟨q, hmem, decide_eq_true rfl⟩
theorem last_l1 (l T T2 : List S29) (p : S29) (r : Option Bool) (K : Nat) (hT2 : T2.length ≤ 16) (flag0 : Bool) (hflag : flag0 = T2.any fun y => decide (y = p))
    (hr : ∀ k, K ≤ k → last27.l1 (k + 1) l T T2 flag0 (T2.length : Int) p.f0 p.f1 p.f2 p.f3 p.f4 = r) :
    ∀ (n j k : Nat) (flag : Bool), j + n = T2.length → K + n < k → (flag || (T2.drop j).any fun y => decide (y = p)) = flag0 → last27.l1 k l T T2 flag j p.f0 p.f1 p.f2 p.f3 p.f4 = r
  | 0, j, k, flag, hn, hk, hf => by
    obtain ⟨k, rfl⟩ : ∃ m, k = m + 1 := ⟨k - 1, by omega⟩
    rw [List.drop_of_length_le (by omega), List.any_nil, Bool.or_false] at hf
    obtain rfl : j = T2.length := by omega
    rw [hf]
    exact hr k (by omega)
  | n + 1, j, k, flag, hn, hk, hf => by
    obtain ⟨k, rfl⟩ : ∃ m, k = m + 1 := ⟨k - 1, by omega⟩
    have hj : j < T2.length := by omega
    obtain ⟨y, hy⟩ : ∃ y, T2[j]? = some y := ⟨_, List.getElem?_eq_getElem hj⟩
    rw [drop_of hy, List.any_cons] at hf
    rw [last27.l1, if_pos (by omega), wrap_succ hj (by omega)]
    cases flag with
    | true =>
      rw [if_pos rfl]
      exact last_l1 l T T2 p r K hT2 flag0 hflag hr n (j + 1) k true (by omega) (by omega) (by simpa using hf)
    | false =>
      rw [if_neg (by simp), if_pos (by omega), rdP_of hy, s29_beqA]
      rw [Bool.false_or] at hf
      exact last_l1 l T T2 p r K hT2 flag0 hflag hr n (j + 1) k _ (by omega) (by omega) hf

/-! ### the last place's step -/
theorem fold_mem : ∀ {l : List S29} {F : Forest} {x : Int} {q : S29}, l.foldl step F x = some q → F x = some q ∨ q ∈ l
  | [], F, x, q, h => .inl h
  | p :: l, F, x, q, h => by
    rw [List.foldl_cons] at h
    rcases fold_mem h with h | h
    · unfold step at h
      split at h
      · exact .inl h
      · by_cases e : x = p.f2
        · subst e
          rw [set_same] at h
          cases h
          exact .inr (by simp)
        · rw [set_other _ _ e] at h
          exact .inl h
    · exact .inr (by simp [h])
theorem ins_last {p : S29} : ∀ {l : List S29}, (∀ q ∈ l, p.less q = false) → ins p l = l ++ [p]
  | [], _ => rfl
  | q :: l, h => by
    rw [ins, if_neg (by rw [h q (by simp)]; simp), ins_last (fun y hy => h y (by simp [hy]))]
    rfl
theorem growF_snoc {l : List S29} {p : S29} (hp : p.ok = true) (h : ∀ q ∈ l, q.f0 < p.f0) : growF (l ++ [p]) = step (growF l) p := by
  have e : sortV (l ++ [p]) = sortV l ++ [p] := by
    have : sortV (l ++ [p]) = ins p (sortV l) := by
      unfold sortV
      rw [List.foldl_append, List.foldl_cons, List.foldl_nil, if_pos hp]
    rw [this]
    refine ins_last fun q hq => ?_
    have hlt := h q (mem_sortV.1 hq).1
    unfold S29.less
    rw [if_pos (by omega), decide_eq_false (by omega)]
  unfold growF
  rw [e, List.foldl_append]
  rfl
theorem insT_length {p : S29} : ∀ {t : List S29}, ByF2 t → (insT p t).length = (t.filter fun q => decide (q.f2 ≠ p.f2)).length + 1
  | [], _ => rfl
  | q :: t, h => by
    rw [insT]
    split
    · rfl
    · rename_i hlt
      have h := List.pairwise_cons.1 h
      rw [List.filter_cons_of_pos (by simp; omega), List.length_cons, insT_length h.2]
      rfl

theorem last_l0 (l : List S29) (p : S29) (r : Option Bool) (K : Nat) (hl : l.length ≤ 30) (hr : (∀ q ∈ l, q.f0 < p.f0) → ∀ k, K ≤ k → last27.l0 (k + 1) l (l.length : Int) p.f0 p.f1 p.f2 p.f3 p.f4 = r) (ht : r = some true) :
    ∀ (n i k : Nat), i + n = l.length → K + n < k → (∀ q ∈ l.take i, q.f0 < p.f0) → last27.l0 k l i p.f0 p.f1 p.f2 p.f3 p.f4 = r
  | 0, i, k, hn, hk, h => by
    obtain ⟨k, rfl⟩ : ∃ m, k = m + 1 := ⟨k - 1, by omega⟩
    obtain rfl : i = l.length := by omega
    rw [List.take_length] at h
    exact hr h k (by omega)
  | n + 1, i, k, hn, hk, h => by
    obtain ⟨k, rfl⟩ : ∃ m, k = m + 1 := ⟨k - 1, by omega⟩
    have hi : i < l.length := by omega
    obtain ⟨q, hq⟩ : ∃ q, l[i]? = some q := ⟨_, List.getElem?_eq_getElem hi⟩
    rw [last27.l0, if_pos (by omega), if_pos (by omega), rdP_of hq, wrap_succ hi (by omega)]
    by_cases e : q.f0 ≥ p.f0
    · rw [if_pos e, ht]
    · rw [if_neg e]
      refine last_l0 l p r K hl hr ht n (i + 1) k (by omega) (by omega) fun y hy => ?_
      rw [take_snoc hq, List.mem_append, List.mem_singleton] at hy
      rcases hy with hy | rfl
      · exact h y hy
      · omega

theorem last_end (l : List S29) (p : S29) (hl : l.length ≤ 30) (hp : p.ok = true) (h : ∀ q ∈ l, q.f0 < p.f0) (k : Nat) (hk : 2000 ≤ k) : last27.l0 (k + 1) l (l.length : Int) p.f0 p.f1 p.f2 p.f3 p.f4 = some true := by
  have hF := growF_inv l
  have hb := ok_bounds hp
  have hT := treeP_length (growF l)
  have hT2 := treeP_length (step (growF l) p)
  have hB := belowP_length (growF l) p.f2
  have h2 : i64 p.f2 = true := i64_small (by omega) (by omega)
  rw [last27.l0, if_neg (by omega), folders_tree (by omega), Option.bind_some, Option.bind_some, if_pos (by simp; omega), Option.bind_some, Option.bind_some, List.nil_append, if_pos (by simp; omega), folders_tree (by simp; omega), Option.bind_some, growF_snoc hp h]
  have htaken : ((treeP (step (growF l) p)).any fun y => decide (y = p)) = !bad (growF l) p := by
    have hS := hF.step hp
    cases hbad : bad (growF l) p with
    | true =>
      have hs : step (growF l) p = growF l := by unfold step; rw [hbad]; rfl
      rw [hs, Bool.not_true, ← Bool.not_eq_true, List.any_eq_true]
      rintro ⟨y, hy, e⟩
      rw [decide_eq_true_eq] at e
      subst e
      rcases fold_mem ((mem_treeP hF).1 hy) with h' | h'
      · cases h'
      · have := h y (mem_sortV.1 h').1
        omega
    | false =>
      have hs : step (growF l) p = (growF l).set p.f2 p := by unfold step; rw [hbad]; rfl
      rw [Bool.not_false, List.any_eq_true]
      exact ⟨p, (mem_treeP hS).2 (by rw [hs, set_same]), decide_eq_true rfl⟩
  refine last_l1 l _ _ p (some true) 1900 hT2 _ rfl (fun k hk => ?_) (treeP (step (growF l) p)).length 0 k false (by omega) (by omega) (by rw [List.drop_zero, Bool.false_or])
  rw [htaken, last27.l1, if_neg (by omega), folders_below (by omega) h2, Option.bind_some, has_f p.f3 (by omega) (by omega), Option.bind_some]
  obtain ⟨k, rfl⟩ : ∃ m, k = m + 1 := ⟨k - 1, by omega⟩
  have heff := effect_f hF hp (k := k + 1) (by omega)
  cases hbad : bad (growF l) p with
  | true =>
    have hs : step (growF l) p = growF l := by unfold step; rw [hbad]; rfl
    rw [hbad] at heff
    have j3 : last27.j3 (k + 1) (treeP (growF l)) (treeP (step (growF l) p)) false (false != false) p.f0 p.f1 p.f2 p.f3 p.f4 = some true := by
      rw [last27.j3, if_neg (by simp), if_neg (by simp), hs, same_f (by omega) (by omega), Option.bind_some, decide_eq_true rfl]
    simp only [Bool.not_true] at heff ⊢
    simp only [heff, Option.bind_some, j3, Bool.false_eq_true, if_false, ite_self]
  | false =>
    have hs : step (growF l) p = (growF l).set p.f2 p := by unfold step; rw [hbad]; rfl
    rw [hbad] at heff
    have hfit := ((bad_iff hF (by omega)).1 hbad).1
    have hno : p.f3 ∉ belowP (growF l) p.f2 := fun hm => by
      obtain ⟨_, h3, j, hj⟩ := (mem_belowP hF).1 hm
      obtain ⟨q, hq⟩ := Option.isSome_iff_exists.1 h3
      have h0 := (hF.keys p.f3 q hq).2.1
      exact ((fits_iff hF).1 hfit h0).2 j hj
    have hne : p.f3 ≠ p.f2 := fun e => ((fits_iff hF).1 hfit (by omega)).2 0 e
    have hj : last27.j3 (k + 1) (treeP (growF l)) (treeP (step (growF l) p)) true (true != true) p.f0 p.f1 p.f2 p.f3 p.f4 = some true := by
      rw [last27.j3, if_neg (by simp), if_pos rfl]
      have hins := insT_treeP hF.keys hp
      have hsort := treeP_sorted hF.keys
      refine last_l2 (treeP (growF l)) _ p hT hT2 (fun q hq e => ?_) ?_ (treeP (growF l)).length 0 k 0 (by omega) (by omega) rfl (by omega)
      · rw [hs, ← hins]
        exact (insT_mem hsort q).2 (.inr ⟨hq, e⟩)
      · rw [hs, ← hins]
        exact insT_length hsort
    rw [decide_eq_false hno, if_neg (by simp), if_neg hne, heff, Option.bind_some]
    exact hj

theorem last_true (l : List S29) (p : S29) : last27.f 2100 l p.f0 p.f1 p.f2 p.f3 p.f4 = some true := by
  unfold last27.f
  rw [sane_f 2091, Option.bind_some, if_pos rfl, few_f, Option.bind_some]
  by_cases hl : l.length ≤ 30
  case neg =>
    rw [decide_eq_false hl]
    rfl
  rw [decide_eq_true hl, if_pos (show (true && decide (([] : List S29).length ≤ 30)) = true from rfl)]
  unfold folders_Check.f
  rw [Option.bind_some]
  by_cases hp : p.ok = true
  · rw [if_pos (show S29.ok ⟨p.f0, p.f1, p.f2, p.f3, p.f4⟩ = true from hp)]
    show last27.j0 2100 l false p.f0 p.f1 p.f2 p.f3 p.f4 = _
    rw [last27.j0, if_neg (by simp)]
    exact last_l0 l p (some true) 2000 hl (fun h k hk => last_end l p hl hp h k hk) rfl l.length 0 2099 (by omega) (by omega) (fun q hq => by simp at hq)
  · rw [if_neg (show ¬ S29.ok ⟨p.f0, p.f1, p.f2, p.f3, p.f4⟩ = true from hp)]
    rfl
end Go.Proofs.Ytihpiejlfdinaaa.PF
