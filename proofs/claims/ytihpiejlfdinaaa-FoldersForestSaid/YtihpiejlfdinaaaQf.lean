import Derived.Test.YtihpiejlfdinaaaQt
/-
  The reference's Find, in plain Lean.
-/
namespace Go.Proofs.Ytihpiejlfdinaaa.PF
open Go Go.RowKit Go.Maps Go.My Go.Proofs.YtihpiejlfdinaaaW.PrintWords

theorem rdS_of {l : List ByteArray} {i : Nat} {y : ByteArray} (h : l[i]? = some y) : rdOf ByteArray.empty l (i : Int) = y := by unfold rdOf; rw [List.getD_eq_getElem?_getD, Int.toNat_natCast, h]; rfl
def finR (ns : List ByteArray) : Option Int → Int × Bool
  | none => (0, false)
  | some f => if ns.length = 0 then (0, false) else (f, true)
theorem findAt_cons (y : S29) (t : List S29) (a : Int) (n : ByteArray) : findAt (y :: t) a n = if y.f3 = a ∧ y.f4.toList = n.toList then some y.f2 else findAt t a n := by
  unfold findAt
  rw [List.find?_cons, ByteArray.toList_eq, ByteArray.toList_eq]
  by_cases h1 : y.f3 = a
  · by_cases h2 : y.f4.data.toList = n.data.toList
    · rw [decide_eq_true h1, decide_eq_true h2, if_pos ⟨h1, h2⟩]; rfl
    · rw [decide_eq_false h2, Bool.and_false, if_neg (fun h => h2 h.2)]
  · rw [decide_eq_false h1, Bool.false_and, if_neg (fun h => h1 h.1)]
theorem find_l1 (ns : List ByteArray) (T : List S29) (hT : T.length ≤ 16) (hns : ns.length ≤ 100) {i : Nat} {nm : ByteArray} (hnm : ns[i]? = some nm) (K : Nat) (g : Int → Int × Bool) (hg : ∀ k a, K ≤ k → chartroomref27_Find.l0 k ns T a ((i + 1 : Nat) : Int) = some (g a)) :
    ∀ (m j k : Nat) (a : Int), j + m = T.length → K + 2 * m + 6 < k → chartroomref27_Find.l1 k ns T a i false j = some (match findAt (T.drop j) a nm with | none => (0, false) | some f => g f)
  | 0, j, k, a, hm, hk => by
    obtain ⟨k, rfl⟩ : ∃ m, k = m + 2 := ⟨k - 2, by omega⟩
    rw [chartroomref27_Find.l1, if_neg (by omega), chartroomref27_Find.j2, if_neg (by simp), if_neg (by simp), List.drop_of_length_le (by omega)]
    rfl
  | m + 1, j, k, a, hm, hk => by
    obtain ⟨k, rfl⟩ : ∃ m, k = m + 2 := ⟨k - 2, by omega⟩
    have hi := (List.getElem?_eq_some_iff.1 hnm).1
    have hj : j < T.length := by omega
    obtain ⟨y, hy⟩ : ∃ y, T[j]? = some y := ⟨_, List.getElem?_eq_getElem hj⟩
    rw [chartroomref27_Find.l1, if_pos (by omega), Bool.not_false, chartroomref27_Find.j2, if_pos rfl, if_pos (by omega), if_pos (by omega), rdP_of hy, wrap_succ hj (by omega), drop_of hy, findAt_cons]
    have ih := find_l1 ns T hT hns hnm K g hg m (j + 1) k a (by omega) (by omega)
    by_cases h1 : y.f3 = a
    · rw [if_pos h1, if_pos (by omega), if_pos (by omega), rdS_of hnm]
      by_cases h2 : y.f4.toList = nm.toList
      · rw [if_pos h2, if_pos ⟨h1, h2⟩]
        obtain ⟨k, rfl⟩ : ∃ m, k = m + 2 := ⟨k - 2, by omega⟩
        have hl0 := hg k y.f2 (by omega)
        rw [chartroomref27_Find.l1]
        have j2 : chartroomref27_Find.j2 (k + 1) ns T y.f2 i true ((j + 1 : Nat) : Int) false = some (g y.f2) := by
          rw [chartroomref27_Find.j2, if_neg (by simp), if_pos rfl, wrap_succ hi (by omega)]
          exact hl0
        split
        · exact j2
        · exact j2
      · rw [if_neg h2, if_neg (fun h => h2 h.2)]
        exact ih
    · rw [if_neg h1, if_neg (fun h => h1 h.1)]
      exact ih
theorem find_l0 (ns : List ByteArray) (T : List S29) (hT : T.length ≤ 16) (hns : ns.length ≤ 100) : ∀ (n i k : Nat) (a : Int), i + n = ns.length → 10 + 60 * n < k → chartroomref27_Find.l0 k ns T a i = some (finR ns (findP T a (ns.drop i)))
  | 0, i, k, a, hn, hk => by
    obtain ⟨k, rfl⟩ : ∃ m, k = m + 1 := ⟨k - 1, by omega⟩
    rw [chartroomref27_Find.l0, if_neg (by omega), List.drop_of_length_le (by omega), findP, finR]
    by_cases h : ns.length = 0
    · rw [if_pos h, if_pos (by omega)]
    · rw [if_neg h, if_neg (by omega)]
  | n + 1, i, k, a, hn, hk => by
    obtain ⟨k, rfl⟩ : ∃ m, k = m + 1 := ⟨k - 1, by omega⟩
    have hi : i < ns.length := by omega
    obtain ⟨nm, hnm⟩ : ∃ y, ns[i]? = some y := ⟨_, List.getElem?_eq_getElem hi⟩
    rw [chartroomref27_Find.l0, if_pos (by omega), drop_of hnm, findP]
    have e0 : ((0 : Nat) : Int) = 0 := rfl
    have h1 := find_l1 ns T hT hns hnm (11 + 60 * n) (fun a => finR ns (findP T a (ns.drop (i + 1)))) (fun k a hk => find_l0 ns T hT hns n (i + 1) k a (by omega) (by omega)) T.length 0 k a (by omega) (by omega)
    rw [List.drop_zero, e0] at h1
    rw [h1]
    cases findAt T a nm <;> rfl
theorem findP_mem {T : List S29} : ∀ {ns : List ByteArray} {a f : Int}, findP T a ns = some f → ns ≠ [] → ∃ p ∈ T, f = p.f2
  | [], _, _, _, h => absurd rfl h
  | n :: ns, a, f, h, _ => by
    rw [findP] at h
    cases hx : findAt T a n with
    | none => rw [hx] at h; cases h
    | some g =>
      rw [hx] at h
      have hg : ∃ p ∈ T, g = p.f2 := by
        unfold findAt at hx
        rw [Option.map_eq_some_iff] at hx
        obtain ⟨p, hp, e⟩ := hx
        exact ⟨p, List.mem_of_find?_eq_some hp, e.symm⟩
      cases ns with
      | nil =>
        simp only [findP, Option.some.injEq] at h
        rw [← h]; exact hg
      | cons m ms => exact findP_mem h (by simp)
theorem refFind_f {l : List S29} (hl : l.length ≤ 100) (ns : List ByteArray) (hns : ns.length ≤ 100) {k : Nat} (hk : 6100 < k) : chartroomref27_Find.f k l ns = some (findR (treeP (growF l)) ns) := by
  have hF := growF_inv l
  have hT := treeP_length (growF l)
  unfold chartroomref27_Find.f
  rw [refTree_f hl (by omega), Option.bind_some]
  have h0 := find_l0 ns (treeP (growF l)) hT hns ns.length 0 k (-1) (by omega) (by omega)
  rw [List.drop_zero] at h0
  refine h0.trans ?_
  congr 1
  unfold findR
  cases hf : findP (treeP (growF l)) (-1) ns with
  | none => rfl
  | some f =>
    cases ns with
    | nil =>
      simp only [findP, Option.some.injEq] at hf
      rw [← hf]; rfl
    | cons n ns =>
      obtain ⟨p, hp, e⟩ := findP_mem hf (by simp)
      have h1 := (hF.keys p.f2 p ((mem_treeP hF).1 hp)).2.1
      have h2 : max f 0 = f := by omega
      simp only [finR, List.length_cons, h2]
      rw [if_neg (by omega), decide_eq_true (by omega)]
end Go.Proofs.Ytihpiejlfdinaaa.PF
