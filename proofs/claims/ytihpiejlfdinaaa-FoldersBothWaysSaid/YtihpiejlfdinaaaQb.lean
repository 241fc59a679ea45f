import Derived.Test.YtihpiejlfdinaaaQa
import Derived.Test.YtihpiejlfdinaaaPe
/-
  FoldersBothWays, in plain Lean.
-/
namespace Go.Proofs.Ytihpiejlfdinaaa.PF
open Go Go.RowKit Go.Maps Go.My Go.Proofs.YtihpiejlfdinaaaW.PrintWords

set_option maxRecDepth 100000 in
set_option maxHeartbeats 4000000 in
theorem sane9 : chartroomlaw27_sane.f 9 = some true := by kernel_rfl
theorem sane_f : ∀ k, chartroomlaw27_sane.f (k + 9) = some true
  | 0 => sane9
  | k + 1 => chartroomlaw27_sane.mono (k + 9) true (sane_f k)

theorem nodup_sub : ∀ {l m : List Int}, l.Nodup → (∀ x ∈ l, x ∈ m) → l.length ≤ m.length
  | [], m, _, _ => by simp
  | x :: l, m, hn, h => by
    rw [List.nodup_cons] at hn
    have hx := h x (by simp)
    have := nodup_sub (l := l) (m := m.erase x) hn.2 (fun y hy => (List.mem_erase_of_ne (show y ≠ x from fun e => hn.1 (by rw [← e]; exact hy))).2 (h y (by simp [hy])))
    rw [List.length_erase_of_mem hx] at this
    have := List.length_pos_of_mem hx
    simp only [List.length_cons]
    omega
/-- Every one of the list lies in the other, which is longer. -/
theorem bw_l1 : ∀ (k i : Nat) (l m : List Int), l.length ≤ 1000 → m.length ≤ 1000 → i ≤ m.length → m.length + l.length < i + k → (∀ y ∈ m, y ∈ l) → m.length < l.length → chartroomlaw27_FoldersBothWays.l1 k l m i = some true
  | 0, i, l, m, _, _, _, h, _, _ => by omega
  | k + 1, i, l, m, hl, hm, hi, hk, hall, hlt => by
    rw [chartroomlaw27_FoldersBothWays.l1]
    rcases at_or_end hi with ⟨y, hy, hi'⟩ | rfl
    · rw [if_pos (by omega), if_pos (by omega), rd_of hy, has_f y (by omega) (by omega), decide_eq_true (hall y (List.mem_of_getElem? hy)), Option.bind_some, if_pos rfl, wrap_succ hi' (by omega)]
      exact bw_l1 k (i + 1) l m hl hm (by omega) (by omega) hall hlt
    · rw [if_neg (by omega), decide_eq_true (by omega)]

/-- The scan of the tree. -/
theorem bw_l0 : ∀ (k i : Nat) (L : List S29) (x7 x8 : Int) (b a : List Int) (f : Bool) (t : List S29), t.length ≤ 1000 → i ≤ t.length → t.length + 40 < i + k →
    ∃ k', 39 < k' ∧ chartroomlaw27_FoldersBothWays.l0 k L x7 x8 b a f t i = chartroomlaw27_FoldersBothWays.l0 (k' + 1) L x7 x8 b a (f || (t.drop i).any fun p => p.f2 == x7) t t.length
  | 0, i, L, x7, x8, b, a, f, t, _, _, h => by omega
  | k + 1, i, L, x7, x8, b, a, f, t, ht, hi, hk => by
    rcases at_or_end hi with ⟨y, hy, hi'⟩ | rfl
    · rw [chartroomlaw27_FoldersBothWays.l0, if_pos (by omega), wrap_succ hi' (by omega), drop_of hy, List.any_cons]
      cases f with
      | true =>
        rw [if_pos rfl]
        obtain ⟨k', h1, h2⟩ := bw_l0 k (i + 1) L x7 x8 b a true t ht (by omega) (by omega)
        refine ⟨k', h1, ?_⟩
        rw [h2, Bool.true_or, Bool.true_or]
      | false =>
        rw [if_neg (by simp), if_pos (by omega), rdP_of hy]
        obtain ⟨k', h1, h2⟩ := bw_l0 k (i + 1) L x7 x8 b a (y.f2 == x7) t ht (by omega) (by omega)
        refine ⟨k', h1, ?_⟩
        rw [h2, Bool.false_or]
    · refine ⟨k, by omega, ?_⟩
      rw [List.drop_length, List.any_nil, Bool.or_false]

theorem bw_j2 {k : Nat} {L : List S29} {x8 : Int} {b : List Int} (hL : L.length ≤ 100) (hx8 : i64 x8 = true) (hb : b.length ≤ 16) (hk : 34 < k) (hall : ∀ y ∈ belowP (growF L) x8, y ∈ b) (hlt : (belowP (growF L) x8).length < b.length) :
    chartroomlaw27_FoldersBothWays.j2 k L x8 b false = some true := by
  obtain ⟨k, rfl⟩ : ∃ m, k = m + 1 := ⟨k - 1, by omega⟩
  rw [chartroomlaw27_FoldersBothWays.j2, if_neg (by simp), folders_below hL hx8, Option.bind_some]
  have := belowP_length (growF L) x8
  exact bw_l1 k 0 b (belowP (growF L) x8) (by omega) (by omega) (by omega) (by omega) hall hlt

theorem bothWays_true (l : List S29) (a1 a2 : Int) : chartroomlaw27_FoldersBothWays.f 120 l a1 a2 = some true := by
  unfold chartroomlaw27_FoldersBothWays.f
  rw [sane_f 111, Option.bind_some, if_pos rfl, few_f, Option.bind_some]
  by_cases hl : l.length ≤ 30
  case neg => rw [decide_eq_false hl]; rfl
  rw [decide_eq_true hl]
  show (if true = true then _ else _) = _
  rw [if_pos rfl, and15, and15]
  have h1 := i64_small (x := a1 % 16) (by omega) (by omega)
  have h2 := i64_small (x := a2 % 16) (by omega) (by omega)
  obtain ⟨x, hx⟩ : ∃ x, x = a1 % 16 := ⟨_, rfl⟩
  obtain ⟨y, hy⟩ : ∃ y, y = a2 % 16 := ⟨_, rfl⟩
  have hx0 : 0 ≤ x := by omega
  rw [← hx] at h1 ⊢
  rw [← hy] at h2 ⊢
  clear hx hy
  have hl' : l.length ≤ 100 := by omega
  rw [folders_below hl' h1, Option.bind_some, folders_above hl' h2, Option.bind_some, folders_tree hl', Option.bind_some]
  have hF := growF_inv l
  have hT := treeP_length (growF l)
  have hB := belowP_length (growF l) x
  have hA := hF.up_ends y
  obtain ⟨k, hk, e⟩ := bw_l0 120 0 l x y (belowP (growF l) x) (upL (growF l) y) false (treeP (growF l)) (by omega) (by omega) (by omega)
  have e0 : ((0 : Nat) : Int) = 0 := rfl
  rw [← e0, e, List.drop_zero, Bool.false_or, any_treeP hF, chartroomlaw27_FoldersBothWays.l0, if_neg (by omega), has_f x (by omega) (by omega), Option.bind_some]
  have hself : decide (x ∈ belowP (growF l) x) = (growF l x).isSome := by
    rw [Bool.eq_iff_iff, decide_eq_true_eq, mem_belowP hF]
    exact ⟨fun h => h.1, fun h => ⟨h, h, 0, rfl⟩⟩
  rw [hself, bne_self_eq_false, if_neg (by simp)]
  have hno : decide (y ∈ upL (growF l) y) = false := by
    rw [decide_eq_false_iff_not, mem_upL hF]
    rintro ⟨j, hj⟩
    exact not_self hF hj
  obtain ⟨k, rfl⟩ : ∃ m, k = m + 3 := ⟨k - 3, by omega⟩
  by_cases exy : x = y
  · rw [if_pos exy, has_f y (by omega) (by omega), Option.bind_some, hno, chartroomlaw27_FoldersBothWays.j1, if_neg (by simp), if_pos exy, chartroomlaw27_FoldersBothWays.j2, if_pos rfl]
  · have hboth : decide (y ∈ belowP (growF l) x) = decide (x ∈ upL (growF l) y) := by
      rw [Bool.eq_iff_iff, decide_eq_true_eq, decide_eq_true_eq, mem_belowP hF, mem_upL hF]
      constructor
      · rintro ⟨_, _, j, hj⟩
        cases j with
        | zero => exact absurd hj (fun h => exy h.symm)
        | succ j => exact ⟨j, hj⟩
      · rintro ⟨j, hj⟩
        have := steps_placed hF hj
        exact ⟨this.2, this.1, j + 1, hj⟩
    rw [if_neg exy, has_f y (by omega) (by omega), Option.bind_some, has_f x (by omega) (by omega), Option.bind_some, hboth, bne_self_eq_false, if_neg (by simp), has_f y (by omega) (by omega), Option.bind_some, hno,
      chartroomlaw27_FoldersBothWays.j1, if_neg (by simp), if_neg exy, has_f y (by omega) (by omega), Option.bind_some, hboth]
    by_cases hxy : x ∈ upL (growF l) y
    · rw [decide_eq_true hxy]
      obtain ⟨j, hj⟩ := (mem_upL hF).1 hxy
      have hp := steps_placed hF hj
      have hall : ∀ z ∈ belowP (growF l) y, z ∈ belowP (growF l) x := fun z hz => by
        obtain ⟨_, hz1, i, hi⟩ := (mem_belowP hF).1 hz
        exact (mem_belowP hF).2 ⟨hp.2, hz1, i + (j + 1), steps_add hi hj⟩
      refine bw_j2 hl' h2 hB (by omega) hall ?_
      have hx' : x ∈ belowP (growF l) x := (mem_belowP hF).2 ⟨hp.2, hp.2, 0, rfl⟩
      have hnx : x ∉ belowP (growF l) y := fun h => by
        obtain ⟨_, _, i, hi⟩ := (mem_belowP hF).1 h
        exact not_self hF (j := i + j) (show steps (growF l) (i + (j + 1)) x x from steps_add hi hj)
      have hsub := nodup_sub (l := x :: belowP (growF l) y) (m := belowP (growF l) x) (List.nodup_cons.2 ⟨hnx, belowP_nodup _ _⟩) (fun z hz => by
        rcases List.mem_cons.1 hz with rfl | h
        · exact hx'
        · exact hall z h)
      simp only [List.length_cons] at hsub
      omega
    · rw [decide_eq_false hxy]
      show chartroomlaw27_FoldersBothWays.j2 _ _ _ _ true = _
      rw [chartroomlaw27_FoldersBothWays.j2, if_pos rfl]
end Go.Proofs.Ytihpiejlfdinaaa.PF
