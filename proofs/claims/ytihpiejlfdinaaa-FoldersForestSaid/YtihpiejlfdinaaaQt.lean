import Derived.Test.YtihpiejlfdinaaaQp2
import Derived.Test.YtihpiejlfdinaaaPd
/-
  The reference's Tree, Below, Above, Check, in plain Lean.
-/
namespace Go.Proofs.Ytihpiejlfdinaaa.PF
open Go Go.RowKit Go.Maps Go.My Go.Proofs.YtihpiejlfdinaaaW.PrintWords

theorem refCheck_f (a b c d : Int) (n : ByteArray) : chartroomref27_Check.f a b c d n = some (if S29.ok ⟨a, b, c, d, n⟩ then 0 else 270) := by
  unfold chartroomref27_Check.f
  have key : S29.ok ⟨a, b, c, d, n⟩ = true ↔ (1 ≤ a ∧ a ≤ 1099511627776 ∧ 0 ≤ b ∧ b ≤ 511 ∧ 0 ≤ c ∧ c ≤ 15 ∧ -1 ≤ d ∧ d ≤ 15 ∧ 1 ≤ (n.size : Int) ∧ (n.size : Int) ≤ 64) := by
    simp [S29.ok, btw]
    omega
  by_cases h : S29.ok ⟨a, b, c, d, n⟩ = true
  · have hk := key.1 h
    rw [h, if_neg (by omega), if_neg (by omega), if_neg (by omega), if_neg (by omega), if_neg (by omega), if_neg (by omega), if_neg (by omega), if_neg (by omega), if_neg (by omega), if_neg (by omega)]
    rfl
  · have hk := mt key.2 h
    rw [if_neg h]
    split
    · rfl
    split
    · rfl
    split
    · rfl
    split
    · rfl
    split
    · rfl
    split
    · rfl
    split
    · rfl
    split
    · rfl
    split
    · rfl
    split
    · rfl
    · exact absurd (by omega) hk

theorem treeP_empty : treeP (fun _ => none) = [] := rfl
theorem refTree_l0 (zs : List S29) (hok : ∀ x ∈ zs, x.ok = true) (hl : zs.length ≤ 1000) : ∀ (n i k : Nat) (F : Forest), FInv F → i + n = zs.length → 220 + n < k →
    chartroomref27_Tree.l0 k zs (treeP F) i = some (treeP ((zs.drop i).foldl step F))
  | 0, i, k, F, _, hn, hk => by
    obtain ⟨k, rfl⟩ : ∃ m, k = m + 1 := ⟨k - 1, by omega⟩
    rw [chartroomref27_Tree.l0, if_neg (by omega), List.drop_of_length_le (by omega)]
    rfl
  | n + 1, i, k, F, hF, hn, hk => by
    obtain ⟨k, rfl⟩ : ∃ m, k = m + 1 := ⟨k - 1, by omega⟩
    have hi : i < zs.length := by omega
    obtain ⟨y, hy⟩ : ∃ y, zs[i]? = some y := ⟨_, List.getElem?_eq_getElem hi⟩
    have hyok := hok y (List.mem_of_getElem? hy)
    rw [chartroomref27_Tree.l0, if_pos (by omega), if_pos (by omega), rdP_of hy, put_f hF hyok (by omega), Option.bind_some, wrap_succ hi (by omega), drop_of hy]
    exact refTree_l0 zs hok hl n (i + 1) k (step F y) (hF.step hyok) (by omega) (by omega)
theorem refTree_f {l : List S29} (hl : l.length ≤ 100) {k : Nat} (hk : 340 < k) : chartroomref27_Tree.f k l = some (treeP (growF l)) := by
  unfold chartroomref27_Tree.f chartroomref27_ordered.f
  have h1 := sortV_length l
  rw [if_pos hl, Option.bind_some]
  have := refTree_l0 (sortV l) (fun x hx => (mem_sortV.1 hx).2) (by omega) (sortV l).length 0 k (fun _ => none) FInv.empty (by omega) (by omega)
  rw [List.drop_zero, treeP_empty] at this
  exact this

theorem refBelow_l0 {F : Forest} (hF : FInv F) (x : Int) : ∀ (n i k : Nat) (acc : List Int), i + n = (treeP F).length → acc.length ≤ i → 70 + 2 * n < k →
    chartroomref27_Below.l0 k x (treeP F) acc true i = some (acc ++ (((treeP F).drop i).filter fun q => withinF F q.f2 x).map (·.f2))
  | 0, i, k, acc, hn, ha, hk => by
    obtain ⟨k, rfl⟩ : ∃ m, k = m + 2 := ⟨k - 2, by omega⟩
    rw [chartroomref27_Below.l0, if_neg (by omega), chartroomref27_Below.j1, if_neg (by simp), List.drop_of_length_le (by omega)]
    simp
  | n + 1, i, k, acc, hn, ha, hk => by
    obtain ⟨k, rfl⟩ : ∃ m, k = m + 2 := ⟨k - 2, by omega⟩
    have hl := treeP_length F
    have hi : i < (treeP F).length := by omega
    obtain ⟨y, hy⟩ : ∃ y, (treeP F)[i]? = some y := ⟨_, List.getElem?_eq_getElem hi⟩
    rw [chartroomref27_Below.l0, if_pos (by omega), chartroomref27_Below.j1, if_pos rfl, if_pos (by omega), if_pos (by omega), rdP_of hy, within_f hF (by omega), Option.bind_some, wrap_succ hi (by omega), drop_of hy]
    cases hw : withinF F y.f2 x with
    | true =>
      rw [if_pos rfl, if_pos (by omega), refBelow_l0 hF x n (i + 1) k (acc ++ [y.f2]) (by omega) (by simp; omega) (by omega), List.filter_cons_of_pos (p := fun q : S29 => withinF F q.f2 x) (a := y) hw]
      simp
    | false =>
      rw [if_neg (by simp), refBelow_l0 hF x n (i + 1) k acc (by omega) (by omega) (by omega), List.filter_cons_of_neg (p := fun q : S29 => withinF F q.f2 x) (a := y) (by simp [hw])]
theorem map_treeP {F : Forest} (hF : FKeys F) (p : Int → Bool) : ∀ {ks : List Int}, (∀ y ∈ ks, (F y).isSome = true) → ((ks.filterMap F).filter fun q => p q.f2).map (·.f2) = ks.filter p
  | [], _ => rfl
  | y :: ks, h => by
    obtain ⟨q, hq⟩ := Option.isSome_iff_exists.1 (h y (by simp))
    have ih := map_treeP hF p (ks := ks) (fun z hz => h z (by simp [hz]))
    have hqy := (hF y q hq).1
    rw [List.filterMap_cons_some hq]
    cases hp : p y with
    | true => rw [List.filter_cons_of_pos (by rw [hqy]; exact hp), List.filter_cons_of_pos hp, List.map_cons, ih, hqy]
    | false => rw [List.filter_cons_of_neg (by rw [hqy, hp]; simp), List.filter_cons_of_neg (by rw [hp]; simp), ih]
theorem refBelow_f {l : List S29} (hl : l.length ≤ 100) (x : Int) {k : Nat} (hk : 350 < k) : chartroomref27_Below.f k l x = some (belowP (growF l) x) := by
  have hF := growF_inv l
  have hT := treeP_length (growF l)
  unfold chartroomref27_Below.f
  rw [refTree_f hl (by omega), Option.bind_some, place_f hF.keys (by omega), Option.bind_some]
  have e0 : ((0 : Nat) : Int) = 0 := rfl
  cases hx : growF l x with
  | none =>
    obtain ⟨k, rfl⟩ : ∃ m, k = m + 2 := ⟨k - 2, by omega⟩
    have hb : belowP (growF l) x = [] := by unfold belowP; rw [hx]; rfl
    rw [hb]
    show chartroomref27_Below.l0 (k + 2) x (treeP (growF l)) [] false 0 = _
    rw [chartroomref27_Below.l0]
    split <;> rw [chartroomref27_Below.j1, if_neg (by simp)]
  | some q =>
    show chartroomref27_Below.l0 k x (treeP (growF l)) [] true 0 = _
    rw [← e0, refBelow_l0 hF x (treeP (growF l)).length 0 k [] (by omega) (by simp) (by omega), List.nil_append, List.drop_zero]
    have := map_treeP hF.keys (fun y => withinF (growF l) y x) (ks := keysF (growF l)) (fun y hy => (mem_keysF hF.keys).1 hy)
    unfold treeP
    rw [this]
    unfold belowP
    rw [hx]; rfl
theorem refAbove_f {l : List S29} (hl : l.length ≤ 100) (x : Int) {k : Nat} (hk : 350 < k) : chartroomref27_Above.f k l x = some (upL (growF l) x) := by
  have hF := growF_inv l
  unfold chartroomref27_Above.f
  rw [refTree_f hl (by omega), Option.bind_some, up_f hF.keys (by omega) (by omega) (hF.fin x), Option.bind_some]
  rfl
end Go.Proofs.Ytihpiejlfdinaaa.PF
