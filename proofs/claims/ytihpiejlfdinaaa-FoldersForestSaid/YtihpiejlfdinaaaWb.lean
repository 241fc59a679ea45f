import Derived.Test.YtihpiejlfdinaaaWa
import Derived.Test.YtihpiejlfdinaaaAux

import Derived.Deep.RegionHeld3
import Derived.Test.YtihpiejlfdinaaaShelf
import Derived.Shelf.SlSortCmp.WholeK
namespace Go.Proofs.Ytihpiejlfdinaaa.PF
open Go Go.RowKit Go.My

def orF : List Int → Int
  | [] => 0
  | x :: xs => if x ≠ 0 then x else orF xs

theorem orF_drop {xs : List Int} {k : Nat} {x : Int} (h : xs[k]? = some x) (hx : x ≠ 0) : orF (xs.drop k) = x := by
  rw [List.drop_eq_getElem_cons (List.getElem?_eq_some_iff.1 h).1, (List.getElem?_eq_some_iff.1 h).2]
  simp [orF, hx]
theorem orF_skip {xs : List Int} {k : Nat} (h : xs[k]? = some 0) : orF (xs.drop k) = orF (xs.drop (k + 1)) := by
  rw [List.drop_eq_getElem_cons (List.getElem?_eq_some_iff.1 h).1, (List.getElem?_eq_some_iff.1 h).2]
  simp [orF]

set_option maxRecDepth 100000 in
set_option maxHeartbeats 1000000 in
theorem or56 (a : Addr) (cap : Nat) (xs : List Int) (w : World) (hm : xs.length ≤ 1000) (hs : a.spot = none) (hc : ∀ i x, xs[i]? = some x → w.cell? ⟨a.block, a.off + i, none⟩ = some (.int .i64 x)) :
    Calls Try.prog 56 #[.slice (some a) xs.length cap] w fun e w' => e = .returned (.int .i64 (orF xs)) ∧ w' = w := by
  obtain ⟨b, off, sp⟩ := a
  subst hs
  obtain ⟨len, hlen⟩ : ∃ len, len = xs.length := ⟨_, rfl⟩
  rw [← hlen] at hm ⊢
  have HL := Lib.hid hlen
  have HC := Lib.hid hc
  clear hlen hc
  go_enter Try.func56, Try.ntmps56
  go_wp2
  go_loopw [8] (fun u wr => ∃ k : Nat, k ≤ len ∧ u = .int .i64 k ∧ Hid (orF xs = orF (xs.drop k)) ∧ Hid (wr = w)) (fun u _ => len - (intOf u).toNat)
  case atStart => exact ⟨0, Nat.zero_le _, rfl, by simp [Hid], rfl⟩
  case round =>
    obtain ⟨k, hk, rfl, ho, he⟩ := hrel
    obtain rfl := he.out
    clear he
    by_cases hlt : k < len
    · obtain ⟨x, hx⟩ : ∃ n, xs[k]? = some n := ⟨_, List.getElem?_eq_getElem (by rw [← HL.out]; exact hlt)⟩
      have g0 := HC.out k _ hx
      have HX := Lib.hid hx
      clear hx
      by_cases q : x = 0
      · subst q
        have HO := Lib.hid (ho.out.trans (orF_skip HX.out))
        clear ho
        go_wp2
        go_roundw
        case rel => exact ⟨k + 1, by omega, by go_num, HO.out, Lib.hid trivial⟩
        case measure => simp [intOf]; omega
      · have d1 : (x != 0) = true := by simpa using q
        have HO := Lib.hid (ho.out.trans (orF_drop HX.out q))
        clear ho q
        go_wp2
        go_ret
        exact ⟨ret_int HO.out.symm, rfl⟩
    · have hk' : k = len := by omega
      subst hk'
      have e0 : orF xs = 0 := by rw [ho.out, HL.out, List.drop_length]; rfl
      clear ho
      have HO := Lib.hid e0
      clear e0
      go_wp2
      go_ret
      exact ⟨ret_int HO.out.symm, rfl⟩

/-- compare's answer. -/
def cmpP (x y : S29) : Int := orF [Lib.compareInt x.f0 y.f0, Lib.compareInt x.f1 y.f1, Lib.compareInt x.f2 y.f2, Lib.compareInt x.f3 y.f3, Lib.compareBytes x.f4.data.toList y.f4.data.toList]

set_option maxRecDepth 100000 in
set_option maxHeartbeats 4000000 in
theorem compare46_of (hC : ∀ a b W, Calls Try.prog 57 #[.int .i64 a, .int .i64 b] W fun e w' => e = .returned (.int .i64 (Lib.compareInt a b)) ∧ w' = W)
    (hS : ∀ a b W, Calls Try.prog 58 #[.string a, .string b] W fun e w' => e = .returned (.int .i64 (Lib.compareBytes a.data.toList b.data.toList)) ∧ w' = W)
    (x y : S29) (w : World) : Calls Try.prog 46 #[x.val, y.val] w fun e w' => e = .returned (.int .i64 (cmpP x y)) ∧ ∃ (q : Nat) (A B C : Array Value), w' = (((w.alloc (.cells A 29)).alloc (.cells B 29)).drewN q).alloc (.cells C 3) := by
  obtain ⟨t, d, f, p, n⟩ := x
  obtain ⟨t2, d2, f2, p2, n2⟩ := y
  unfold S29.val cmpP
  simp only []
  have K1 := Lib.hid (hC t t2)
  have K2 := Lib.hid (hC d d2)
  have K3 := Lib.hid (hC f f2)
  have K4 := Lib.hid (hC p p2)
  have K5 := Lib.hid (hS n n2)
  clear hC hS
  generalize Lib.compareInt t t2 = c1 at *
  generalize Lib.compareInt d d2 = c2 at *
  generalize Lib.compareInt f f2 = c3 at *
  generalize Lib.compareInt p p2 = c4 at *
  generalize Lib.compareBytes n.data.toList n2.data.toList = c5 at *
  obtain ⟨w2, hw2⟩ : ∃ w2, w2 = (w.alloc (.cells #[.int .i64 t, .int .i64 d, .int .i64 f, .int .i64 p, .string n] 29)).alloc (.cells #[.int .i64 t2, .int .i64 d2, .int .i64 f2, .int .i64 p2, .string n2] 29) := ⟨_, rfl⟩
  have KO : Calls Try.prog 56 #[.slice (some ⟨w2.heap.size, 0, none⟩) 5 5] (w2.alloc (.cells #[.int .i64 c1, .int .i64 c2, .int .i64 c3, .int .i64 c4, .int .i64 c5] 3)).drew fun e w' => e = .returned (.int .i64 (orF [c1, c2, c3, c4, c5])) ∧ w' = (w2.alloc (.cells #[.int .i64 c1, .int .i64 c2, .int .i64 c3, .int .i64 c4, .int .i64 c5] 3)).drew :=
    or56 ⟨w2.heap.size, 0, none⟩ 5 [c1, c2, c3, c4, c5] _ (by simp) rfl (fun i x hx => by
      show (w2.alloc _).cell? ⟨w2.heap.size, 0 + i, none⟩ = _
      rw [cell_at_new, Nat.zero_add]
      match i, hx with
      | 0, hx | 1, hx | 2, hx | 3, hx | 4, hx => cases hx; rfl)
  have KO := Lib.hid KO
  generalize orF [c1, c2, c3, c4, c5] = r at *
  have ea : ∀ i v, (#[.int .i64 t, .int .i64 d, .int .i64 f, .int .i64 p, .string n] : Array Value)[i]? = some v → w2.cell? ⟨w.heap.size, i, none⟩ = some v := fun i v h => by
    rw [hw2]; exact cell_old ((cell_at_new w _ 29 i).trans h) _
  have eb : ∀ i v, (#[.int .i64 t2, .int .i64 d2, .int .i64 f2, .int .i64 p2, .string n2] : Array Value)[i]? = some v → w2.cell? ⟨w.heap.size + 1, i, none⟩ = some v := fun i v h => by
    rw [hw2]
    have := cell_at_new (w.alloc (.cells #[.int .i64 t, .int .i64 d, .int .i64 f, .int .i64 p, .string n] 29)) #[.int .i64 t2, .int .i64 d2, .int .i64 f2, .int .i64 p2, .string n2] 29 i
    simp only [World.size_alloc] at this
    exact this.trans h
  have HA0 := Lib.hid (ea 0 _ rfl); have HA1 := Lib.hid (ea 1 _ rfl); have HA2 := Lib.hid (ea 2 _ rfl); have HA3 := Lib.hid (ea 3 _ rfl); have HA4 := Lib.hid (ea 4 _ rfl)
  have HB0 := Lib.hid (eb 0 _ rfl); have HB1 := Lib.hid (eb 1 _ rfl); have HB2 := Lib.hid (eb 2 _ rfl); have HB3 := Lib.hid (eb 3 _ rfl); have HB4 := Lib.hid (eb 4 _ rfl)
  have HM := Lib.hid fun (W : World) (hW : Below w2.heap.size w2 W) => (show (W.cell? ⟨w.heap.size, 0, none⟩ = some (.int .i64 t) ∧ W.cell? ⟨w.heap.size, 1, none⟩ = some (.int .i64 d) ∧ W.cell? ⟨w.heap.size, 2, none⟩ = some (.int .i64 f) ∧ W.cell? ⟨w.heap.size, 3, none⟩ = some (.int .i64 p) ∧ W.cell? ⟨w.heap.size, 4, none⟩ = some (.string n) ∧
    W.cell? ⟨w.heap.size + 1, 0, none⟩ = some (.int .i64 t2) ∧ W.cell? ⟨w.heap.size + 1, 1, none⟩ = some (.int .i64 d2) ∧ W.cell? ⟨w.heap.size + 1, 2, none⟩ = some (.int .i64 f2) ∧ W.cell? ⟨w.heap.size + 1, 3, none⟩ = some (.int .i64 p2) ∧ W.cell? ⟨w.heap.size + 1, 4, none⟩ = some (.string n2) ∧ Below w2.heap.size w2 W) from
    ⟨cellK HA0.out hW, cellK HA1.out hW, cellK HA2.out hW, cellK HA3.out hW, cellK HA4.out hW, cellK HB0.out hW, cellK HB1.out hW, cellK HB2.out hW, cellK HB3.out hW, cellK HB4.out hW, hW⟩)
  clear ea eb
  go_enter Try.func46, Try.ntmps46
  go_wp2
  rw [← hw2]
  have HW2 := Lib.hid hw2
  clear hw2
  go_region_held3 (fun W => W.cell? ⟨w.heap.size, 0, none⟩ = some (.int .i64 t) ∧ W.cell? ⟨w.heap.size, 1, none⟩ = some (.int .i64 d) ∧ W.cell? ⟨w.heap.size, 2, none⟩ = some (.int .i64 f) ∧ W.cell? ⟨w.heap.size, 3, none⟩ = some (.int .i64 p) ∧ W.cell? ⟨w.heap.size, 4, none⟩ = some (.string n) ∧
    W.cell? ⟨w.heap.size + 1, 0, none⟩ = some (.int .i64 t2) ∧ W.cell? ⟨w.heap.size + 1, 1, none⟩ = some (.int .i64 d2) ∧ W.cell? ⟨w.heap.size + 1, 2, none⟩ = some (.int .i64 f2) ∧ W.cell? ⟨w.heap.size + 1, 3, none⟩ = some (.int .i64 p2) ∧ W.cell? ⟨w.heap.size + 1, 4, none⟩ = some (.string n2) ∧ Below w2.heap.size w2 W)
    (first | exact HM.out _ (Below.refl _ _).drew | exact HM.out _ (Below.alloc (Below.refl _ _).drew (Nat.le_refl _) _))
    (first
      | (go_at_call_has 57 (Value.int IntKind.i64 t); refine (K1.out _).mono ?_; rintro e w' ⟨rfl, rfl⟩)
      | (go_at_call_has 57 (Value.int IntKind.i64 d); refine (K2.out _).mono ?_; rintro e w' ⟨rfl, rfl⟩)
      | (go_at_call_has 57 (Value.int IntKind.i64 f); refine (K3.out _).mono ?_; rintro e w' ⟨rfl, rfl⟩)
      | (go_at_call_has 57 (Value.int IntKind.i64 p); refine (K4.out _).mono ?_; rintro e w' ⟨rfl, rfl⟩)
      | (go_at_call 58; refine (K5.out _).mono ?_; rintro e w' ⟨rfl, rfl⟩)
      | (go_at_call 56; refine KO.out.mono ?_; rintro e w' ⟨rfl, rfl⟩))
  go_wp2
  go_ret
  exact ⟨rfl, 1, _, _, _, by rw [← HW2.out]; rfl⟩

open Go.Sort in
theorem compare46 (x y : S29) (w : World) : Calls Try.prog 46 #[x.val, y.val] w fun e w' => e = .returned (.int .i64 (cmpP x y)) ∧ ∃ q os, w' = grow (w.drewN q) os := by
  refine (compare46_of Try.cmp_Compare_int Try.strings_Compare x y w).mono ?_
  rintro e w' ⟨rfl, q, A, B, C, rfl⟩
  refine ⟨rfl, q, #[.cells A 29, .cells B 29] ++ #[.cells C 3], ?_⟩
  have h1 : (w.alloc (.cells A 29)).alloc (.cells B 29) = grow w #[.cells A 29, .cells B 29] := by rw [alloc_eq_grow, alloc_eq_grow, grow_grow]; rfl
  rw [h1, alloc_eq_grow, ← grow_grow]
  rfl
end Go.Proofs.Ytihpiejlfdinaaa.PF
