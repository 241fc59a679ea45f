import Derived.WalkKit
import Derived.OrdersIn
import Derived.TacticsIn
/-
  A region that draws its order of evaluation, order by order: every order that the draw can give is one of a list that the kernel reckons.
-/
namespace Go.My
open Go

/-- All orders that a region's edges allow. -/
def allGo (md : Region.Mode) (ops : Array Oper) : Nat → Array Bool → List Nat → List (List Nat)
  | 0, _, acc => [acc.reverse]
  | fuel + 1, listed, acc =>
    if (Region.ready md ops listed).isEmpty then [acc.reverse] else (Region.ready md ops listed).flatMap fun i => allGo md ops fuel (listed.setIfInBounds i true) (i :: acc)

theorem go_mem (md : Region.Mode) (ops : Array Oper) : ∀ (fuel t : Nat) (listed : Array Bool) (acc : List Nat), Region.linearise.go md ops fuel t listed acc ∈ allGo md ops fuel listed acc
  | 0, t, listed, acc => by simp [Region.linearise.go, allGo]
  | fuel + 1, t, listed, acc => by
    unfold Region.linearise.go allGo
    change (match (Region.ready md ops listed)[t % (Region.ready md ops listed).length]? with
      | some i => Region.linearise.go md ops fuel (t / (Region.ready md ops listed).length) (listed.setIfInBounds i true) (i :: acc)
      | none => acc.reverse) ∈ _
    generalize Region.ready md ops listed = rs
    cases rs with
    | nil => simp
    | cons r rs =>
      have hlt : t % (r :: rs).length < (r :: rs).length := Nat.mod_lt _ (by simp)
      rw [List.getElem?_eq_getElem hlt]
      simp only [List.isEmpty_cons, Bool.false_eq_true, if_false]
      exact List.mem_flatMap.2 ⟨_, List.getElem_mem hlt, go_mem md ops fuel _ _ _⟩

def pick (ops : Array Oper) (l : List Nat) : List Oper := l.filterMap fun i => ops[i]?

section
variable {F : Fence} {n : Nat} {P : Program} {ops : Array Oper} {Q : Exit → Act → World → Prop}

theorem wpOpsIn_pick : ∀ l : List Nat, wpOpsIn F n P ops Q l = wpListIn F n P ops Q (pick ops l)
  | [] => by funext a w; simp [pick, wpOpsIn, wpListIn]
  | i :: l => by
    have ih := wpOpsIn_pick l
    funext a w
    simp only [wpOpsIn, pick, List.filterMap_cons]
    cases h : ops[i]? with
    | none => simp only; rw [ih]; rfl
    | some o => simp only [wpListIn]; rw [ih]; rfl

theorem wpOps_pick : ∀ l : List Nat, wpOps P ops Q l = wpList P ops Q (pick ops l)
  | [] => by funext a w; simp [pick, wpOps, wpList]
  | i :: l => by
    have ih := wpOps_pick l
    funext a w
    simp only [wpOps, pick, List.filterMap_cons]
    cases h : ops[i]? with
    | none => simp only; rw [ih]; rfl
    | some o => simp only [wpList]; rw [ih]; rfl

theorem region_ordersIn {id : Nat} {a : Act} {w : World} (hm : P.follows .mixedOrders = true) (L : List (List Nat)) (hL : allGo .any ops ops.size (Array.replicate ops.size false) [] = L)
    (h : ∀ l ∈ L, wpListIn F n P ops Q (pick ops l) a w.drew) : (Code.region id ops true).wpIn F n P Q a w :=
  wpIn_region_draw fun t => by
    simp only [Region.schedule, hm, Bool.true_or, if_true]
    rw [wpOpsIn_pick]
    exact h _ (hL ▸ go_mem .any ops ops.size t _ [])

theorem region_orders {id : Nat} {a : Act} {w : World} (hm : P.follows .mixedOrders = true) (L : List (List Nat)) (hL : allGo .any ops ops.size (Array.replicate ops.size false) [] = L)
    (h : ∀ l ∈ L, wpList P ops Q (pick ops l) a w.drew) : (Code.region id ops true).wp P Q a w :=
  wp_region_draw fun t => by
    simp only [Region.schedule, hm, Bool.true_or, if_true]
    rw [wpOps_pick]
    exact h _ (hL ▸ go_mem .any ops ops.size t _ [])

theorem pick_nil (l : List Oper) : pick l.toArray [] = [] := rfl
theorem pick_cons (l : List Oper) (i : Nat) (r : List Nat) : pick l.toArray (i :: r) = (l[i]?).toList ++ pick l.toArray r := by
  unfold pick
  rw [List.filterMap_cons]
  simp only [List.getElem?_toArray]
  cases l[i]? <;> rfl
end
end Go.My
