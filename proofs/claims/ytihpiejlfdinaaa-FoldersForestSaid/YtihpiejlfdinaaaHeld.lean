import Derived.Deep.RegionHeld3
import Derived.WalkKit
/-
  A region that draws its order, its operations taken in the text's order: each that only reads, in every world that meets S; those whose guard says no.
-/
namespace Go.My
open Go

section
variable {P : Program} {ops : Array Oper} {Q : Exit → Act → World → Prop} {md : Region.Mode} {S : World → Prop}

theorem takeT {i dst : Nat} {op : Op} {ty : TypeId} {pos : String} {after : Array Edge} {guard : Option (Nat × Bool)} {v : Value} {fuel : Nat} {listed : Array Bool} {tmps : Array Value} {ds : List Deferred} {w : World}
    (hi : ops[i]? = some ⟨some dst, op, ty, pos, after, guard⟩) (hs : Region.noSelect ops = true) (hf : Region.free md ops listed i = true) (hr : (Region.ready md ops listed).contains i = true)
    (hQ : ∀ c a w, Q (.panic c) (a.put (some dst) v) w → Q (.panic c) a w) (hw : Region.wanted ⟨some dst, op, ty, pos, after, guard⟩ (yielded ops tmps) = true)
    (hy : ∀ w, S w → (execOp (Act.eval ⟨tmps, ds⟩) ⟨some dst, op, ty, pos, after, guard⟩).run P w = .ok (.value v) w) (hS : S w)
    (h : wpAnyH P md ops Q S fuel (listed.setIfInBounds i true) ⟨tmps.setIfInBounds dst v, ds⟩ w) : wpAnyH P md ops Q S (fuel + 1) listed ⟨tmps, ds⟩ w :=
  wpAnyH_take hi hs hf hr hQ (.inl ⟨hw, hy⟩) hS h

theorem skipT {i dst : Nat} {op : Op} {ty : TypeId} {pos : String} {after : Array Edge} {guard : Option (Nat × Bool)} {fuel : Nat} {listed : Array Bool} {tmps : Array Value} {ds : List Deferred} {w : World}
    (hi : ops[i]? = some ⟨some dst, op, ty, pos, after, guard⟩) (hs : Region.noSelect ops = true) (hf : Region.free md ops listed i = true) (hr : (Region.ready md ops listed).contains i = true)
    (hQ : ∀ c a w, Q (.panic c) (a.put (some dst) undef) w → Q (.panic c) a w) (hw : Region.wanted ⟨some dst, op, ty, pos, after, guard⟩ (yielded ops tmps) = false) (hS : S w)
    (h : wpAnyH P md ops Q S fuel (listed.setIfInBounds i true) ⟨tmps.setIfInBounds dst undef, ds⟩ w) : wpAnyH P md ops Q S (fuel + 1) listed ⟨tmps, ds⟩ w :=
  wpAnyH_take hi hs hf hr hQ (.inr ⟨hw, rfl⟩) hS h
end
end Go.My
