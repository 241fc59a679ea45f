import Derived.Test.YtihpiejlfdinaaaBase
import Derived.Maps.OwnIn
namespace Go.My
open Go Go.RowKit Go.Maps

section
variable {P : Program} {k e t : TypeId} {κ α : Type} {F : Fence} {nF : Nat}

theorem wpListIn_look {E : KeyEnc P k κ} {ev : α → Value} {w : World} {b n : Nat} {f : κ → Option α} {ops : Array Oper} {rest : List Oper} {o : Oper} {a : Act} {Q : Exit → Act → World → Prop}
    (hg : o.guard = none) (m y : Operand) (t : TypeId) (hop : o.op = Op.lookup t m y true) (K : Keyed P k) (ht : P.underlying t = some (.map k e)) {z : Value} (hz : (zeroValue e).run P w = .ok z w)
    (hm : a.eval m = .map (some b)) (h : MapIs E ev w b n f) {x : κ} (hx : E.ok x) (hy : a.eval y = E.ek x)
    (hK : wpListIn F nF P ops Q rest (a.put o.dst (.tuple #[(f x).elim z ev, .bool (f x).isSome])) w) : wpListIn F nF P ops Q (o :: rest) a w := by
  refine wpListIn_plain hg fun K' hK' => ?_
  have hrun := (h.look K ht hz hx).1
  unfold Oper.wpIn
  refine ⟨by simp [Oper.about, hop], ?_⟩
  rw [Oper.semAt_plain F _ _ (by rw [hop]; intro c hc'; cases hc')]
  simp [execOp, hop, hm, hy, hrun, Result.andThen]
  exact hK' _ _ hK

theorem wpListIn_get {E : KeyEnc P k κ} {ev : α → Value} {w : World} {b n : Nat} {f : κ → Option α} {ops : Array Oper} {rest : List Oper} {o : Oper} {a : Act} {Q : Exit → Act → World → Prop}
    (hg : o.guard = none) (m y : Operand) (t : TypeId) (hop : o.op = Op.lookup t m y false) (K : Keyed P k) (ht : P.underlying t = some (.map k e)) {z : Value} (hz : (zeroValue e).run P w = .ok z w)
    (hm : a.eval m = .map (some b)) (h : MapIs E ev w b n f) {x : κ} (hx : E.ok x) (hy : a.eval y = E.ek x)
    (hK : wpListIn F nF P ops Q rest (a.put o.dst ((f x).elim z ev)) w) : wpListIn F nF P ops Q (o :: rest) a w := by
  refine wpListIn_plain hg fun K' hK' => ?_
  have hrun := (h.look K ht hz hx).2
  unfold Oper.wpIn
  refine ⟨by simp [Oper.about, hop], ?_⟩
  rw [Oper.semAt_plain F _ _ (by rw [hop]; intro c hc'; cases hc')]
  simp [execOp, hop, hm, hy, hrun, Result.andThen]
  exact hK' _ _ hK

theorem wpListIn_put [DecidableEq κ] {E : KeyEnc P k κ} {ev : α → Value} {w : World} {b n : Nat} {f : κ → Option α} {ops : Array Oper} {rest : List Oper} {o : Oper} {a : Act} {Q : Exit → Act → World → Prop}
    (hg : o.guard = none) (m y v : Operand) (t : TypeId) (hop : o.op = Op.mapUpdate t m y v) (K : Keyed P k) (ht : P.underlying t = some (.map k e))
    (hm : a.eval m = .map (some b)) (h : MapIs E ev w b n f) (hn : n < maxLen) {x : κ} (hx : E.ok x) (hy : a.eval y = E.ek x) {c : α} (hv : a.eval v = ev c)
    (hK : ∀ w', MapIs E ev w' b (n + 1) (upd f x (some c)) → w.grownBy w' (some b) → wpListIn F nF P ops Q rest (a.put o.dst undef) w') : wpListIn F nF P ops Q (o :: rest) a w := by
  refine wpListIn_plain hg fun K' hK' => ?_
  obtain ⟨w', hrun, r2, r3⟩ := h.put (t := t) K ht hn hx c
  unfold Oper.wpIn
  refine ⟨by simp [Oper.about, hop], ?_⟩
  rw [Oper.semAt_plain F _ _ (by rw [hop]; intro c hc'; cases hc')]
  simp [execOp, hop, hm, hy, hv, hrun, Result.andThen]
  exact hK' _ _ (hK w' r2 r3)
end
end Go.My
