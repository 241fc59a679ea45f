import Derived.WalkKit
import Derived.KernelRfl
import Derived.Deep.QuietTactic
import Derived.BigQuiet
import Derived.Maps.Own
import Derived.Maps.OwnOps
import Derived.Maps.OwnSet
import Derived.Lib.Hide
/-
  General words, over any program: a map that reads as a function on keys; a row of cells.
-/
namespace Go.My
open Go Go.RowKit Go.Maps

/-! ### a map as a function -/

/-- How keys of a Lean type are written as Go values and read as literals. -/
structure KeyEnc (P : Program) (k : TypeId) (κ : Type) where
  ek : κ → Value
  lk : κ → Lit
  ok : κ → Prop
  key : ∀ {x : κ}, ok x → keyOf P k (ek x) = some (lk x)
  inj : ∀ {x y : κ}, lk x = lk y → x = y

def hv (v : Value) : Option (DataW Value × List MemPlace) := some (.held v, [])

variable {P : Program} {k e t : TypeId} {κ α : Type}

/-- Block b of w is a map of at most n entries that holds just what f tells. -/
def MapIs (E : KeyEnc P k κ) (ev : α → Value) (w : World) (b n : Nat) (f : κ → Option α) : Prop :=
  ∃ D : DataW Value, w.ownsMap P k hv b n D ∧ (∀ kl, has D kl = true → ∃ x, E.ok x ∧ kl = E.lk x) ∧
    (∀ x, f x = none → has D (E.lk x) = false) ∧ (∀ x a, f x = some a → E.ok x ∧ has D (E.lk x) = true ∧ ∀ z, D.atKey (E.lk x) z = .held (ev a))

theorem atKey_of_has {H : Type} {D : DataW H} {kl : Lit} (h : has D kl = true) : ∃ y, ∀ z, D.atKey kl z = y := by
  cases D <;> try (cases h; done)
  rename_i es
  obtain ⟨p, hp, hpk⟩ := List.any_eq_true.1 h
  have hs : (es.find? (fun p => p.1.sameKey kl)).isSome = true := List.find?_isSome.2 ⟨p, hp, hpk⟩
  obtain ⟨x, hx⟩ := Option.isSome_iff_exists.1 hs
  exact ⟨x.2, fun z => by simp [DataW.atKey, hx]⟩

theorem MapIs.made (E : KeyEnc P k κ) (ev : α → Value) (w : World) : MapIs E ev (w.alloc (.map #[] 0)) w.heap.size 0 (fun _ => none) :=
  ⟨_, World.ownsMap_made w P k hv, fun kl h => by simp [has] at h, fun _ _ => rfl, fun _ _ h => by cases h⟩

theorem MapIs.kept {E : KeyEnc P k κ} {ev : α → Value} {w w' : World} {b n : Nat} {f : κ → Option α} {row : Option Nat} (h : MapIs E ev w b n f) (hg : w.grownBy w' row) (hne : some b ≠ row) : MapIs E ev w' b n f := by
  obtain ⟨D, h1, h2⟩ := h
  exact ⟨D, h1.kept hg hne, h2⟩

theorem MapIs.lt {E : KeyEnc P k κ} {ev : α → Value} {w : World} {b n : Nat} {f : κ → Option α} (h : MapIs E ev w b n f) : b < w.heap.size := by
  obtain ⟨D, h1, _⟩ := h
  exact h1.lt

theorem MapIs.block {E : KeyEnc P k κ} {ev : α → Value} {w w' : World} {b n : Nat} {f : κ → Option α} (h : MapIs E ev w b n f) (hb : w'.heap[b]? = w.heap[b]?) : MapIs E ev w' b n f := by
  obtain ⟨D, ⟨es, clock, h1, h2⟩, h3⟩ := h
  exact ⟨D, ⟨es, clock, hb.trans h1, h2⟩, h3⟩

theorem MapIs.below {E : KeyEnc P k κ} {ev : α → Value} {w w' : World} {b n B : Nat} {f : κ → Option α} (h : MapIs E ev w b n f) (hB : Below B w w') (hb : b < B) : MapIs E ev w' b n f :=
  h.block (hB.block b hb)

theorem MapIs.alloc {E : KeyEnc P k κ} {ev : α → Value} {w : World} {b n : Nat} {f : κ → Option α} (h : MapIs E ev w b n f) (o : Obj) : MapIs E ev (w.alloc o) b n f :=
  h.block (Below.heap_alloc _ _ _ h.lt)

theorem MapIs.drew {E : KeyEnc P k κ} {ev : α → Value} {w : World} {b n : Nat} {f : κ → Option α} (h : MapIs E ev w b n f) : MapIs E ev w.drew b n f := h

theorem MapIs.setCell {E : KeyEnc P k κ} {ev : α → Value} {w : World} {b n : Nat} {f : κ → Option α} (h : MapIs E ev w b n f) {a : Addr} (ha : b ≠ a.block) (u : Value) : MapIs E ev (w.setCell a u) b n f :=
  h.block (Below.heap_setCell _ _ _ _ ha)

theorem MapIs.mono {E : KeyEnc P k κ} {ev : α → Value} {w : World} {b n n' : Nat} {f : κ → Option α} (h : MapIs E ev w b n f) (hn : n ≤ n') : MapIs E ev w b n' f := by
  obtain ⟨D, h1, h2⟩ := h
  exact ⟨D, h1.mono hn, h2⟩

theorem MapIs.congr {E : KeyEnc P k κ} {ev : α → Value} {w : World} {b n : Nat} {f g : κ → Option α} (h : MapIs E ev w b n f) (hfg : ∀ x, f x = g x) : MapIs E ev w b n g := by
  have : f = g := funext hfg
  exact this ▸ h

/-- What a look-up gives, in this very world. -/
theorem MapIs.look {E : KeyEnc P k κ} {ev : α → Value} {w : World} {b n : Nat} {f : κ → Option α} (h : MapIs E ev w b n f) (K : Keyed P k) (ht : P.underlying t = some (.map k e)) {z : Value} (hz : (zeroValue e).run P w = .ok z w) {x : κ} (hx : E.ok x) :
    (Instr.lookup t (.map (some b)) (E.ek x) true).run P w = .ok (.tuple #[(f x).elim z ev, .bool (f x).isSome]) w ∧ (Instr.lookup t (.map (some b)) (E.ek x) false).run P w = .ok ((f x).elim z ev) w := by
  obtain ⟨D, h1, h2, h3, h4⟩ := h
  obtain ⟨v, ps, r1, q1⟩ := h1.look_ok K ht hz (R := hv) (zd := .held z) (zp := []) rfl (E.key hx)
  obtain ⟨v', ps', r2, q2⟩ := h1.lookup K ht hz (R := hv) (zd := .held z) (zp := []) rfl (E.key hx)
  simp only [hv, Option.some.injEq, Prod.mk.injEq] at q1 q2
  cases hf : f x with
  | none =>
    have hh := h3 x hf
    rw [atKey_of_not_has hh] at q1 q2
    injection q1.1 with e1
    injection q2.1 with e2
    rw [r1, r2, hh, e1, e2]
    exact ⟨rfl, rfl⟩
  | some a =>
    obtain ⟨_, hh, ha⟩ := h4 x a hf
    rw [ha] at q1 q2
    injection q1.1 with e1
    injection q2.1 with e2
    rw [r1, r2, hh, e1, e2]
    exact ⟨rfl, rfl⟩

def upd [DecidableEq κ] (f : κ → Option α) (x : κ) (a : Option α) : κ → Option α := fun y => if y = x then a else f y

theorem MapIs.putD [DecidableEq κ] {E : KeyEnc P k κ} {ev : α → Value} {f : κ → Option α} {D : DataW Value} (K : Keyed P k) {x : κ} (hx : E.ok x) (a : α) (hm : IsMap D) (h2 : ∀ kl, has D kl = true → ∃ x, E.ok x ∧ kl = E.lk x)
    (h3 : ∀ x, f x = none → has D (E.lk x) = false) (h4 : ∀ x a, f x = some a → E.ok x ∧ has D (E.lk x) = true ∧ ∀ z, D.atKey (E.lk x) z = .held (ev a)) :
    (∀ kl, has (D.put (E.lk x) (.held (ev a))) kl = true → ∃ x, E.ok x ∧ kl = E.lk x) ∧ (∀ y, upd f x (some a) y = none → has (D.put (E.lk x) (.held (ev a))) (E.lk y) = false) ∧
      (∀ y a', upd f x (some a) y = some a' → E.ok y ∧ has (D.put (E.lk x) (.held (ev a))) (E.lk y) = true ∧ ∀ z, (D.put (E.lk x) (.held (ev a))).atKey (E.lk y) z = .held (ev a')) := by
  have hk := K.key (E.key hx)
  refine ⟨fun kl h => ?_, fun y h => ?_, fun y a' h => ?_⟩
  · by_cases hkl : kl = E.lk x
    · exact ⟨x, hx, hkl⟩
    · rw [has_put_other hkl] at h
      exact h2 kl h
  · unfold upd at h
    by_cases hy : y = x
    · rw [if_pos hy] at h; cases h
    · rw [if_neg hy] at h
      rw [has_put_other (fun e => hy (E.inj e))]
      exact h3 y h
  · unfold upd at h
    by_cases hy : y = x
    · rw [if_pos hy] at h
      injection h with h
      subst hy; subst h
      exact ⟨hx, has_put_same hm hk _, fun z => atKey_put_same hm hk _ z⟩
    · rw [if_neg hy] at h
      have hne : E.lk y ≠ E.lk x := fun e => hy (E.inj e)
      obtain ⟨p1, p2, p3⟩ := h4 y a' h
      exact ⟨p1, by rw [has_put_other hne]; exact p2, fun z => by rw [atKey_put_other hne]; exact p3 z⟩

theorem MapIs.put [DecidableEq κ] {E : KeyEnc P k κ} {ev : α → Value} {w : World} {b n : Nat} {f : κ → Option α} (h : MapIs E ev w b n f) (K : Keyed P k) (ht : P.underlying t = some (.map k e)) (hn : n < maxLen) {x : κ} (hx : E.ok x) (a : α) :
    ∃ w', (Instr.mapUpdate t (.map (some b)) (E.ek x) (ev a)).run P w = .ok () w' ∧ MapIs E ev w' b (n + 1) (upd f x (some a)) ∧ w.grownBy w' (some b) := by
  obtain ⟨D, h1, h2, h3, h4⟩ := h
  obtain ⟨w', r1, r2, r3⟩ := h1.update (t := t) (e := e) K ht hn (E.key hx) (val := ev a) (d := .held (ev a)) (ps := []) rfl
  exact ⟨w', r1, ⟨_, r2, MapIs.putD K hx a h1.isMap h2 h3 h4⟩, r3⟩

theorem MapIs.delD [DecidableEq κ] {E : KeyEnc P k κ} {ev : α → Value} {f : κ → Option α} {D : DataW Value} {x : κ} (h2 : ∀ kl, has D kl = true → ∃ x, E.ok x ∧ kl = E.lk x)
    (h3 : ∀ x, f x = none → has D (E.lk x) = false) (h4 : ∀ x a, f x = some a → E.ok x ∧ has D (E.lk x) = true ∧ ∀ z, D.atKey (E.lk x) z = .held (ev a)) :
    (∀ kl, has (D.del (E.lk x)) kl = true → ∃ x, E.ok x ∧ kl = E.lk x) ∧ (∀ y, upd f x none y = none → has (D.del (E.lk x)) (E.lk y) = false) ∧
      (∀ y a', upd f x none y = some a' → E.ok y ∧ has (D.del (E.lk x)) (E.lk y) = true ∧ ∀ z, (D.del (E.lk x)).atKey (E.lk y) z = .held (ev a')) := by
  refine ⟨fun kl h => ?_, fun y h => ?_, fun y a' h => ?_⟩
  · by_cases hkl : kl = E.lk x
    · subst hkl; rw [has_del_same] at h; cases h
    · rw [has_del_other hkl] at h
      exact h2 kl h
  · unfold upd at h
    by_cases hy : y = x
    · subst hy; exact has_del_same
    · rw [if_neg hy] at h
      rw [has_del_other (fun e => hy (E.inj e))]
      exact h3 y h
  · unfold upd at h
    by_cases hy : y = x
    · rw [if_pos hy] at h; cases h
    · rw [if_neg hy] at h
      have hne : E.lk y ≠ E.lk x := fun e => hy (E.inj e)
      obtain ⟨p1, p2, p3⟩ := h4 y a' h
      exact ⟨p1, by rw [has_del_other hne]; exact p2, fun z => by rw [atKey_del_other hne]; exact p3 z⟩

/-! ### the laws at the operation -/

theorem wpList_look {E : KeyEnc P k κ} {ev : α → Value} {w : World} {b n : Nat} {f : κ → Option α} {ops : Array Oper} {rest : List Oper} {o : Oper} {a : Act} {Q : Exit → Act → World → Prop}
    (hg : o.guard = none) (m y : Operand) (t : TypeId) (hop : o.op = Op.lookup t m y true) (K : Keyed P k) (ht : P.underlying t = some (.map k e)) {z : Value} (hz : (zeroValue e).run P w = .ok z w)
    (hm : a.eval m = .map (some b)) (h : MapIs E ev w b n f) {x : κ} (hx : E.ok x) (hy : a.eval y = E.ek x)
    (hK : wpList P ops Q rest (a.put o.dst (.tuple #[(f x).elim z ev, .bool (f x).isSome])) w) : wpList P ops Q (o :: rest) a w := by
  refine wpList_plain hg fun K' hK' => ?_
  have hrun := (h.look K ht hz hx).1
  unfold Oper.wp
  simp [execOp, hop, hm, hy, hrun, Result.andThen]
  exact hK' _ _ hK

theorem wpList_get {E : KeyEnc P k κ} {ev : α → Value} {w : World} {b n : Nat} {f : κ → Option α} {ops : Array Oper} {rest : List Oper} {o : Oper} {a : Act} {Q : Exit → Act → World → Prop}
    (hg : o.guard = none) (m y : Operand) (t : TypeId) (hop : o.op = Op.lookup t m y false) (K : Keyed P k) (ht : P.underlying t = some (.map k e)) {z : Value} (hz : (zeroValue e).run P w = .ok z w)
    (hm : a.eval m = .map (some b)) (h : MapIs E ev w b n f) {x : κ} (hx : E.ok x) (hy : a.eval y = E.ek x)
    (hK : wpList P ops Q rest (a.put o.dst ((f x).elim z ev)) w) : wpList P ops Q (o :: rest) a w := by
  refine wpList_plain hg fun K' hK' => ?_
  have hrun := (h.look K ht hz hx).2
  unfold Oper.wp
  simp [execOp, hop, hm, hy, hrun, Result.andThen]
  exact hK' _ _ hK

theorem wpList_put [DecidableEq κ] {E : KeyEnc P k κ} {ev : α → Value} {w : World} {b n : Nat} {f : κ → Option α} {ops : Array Oper} {rest : List Oper} {o : Oper} {a : Act} {Q : Exit → Act → World → Prop}
    (hg : o.guard = none) (m y v : Operand) (t : TypeId) (hop : o.op = Op.mapUpdate t m y v) (K : Keyed P k) (ht : P.underlying t = some (.map k e))
    (hm : a.eval m = .map (some b)) (h : MapIs E ev w b n f) (hn : n < maxLen) {x : κ} (hx : E.ok x) (hy : a.eval y = E.ek x) {c : α} (hv : a.eval v = ev c)
    (hK : ∀ w', MapIs E ev w' b (n + 1) (upd f x (some c)) → w.grownBy w' (some b) → wpList P ops Q rest (a.put o.dst undef) w') : wpList P ops Q (o :: rest) a w := by
  refine wpList_plain hg fun K' hK' => ?_
  obtain ⟨w', hrun, r2, r3⟩ := h.put (t := t) K ht hn hx c
  unfold Oper.wp
  simp [execOp, hop, hm, hy, hv, hrun, Result.andThen]
  exact hK' _ _ (hK w' r2 r3)

theorem wpList_del [DecidableEq κ] {E : KeyEnc P k κ} {ev : α → Value} {w : World} {b n : Nat} {f : κ → Option α} {ops : Array Oper} {rest : List Oper} {o : Oper} {a : Act} {Q : Exit → Act → World → Prop}
    (hg : o.guard = none) (m y : Operand) (t : TypeId) (hop : o.op = Op.call { callee := Callee.builtin Builtin.delete, args := #[m, y], argTypes := #[t, k] }) (K : Keyed P k) (ht : P.underlying t = some (.map k e))
    (hm : a.eval m = .map (some b)) (h : MapIs E ev w b n f) {x : κ} (hx : E.ok x) (hy : a.eval y = E.ek x)
    (hK : ∀ w', MapIs E ev w' b n (upd f x none) → w.mapTurned w' b → wpList P ops Q rest (a.put o.dst (.tuple #[])) w') : wpList P ops Q (o :: rest) a w := by
  obtain ⟨D, h1, h2, h3, h4⟩ := h
  exact wpList_delete_own w hg m y t k hop e K ht hv b n D hm h1 (E.ek x) (E.lk x) hy (E.key hx) (fun w' q1 q2 => hK w' ⟨_, q1, MapIs.delD h2 h3 h4⟩ q2)

/-- Keys of Go's int. -/
def intKey {P : Program} {k : TypeId} (hk : P.underlying k = some (.int .i64)) : KeyEnc P k Int where
  ek x := .int .i64 x
  lk x := .int .i64 x
  ok x := (Lit.int .i64 x).wf = true
  key h := keyOf_int_mk hk h
  inj h := by injection h

end Go.My
