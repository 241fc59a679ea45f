import Derived.Test.YtihpiejlfdinaaaBase2
import Derived.Test.YtihpiejlfdinaaaRange
import Derived.Test.YtihpiejlfdinaaaOrders
import Derived.Test.YtihpiejlfdinaaaHeld
import Derived.Sort.AtCall
import Derived.BigQuiet
import Derived.Laws.ResultCell
/-
  Small general words, over any program.
-/
namespace Go.My
open Go Go.RowKit Go.Maps

theorem ret_int {k : IntKind} {a b : Int} (h : a = b) : Ending.returned (.int k a) = .returned (.int k b) := by rw [h]
theorem ret_bool {a b : Bool} (h : a = b) : Ending.returned (.bool a) = .returned (.bool b) := by rw [h]
theorem lt_of_cell {w : World} {p : Addr} {v : Value} (hc : w.cell? p = some v) : p.block < w.heap.size := by
  by_cases h : p.block < w.heap.size
  · exact h
  · simp [World.cell?, Array.getElem?_eq_none (Nat.le_of_not_lt h)] at hc
theorem cell_old {w : World} {p : Addr} {v : Value} (h : w.cell? p = some v) (o : Obj) : (w.alloc o).cell? p = some v := (((Below.refl _ w).alloc (Nat.le_refl _) o).cell (lt_of_cell h)).trans h
theorem cellK {w w' : World} {p : Addr} {v : Value} (h : w.cell? p = some v) (hB : Below w.heap.size w w') : w'.cell? p = some v := (hB.cell (lt_of_cell h)).trans h
theorem cell_step {w w' : World} {o : Obj} {p : Addr} {v : Value} (h : w.cell? p = some v) (hB : Below (w.alloc o).heap.size (w.alloc o) w') : w'.cell? p = some v := cellK (cell_old h o) hB
theorem cell_new {w w' : World} {t : TypeId} {v : Value} (hB : Below (w.alloc (.cells #[v] t)).heap.size (w.alloc (.cells #[v] t)) w') : w'.cell? ⟨w.heap.size, 0, none⟩ = some v := cellK (Boxed.new w t v).cell hB
theorem cell_at_new (w : World) (cs : Array Value) (t : TypeId) (i : Nat) : (w.alloc (.cells cs t)).cell? ⟨w.heap.size, i, none⟩ = cs[i]? := by
  have := World.alloc_heap_new w (.cells cs t)
  simp only [World.cell?, this]
  rfl
theorem take_snoc {α : Type} {xs : List α} {k : Nat} {n : α} (h : xs[k]? = some n) : xs.take (k + 1) = xs.take k ++ [n] := by
  rw [List.take_add_one, h]; rfl
theorem below_drewN (w : World) (k : Nat) : Below w.heap.size w (w.drewN k) := ⟨rfl, rfl, rfl, Nat.le_refl _, fun _ _ => rfl⟩
theorem undrew {B : Nat} {w w' : World} (h : Below B w.drew w') : Below B w w' := ⟨h.os, h.tape, h.output, h.size, h.block⟩
theorem below_step {B : Nat} {a b c : World} (h : Below B a b) (hB : B ≤ b.heap.size) (k : Below b.heap.size b c) : Below B a c := h.trans (k.mono hB)
theorem below_step' {B : Nat} {a b c : World} {o : Obj} (h : Below B a b) (hB : B ≤ b.heap.size) (k : Below (b.alloc o).heap.size (b.alloc o) c) : Below B a c := (h.alloc hB o).trans (k.mono (by simp; omega))
theorem framed_false : Framed (fun _ _ => False) := ⟨fun h => h.elim, fun h => h.elim⟩
theorem _root_.Go.Boxed.only {W : World} {B i : Nat} {t : TypeId} {v u : Value} (h : Boxed W B t v) (hc : W.cell? ⟨B, i, none⟩ = some u) : u = v := by
  have h' : W.heap[B]? = some (.cells #[v] t (0, 0)) := h
  simp only [World.cell?, h'] at hc
  simp at hc
  cases i with
  | zero => simpa using hc.symm
  | succ i => simp at hc
theorem MapIs.nocell {P : Program} {k : TypeId} {κ α : Type} {E : KeyEnc P k κ} {ev : α → Value} {w : World} {b n : Nat} {f : κ → Option α} (h : MapIs E ev w b n f) {p : Addr} (hp : p.block = b) : w.cell? p = none := by
  obtain ⟨D, ⟨es, c, h1, _⟩, _⟩ := h
  obtain ⟨pb, po, pp⟩ := p
  subst hp
  simp [World.cell?, h1]
theorem Chg.kept {S : Nat → Prop} {w w' : World} {B : Nat} {t : TypeId} {v : Value} (h : Chg S w w') (hb : Boxed w B t v) (hS : ¬ S B) : Boxed w' B t v := (h.same B hb.lt hS).trans hb
theorem wf_small {x : Int} (h0 : -9223372036854775808 ≤ x) (h1 : x ≤ 9223372036854775807) : (Lit.int .i64 x).wf = true := by
  have := wrap64_wf x
  rwa [show wrap64 x = x from by unfold wrap64; omega] at this
theorem ownsRow_frame {W W' : World} {base size n : Nat} {e : TypeId} {v : Value} {xs : List Value} (h : W.ownsRow base e size v n xs) (hk : ∀ j, v.ownBlock = some j → W'.heap[j]? = W.heap[j]?) : W'.ownsRow base e size v n xs := by
  obtain ⟨h1, h2⟩ := h
  refine ⟨h1, ?_⟩
  rcases h2 with h2 | ⟨g, cap, cur, rfl, hg, hh, r⟩
  · exact .inl h2
  · exact .inr ⟨g, cap, cur, rfl, hg, (hk g (by simp [Value.ownBlock])).trans hh, r⟩
end Go.My
