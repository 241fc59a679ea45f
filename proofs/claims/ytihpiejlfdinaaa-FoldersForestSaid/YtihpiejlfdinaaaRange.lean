import Derived.RangeFuncNested
import Derived.RangeFuncBound
import Derived.RangeFuncCalls
import Derived.RangeFuncLeaves
import Derived.Shelf.Abstract
import Derived.Shelf.RegionOpen
import Derived.WalkKit
import Derived.OwnWalkIn
import Derived.TacticsInMore
import Derived.LoopNIn
import Derived.LoopIn
import Derived.Lib.Hide
/-
  A range over a function whose elements are known: the iterator's contract and the loop's law, by footprints: what each side may change is a set of blocks.
-/
namespace Go.My
open Go Go.RowKit

/-- From w to w': of the blocks that lay, only those of S have turned. -/
structure Chg (S : Nat → Prop) (w w' : World) : Prop where
  os : w'.os = w.os
  tape : w'.tape = w.tape
  output : w'.output = w.output
  size : w.heap.size ≤ w'.heap.size
  same : ∀ k, k < w.heap.size → ¬ S k → w'.heap[k]? = w.heap[k]?

def nob : Nat → Prop := fun _ => False

theorem Chg.refl (S : Nat → Prop) (w : World) : Chg S w w := ⟨rfl, rfl, rfl, Nat.le_refl _, fun _ _ _ => rfl⟩
theorem Chg.trans {S T : Nat → Prop} {a b c : World} (h : Chg S a b) (k : Chg T b c) (hT : ∀ i, T i → S i ∨ a.heap.size ≤ i) : Chg S a c :=
  ⟨k.os.trans h.os, k.tape.trans h.tape, k.output.trans h.output, Nat.le_trans h.size k.size, fun i hi hs =>
    (k.same i (Nat.lt_of_lt_of_le hi h.size) (fun ht => by rcases hT i ht with h' | h'; exact hs h'; omega)).trans (h.same i hi hs)⟩
theorem Chg.mono {S T : Nat → Prop} {a b : World} (h : Chg S a b) (hT : ∀ i, S i → T i) : Chg T a b :=
  ⟨h.os, h.tape, h.output, h.size, fun i hi hs => h.same i hi (fun h' => hs (hT i h'))⟩
theorem Chg.weak {S T : Nat → Prop} {a b : World} (h : Chg S a b) (hT : ∀ i, i < a.heap.size → S i → T i) : Chg T a b :=
  ⟨h.os, h.tape, h.output, h.size, fun i hi hs => h.same i hi (fun h' => hs (hT i hi h'))⟩
theorem Chg.drew {S : Nat → Prop} {a b : World} (h : Chg S a b) : Chg S a b.drew := ⟨h.os, h.tape, h.output, h.size, h.same⟩
theorem Chg.drewN {S : Nat → Prop} {a b : World} (h : Chg S a b) (n : Nat) : Chg S a (b.drewN n) := ⟨h.os, h.tape, h.output, h.size, h.same⟩
theorem _root_.Go.Boxed.drewN {W : World} {B : Nat} {t : TypeId} {v : Value} (h : Boxed W B t v) (n : Nat) : Boxed (W.drewN n) B t v := h
theorem Chg.alloc {S : Nat → Prop} {a b : World} (h : Chg S a b) (o : Obj) : Chg S a (b.alloc o) :=
  ⟨h.os, h.tape, h.output, by have := h.size; simp; omega, fun k hk hs => (Below.heap_alloc _ _ _ (Nat.lt_of_lt_of_le hk h.size)).trans (h.same k hk hs)⟩
theorem Chg.setCell {S : Nat → Prop} {a b : World} (h : Chg S a b) {p : Addr} (hp : S p.block ∨ a.heap.size ≤ p.block) (v : Value) : Chg S a (b.setCell p v) :=
  ⟨h.os, h.tape, h.output, by have := h.size; simpa [World.setCell] using this, fun k hk hs => (Below.heap_setCell _ _ _ _ (fun e => by subst e; rcases hp with h' | h'; exact hs h'; omega)).trans (h.same k hk hs)⟩
theorem Chg.putObj {S : Nat → Prop} {a b : World} (h : Chg S a b) {r : Nat} (hp : S r ∨ a.heap.size ≤ r) (o : Obj) : Chg S a (b.putObj r o) :=
  ⟨h.os, h.tape, h.output, by have := h.size; simpa [World.putObj] using this, fun k hk hs => (World.putObj_heap_other (fun e => by subst e; rcases hp with h' | h'; exact hs h'; omega)).trans (h.same k hk hs)⟩
theorem Chg.grown {S : Nat → Prop} {a b c : World} {row : Option Nat} (h : Chg S a b) (hg : b.grownBy c row) (hr : ∀ k, row = some k → S k ∨ a.heap.size ≤ k) : Chg S a c :=
  ⟨hg.os.trans h.os, hg.tape.trans h.tape, hg.output.trans h.output, Nat.le_trans h.size hg.size, fun k hk hs =>
    (hg.block k (Nat.lt_of_lt_of_le hk h.size) (fun e => by rcases hr k e.symm with h' | h'; exact hs h'; omega)).trans (h.same k hk hs)⟩
theorem Chg.below {S : Nat → Prop} {a b : World} {B : Nat} (h : Chg S a b) (hS : ∀ k, S k → B ≤ k) (hB : B ≤ a.heap.size) : Below B a b :=
  ⟨h.os, h.tape, h.output, h.size, fun k hk => h.same k (by omega) (fun hs => by have := hS k hs; omega)⟩
theorem Chg.of_below {a b : World} {B : Nat} (h : Below B a b) : Chg (fun k => B ≤ k) a b :=
  ⟨h.os, h.tape, h.output, h.size, fun k _ hs => h.block k (by omega)⟩
theorem Chg.of_below' {a b : World} (h : Below a.heap.size a b) : Chg nob a b :=
  ⟨h.os, h.tape, h.output, h.size, fun k hk _ => h.block k hk⟩
theorem Chg.cell {S : Nat → Prop} {w w' : World} (h : Chg S w w') {p : Addr} {v : Value} (hc : w.cell? p = some v) (hp : ¬ S p.block) : w'.cell? p = some v := by
  have hlt : p.block < w.heap.size := by
    by_cases h : p.block < w.heap.size
    · exact h
    · simp [World.cell?, Array.getElem?_eq_none (Nat.le_of_not_lt h)] at hc
  exact (World.cell?_of_block (h.same p.block hlt hp)).trans hc

/-- A fact on memory that hangs on the blocks F alone. -/
structure Framed (J : (Nat → Prop) → World → Prop) : Prop where
  lt : ∀ {F W}, J F W → ∀ k, F k → k < W.heap.size
  frame : ∀ {F W W'}, J F W → W.heap.size ≤ W'.heap.size → (∀ k, F k → W'.heap[k]? = W.heap[k]?) → J F W'

theorem Framed.chg {J : (Nat → Prop) → World → Prop} (h : Framed J) {F S : Nat → Prop} {W W' : World} (hJ : J F W) (hc : Chg S W W') (hd : ∀ k, F k → ¬ S k) : J F W' :=
  h.frame hJ hc.size (fun k hk => hc.same k (h.lt hJ k hk) (hd k hk))

theorem RoundIn.wide {m m' : Nat} {P : Program} {l : Nat} {f : FuncId} {tmps : Array Value} {assign body : Code} {w : World} {R : Ending → World → Prop} (h : RoundIn Fence.wide m P l f tmps assign body w R) :
    RoundIn Fence.wide m' P l f tmps assign body w R :=
  ⟨h.1, fun c cs _ => h.2 c cs (fun _ hd => by cases hd)⟩

theorem YieldAt.monoM {F : Fence} {m : Nat} {P : Program} {l : Nat} {args : Array Value} {W : World} {R R' : Ending → World → Prop} (h : YieldAt F m P l args W R) (hr : ∀ e w, R e w → R' e w) : YieldAt F m P l args W R' := by
  obtain ⟨fn, tmps, assign, body, hy, hR⟩ := h
  exact ⟨fn, tmps, assign, body, hy, hR.mono hr⟩

/-- How one round ends. -/
def RoundEnd (J : Nat → (Nat → Prop) → World → Prop) (Jx : Nat → (Nat → Prop) → World → Prop) (i : Nat) (F : Nat → Prop) (W : World) (e : Ending) (W' : World) : Prop :=
  ∃ F', Chg F W W' ∧ (∀ k, F' k → F k ∨ W.heap.size ≤ k) ∧ ((e = .returned (.bool true) ∧ J (i + 1) F' W') ∨ (e = .returned (.bool false) ∧ Jx (i + 1) F' W'))

/-- How the iterator ends. -/
def IterEnd {α : Type} (xs : List α) (M : Nat → Prop) (J : Nat → (Nat → Prop) → World → Prop) (Jx : Nat → (Nat → Prop) → World → Prop) (F : Nat → Prop) (W : World) (e : Ending) (W' : World) : Prop :=
  (∃ v, e = .returned v) ∧ ∃ F', Chg (fun k => F k ∨ M k) W W' ∧ (∀ k, F' k → F k ∨ W.heap.size ≤ k) ∧ (J xs.length F' W' ∨ ∃ i, i ≤ xs.length ∧ Jx i F' W')

/-- The contract of an iterator that yields just xs, in this order: it changes the blocks M, and reads and changes the blocks K. -/
def Iter {α : Type} (P : Program) (g : Nat) (lb : Array Value) (encs : α → Array Value) (xs : List α) (M K : Nat → Prop) (Pre : World → Prop) : Prop :=
  ∀ (l : Nat) (J Jx : Nat → (Nat → Prop) → World → Prop) (F : Nat → Prop) (W : World), (∀ i, Framed (J i)) → (∀ i, Framed (Jx i)) → Pre W → (∀ k, F k → ¬ K k) →
    (∀ m i x F W1, xs[i]? = some x → J i F W1 → YieldAt Fence.wide m P l (encs x) W1 (RoundEnd J Jx i F W1)) →
    J 0 F W → Calls P g (#[.func (.yield l) #[] #[]] ++ lb) W (IterEnd xs M J Jx F W)

/-- How the body of a round may be left. -/
def roundQ (J : Nat → (Nat → Prop) → World → Prop) (Jx : Code → Nat → (Nat → Prop) → World → Prop) (i : Nat) (F : Nat → Prop) (W : World) : Exit → Act → World → Prop
  | .normal, _, W' => ∃ F', Chg F W W' ∧ (∀ k, F' k → F k ∨ W.heap.size ≤ k) ∧ J (i + 1) F' W'
  | .ret, _, W' => ∃ F', Chg F W W' ∧ (∀ k, F' k → F k ∨ W.heap.size ≤ k) ∧ Jx .ret (i + 1) F' W'
  | .exit id, _, W' => ∃ F', Chg F W W' ∧ (∀ k, F' k → F k ∨ W.heap.size ≤ k) ∧ Jx (.exit id) (i + 1) F' W'
  | .goto t, _, W' => ∃ F', Chg F W W' ∧ (∀ k, F' k → F k ∨ W.heap.size ≤ k) ∧ Jx (.goto t) (i + 1) F' W'
  | .panic _, _, _ => False
  | .outgrown, _, _ => False

variable {P : Program}

/-- The loop's record and the block for deferred calls, beside the caller's own footprint. -/
def withRec (l : Nat) (d : Option Nat) (o : Obj) (J : (Nat → Prop) → World → Prop) (F' : Nat → Prop) (W : World) : Prop :=
  ∃ F, (∀ k, F' k ↔ F k ∨ k = l ∨ some k = d) ∧ J F W ∧ ¬ F l ∧ (∀ e, d = some e → ¬ F e ∧ e ≠ l ∧ W.heap[e]? = some (.deferred (some []))) ∧ W.heap[l]? = some o

theorem withRec_framed {l : Nat} {d : Option Nat} {o : Obj} {J : (Nat → Prop) → World → Prop} (hJ : Framed J) : Framed (withRec l d o J) where
  lt := by
    rintro F' W ⟨F, hF, hj, hl, hd, ho⟩ k hk
    rcases (hF k).1 hk with h | rfl | h
    · exact hJ.lt hj k h
    · exact (Array.getElem?_eq_some_iff.1 ho).1
    · exact (Array.getElem?_eq_some_iff.1 (hd k h.symm).2.2).1
  frame := by
    rintro F' W W' ⟨F, hF, hj, hl, hd, ho⟩ hs hk
    exact ⟨F, hF, hJ.frame hj hs (fun k h => hk k ((hF k).2 (.inl h))), hl, fun e he => ⟨(hd e he).1, (hd e he).2.1, (hk e ((hF e).2 (.inr (.inr he.symm)))).trans (hd e he).2.2⟩, (hk l ((hF l).2 (.inr (.inl rfl)))).trans ho⟩

/-- The law, for a loop at the outer level (d = some _) and for one within a round (d = none). -/
theorem range_core {α : Type} {ps : Array Tmp} {assign body : Code} {a : Act} {l : Nat} {d : Option Nat} {fn : FuncId} {gf : Nat} {lb : Array Value}
    {encs : α → Array Value} {xs : List α} {M K : Nat → Prop} {Pre : World → Prop} (hit : Iter P gf lb encs xs M K Pre) (hps : ∀ x, (encs x).size = ps.size)
    (dn : Nat) (rec : LoopState → Option Code → Loop) (hrec : rec = fun st pe => { state := st, pending := pe, fn, tmps := a.tmps, params := ps, assign, body, defers := dn })
    (W1 : World) (hpre : Pre W1) (hL : W1.heap[l]? = some (.loop (rec .ready none))) (hD : ∀ e, d = some e → e ≠ l ∧ W1.heap[e]? = some (.deferred (some [])))
    (J : Nat → (Nat → Prop) → World → Prop) (Jx : Code → Nat → (Nat → Prop) → World → Prop) (hJ : ∀ i, Framed (J i)) (hJx : ∀ c i, Framed (Jx c i))
    (F0 : Nat → Prop) (hF0 : ∀ k, F0 k → ¬ K k) (hlK : ¬ K l) (hdK : ∀ e, d = some e → ¬ K e) (hFl : ¬ F0 l) (hFd : ∀ e, d = some e → ¬ F0 e) (h0 : J 0 F0 W1)
    (Ax : Nat → α → Act → World → Prop) (hAx : ∀ i x a' W W', Ax i x a' W → (∀ (k : Nat) (o : Obj), W.heap[k]? = some o → o.isCells = true → W'.heap[k]? = some o) → Ax i x a' W')
    (hassign : ∀ (l i : Nat) (x : α) (F : Nat → Prop) (W : World) (Kc : Act → World → Prop), xs[i]? = some x → J i F W → (∀ a' W', Chg nob W W' → Ax i x a' W' → Kc a' W') →
      assign.wpIn (Fence.wide.inRound l) 9 P (Exit.then Kc (fun _ _ _ => False)) { tmps := (ps.zip (encs x)).foldl (fun t (p, v) => t.setIfInBounds p v) a.tmps, defers := [] } W)
    (hbody : ∀ (l i : Nat) (x : α) (a' : Act) (F : Nat → Prop) (W : World), xs[i]? = some x → J i F W → ¬ F l → (∃ r, W.heap[l]? = some (.loop r)) → Ax i x a' W →
      body.wpIn (Fence.wide.inRound l) 9 P (roundQ J Jx i F W) a' W) :
    Calls P gf (#[.func (.yield l) #[] #[]] ++ lb) W1 fun e W' => (∃ v, e = .returned v) ∧ ∃ F' : Nat → Prop, Chg (fun k => (F0 k ∨ k = l ∨ some k = d) ∨ M k) W1 W' ∧ (∀ k, F' k → F0 k ∨ W1.heap.size ≤ k) ∧
      (withRec l d (.loop (rec .ready none)) (J xs.length) (fun k => F' k ∨ k = l ∨ some k = d) W' ∨ ∃ c i, i ≤ xs.length ∧ withRec l d (.loop (rec .done (some c))) (Jx c i) (fun k => F' k ∨ k = l ∨ some k = d) W') := by
  refine (hit l (fun i => withRec l d (.loop (rec .ready none)) (J i)) (fun i F' W => ∃ c, withRec l d (.loop (rec .done (some c))) (Jx c i) F' W) (fun k => F0 k ∨ k = l ∨ some k = d) W1
    (fun i => withRec_framed (hJ i)) (fun i => ⟨fun ⟨c, h⟩ => (withRec_framed (hJx c i)).lt h, fun ⟨c, h⟩ hs hk => ⟨c, (withRec_framed (hJx c i)).frame h hs hk⟩⟩) hpre ?_ ?_
    ⟨F0, fun _ => Iff.rfl, h0, hFl, fun e he => ⟨hFd e he, hD e he⟩, hL⟩).mono ?_
  · rintro k (h | rfl | h)
    · exact hF0 k h
    · exact hlK
    · exact hdK k h.symm
  · rintro m i x F' W hx ⟨F, hF, hj, hFl, hd, hl⟩
    have hlt : l < W.heap.size := (Array.getElem?_eq_some_iff.1 hl).1
    have hy := run_yield (P := P) (args := encs x) hl (by rw [hrec]; exact hps x)
    rw [hrec] at hy
    refine ⟨fn, _, assign, body, hy, RoundIn.wide (m := 9) (roundIn_of_wpIn trivial (hassign l i x F W _ hx hj ?_))⟩
    intro a' W2 hc2 hax
    have hl2 : W2.heap[l]? = some (.loop (rec .ready none)) := (hc2.same l hlt (fun h => h)).trans hl
    have hlt2 : l < W2.heap.size := (Array.getElem?_eq_some_iff.1 hl2).1
    refine ⟨_, run_beginRound hl2 (by rw [hrec]), ?_⟩
    generalize hW3 : W2.putObj l (.loop { rec .ready none with state := .busy }) = W3
    have hl3 : W3.heap[l]? = some (.loop { rec .ready none with state := .busy }) := by rw [← hW3]; exact World.putObj_heap_same hlt2
    have hc3 : Chg (fun k => k = l) W W3 := by rw [← hW3]; exact Chg.putObj (S := fun k => k = l) (hc2.mono (fun _ h => h.elim)) (.inl rfl) _
    have hj3 : J i F W3 := (hJ i).chg hj hc3 (fun k hk e => hFl (e ▸ hk))
    have hax3 : Ax i x a' W3 := hAx i x a' W2 W3 hax (fun (k : Nat) (o : Obj) hk ho => by
      rw [← hW3]
      by_cases e : k = l
      · subst e; rw [hl2] at hk; cases hk; cases ho
      · exact (World.putObj_heap_other e).trans hk)
    refine wpIn_mono (hbody l i x a' F W3 hx hj3 hFl ⟨_, hl3⟩ hax3) ?_
    -- the round's end
    have fin : ∀ (jump : Option Code) (F1 : Nat → Prop) (W4 : World), Chg F W3 W4 → (∀ k, F1 k → F k ∨ W3.heap.size ≤ k) →
        ∃ W5, (Instr.endRound l jump).run P W4 = .ok (.bool jump.isNone) W5 ∧ W5.heap[l]? = some (.loop (rec (if jump.isNone then .ready else .done) jump)) ∧ Chg (fun k => k = l) W4 W5 ∧
          Chg (fun k => F' k) W W5 ∧ ¬ F1 l ∧ (∀ e, d = some e → ¬ F1 e ∧ e ≠ l ∧ W5.heap[e]? = some (.deferred (some []))) ∧ (∀ k, (F1 k ∨ k = l ∨ some k = d) → F' k ∨ W.heap.size ≤ k) := fun jump F1 W4 hc4 hF1 => by
      have hl4 : W4.heap[l]? = some (.loop { rec .ready none with state := .busy }) := (hc4.same l (Array.getElem?_eq_some_iff.1 hl3).1 hFl).trans hl3
      have hlt4 : l < W4.heap.size := (Array.getElem?_eq_some_iff.1 hl4).1
      have hend := run_endRound (P := P) jump hl4
      have hsz := hc3.size
      refine ⟨_, hend, ?_, Chg.putObj (S := fun k => k = l) (Chg.refl _ _) (.inl rfl) _, ?_, ?_, ?_, ?_⟩
      · rw [hrec]; exact World.putObj_heap_same hlt4
      · refine Chg.putObj ?_ (.inl ((hF l).2 (.inr (.inl rfl)))) _
        refine (hc3.mono (fun k h => (hF k).2 (.inr (.inl h)))).trans hc4 (fun k h => .inl ((hF k).2 (.inl h)))
      · intro h
        rcases hF1 l h with h' | h'
        · exact hFl h'
        · have := (Array.getElem?_eq_some_iff.1 hl3).1; omega
      · intro e he
        obtain ⟨p1, p2, p3⟩ := hd e he
        have hlte : e < W.heap.size := (Array.getElem?_eq_some_iff.1 p3).1
        refine ⟨fun h => ?_, p2, ?_⟩
        · rcases hF1 e h with h' | h'
          · exact p1 h'
          · omega
        · exact (World.putObj_heap_other p2).trans ((hc4.same e (by omega) p1).trans ((hc3.same e hlte (fun h => p2 h)).trans p3))
      · rintro k (h | h | h)
        · rcases hF1 k h with h' | h'
          · exact .inl ((hF k).2 (.inl h'))
          · exact .inr (by omega)
        · exact .inl ((hF k).2 (.inr (.inl h)))
        · exact .inl ((hF k).2 (.inr (.inr h)))
    have jkeep : ∀ {Jz : (Nat → Prop) → World → Prop} {F1 : Nat → Prop} {W4 W5 : World}, Framed Jz → Jz F1 W4 → Chg (fun k => k = l) W4 W5 → ¬ F1 l → Jz F1 W5 := fun hz hj hc hn => hz.chg hj hc (fun k hk e => hn (e ▸ hk))
    rintro e a3 W4 hp
    cases e with
    | normal =>
      obtain ⟨F1, hc4, hF1, hj4⟩ := hp
      obtain ⟨W5, hr, hl5, hc5, hcc, hn1, hd5, hsub⟩ := fin none F1 W4 hc4 hF1
      exact ⟨_, _, hr, fun k => F1 k ∨ k = l ∨ some k = d, hcc, hsub, .inl ⟨rfl, F1, fun _ => Iff.rfl, jkeep (hJ _) hj4 hc5 hn1, hn1, hd5, hl5⟩⟩
    | ret =>
      obtain ⟨F1, hc4, hF1, hj4⟩ := hp
      obtain ⟨W5, hr, hl5, hc5, hcc, hn1, hd5, hsub⟩ := fin (some .ret) F1 W4 hc4 hF1
      exact ⟨_, _, hr, fun k => F1 k ∨ k = l ∨ some k = d, hcc, hsub, .inr ⟨rfl, .ret, F1, fun _ => Iff.rfl, jkeep (hJx _ _) hj4 hc5 hn1, hn1, hd5, hl5⟩⟩
    | exit id =>
      obtain ⟨F1, hc4, hF1, hj4⟩ := hp
      obtain ⟨W5, hr, hl5, hc5, hcc, hn1, hd5, hsub⟩ := fin (some (.exit id)) F1 W4 hc4 hF1
      exact ⟨_, _, hr, fun k => F1 k ∨ k = l ∨ some k = d, hcc, hsub, .inr ⟨rfl, .exit id, F1, fun _ => Iff.rfl, jkeep (hJx _ _) hj4 hc5 hn1, hn1, hd5, hl5⟩⟩
    | goto t =>
      obtain ⟨F1, hc4, hF1, hj4⟩ := hp
      obtain ⟨W5, hr, hl5, hc5, hcc, hn1, hd5, hsub⟩ := fin (some (.goto t)) F1 W4 hc4 hF1
      exact ⟨_, _, hr, fun k => F1 k ∨ k = l ∨ some k = d, hcc, hsub, .inr ⟨rfl, .goto t, F1, fun _ => Iff.rfl, jkeep (hJx _ _) hj4 hc5 hn1, hn1, hd5, hl5⟩⟩
    | panic ch => exact hp.elim
    | outgrown => exact hp.elim
  · rintro e W2 ⟨hv, F', hc, hsub, hend⟩
    have hlW : l < W1.heap.size := (Array.getElem?_eq_some_iff.1 hL).1
    rcases hend with ⟨F, hF, hj, hn, hd, hl⟩ | ⟨i, hi, c, F, hF, hj, hn, hd, hl⟩
    · refine ⟨hv, F, hc, ?_, .inl ⟨F, fun _ => Iff.rfl, hj, hn, hd, hl⟩⟩
      intro k hk
      rcases hsub k ((hF k).2 (.inl hk)) with (h | h | h) | h
      · exact .inl h
      · exact (hn (h ▸ hk)).elim
      · exact ((hd k h.symm).1 hk).elim
      · exact .inr h
    · refine ⟨hv, F, hc, ?_, .inr ⟨c, i, hi, F, fun _ => Iff.rfl, hj, hn, hd, hl⟩⟩
      intro k hk
      rcases hsub k ((hF k).2 (.inl hk)) with (h | h | h) | h
      · exact .inl h
      · exact (hn (h ▸ hk)).elim
      · exact ((hd k h.symm).1 hk).elim
      · exact .inr h

/-- What the loop leaves: F: the caller's blocks now; the world has changed in its own and the iterator's blocks alone. -/
structure Left (F0 M : Nat → Prop) (w : World) (F : Nat → Prop) (W : World) : Prop where
  chg : Chg (fun k => F0 k ∨ M k) w W
  sub : ∀ k, F k → F0 k ∨ w.heap.size ≤ k

/-- **A range over a function at the outer level of a function.** -/
theorem wp_range {α : Type} {n : Nat} {g : Operand} {ps : Array Tmp} {assign body : Code} {Q : Exit → Act → World → Prop} {a : Act} {w : World} {gf : Nat} {lb : Array Value}
    (hg : a.eval g = .func (.func gf) #[] lb) (eg : ∀ args w, (callFunc gf args).run P w = .ok (.enter gf args) w)
    {encs : α → Array Value} {xs : List α} {M K : Nat → Prop} {Pre : World → Prop} (hit : Iter P gf lb encs xs M K Pre) (hpre : ∀ W, Chg nob w W → Pre W) (hK : ∀ k, K k → k < w.heap.size) (hps : ∀ x, (encs x).size = ps.size)
    (J : Nat → (Nat → Prop) → World → Prop) (Jx : Code → Nat → (Nat → Prop) → World → Prop) (hJ : ∀ i, Framed (J i)) (hJx : ∀ c i, Framed (Jx c i))
    (F0 : Nat → Prop) (hF0 : ∀ k, F0 k → ¬ K k) (h0 : J 0 F0 w)
    (Ax : Nat → α → Act → World → Prop) (hAx : ∀ i x a' W W', Ax i x a' W → (∀ (k : Nat) (o : Obj), W.heap[k]? = some o → o.isCells = true → W'.heap[k]? = some o) → Ax i x a' W')
    (hassign : ∀ (l i : Nat) (x : α) (F : Nat → Prop) (W : World) (Kc : Act → World → Prop), xs[i]? = some x → J i F W → (∀ a' W', Chg nob W W' → Ax i x a' W' → Kc a' W') →
      assign.wpIn (Fence.wide.inRound l) 9 P (Exit.then Kc (fun _ _ _ => False)) { tmps := (ps.zip (encs x)).foldl (fun t (p, v) => t.setIfInBounds p v) a.tmps, defers := [] } W)
    (hbody : ∀ (l i : Nat) (x : α) (a' : Act) (F : Nat → Prop) (W : World), xs[i]? = some x → J i F W → ¬ F l → (∃ r, W.heap[l]? = some (.loop r)) → Ax i x a' W →
      body.wpIn (Fence.wide.inRound l) 9 P (roundQ J Jx i F W) a' W)
    (hdone : ∀ (D : Nat) (F : Nat → Prop) (W : World), Left F0 M w F W → J xs.length F W → ¬ F D → w.heap.size ≤ D → W.heap[D]? = some (.deferred (some [])) →
      Q .normal { a with defers := { target := .collected D, args := #[] } :: a.defers } W)
    (hstop : ∀ (D : Nat) (c : Code) (i : Nat) (F : Nat → Prop) (W : World), Left F0 M w F W → i ≤ xs.length → Jx c i F W → ¬ F D → w.heap.size ≤ D → W.heap[D]? = some (.deferred (some [])) →
      c.wpIn Fence.wide n P Q { a with defers := { target := .collected D, args := #[] } :: a.defers } W) :
    (Code.rangeFunc g ps assign body).wpIn Fence.wide n P Q a w := by
  refine wpIn_rangeFunc ?_
  intro fn hfn
  obtain ⟨rec, hrec⟩ : ∃ rec : LoopState → Option Code → Loop, rec = fun st pe => { state := st, pending := pe, fn, tmps := a.tmps, params := ps, assign, body, defers := w.heap.size } := ⟨_, rfl⟩
  obtain ⟨W1, hW1⟩ : ∃ W1, (w.alloc (.deferred (some []))).alloc (.loop (rec .ready none)) = W1 := ⟨_, rfl⟩
  have hL1 : W1.heap[w.heap.size + 1]? = some (.loop (rec .ready none)) := by
    rw [← hW1]; have := World.alloc_heap_new (w.alloc (.deferred (some []))) (.loop (rec .ready none)); rwa [World.size_alloc] at this
  have hK1 : W1.heap[w.heap.size]? = some (.deferred (some [])) := by
    rw [← hW1]; exact (Below.heap_alloc _ _ _ (by simp)).trans (World.alloc_heap_new w _)
  have hc1 : Chg nob w W1 := by rw [← hW1]; exact ((Chg.refl _ _).alloc _).alloc _
  have hsz : W1.heap.size = w.heap.size + 2 := by rw [← hW1]; simp
  have hF0lt : ∀ k, F0 k → k < w.heap.size := (hJ 0).lt h0
  refine ⟨w.heap.size + 1, [{ target := .collected w.heap.size, args := #[] }], W1, { target := .fn (.func gf) lb, args := #[.func (.yield (w.heap.size + 1)) #[] #[]] }, W1, gf,
    #[.func (.yield (w.heap.size + 1)) #[] #[]] ++ lb, W1, ?_, ?_, ?_, ?_, (fun h => by cases h), ?_⟩
  · rw [← hW1, hrec]; exact run_enterLoop_outer _ _ _ _ _
  · simp only [resolve, hg]
    simp [go_sem]
  · intro f' _; trivial
  · simp [invoke, go_sem, eg]
  · refine callsIn_wide.2 ((range_core (l := w.heap.size + 1) (d := some w.heap.size) hit hps w.heap.size rec hrec W1 (hpre W1 hc1) hL1 (fun e he => by cases he; exact ⟨by omega, hK1⟩) J Jx hJ hJx F0 hF0
      (fun h => by have := hK _ h; omega) (fun e he h => by cases he; have := hK _ h; omega) (fun h => by have := hF0lt _ h; omega) (fun e he h => by cases he; have := hF0lt _ h; omega)
      ((hJ 0).chg h0 hc1 (fun _ _ h => h)) Ax hAx hassign hbody).mono ?_)
    rintro e W2 ⟨⟨v, rfl⟩, F, hc, hsub, hend⟩
    have fin : ∀ (Jz : (Nat → Prop) → World → Prop) (st : LoopState) (pe : Option Code), Framed Jz → st ≠ .busy →
        withRec (w.heap.size + 1) (some w.heap.size) (.loop (rec st pe)) Jz (fun k => F k ∨ k = w.heap.size + 1 ∨ some k = some w.heap.size) W2 →
        ∃ W3 F', (Instr.endLoop (w.heap.size + 1)).run P W2 = .ok pe W3 ∧ Left F0 M w F' W3 ∧ Jz F' W3 ∧ ¬ F' w.heap.size ∧ W3.heap[w.heap.size]? = some (.deferred (some [])) := by
      rintro Jz st pe hz hst ⟨F', hF', hj, hn, hd, hl⟩
      obtain ⟨d1, d2, d3⟩ := hd _ rfl
      have hend : (Instr.endLoop (w.heap.size + 1)).run P W2 = .ok pe (W2.putObj (w.heap.size + 1) (.loop { rec st pe with state := .exhausted })) := by
        rw [run_endLoop (P := P) hl (by rw [hrec]; exact hst), hrec]
      refine ⟨_, F', hend, ⟨?_, ?_⟩, ?_, d1, ?_⟩
      · have h2 : Chg (fun k => F0 k ∨ M k) w W2 := (hc1.mono (fun _ h => h.elim)).trans hc (fun k h => by
          rcases h with (h | h | h) | h
          · exact .inl (.inl h)
          · exact .inr (by omega)
          · cases h; exact .inr (Nat.le_refl _)
          · exact .inl (.inr h))
        exact h2.putObj (.inr (by omega)) _
      · intro k hk
        rcases (hF' k).2 (.inl hk) with h | h | h
        · rcases hsub k h with h' | h'
          · exact .inl h'
          · exact .inr (by omega)
        · exact .inr (by omega)
        · cases h; exact .inr (Nat.le_refl _)
      · exact hz.chg hj (Chg.putObj (S := fun k => k = w.heap.size + 1) (Chg.refl _ _) (.inl rfl) _) (fun k hk e => hn (e ▸ hk))
      · exact (World.putObj_heap_other (by omega)).trans d3
    rcases hend with h | ⟨c, i, hi, h⟩
    · obtain ⟨W3, F', hr, hleft, hj, hn, hD⟩ := fin _ .ready none (hJ _) (by simp) h
      exact ⟨none, W3, hr, hdone _ F' W3 hleft hj hn (Nat.le_refl _) hD⟩
    · obtain ⟨W3, F', hr, hleft, hj, hn, hD⟩ := fin _ .done (some c) (hJx c i) (by simp) h
      exact ⟨some c, W3, hr, hstop _ c i F' W3 hleft hi hj hn (Nat.le_refl _) hD⟩

/-- **A range over a function within a round of another.** -/
theorem wp_range_in {α : Type} {n : Nat} {g : Operand} {ps : Array Tmp} {assign body : Code} {Q : Exit → Act → World → Prop} {a : Act} {w : World} {gf : Nat} {lb : Array Value} {l₀ : Nat}
    (hl₀ : ∃ r, w.heap[l₀]? = some (.loop r))
    (hg : a.eval g = .func (.func gf) #[] lb) (eg : ∀ args w, (callFunc gf args).run P w = .ok (.enter gf args) w)
    {encs : α → Array Value} {xs : List α} {M K : Nat → Prop} {Pre : World → Prop} (hit : Iter P gf lb encs xs M K Pre) (hpre : ∀ W, Chg nob w W → Pre W) (hK : ∀ k, K k → k < w.heap.size) (hps : ∀ x, (encs x).size = ps.size)
    (J : Nat → (Nat → Prop) → World → Prop) (Jx : Code → Nat → (Nat → Prop) → World → Prop) (hJ : ∀ i, Framed (J i)) (hJx : ∀ c i, Framed (Jx c i))
    (F0 : Nat → Prop) (hF0 : ∀ k, F0 k → ¬ K k) (h0 : J 0 F0 w)
    (Ax : Nat → α → Act → World → Prop) (hAx : ∀ i x a' W W', Ax i x a' W → (∀ (k : Nat) (o : Obj), W.heap[k]? = some o → o.isCells = true → W'.heap[k]? = some o) → Ax i x a' W')
    (hassign : ∀ (l i : Nat) (x : α) (F : Nat → Prop) (W : World) (Kc : Act → World → Prop), xs[i]? = some x → J i F W → (∀ a' W', Chg nob W W' → Ax i x a' W' → Kc a' W') →
      assign.wpIn (Fence.wide.inRound l) 9 P (Exit.then Kc (fun _ _ _ => False)) { tmps := (ps.zip (encs x)).foldl (fun t (p, v) => t.setIfInBounds p v) a.tmps, defers := [] } W)
    (hbody : ∀ (l i : Nat) (x : α) (a' : Act) (F : Nat → Prop) (W : World), xs[i]? = some x → J i F W → ¬ F l → (∃ r, W.heap[l]? = some (.loop r)) → Ax i x a' W →
      body.wpIn (Fence.wide.inRound l) 9 P (roundQ J Jx i F W) a' W)
    (hdone : ∀ (F : Nat → Prop) (W : World), Left F0 M w F W → J xs.length F W → Q .normal a W)
    (hstop : ∀ (c : Code) (i : Nat) (F : Nat → Prop) (W : World), Left F0 M w F W → i ≤ xs.length → Jx c i F W → c.wpIn (Fence.wide.inRound l₀) n P Q a W) :
    (Code.rangeFunc g ps assign body).wpIn (Fence.wide.inRound l₀) n P Q a w := by
  obtain ⟨r₀, hl₀⟩ := hl₀
  refine wpIn_rangeFunc ?_
  intro fn hfn
  obtain ⟨rec, hrec⟩ : ∃ rec : LoopState → Option Code → Loop, rec = fun st pe => { state := st, pending := pe, fn, tmps := a.tmps, params := ps, assign, body, defers := r₀.defers } := ⟨_, rfl⟩
  obtain ⟨W1, hW1⟩ : ∃ W1, w.alloc (.loop (rec .ready none)) = W1 := ⟨_, rfl⟩
  have hL1 : W1.heap[w.heap.size]? = some (.loop (rec .ready none)) := by rw [← hW1]; exact World.alloc_heap_new w _
  have hc1 : Chg nob w W1 := by rw [← hW1]; exact (Chg.refl _ _).alloc _
  have hsz : W1.heap.size = w.heap.size + 1 := by rw [← hW1]; simp
  have hF0lt : ∀ k, F0 k → k < w.heap.size := (hJ 0).lt h0
  refine ⟨w.heap.size, [], W1, { target := .fn (.func gf) lb, args := #[.func (.yield w.heap.size) #[] #[]] }, W1, gf,
    #[.func (.yield w.heap.size) #[] #[]] ++ lb, W1, ?_, ?_, ?_, ?_, (fun h => by cases h), ?_⟩
  · rw [← hW1, hrec]; exact run_enterLoop_inner hl₀ _ _ _ _ _
  · simp only [resolve, hg]
    simp [go_sem]
  · intro f' _; trivial
  · simp [invoke, go_sem, eg]
  · refine CallsIn.inRound l₀ (callsIn_wide.2 ((range_core (l := w.heap.size) (d := none) hit hps r₀.defers rec hrec W1 (hpre W1 hc1) hL1 (fun e he => by cases he) J Jx hJ hJx F0 hF0
      (fun h => by have := hK _ h; omega) (fun e he => by cases he) (fun h => by have := hF0lt _ h; omega) (fun e he => by cases he)
      ((hJ 0).chg h0 hc1 (fun _ _ h => h)) Ax hAx hassign hbody).mono ?_))
    rintro e W2 ⟨⟨v, rfl⟩, F, hc, hsub, hend⟩
    have fin : ∀ (Jz : (Nat → Prop) → World → Prop) (st : LoopState) (pe : Option Code), Framed Jz → st ≠ .busy →
        withRec w.heap.size none (.loop (rec st pe)) Jz (fun k => F k ∨ k = w.heap.size ∨ some k = none) W2 →
        ∃ W3 F', (Instr.endLoop w.heap.size).run P W2 = .ok pe W3 ∧ Left F0 M w F' W3 ∧ Jz F' W3 := by
      rintro Jz st pe hz hst ⟨F', hF', hj, hn, hd, hl⟩
      have hend : (Instr.endLoop w.heap.size).run P W2 = .ok pe (W2.putObj w.heap.size (.loop { rec st pe with state := .exhausted })) := by
        rw [run_endLoop (P := P) hl (by rw [hrec]; exact hst), hrec]
      refine ⟨_, F', hend, ⟨?_, ?_⟩, ?_⟩
      · have h2 : Chg (fun k => F0 k ∨ M k) w W2 := (hc1.mono (fun _ h => h.elim)).trans hc (fun k h => by
          rcases h with (h | h | h) | h
          · exact .inl (.inl h)
          · exact .inr (by omega)
          · cases h
          · exact .inl (.inr h))
        exact h2.putObj (.inr (Nat.le_refl _)) _
      · intro k hk
        rcases (hF' k).2 (.inl hk) with h | h | h
        · rcases hsub k h with h' | h'
          · exact .inl h'
          · exact .inr (by omega)
        · exact .inr (by omega)
        · cases h
      · exact hz.chg hj (Chg.putObj (S := fun k => k = w.heap.size) (Chg.refl _ _) (.inl rfl) _) (fun k hk e => hn (e ▸ hk))
    rcases hend with h | ⟨c, i, hi, h⟩
    · obtain ⟨W3, F', hr, hleft, hj⟩ := fin _ .ready none (hJ _) (by simp) h
      exact ⟨none, W3, hr, hdone F' W3 hleft hj⟩
    · obtain ⟨W3, F', hr, hleft, hj⟩ := fin _ .done (some c) (hJx c i) (by simp) h
      exact ⟨some c, W3, hr, hstop c i F' W3 hleft hi hj⟩

end Go.My
