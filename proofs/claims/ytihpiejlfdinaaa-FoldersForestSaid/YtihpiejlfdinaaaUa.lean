import Derived.Test.YtihpiejlfdinaaaDe
import Derived.Lib.Bytealg
/-
  The order of places, and the list of the valid ones.
-/
namespace Go.Proofs.Ytihpiejlfdinaaa.PF
open Go

/-! ### strings -/
theorem bl_irrefl : ∀ a : List UInt8, Op.bytesLess a a = false
  | [] => rfl
  | a :: x => by
    have h : decide (a < a) = false := decide_eq_false (UInt8.lt_irrefl a)
    simp only [Op.bytesLess, h, Bool.false_or, bl_irrefl x, Bool.and_false]
theorem bl_cons {a b : UInt8} {x y : List UInt8} : Op.bytesLess (a :: x) (b :: y) = true ↔ a.toNat < b.toNat ∨ a.toNat = b.toNat ∧ Op.bytesLess x y = true := by
  simp only [Op.bytesLess, Bool.or_eq_true, decide_eq_true_eq, Bool.and_eq_true, beq_iff_eq]
  constructor
  · rintro (h | ⟨h, h'⟩)
    · exact .inl h
    · exact .inr ⟨by rw [h], h'⟩
  · rintro (h | ⟨h, h'⟩)
    · exact .inl h
    · exact .inr ⟨UInt8.toNat_inj.1 h, h'⟩
theorem bl_trans : ∀ {a b c : List UInt8}, Op.bytesLess a b = true → Op.bytesLess b c = true → Op.bytesLess a c = true
  | [], [], _, h, _ => by cases h
  | [], _ :: _, [], _, h => by cases h
  | [], _ :: _, _ :: _, _, _ => rfl
  | _ :: _, [], _, h, _ => by cases h
  | _ :: _, _ :: _, [], _, h => by cases h
  | a :: x, b :: y, c :: z, h1, h2 => by
    rw [bl_cons] at h1 h2 ⊢
    rcases h1 with h1 | ⟨h1, h1'⟩ <;> rcases h2 with h2 | ⟨h2, h2'⟩
    · left; omega
    · left; omega
    · left; omega
    · right; exact ⟨by omega, bl_trans h1' h2'⟩
theorem bl_total : ∀ {a b : List UInt8}, Op.bytesLess a b = false → Op.bytesLess b a = false → a = b
  | [], [], _, _ => rfl
  | [], _ :: _, h, _ => by cases h
  | _ :: _, [], _, h => by cases h
  | a :: x, b :: y, h1, h2 => by
    have h1' : ¬ Op.bytesLess (a :: x) (b :: y) = true := by rw [h1]; decide
    have h2' : ¬ Op.bytesLess (b :: y) (a :: x) = true := by rw [h2]; decide
    rw [bl_cons] at h1' h2'
    have e : a.toNat = b.toNat := by omega
    have e' := UInt8.toNat_inj.1 e
    subst e'
    exact congrArg (a :: ·) (bl_total (by cases h : Op.bytesLess x y with | false => rfl | true => exact (h1' (.inr ⟨rfl, h⟩)).elim) (by cases h : Op.bytesLess y x with | false => rfl | true => exact (h2' (.inr ⟨rfl, h⟩)).elim))
theorem bl_asymm {a b : List UInt8} (h : Op.bytesLess a b = true) : Op.bytesLess b a = false := by
  cases h' : Op.bytesLess b a with
  | false => rfl
  | true => have := bl_trans h h'; rw [bl_irrefl] at this; cases this
theorem bl_ntrans {a b c : List UInt8} (h1 : Op.bytesLess a b = false) (h2 : Op.bytesLess b c = false) : Op.bytesLess a c = false := by
  cases h : Op.bytesLess a c with
  | false => rfl
  | true =>
    cases h3 : Op.bytesLess b a with
    | true => have := bl_trans h3 h; rw [h2] at this; cases this
    | false => have := bl_total h1 h3; subst this; rw [h2] at h; cases h

/-! ### places -/
def lexI (a b : Int) (r : Bool) : Bool := if a ≠ b then decide (a < b) else r
theorem less_lex (x y : S29) : x.less y = lexI x.f0 y.f0 (lexI x.f1 y.f1 (lexI x.f2 y.f2 (lexI x.f3 y.f3 (Op.bytesLess x.f4.data.toList y.f4.data.toList)))) := rfl
theorem lexI_self (a : Int) (r : Bool) : lexI a a r = r := by simp [lexI]
theorem lexI_trans {a b c : Int} {r1 r2 r3 : Bool} (h1 : lexI a b r1 = true) (h2 : lexI b c r2 = true) (h : r1 = true → r2 = true → r3 = true) : lexI a c r3 = true := by
  unfold lexI at *
  split at h1 <;> split at h2 <;> split <;> simp at * <;> first | omega | exact h h1 h2
theorem lexI_ntrans {a b c : Int} {r1 r2 r3 : Bool} (h1 : lexI a b r1 = false) (h2 : lexI b c r2 = false) (h : r1 = false → r2 = false → r3 = false) : lexI a c r3 = false := by
  unfold lexI at *
  split at h1 <;> split at h2 <;> split <;> simp at * <;> first | omega | exact h h1 h2
theorem lexI_total {a b : Int} {r1 r2 : Bool} (h1 : lexI a b r1 = false) (h2 : lexI b a r2 = false) : a = b ∧ r1 = false ∧ r2 = false := by
  unfold lexI at *
  split at h1 <;> split at h2 <;> simp at * <;> first | omega | exact ⟨by omega, h1, h2⟩

theorem S29.ext' {x y : S29} (h0 : x.f0 = y.f0) (h1 : x.f1 = y.f1) (h2 : x.f2 = y.f2) (h3 : x.f3 = y.f3) (h4 : x.f4.data.toList = y.f4.data.toList) : x = y := by
  obtain ⟨a, b, c, d, ⟨⟨n⟩⟩⟩ := x
  obtain ⟨a', b', c', d', ⟨⟨n'⟩⟩⟩ := y
  simp at h0 h1 h2 h3 h4
  subst h0; subst h1; subst h2; subst h3; subst h4
  rfl
theorem less_irrefl (x : S29) : x.less x = false := by rw [less_lex]; simp only [lexI_self]; exact bl_irrefl _
theorem less_trans {x y z : S29} (h1 : x.less y = true) (h2 : y.less z = true) : x.less z = true := by
  rw [less_lex] at *
  exact lexI_trans h1 h2 fun h1 h2 => lexI_trans h1 h2 fun h1 h2 => lexI_trans h1 h2 fun h1 h2 => lexI_trans h1 h2 bl_trans
theorem less_ntrans {x y z : S29} (h1 : x.less y = false) (h2 : y.less z = false) : x.less z = false := by
  rw [less_lex] at *
  exact lexI_ntrans h1 h2 fun h1 h2 => lexI_ntrans h1 h2 fun h1 h2 => lexI_ntrans h1 h2 fun h1 h2 => lexI_ntrans h1 h2 bl_ntrans
theorem less_total {x y : S29} (h1 : x.less y = false) (h2 : y.less x = false) : x = y := by
  rw [less_lex] at *
  obtain ⟨e0, h1, h2⟩ := lexI_total h1 h2
  obtain ⟨e1, h1, h2⟩ := lexI_total h1 h2
  obtain ⟨e2, h1, h2⟩ := lexI_total h1 h2
  obtain ⟨e3, h1, h2⟩ := lexI_total h1 h2
  exact S29.ext' e0 e1 e2 e3 (bl_total h1 h2)
theorem less_asymm {x y : S29} (h : x.less y = true) : y.less x = false := by
  cases h' : y.less x with
  | false => rfl
  | true => have := less_trans h h'; rw [less_irrefl] at this; cases this

/-! ### the list of the valid places -/
abbrev Sorted (l : List S29) : Prop := l.Pairwise fun x y => y.less x = false
theorem ins_perm (x : S29) : ∀ l : List S29, (ins x l).Perm (x :: l)
  | [] => .refl _
  | y :: ys => by
    unfold ins
    split
    · exact .refl _
    · exact ((ins_perm x ys).cons y).trans (.swap x y ys)
theorem ins_sorted (x : S29) : ∀ {l : List S29}, Sorted l → Sorted (ins x l)
  | [], _ => List.pairwise_singleton _ _
  | y :: ys, h => by
    unfold ins
    have h := List.pairwise_cons.1 h
    split
    · rename_i hx
      refine List.pairwise_cons.2 ⟨fun z hz => ?_, List.pairwise_cons.2 h⟩
      rcases List.mem_cons.1 hz with rfl | hz
      · exact less_asymm hx
      · exact less_ntrans (h.1 z hz) (less_asymm hx)
    · rename_i hx
      refine List.pairwise_cons.2 ⟨fun z hz => ?_, ins_sorted x h.2⟩
      rcases List.mem_cons.1 ((ins_perm x ys).mem_iff.1 hz) with rfl | hz
      · simpa using hx
      · exact h.1 z hz
def insAll (l acc : List S29) : List S29 := l.foldl (fun acc x => if x.ok then ins x acc else acc) acc
theorem insAll_spec : ∀ (l acc : List S29), Sorted acc → Sorted (insAll l acc) ∧ (insAll l acc).Perm (l.filter S29.ok ++ acc)
  | [], acc, h => ⟨h, .refl _⟩
  | x :: l, acc, h => by
    unfold insAll
    rw [List.foldl_cons]
    by_cases hx : x.ok = true
    · rw [if_pos hx, List.filter_cons_of_pos hx]
      obtain ⟨h1, h2⟩ := insAll_spec l (ins x acc) (ins_sorted x h)
      refine ⟨h1, h2.trans ?_⟩
      refine (List.Perm.append_left _ (ins_perm x acc)).trans ?_
      exact List.perm_middle
    · rw [if_neg hx, List.filter_cons_of_neg hx]
      exact insAll_spec l acc h
theorem sortV_sorted (l : List S29) : Sorted (sortV l) := (insAll_spec l [] List.Pairwise.nil).1
theorem sortV_perm (l : List S29) : (sortV l).Perm (l.filter S29.ok) := by have := (insAll_spec l [] List.Pairwise.nil).2; rwa [List.append_nil] at this
theorem sorted_uniq : ∀ {l m : List S29}, Sorted l → Sorted m → l.Perm m → l = m
  | [], m, _, _, h => (List.nil_perm.1 h).symm
  | x :: l, m, hl, hm, h => by
    cases m with
    | nil => exact (List.cons_ne_nil _ _ (List.perm_nil.1 h)).elim
    | cons y m =>
      have hl' := List.pairwise_cons.1 hl
      have hm' := List.pairwise_cons.1 hm
      have e : x = y := by
        have hx : x ∈ y :: m := h.mem_iff.1 List.mem_cons_self
        have hy : y ∈ x :: l := h.mem_iff.2 List.mem_cons_self
        rcases List.mem_cons.1 hx with e | hx
        · exact e
        · rcases List.mem_cons.1 hy with e | hy
          · exact e.symm
          · exact less_total (hm'.1 x hx) (hl'.1 y hy)
      subst e
      rw [sorted_uniq hl'.2 hm'.2 ((List.perm_cons x).1 h)]
theorem mem_sortV {l : List S29} {x : S29} : x ∈ sortV l ↔ x ∈ l ∧ x.ok = true := by
  rw [(sortV_perm l).mem_iff, List.mem_filter]
theorem sortV_length (l : List S29) : (sortV l).length ≤ l.length := by
  rw [(sortV_perm l).length_eq]; exact List.length_filter_le _ _
/-! ### the folders above a folder -/

/-- The way up from a folder ends within k steps. -/
def ends (F : Forest) : Nat → Int → Prop
  | 0, _ => False
  | k + 1, x => ∀ q, F x = some q → 0 ≤ q.f3 → ends F k q.f3
theorem upF_step {F : Forest} {k : Nat} {x : Int} {q : S29} (h : F x = some q) (h0 : 0 ≤ q.f3) : upF F (k + 1) x = q.f3 :: upF F k q.f3 := by
  simp only [upF, h]; rw [if_neg (by omega)]
theorem upF_stop {F : Forest} {k : Nat} {x : Int} (h : ∀ q, F x = some q → q.f3 < 0) : upF F k x = [] := by
  cases k with
  | zero => rfl
  | succ k =>
    cases hf : F x with
    | none => simp [upF, hf]
    | some q => simp only [upF, hf]; rw [if_pos (h q hf)]

/-- What a forest's places are. -/
def FKeys (F : Forest) : Prop := ∀ x q, F x = some q → q.f2 = x ∧ 0 ≤ x ∧ x < 16 ∧ (Lit.int .i64 q.f3).wf = true

/-- The way down from a folder ends within k steps. -/
def deep (F : Forest) : Nat → Int → Prop
  | 0, _ => False
  | k + 1, x => ∀ y q, F y = some q → q.f3 = x → deep F k y

/-- The greatest of some numbers, as the loop over the keys tells it. -/
def topOf (F : Forest) (x : Int) (h : Int → Nat) (l : List Nat) (n0 : Nat) : Nat := l.foldl (fun n (y : Nat) => match F (y : Int) with
    | none => n
    | some q => if q.f3 = x then max n (h y) else n) n0
theorem htF_succ (F : Forest) (k : Nat) (x : Int) : htF F (k + 1) x = 1 + topOf F x (htF F k) (List.range 16) 0 := rfl
theorem topOf_spec (F : Forest) (x : Int) (h : Int → Nat) : ∀ (l : List Nat) (n0 : Nat), n0 ≤ topOf F x h l n0 ∧ (∀ y ∈ l, ∀ q, F (y : Int) = some q → q.f3 = x → h y ≤ topOf F x h l n0) ∧ (topOf F x h l n0 = n0 ∨ ∃ y ∈ l, ∃ q, F (y : Int) = some q ∧ q.f3 = x ∧ topOf F x h l n0 = h y)
  | [], n0 => ⟨Nat.le_refl _, fun y hy => by simp at hy, .inl rfl⟩
  | y :: l, n0 => by
    unfold topOf
    rw [List.foldl_cons]
    cases hf : F (y : Int) with
    | none =>
      obtain ⟨h1, h2, h3⟩ := topOf_spec F x h l n0
      refine ⟨h1, fun z hz q hq hx => ?_, ?_⟩
      · rcases List.mem_cons.1 hz with rfl | hz
        · rw [hf] at hq; cases hq
        · exact h2 z hz q hq hx
      · rcases h3 with h3 | ⟨z, hz, q, hq, hx, e⟩
        · exact .inl h3
        · exact .inr ⟨z, List.mem_cons_of_mem _ hz, q, hq, hx, e⟩
    | some p =>
      by_cases e : p.f3 = x
      · simp only [e, if_true]
        obtain ⟨h1, h2, h3⟩ := topOf_spec F x h l (max n0 (h y))
        unfold topOf at h1 h2 h3
        refine ⟨by omega, fun z hz q hq hx => ?_, ?_⟩
        · rcases List.mem_cons.1 hz with rfl | hz
          · omega
          · exact h2 z hz q hq hx
        · rcases h3 with h3 | ⟨z, hz, q, hq, hx, e'⟩
          · rw [h3]
            by_cases c : h y ≤ n0
            · exact .inl (by omega)
            · exact .inr ⟨y, List.mem_cons_self, p, hf, e, by omega⟩
          · exact .inr ⟨z, List.mem_cons_of_mem _ hz, q, hq, hx, e'⟩
      · simp only [e, if_false]
        obtain ⟨h1, h2, h3⟩ := topOf_spec F x h l n0
        unfold topOf at h1 h2 h3
        refine ⟨h1, fun z hz q hq hx => ?_, ?_⟩
        · rcases List.mem_cons.1 hz with rfl | hz
          · rw [hf] at hq; cases hq; exact (e hx).elim
          · exact h2 z hz q hq hx
        · rcases h3 with h3 | ⟨z, hz, q, hq, hx, e'⟩
          · exact .inl h3
          · exact .inr ⟨z, List.mem_cons_of_mem _ hz, q, hq, hx, e'⟩
/-- The greatest of the heights below is known by what bounds it and is reached. -/
theorem htF_uniq {F : Forest} (hF : FKeys F) {k n : Nat} {x : Int} (h1 : ∀ y q, F y = some q → q.f3 = x → htF F k y ≤ n) (h2 : n = 0 ∨ ∃ y q, F y = some q ∧ q.f3 = x ∧ n = htF F k y) : htF F (k + 1) x = 1 + n := by
  rw [htF_succ]
  obtain ⟨_, a2, a3⟩ := topOf_spec F x (htF F k) (List.range 16) 0
  congr 1
  apply Nat.le_antisymm
  · rcases a3 with a3 | ⟨y, _, q, hq, hx, e⟩
    · omega
    · rw [e]; exact h1 _ q hq hx
  · rcases h2 with h2 | ⟨y, q, hq, hx, rfl⟩
    · omega
    · obtain ⟨_, y0, y1, _⟩ := hF y q hq
      obtain ⟨m, rfl⟩ := Int.eq_ofNat_of_zero_le y0
      exact a2 m (List.mem_range.2 (by omega)) q hq hx

end Go.Proofs.Ytihpiejlfdinaaa.PF
