import Derived.Test.YtofkmapokdcphaaRk3
namespace Go.Proofs.Ytofkmapokdcphaa
open Go Go.RowKit Go.Maps Go.My Go.Shelf

/-- A node laid into a sorted list. -/
def insL (n : Nd) : List Nd → List Nd
  | [] => [n]
  | m :: ms => if n.1 < m.1 then n :: m :: ms else m :: insL n ms
/-- Has a list a node behind it. -/
def beh (n : Nd) (l : List Nd) : Bool := l.any fun m => decide (n.1 < m.1)
def outL (n : Nd) (l : List Nd) : List Nd := if beh n l = true then insL n l else l

theorem insL_not {n : Nd} : ∀ {l : List Nd}, beh n l = false → insL n l = l ++ [n]
  | [], _ => rfl
  | m :: ms, h => by
    unfold beh at h
    simp only [List.any_cons, Bool.or_eq_false_iff, decide_eq_false_iff_not] at h
    unfold insL
    rw [if_neg h.1, insL_not (l := ms) h.2]
    rfl
theorem insL_snoc {n m : Nd} : ∀ {l : List Nd}, beh n l = true → insL n (l ++ [m]) = insL n l ++ [m]
  | [], h => by cases h
  | k :: ks, h => by
    show insL n (k :: (ks ++ [m])) = insL n (k :: ks) ++ [m]
    unfold insL
    by_cases hk : n.1 < k.1
    · rw [if_pos hk, if_pos hk]; rfl
    · rw [if_neg hk, if_neg hk]
      have h' : beh n ks = true := by
        unfold beh at h
        simp only [List.any_cons, Bool.or_eq_true, decide_eq_true_iff] at h
        exact h.resolve_left hk
      rw [insL_snoc h']; rfl
theorem beh_snoc (n m : Nd) (l : List Nd) : beh n (l ++ [m]) = (beh n l || decide (n.1 < m.1)) := by
  unfold beh; simp
theorem insL_last {n m : Nd} (h : n.1 < m.1) : ∀ {l : List Nd}, beh n l = false → insL n (l ++ [m]) = l ++ [n] ++ [m]
  | [], _ => by show insL n [m] = _; unfold insL; rw [if_pos h]; rfl
  | k :: ks, hb => by
    unfold beh at hb
    simp only [List.any_cons, Bool.or_eq_false_iff, decide_eq_false_iff_not] at hb
    show insL n (k :: (ks ++ [m])) = _
    unfold insL
    rw [if_neg hb.1, insL_last h (l := ks) hb.2]; rfl
theorem outL_snoc (n m : Nd) (l : List Nd) : outL n (l ++ [m]) = if beh n l = false ∧ n.1 < m.1 then outL n l ++ [n] ++ [m] else outL n l ++ [m] := by
  unfold outL
  rw [beh_snoc]
  cases hb : beh n l with
  | true =>
    rw [Bool.true_or, if_pos rfl, if_pos rfl, if_neg (fun h => Bool.noConfusion h.1), insL_snoc hb]
  | false =>
    rw [Bool.false_or]
    by_cases h : n.1 < m.1
    · rw [decide_eq_true h, if_pos rfl, if_neg Bool.false_ne_true, if_pos ⟨rfl, h⟩]
      exact insL_last h hb
    · rw [decide_eq_false h, if_neg Bool.false_ne_true, if_neg Bool.false_ne_true, if_neg (fun q => h q.2)]
theorem outL_end (n : Nd) (l : List Nd) : insL n l = if beh n l = true then outL n l else outL n l ++ [n] := by
  unfold outL
  cases hb : beh n l with
  | true => rw [if_pos rfl, if_pos rfl]
  | false => rw [if_neg (by simp), if_neg (by simp)]; exact insL_not hb
theorem mem_insL {n m : Nd} : ∀ {l : List Nd}, m ∈ insL n l ↔ m = n ∨ m ∈ l
  | [] => by simp [insL]
  | k :: ks => by
    unfold insL
    split
    · simp
    · simp only [List.mem_cons, mem_insL (l := ks)]
      constructor
      · rintro (h | h | h)
        · exact .inr (.inl h)
        · exact .inl h
        · exact .inr (.inr h)
      · rintro (h | h | h)
        · exact .inr (.inl h)
        · exact .inl h
        · exact .inr (.inr h)
theorem insL_length (n : Nd) : ∀ l : List Nd, (insL n l).length = l.length + 1
  | [] => rfl
  | k :: ks => by
    unfold insL
    split
    · simp
    · simp [insL_length n ks]
theorem insL_sorted {n : Nd} : ∀ {l : List Nd}, (l.map (·.1)).Pairwise (· < ·) → (∀ m ∈ l, m.1 ≠ n.1) → ((insL n l).map (·.1)).Pairwise (· < ·)
  | [], _, _ => by simp [insL]
  | k :: ks, h, hne => by
    rw [List.map_cons, List.pairwise_cons] at h
    unfold insL
    by_cases hk : n.1 < k.1
    · rw [if_pos hk, List.map_cons, List.map_cons, List.pairwise_cons, List.pairwise_cons]
      refine ⟨fun x hx => ?_, h⟩
      rcases List.mem_cons.1 hx with rfl | hx
      · exact hk
      · have := h.1 x hx; omega
    · rw [if_neg hk, List.map_cons, List.pairwise_cons]
      refine ⟨fun x hx => ?_, insL_sorted h.2 (fun m hm => hne m (by simp [hm]))⟩
      obtain ⟨m, hm, rfl⟩ := List.mem_map.1 hx
      rcases mem_insL.1 hm with rfl | hm
      · have := hne k (by simp); omega
      · exact h.1 m.1 (List.mem_map.2 ⟨m, hm, rfl⟩)

theorem ofF_of_mem {ys : List Nd} {f : Int → Option Int} (hs : (ys.map (·.1)).Pairwise (· < ·)) (h : ∀ x c, (x, c) ∈ ys ↔ f x = some c) (x : Int) : ofF ys x = f x := by
  cases hf : f x with
  | some c => exact ofF_sorted hs ((h x c).2 hf)
  | none =>
    cases ho : ofF ys x with
    | none => rfl
    | some c => rw [(h x c).1 (ofF_some ho)] at hf; cases hf

theorem filt_mem {xs : List Nd} (h : checkL xs = 0) {d : Int} (x c : Int) : (x, c) ∈ (xs.filter fun n => !decide (n.1 ∈ anc d)) ↔ chF (ofF xs) d x = some c := by
  unfold chF chL
  rw [List.mem_filter]
  by_cases hx : x ∈ anc d
  · simp [hx]
  · rw [if_neg hx]
    constructor
    · rintro ⟨h1, _⟩; exact ofF_sorted (checked h).1 h1
    · intro h1; exact ⟨ofF_some h1, by simp [hx]⟩
theorem filt_sorted {xs : List Nd} (h : checkL xs = 0) (d : Int) : ((xs.filter fun n => !decide (n.1 ∈ anc d)).map (·.1)).Pairwise (· < ·) := by
  have := (checked h).1
  rw [List.pairwise_map] at this ⊢
  exact this.filter _

theorem set_eq {xs : List Nd} (h : checkL xs = 0) {d p : Int} (h0 : 0 ≤ d) (h1 : d < 512) (hp : chk p = 0) : insL (512 + d, p) (xs.filter fun n => !decide (n.1 ∈ anc d)) = treeL (setF2 (ofF xs) d p) := by
  have hne : ∀ m ∈ (xs.filter fun n => !decide (n.1 ∈ anc d)), m.1 ≠ 512 + d := by
    intro m hm e
    have := (List.mem_filter.1 hm).2
    rw [e] at this
    simp [anc_self] at this
  refine treeL_uniq (valid_range (setF2_valid (valid_of h) h0 h1 hp)) (insL_sorted (filt_sorted h d) hne) fun x => ofF_of_mem (insL_sorted (filt_sorted h d) hne) (fun x c => ?_) x
  rw [mem_insL, filt_mem h, setF2_at]
  unfold chF chL
  by_cases e : x = 512 + d
  · subst e
    rw [if_pos (anc_self d), if_pos rfl]
    constructor
    · rintro (h | h)
      · cases h; rfl
      · cases h
    · intro h; cases h; exact .inl rfl
  · rw [if_neg e]
    constructor
    · rintro (h | h)
      · cases h; exact absurd rfl e
      · exact h
    · exact .inr
end Go.Proofs.Ytofkmapokdcphaa
