import Derived.Test.YtihpiejlfdinaaaUa
import Derived.Test.YtihpiejlfdinaaaWa
import Derived.Test.YtihpiejlfdinaaaAux
import Derived.Test.YtihpiejlfdinaaaPz
namespace Go.Proofs.Ytihpiejlfdinaaa.PF
open Go Go.RowKit Go.Maps Go.My

theorem byteList_eq (b : ByteArray) : b.toList = b.data.toList := by
  rw [ByteArray.toList_eq]

set_option maxRecDepth 100000 in
set_option maxHeartbeats 1000000 in
theorem check20 (x : S29) (w : World) : Calls Try.prog 20 #[x.val] w fun e w' => e = .returned (.int .i64 (if x.ok then 0 else 270)) ∧ Below w.heap.size w w' := by
  obtain ⟨t, d, f, p, n⟩ := x
  have hok := Lib.hid (show S29.ok ⟨t, d, f, p, n⟩ = (btw t 1 1099511627776 && btw d 0 511 && btw f 0 15 && btw p (-1) 15 && btw (n.size : Int) 1 64) from rfl)
  generalize hokv : S29.ok ⟨t, d, f, p, n⟩ = ok at *
  clear hokv
  unfold S29.val
  simp only []
  have hB : Below w.heap.size w (w.alloc (.cells #[.int .i64 t, .int .i64 d, .int .i64 f, .int .i64 p, .string n] 29)) := (Below.refl _ _).alloc (Nat.le_refl _) _
  have HB := Lib.hid hB
  clear hB
  by_cases h0 : t < 1
  · have e : ok = false := by rw [hok.out]; unfold btw; simp; omega
    have d0 : decide (t < 1) = true := decide_eq_true h0
    subst e
    clear hok
    go_enter Try.func20, Try.ntmps20
    go_wp2
    go_ret
    exact ⟨rfl, HB.out⟩
  have d0 : decide (t < 1) = false := decide_eq_false h0
  by_cases h1 : 1099511627776 < t
  · have e : ok = false := by rw [hok.out]; unfold btw; simp; omega
    have d1 : decide (1099511627776 < t) = true := decide_eq_true h1
    subst e
    clear hok
    go_enter Try.func20, Try.ntmps20
    go_wp2
    go_ret
    exact ⟨rfl, HB.out⟩
  have d1 : decide (1099511627776 < t) = false := decide_eq_false h1
  by_cases h2 : d < 0
  · have e : ok = false := by rw [hok.out]; unfold btw; simp; omega
    have d2 : decide (d < 0) = true := decide_eq_true h2
    subst e
    clear hok
    go_enter Try.func20, Try.ntmps20
    go_wp2
    go_ret
    exact ⟨rfl, HB.out⟩
  have d2 : decide (d < 0) = false := decide_eq_false h2
  by_cases h3 : 512 ≤ d
  · have e : ok = false := by rw [hok.out]; unfold btw; simp; omega
    have d3 : decide (512 ≤ d) = true := decide_eq_true h3
    subst e
    clear hok
    go_enter Try.func20, Try.ntmps20
    go_wp2
    go_ret
    exact ⟨rfl, HB.out⟩
  have d3 : decide (512 ≤ d) = false := decide_eq_false h3
  by_cases h4 : f < 0
  · have e : ok = false := by rw [hok.out]; unfold btw; simp; omega
    have d4 : decide (f < 0) = true := decide_eq_true h4
    subst e
    clear hok
    go_enter Try.func20, Try.ntmps20
    go_wp2
    go_ret
    exact ⟨rfl, HB.out⟩
  have d4 : decide (f < 0) = false := decide_eq_false h4
  by_cases h5 : 16 ≤ f
  · have e : ok = false := by rw [hok.out]; unfold btw; simp; omega
    have d5 : decide (16 ≤ f) = true := decide_eq_true h5
    subst e
    clear hok
    go_enter Try.func20, Try.ntmps20
    go_wp2
    go_ret
    exact ⟨rfl, HB.out⟩
  have d5 : decide (16 ≤ f) = false := decide_eq_false h5
  by_cases h6 : p < -1
  · have e : ok = false := by rw [hok.out]; unfold btw; simp; omega
    have d6 : decide (p < -1) = true := decide_eq_true h6
    subst e
    clear hok
    go_enter Try.func20, Try.ntmps20
    go_wp2
    go_ret
    exact ⟨rfl, HB.out⟩
  have d6 : decide (p < -1) = false := decide_eq_false h6
  by_cases h7 : 16 ≤ p
  · have e : ok = false := by rw [hok.out]; unfold btw; simp; omega
    have d7 : decide (16 ≤ p) = true := decide_eq_true h7
    subst e
    clear hok
    go_enter Try.func20, Try.ntmps20
    go_wp2
    go_ret
    exact ⟨rfl, HB.out⟩
  have d7 : decide (16 ≤ p) = false := decide_eq_false h7
  by_cases h8 : (n.size : Int) < 1
  · have e : ok = false := by rw [hok.out]; unfold btw; simp; omega
    have d8 : decide ((n.size : Int) < 1) = true := decide_eq_true h8
    subst e
    clear hok
    go_enter Try.func20, Try.ntmps20
    go_wp2
    go_ret
    exact ⟨rfl, HB.out⟩
  have d8 : decide ((n.size : Int) < 1) = false := decide_eq_false h8
  by_cases h9 : 64 < (n.size : Int)
  · have e : ok = false := by rw [hok.out]; unfold btw; simp; omega
    have d9 : decide (64 < (n.size : Int)) = true := decide_eq_true h9
    subst e
    clear hok
    go_enter Try.func20, Try.ntmps20
    go_wp2
    go_ret
    exact ⟨rfl, HB.out⟩
  have d9 : decide (64 < (n.size : Int)) = false := decide_eq_false h9
  have e : ok = true := by rw [hok.out]; unfold btw; simp; omega
  subst e
  clear hok
  go_enter Try.func20, Try.ntmps20
  go_wp2
  go_ret
  exact ⟨rfl, HB.out⟩
set_option maxRecDepth 100000 in
set_option maxHeartbeats 1000000 in
theorem less54 (x y : S29) (w : World) : Calls Try.prog 54 #[x.val, y.val] w fun e w' => e = .returned (.bool (x.less y)) ∧ Below w.heap.size w w' := by
  obtain ⟨t, d, f, p, n⟩ := x
  obtain ⟨t2, d2, f2, p2, m⟩ := y
  unfold S29.val S29.less
  have hB : Below w.heap.size w ((w.alloc (.cells #[.int .i64 t, .int .i64 d, .int .i64 f, .int .i64 p, .string n] 29)).alloc (.cells #[.int .i64 t2, .int .i64 d2, .int .i64 f2, .int .i64 p2, .string m] 29)) := ((Below.refl _ _).alloc (Nat.le_refl _) _).alloc (by simp) _
  have HB := Lib.hid hB
  clear hB
  simp only []
  by_cases ht : t = t2
  case neg =>
    rw [if_pos ht]
    have et : (t != t2) = true := by simpa using ht
    clear ht
    go_enter Try.func54, Try.ntmps54
    go_wp2
    go_ret
    exact ⟨rfl, HB.out⟩
  subst ht
  rw [if_neg (by simp)]
  by_cases hd : d = d2
  case neg =>
    rw [if_pos hd]
    have ed : (d != d2) = true := by simpa using hd
    clear hd
    go_enter Try.func54, Try.ntmps54
    go_wp2
    go_ret
    exact ⟨rfl, HB.out⟩
  subst hd
  rw [if_neg (by simp)]
  by_cases hf : f = f2
  case neg =>
    rw [if_pos hf]
    have ef : (f != f2) = true := by simpa using hf
    clear hf
    go_enter Try.func54, Try.ntmps54
    go_wp2
    go_ret
    exact ⟨rfl, HB.out⟩
  subst hf
  rw [if_neg (by simp)]
  by_cases hp : p = p2
  case neg =>
    rw [if_pos hp]
    have ep : (p != p2) = true := by simpa using hp
    clear hp
    go_enter Try.func54, Try.ntmps54
    go_wp2
    go_ret
    exact ⟨rfl, HB.out⟩
  subst hp
  rw [if_neg (by simp)]
  rw [← byteList_eq, ← byteList_eq]
  go_enter Try.func54, Try.ntmps54
  go_wp2
  go_ret
  exact ⟨rfl, HB.out⟩

/-! ### insertion -/
/-- Where a place goes. -/
theorem ins_at : ∀ {x : S29} {l : List S29} {k : Nat}, k ≤ l.length → (∀ j y, l[j]? = some y → j < k → x.less y = false) → (∀ y, l[k]? = some y → x.less y = true) → ins x l = l.take k ++ x :: l.drop k
  | x, [], k, hk, _, _ => by
    obtain rfl : k = 0 := by simpa using hk
    rfl
  | x, y :: l, 0, _, _, h => by
    have := h y rfl
    simp [ins, this]
  | x, y :: l, k + 1, hk, h1, h2 => by
    have := h1 0 y rfl (by omega)
    simp only [ins, this]
    rw [ins_at (k := k) (by simpa using hk) (fun j z hz hj => h1 (j + 1) z (by simpa using hz) (by omega)) (fun z hz => h2 z (by simpa using hz))]
    simp
/-- The valid ones of the first i, in order. -/
def insK (l : List S29) (i : Nat) : List S29 := sortV (l.take i)
theorem insK_zero (l : List S29) : insK l 0 = [] := rfl
theorem insK_succ {l : List S29} {i : Nat} {x : S29} (h : l[i]? = some x) : insK l (i + 1) = if x.ok then ins x (insK l i) else insK l i := by
  unfold insK
  rw [take_snoc h]
  unfold sortV
  rw [List.foldl_append]
  rfl
theorem insK_length (l : List S29) (i : Nat) : (insK l i).length ≤ i := by
  have := (sortV_perm (l.take i)).length_eq
  unfold insK
  rw [this]
  refine Nat.le_trans (List.length_filter_le _ _) ?_
  simp [List.length_take]
  omega
end Go.Proofs.Ytihpiejlfdinaaa.PF
