import Derived.Test.YtofkmapokdcphaaProg
import Derived.Test.YtofkmapokdcphaaBase
namespace Go.Proofs.Ytofkmapokdcphaa
open Go Go.RowKit Go.Maps Go.My

abbrev Nd := Int × Int
def RowN (w : World) (a : Option Addr) (xs : List Nd) : Prop :=
  ∃ b off, (a = some ⟨b, off, none⟩ ∨ xs = []) ∧ ∀ i n, xs[i]? = some n → w.cell? ⟨b, off + i * 2, none⟩ = some (.int .i64 n.1) ∧ w.cell? ⟨b, off + i * 2 + 1, none⟩ = some (.int .i64 n.2)

def ofF (xs : List Nd) (x : Int) : Option Int := (xs.find? (fun n => n.1 == x)).map (·.2)

theorem zero3 (w : World) : (zeroValue 3).run Try.prog w = .ok (.int .i64 0) w := by kernel_rfl
theorem keyed3 : Keyed Try.prog 3 := int_keyed Try.underlying3
noncomputable def K3 : KeyEnc Try.prog 3 Int := intKey Try.underlying3
def evI (x : Int) : Value := .int .i64 x

theorem ofF_snoc (xs : List Nd) (n : Nd) (x : Int) : ofF (xs ++ [n]) x = (ofF xs x).or (if n.1 = x then some n.2 else none) := by
  unfold ofF
  rw [List.find?_append]
  cases h : xs.find? (fun n => n.1 == x) with
  | none => by_cases e : n.1 = x <;> simp [e]
  | some y => simp

theorem take_snoc {α : Type} {xs : List α} {k : Nat} {n : α} (h : xs[k]? = some n) : xs.take (k + 1) = xs.take k ++ [n] := by
  rw [List.take_add_one, h]; rfl

theorem of_step_none {xs : List Nd} {k : Nat} {n : Nd} (h : xs[k]? = some n) (hn : ofF (xs.take k) n.1 = none) (x : Int) : upd (ofF (xs.take k)) n.1 (some n.2) x = ofF (xs.take (k + 1)) x := by
  rw [take_snoc h, ofF_snoc]
  unfold upd
  by_cases e : x = n.1
  · subst e; rw [if_pos rfl, hn]; simp
  · rw [if_neg e, if_neg (fun h => e h.symm)]; simp

theorem of_step_some {xs : List Nd} {k : Nat} {n : Nd} (h : xs[k]? = some n) (hn : (ofF (xs.take k) n.1).isNone = false) (x : Int) : ofF (xs.take k) x = ofF (xs.take (k + 1)) x := by
  rw [take_snoc h, ofF_snoc]
  by_cases e : n.1 = x
  · subst e
    rw [if_pos rfl]
    cases hf : ofF (xs.take k) n.1 with
    | none => rw [hf] at hn; cases hn
    | some y => rfl
  · rw [if_neg e]; simp

set_option maxRecDepth 100000 in
set_option maxHeartbeats 400000 in
theorem of_any (a : Option Addr) (cap : Nat) (xs : List Nd) (w : World) (hm : xs.length ≤ 100) (hR : RowN w a xs) (hwf : ∀ n ∈ xs, (Lit.int .i64 n.1).wf = true) :
    Calls Try.prog 36 #[.agg #[.slice a xs.length cap]] w fun e w' => e = .returned (.map (some (w.heap.size+1))) ∧ MapIs K3 evI w' (w.heap.size+1) xs.length (ofF xs) ∧ Below w.heap.size w w' := by
  have hmm := @run_makeMap Try.prog
  obtain ⟨b, off, ha, hc⟩ := hR
  obtain ⟨len, hlen⟩ : ∃ len, len = xs.length := ⟨_, rfl⟩
  rw [← hlen] at hm ⊢
  have HL := Lib.hid hlen
  have HC := Lib.hid hc
  have HA := Lib.hid ha
  have HW := Lib.hid hwf
  clear hlen hc ha hwf
  go_enter Try.func36, Try.ntmps36
  go_wp2
  go_loopw [12] (fun i wr => ∃ k : Nat, k ≤ len ∧ i = .int .i64 k ∧ MapIs K3 evI wr (w.heap.size+1) k (ofF (xs.take k)) ∧ Below w.heap.size w wr) (fun i _ => len - (intOf i).toNat)
  case atStart =>
    refine ⟨0, Nat.zero_le _, rfl, ?_, ?_⟩
    · have := MapIs.made K3 evI (w.alloc (Obj.cells #[Value.slice a len cap] 24))
      simpa using (this.congr (g := ofF (xs.take 0)) (fun _ => rfl))
    · exact ((Below.refl _ _).alloc (Nat.le_refl _) _).alloc (by simp) _
  case round =>
    obtain ⟨k, hk, rfl, hM, hB⟩ := hrel
    by_cases hlt : k < len
    · obtain ⟨n, hn⟩ : ∃ n, xs[k]? = some n := ⟨_, List.getElem?_eq_getElem (by rw [← HL.out]; exact hlt)⟩
      obtain ⟨h0, h1⟩ := HC.out k n hn
      have ha : a = some ⟨b, off, none⟩ := by
        rcases HA.out with h | h
        · exact h
        · subst h; simp at hn
      subst ha
      have Hn := Lib.hid hn
      clear hn
      have hb : b < w.heap.size := by
        by_cases h : b < w.heap.size
        · exact h
        · simp [World.cell?, Array.getElem?_eq_none (Nat.le_of_not_lt h)] at h0
      have g0 := (hB.cell (p := ⟨b, off + k * 2, none⟩) hb).trans h0
      have g1 := (hB.cell (p := ⟨b, off + k * 2 + 1, none⟩) hb).trans h1
      clear h0 h1
      have hok : (K3).ok n.1 := HW.out n (List.mem_of_getElem? Hn.out)
      go_wp2_with (first
        | (at_lookup; refine wpList_look rfl (.tmp 17) (.tmp 19) 59 rfl keyed3 Try.underlying59 (zero3 _) rfl (hM.alloc _) (x := n.1) hok rfl ?_)
        | (at_mapUpdate; refine wpList_put rfl (.tmp 25) (.tmp 27) (.tmp 29) 59 rfl keyed3 Try.underlying59 rfl (hM.alloc _) (by unfold maxLen; omega) (x := n.1) hok rfl (c := n.2) rfl ?_; intro w1 hM1 hg1))
      · have hnone : (ofF (xs.take k) n.1).isNone = true := by assumption
        have hnone' : ofF (xs.take k) n.1 = none := by simpa using hnone
        go_roundw
        case rel => exact ⟨k + 1, by omega, by go_num, (hM1.congr (of_step_none Hn.out hnone')), (hB.alloc hB.size _).grown hg1 (by have := hB.size; simp; omega) (fun j hj => by cases hj; omega)⟩
        case measure => simp [intOf]; omega
      · have hsome : (ofF (xs.take k) n.1).isNone = false := by assumption
        go_roundw
        case rel => exact ⟨k + 1, by omega, by go_num, (((hM.alloc _).mono (Nat.le_succ k)).congr (of_step_some Hn.out hsome)), hB.alloc hB.size _⟩
        case measure => simp [intOf]; omega
    · have hk' : k = len := by omega
      go_wp2
      go_ret
      exact ⟨rfl, by rw [hk', List.take_of_length_le (by rw [← HL.out]; exact Nat.le_refl _)] at hM; exact hM, hB⟩
end Go.Proofs.Ytofkmapokdcphaa
