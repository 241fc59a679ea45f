import Derived.Test.YtofkmapokdcphaaRk2
import Derived.Laws.AppendOwnNone
import Derived.Laws.OwnMore
import Derived.Deep.RegionHeld3
import Derived.Laws.BitsLemmas
namespace Go.Proofs.Ytofkmapokdcphaa
open Go Go.RowKit Go.Maps Go.My Go.Shelf

/-- What the reference's resolution of a node returns, of depth d at most. -/
def Res38 (f : Int → Option Int) (xs : List Nd) (d : Nat) : Prop := ∀ (node : Int) (W : World) (v : Value), 1 ≤ node → node ≤ 1023 → 512 ≤ node * 2 ^ d → TreeAt W v xs →
  Calls Try.prog 38 #[v, .int .i64 node] W fun e w' => ∃ v', e = .returned v' ∧ w'.ownsRow W.heap.size 3 1 v' (resF f d node).length ((resF f d node).map (Value.int .i64)) ∧ Below W.heap.size W w'

set_option maxRecDepth 100000 in
set_option maxHeartbeats 1000000 in
theorem res38_some (xs : List Nd) (hm : xs.length ≤ 100) (d : Nat) (node : Int) (hf : (ofF xs node).isSome = true) (W : World) (v : Value) (h : TreeAt W v xs) :
    Calls Try.prog 38 #[v, .int .i64 node] W fun e w' => ∃ v', e = .returned v' ∧ w'.ownsRow W.heap.size 3 1 v' (resF (ofF xs) d node).length ((resF (ofF xs) d node).map (Value.int .i64)) ∧ Below W.heap.size W w' := by
  rw [resF_some hf]
  have KB := Lib.hid fun W v (hv : TreeAt W v xs) => blank44 v xs node W hm hv
  rw [hf] at KB
  have HT := Lib.hid h
  obtain ⟨a0, c0, rfl⟩ := h.form
  have hB0 : Below W.heap.size W (W.alloc (.cells #[.slice a0 xs.length c0] 24)) := (Below.refl _ _).alloc (Nat.le_refl _) _
  clear h hf hm
  generalize xs.length = n at *
  go_enter Try.func38, Try.ntmps38
  go_wp2_with (go_at_call 44; refine (KB.out _ _ (HT.out.box _)).mono ?_; rintro e w1 ⟨rfl, hB1⟩)
  go_ret
  have hB1' := below_step hB0 hB0.size (hB1)
  have hs := hB1'.size
  refine ⟨_, rfl, ?_, hB1'.alloc hs _⟩
  exact World.ownsRow_lit w1 #[.int .i64 node] 1 hs (by unfold maxLen; omega) rfl

set_option maxRecDepth 100000 in
set_option maxHeartbeats 1000000 in
theorem res38_leaf (xs : List Nd) (hm : xs.length ≤ 100) (d : Nat) (node : Int) (hf : (ofF xs node).isSome = false) (hn : 512 ≤ node) (W : World) (v : Value) (h : TreeAt W v xs) :
    Calls Try.prog 38 #[v, .int .i64 node] W fun e w' => ∃ v', e = .returned v' ∧ w'.ownsRow W.heap.size 3 1 v' (resF (ofF xs) d node).length ((resF (ofF xs) d node).map (Value.int .i64)) ∧ Below W.heap.size W w' := by
  rw [resF_leaf hf hn]
  have KB := Lib.hid fun W v (hv : TreeAt W v xs) => blank44 v xs node W hm hv
  rw [hf] at KB
  have HT := Lib.hid h
  obtain ⟨a0, c0, rfl⟩ := h.form
  have hB0 : Below W.heap.size W (W.alloc (.cells #[.slice a0 xs.length c0] 24)) := (Below.refl _ _).alloc (Nat.le_refl _) _
  have d1 : decide (512 ≤ node) = true := decide_eq_true hn
  clear h hf hm
  generalize xs.length = n at *
  go_enter Try.func38, Try.ntmps38
  go_wp2_with (go_at_call 44; refine (KB.out _ _ (HT.out.box _)).mono ?_; rintro e w1 ⟨rfl, hB1⟩)
  go_ret
  exact ⟨_, rfl, World.ownsRow_nil _ _ _ _, below_step hB0 hB0.size hB1⟩

theorem own_base {w : World} {b b' size n : Nat} {e : TypeId} {v : Value} {xs : List Value} (h : w.ownsRow b e size v n xs) (hle : b' ≤ b) : w.ownsRow b' e size v n xs := by
  refine ⟨h.1, ?_⟩
  rcases h.2 with h | ⟨g, c, cur, h1, h2, h3⟩
  · exact .inl h
  · exact .inr ⟨g, c, cur, h1, by omega, h3⟩

theorem wp_append_rows {P : Program} {w : World} {o : Oper} {a : Act} {K : Act → World → Prop} {Q : Exit → Act → World → Prop} (s x : Operand) (t : TypeId)
    (ho : o.op = .call { callee := .builtin .append, args := #[s, x], argTypes := #[t, t] })
    (base base2 : Nat) (e : TypeId) (i : TypeInfo) (z : Value) (bytes : Nat) (ht : P.underlying t = some (.slice e)) (hi : P.info? e = some i) (hz : i.zero = some z)
    (hsize : i.size = 1) (hby : i.bytes = bytes) (hzs : z.cells.size = 1)
    (v v2 : Value) (n m : Nat) (xs ys : List Value) (hs : a.eval s = v) (hown : w.ownsRow base e 1 v n xs) (hx : a.eval x = v2) (hown2 : w.ownsRow base2 e 1 v2 m ys) (h1 : ∀ u ∈ ys, u.oneCell' = true)
    (h63 : n + m ≤ maxLen) (hbytes : (n + m) * bytes ≤ 140737488355328) (hbase : base ≤ w.heap.size)
    (h : ∀ v' w', w'.ownsRow base e 1 v' (n + m) (xs ++ ys) → w.grownBy w' v.ownBlock → K (a.put o.dst v') w') : o.wp P a w K Q := by
  rcases hown2.2 with ⟨rfl, hm0⟩ | ⟨g, c, cur, rfl, _⟩
  · subst hm0
    have hy : ys = [] := List.eq_nil_of_length_eq_zero (by have := hown2.1; omega)
    subst hy
    have hrun := run_append_owned_none (P := P) (w := w) base t o.type e i 1 ht hi v n xs hown
    unfold Oper.wp
    simp [execOp, ho, resolve, invoke, builtin, hs, hx, hrun, Result.andThen]
    exact h v w (by simpa using hown) (grownBy_below (Below.refl _ _) _)
  · exact wp_append_own w s x t ho base e i z 1 bytes ht hi hz hsize hby hzs (by decide) v n xs hs hown ⟨g, 0, none⟩ m c ys hx hown2.1 (fun j u hj => by
      have hlt : j < m * 1 := by rw [← hown2.1]; exact (List.getElem?_eq_some_iff.1 hj).1
      have := World.ownsRow.cellAt hown2 j hlt
      have ad : (⟨g, 0, none⟩ : Addr).add j = ⟨g, j, none⟩ := by
        cases j with
        | zero => rfl
        | succ k => simp [Addr.add]
      rw [ad, this, hj]) h1 h63 hbytes hbase (fun v' w' a b _ => h v' w' a b)

theorem keep2Call {p : Prop} {w0 w w' : World} (h : p ∧ Below w0.heap.size w0 w) (hB : Below w.heap.size w w') : Below w0.heap.size w0 w' := below_step h.2 h.2.size hB

set_option maxRecDepth 100000 in
set_option maxHeartbeats 4000000 in
theorem res38_inner (xs : List Nd) (hm : xs.length ≤ 100) (d : Nat) (hd : d ≤ 8) (ih : Res38 (ofF xs) xs d) (node : Int) (hf : (ofF xs node).isSome = false) (n0 : 1 ≤ node) (n1 : node < 512) (n2 : 512 ≤ node * 2 ^ (d + 1)) (W : World) (v : Value) (h : TreeAt W v xs) :
    Calls Try.prog 38 #[v, .int .i64 node] W fun e w' => ∃ v', e = .returned v' ∧ w'.ownsRow W.heap.size 3 1 v' (resF (ofF xs) (d + 1) node).length ((resF (ofF xs) (d + 1) node).map (Value.int .i64)) ∧ Below W.heap.size W w' := by
  rw [resF_inner hf (by omega)]
  have KB := Lib.hid fun W v (hv : TreeAt W v xs) => blank44 v xs node W hm hv
  rw [hf] at KB
  have hp : node * 2 ^ (d + 1) = 2 * node * 2 ^ d := by rw [Int.pow_succ, ← Int.mul_assoc, Int.mul_comm (node * 2 ^ d) 2, ← Int.mul_assoc]
  have hpk : (0 : Int) < 2 ^ d := Int.pow_pos (by omega)
  have K1 := Lib.hid fun W v (hv : TreeAt W v xs) => ih (2 * node) W v (by omega) (by omega) (by omega) hv
  have K2 := Lib.hid fun W v (hv : TreeAt W v xs) => ih (2 * node + 1) W v (by omega) (by omega) (by rw [Int.add_mul]; omega) hv
  have hl1 := resF_length (ofF xs) d (2 * node)
  have hl2 := resF_length (ofF xs) d (2 * node + 1)
  have hpd : 2 ^ d ≤ 2 ^ 8 := Nat.pow_le_pow_right (by decide) hd
  generalize resF (ofF xs) d (2 * node) = L1 at *
  generalize resF (ofF xs) d (2 * node + 1) = L2 at *
  have HT := Lib.hid h
  obtain ⟨i0, hi0, hz0, hz1, hz2⟩ := info_parts info3
  obtain ⟨a0, c0, rfl⟩ := h.form
  have hB0 : Below W.heap.size W (W.alloc (.cells #[.slice a0 xs.length c0] 24)) := (Below.refl _ _).alloc (Nat.le_refl _) _
  have hbx := (Boxed.new W 24 (.slice a0 xs.length c0)).cell
  have d1 : decide (512 ≤ node) = false := decide_eq_false (by omega)
  have hw1 : IntKind.i64.wrap (2 * node) = 2 * node := by rw [IntKind.wrap_i64]; omega
  have hw2 : IntKind.i64.wrap (2 * node + 1) = 2 * node + 1 := by rw [IntKind.wrap_i64]; omega
  clear h hf hm ih n2 hp hpk
  generalize xs.length = n at *
  go_enter Try.func38, Try.ntmps38
  go_upto_region 5 with (go_at_call 44; refine (KB.out _ _ (HT.out.box _)).mono ?_; rintro e w1 ⟨rfl, hB1⟩; have hB1' := below_step hB0 hB0.size hB1; have x1 := cell_kept hbx hB1)
  have HB1 := Lib.hid hB1'
  have hs1 : W.heap.size ≤ w1.heap.size := hB1'.size
  have HMK := Lib.hid fun (V : World) (hV : Below w1.heap.size w1 V) => (show V.cell? ⟨W.heap.size, 0, none⟩ = some (.slice a0 n c0) ∧ Below w1.heap.size w1 V from ⟨cell_kept x1 hV, hV⟩)
  have HTK := Lib.hid fun (V : World) (hV : V.cell? ⟨W.heap.size, 0, none⟩ = some (.slice a0 n c0) ∧ Below w1.heap.size w1 V) => (HT.out.below hB1').below hV.2
  clear hB0 hB1 hB1'
  go_region_held3 (fun w' => w'.cell? ⟨W.heap.size, 0, none⟩ = some (.slice a0 n c0) ∧ Below w1.heap.size w1 w')
    (first | exact HMK.out _ (Below.refl _ _).drew | exact HMK.out _ (keep2Call (by assumption) (by assumption)) | exact HMK.out _ hBG)
    (first
      | (go_at_call_has 38 (Value.int IntKind.i64 (2 * node)); refine (K1.out _ _ (HTK.out _ (by assumption))).mono ?_; rintro e w16 ⟨v16, rfl, hO16, hB16⟩)
      | (go_at_call_has 38 (Value.int IntKind.i64 (2 * node + 1)); refine (K2.out _ _ (HTK.out _ (by assumption))).mono ?_; rintro e w21 ⟨v21, rfl, hO21, hB21⟩)
      | (rw [if_pos (by rfl)]; refine wp_append_rows (.tmp 16) (.tmp 21) 27 rfl W.heap.size W.heap.size 3 i0 (.int .i64 0) 8 Try.underlying27 hi0 hz0 hz1 hz2 rfl v16 v21 L1.length L2.length (L1.map (Value.int .i64)) (L2.map (Value.int .i64)) rfl (own_base (own_below hO16 hB21) hs1) rfl (own_base hO21 (Nat.le_trans hs1 hB16.size)) (fun u hu => by obtain ⟨y, _, rfl⟩ := List.mem_map.1 hu; rfl) (by unfold maxLen; omega) (by omega) (Nat.le_trans hs1 (Nat.le_trans hB16.size hB21.size)) ?_; intro v22 w22 hO22 hG22; have hBG : Below w1.heap.size w1 w22 := Below.grown (below_step (below_step (Below.refl _ _).drew (Nat.le_refl _) hB16) hB16.size hB21) hG22 (Nat.le_trans hB16.size hB21.size) (fun j hj => (hO16.lt j hj).1)))
  all_goals
    go_wp2
    go_ret
    exact ⟨_, rfl, by rw [List.map_append, List.length_append]; exact hO22, below_step HB1.out hs1 hBG⟩

theorem res38 (xs : List Nd) (hm : xs.length ≤ 100) : ∀ d, d ≤ 9 → Res38 (ofF xs) xs d
  | d, hd => by
    intro node W v n0 n1 n2 h
    by_cases hf : (ofF xs node).isSome = true
    · exact res38_some xs hm d node hf W v h
    · have hf' : (ofF xs node).isSome = false := by simpa using hf
      by_cases hn : 512 ≤ node
      · exact res38_leaf xs hm d node hf' hn W v h
      · cases d with
        | zero => simp at n2; omega
        | succ d => exact res38_inner xs hm d (by omega) (res38 xs hm d (by omega)) node hf' n0 (by omega) n2 W v h

set_option maxRecDepth 100000 in
set_option maxHeartbeats 1000000 in
theorem resolution13 (v : Value) (xs : List Nd) (node : Int) (w : World) (hm : xs.length ≤ 100) (h : TreeAt w v xs) :
    Calls Try.prog 13 #[v, .int .i64 node] w fun e w' => ∃ v', e = .returned (.tuple #[v', .int .i64 (resL xs node).2]) ∧ IntsAt w' v' (resL xs node).1 ∧ Below w.heap.size w w' := by
  have KC := Lib.hid fun W v (hv : TreeAt W v xs) => check18 v xs W hm hv
  have KR := Lib.hid fun W v (a : 1 ≤ node) (b : node ≤ 1023) (hv : TreeAt W v xs) => res38 xs hm 9 (by omega) node W v a b (by omega) hv
  have HT := Lib.hid h
  obtain ⟨a0, c0, rfl⟩ := h.form
  have hB0 : Below w.heap.size w (w.alloc (.cells #[.slice a0 xs.length c0] 24)) := (Below.refl _ _).alloc (Nat.le_refl _) _
  have hbx := (Boxed.new w 24 (.slice a0 xs.length c0)).cell
  clear h hm
  rcases checkL_or xs with hc | hc
  · rw [hc] at KC
    by_cases h1 : node < 1
    · have hr : resL xs node = ([], 200) := by unfold resL; rw [if_neg (by simp [hc]), if_pos (.inl h1)]
      rw [hr]
      have d1 : decide (node < 1) = true := decide_eq_true h1
      clear hc hr h1
      generalize xs.length = n at *
      go_enter Try.func13, Try.ntmps13
      go_wp2_with (go_at_call 18; refine (KC.out _ _ (HT.out.box _)).mono ?_; rintro e w1 ⟨rfl, hB1⟩)
      go_ret2
      exact ⟨_, rfl, intsAt_nil _ _ _, below_step hB0 hB0.size hB1⟩
    · have d1 : decide (node < 1) = false := decide_eq_false h1
      by_cases h2 : 1023 < node
      · have hr : resL xs node = ([], 200) := by unfold resL; rw [if_neg (by simp [hc]), if_pos (.inr h2)]
        rw [hr]
        have d2 : decide (1023 < node) = true := decide_eq_true h2
        clear hc hr
        generalize xs.length = n at *
        go_enter Try.func13, Try.ntmps13
        go_wp2_with (go_at_call 18; refine (KC.out _ _ (HT.out.box _)).mono ?_; rintro e w1 ⟨rfl, hB1⟩)
        go_ret2
        exact ⟨_, rfl, intsAt_nil _ _ _, below_step hB0 hB0.size hB1⟩
      · have hr : resL xs node = (resF (ofF xs) 9 node, 0) := by unfold resL; rw [if_neg (by simp [hc]), if_neg (by omega)]
        rw [hr]
        have d2 : decide (1023 < node) = false := decide_eq_false h2
        have HN := Lib.hid (show 1 ≤ node ∧ node ≤ 1023 by omega)
        clear hc hr h1 h2
        generalize xs.length = n at *
        generalize resF (ofF xs) 9 node = L at *
        go_enter Try.func13, Try.ntmps13
        go_wp2_with (first
          | (go_at_call 18; refine (KC.out _ _ (HT.out.box _)).mono ?_; rintro e w1 ⟨rfl, hB1⟩; have hB1' := below_step hB0 hB0.size hB1; have x1 := cell_kept hbx hB1)
          | (go_at_call 38; refine (KR.out _ _ HN.out.1 HN.out.2 (HT.out.below hB1')).mono ?_; rintro e w2 ⟨v2, rfl, hO, hB2⟩))
        go_ret2
        exact ⟨_, rfl, .of_own hO, below_step hB1' hB1'.size hB2⟩
  · rw [hc] at KC
    have hr : resL xs node = ([], 210) := by unfold resL; rw [if_pos (by simp [hc])]
    rw [hr]
    clear hc hr
    generalize xs.length = n at *
    go_enter Try.func13, Try.ntmps13
    go_wp2_with (go_at_call 18; refine (KC.out _ _ (HT.out.box _)).mono ?_; rintro e w1 ⟨rfl, hB1⟩)
    go_ret2
    exact ⟨_, rfl, intsAt_nil _ _ _, below_step hB0 hB0.size hB1⟩
end Go.Proofs.Ytofkmapokdcphaa
