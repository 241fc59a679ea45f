import Derived.Test.YtihpiejlfdinaaaWj
import Derived.Test.YtihpiejlfdinaaaWk
import Derived.ArgAppend
import Derived.Deep.CutRange
import Derived.Deep.RegionHeld3
/-
  The reference's order: insertion. Region 7 is printed by gen_o.py from wl_in.lean.
-/
namespace Go.Proofs.Ytihpiejlfdinaaa.PF
open Go Go.RowKit Go.Maps Go.My Go.Shelf Go.Sort Go.Proofs.YtihpiejlfdinaaaW.PrintWords

/-- A row of one's own that begins a block. -/
def OutIs (w : World) (base g cap : Nat) (xs : List S29) : Prop := w.ownsRow base 29 5 (.slice (some ⟨g, 0, none⟩) xs.length cap) xs.length (flat xs)
theorem OutIs.below {w w' : World} {base g cap : Nat} {xs : List S29} (h : OutIs w base g cap xs) (hb : Below w.heap.size w w') : OutIs w' base g cap xs :=
  ownsRow_frame h (fun j hj => hb.block j (h.lt j hj).2)
theorem OutIs.cell {w : World} {base g cap : Nat} {xs : List S29} (h : OutIs w base g cap xs) {j : Nat} {x : S29} (hx : xs[j]? = some x) {t : Nat} {v : Value} (hv : (cellsOf x)[t]? = some v) : w.cell? ⟨g, j * 5 + t, none⟩ = some v := by
  have ht : t < 5 := (List.getElem?_eq_some_iff.1 hv).1
  have hj := (List.getElem?_eq_some_iff.1 hx).1
  have hc := World.ownsRow.cellAt (size := 5) h (j * 5 + t) (by omega)
  rw [hc, flat_at xs j t x hx ht, hv]

/-- What lies behind place k of the row, as 'out[k:]' hands it on. -/
theorem flat_cons (x : S29) (xs : List S29) : flat (x :: xs) = cellsOf x ++ flat xs := by simp [flat]
theorem flat_dropAll : ∀ (xs : List S29) (k : Nat), flat (xs.drop k) = (flat xs).drop (k * 5)
  | xs, 0 => by simp
  | [], k + 1 => by simp [flat]
  | x :: xs, k + 1 => by
    rw [List.drop_succ_cons, flat_dropAll xs k, flat_cons, Nat.succ_mul, List.drop_append]
    have : (cellsOf x).length = 5 := rfl
    have e : List.drop (k * 5 + 5) (cellsOf x) = [] := List.drop_eq_nil_of_le (by rw [this]; omega)
    rw [e, this, List.nil_append]
    congr 1
theorem flat_takeAll : ∀ (xs : List S29) (k : Nat), flat (xs.take k) = (flat xs).take (k * 5)
  | xs, 0 => by simp [flat]
  | [], k + 1 => by simp [flat]
  | x :: xs, k + 1 => by
    rw [List.take_succ_cons, flat_cons, flat_takeAll xs k, flat_cons, Nat.succ_mul, List.take_append]
    have : (cellsOf x).length = 5 := rfl
    rw [this, List.take_of_length_le (l := cellsOf x) (by rw [this]; omega)]
    congr 2
theorem flat_parts (a : List S29) (x : S29) (b : List S29) : flat (a ++ x :: b) = flat a ++ (cellsOf x ++ flat b) := by simp [flat]
theorem flat_one (xs : List S29) : ∀ v ∈ flat xs, v.oneCell' = true := by
  intro v hv
  simp only [flat, List.mem_flatMap] at hv
  obtain ⟨x, _, h⟩ := hv
  exact cellsOf_one x v h
theorem ones_app {xs ys : List Value} (h : ∀ v ∈ xs, v.oneCell' = true) (k : ∀ v ∈ ys, v.oneCell' = true) : ∀ v ∈ xs ++ ys, v.oneCell' = true := by
  intro v hv
  rcases List.mem_append.1 hv with h1 | h1
  · exact h v h1
  · exact k v h1
theorem OutIs.first {w : World} {base g cap : Nat} {xs : List S29} (h : OutIs w base g cap xs) (k : Nat) : ∀ b, some (⟨g, 0, none⟩ : Addr) = some b → ∀ j u, (flat (xs.take k))[j]? = some u → w.cell? (b.add j) = some u := by
  intro b hb j u hu
  cases hb
  rw [flat_takeAll, List.getElem?_take] at hu
  split at hu
  · exact World.ownsRow.cells h rfl j u hu
  · cases hu
theorem out_from {acc : List S29} {m : Nat} (g : Nat) (cap k : Nat) (hm : m = acc.length) (hk : k ≤ m) :
    ∃ o, Hid ((if cap = k then some (⟨g, 0, none⟩ : Addr) else some ⟨g, k * 5, none⟩) = some ⟨g, o, none⟩) ∧ Hid (∀ (w : World) (base : Nat), OutIs w base g cap acc → ∀ j u, (flat (acc.drop k))[j]? = some u → w.cell? ((⟨g, o, none⟩ : Addr).add j) = some u) := by
  by_cases h : cap = k
  · refine ⟨0, if_pos h, fun w base ho j u hu => ?_⟩
    have hcap : m ≤ cap := by
      rcases ho.2 with ⟨h1, _⟩ | ⟨g', c', cur, h1, _, _, h2, _⟩
      · cases h1
      · cases h1; omega
    rw [List.drop_of_length_le (by omega)] at hu
    cases hu
  · refine ⟨k * 5, if_neg h, fun w base ho j u hu => ?_⟩
    rw [flat_dropAll, List.getElem?_drop] at hu
    have := World.ownsRow.cells ho rfl (k * 5 + j) u hu
    rw [Addr.add_lit] at this ⊢
    rw [← this, Nat.zero_add]
theorem own_one (w : World) (x : S29) {base : Nat} (hb : base ≤ w.heap.size) : (w.alloc (.cells #[.int .i64 x.f0, .int .i64 x.f1, .int .i64 x.f2, .int .i64 x.f3, .string x.f4] 29)).ownsRow base 29 5 (.slice (some ⟨w.heap.size, 0, none⟩) 1 1) 1 (cellsOf x) :=
  ⟨rfl, .inr ⟨w.heap.size, 1, _, rfl, hb, heap_alloc_new w _, Nat.le_refl _, by unfold maxLen; omega, rfl, rfl⟩⟩
theorem own_some {w : World} {base : Nat} {v : Value} {n : Nat} {xs : List Value} (h : w.ownsRow base 29 5 v n xs) (hn : 0 < n) : ∃ g c, v = .slice (some ⟨g, 0, none⟩) n c ∧ n ≤ c := by
  rcases h.2 with ⟨_, h0⟩ | ⟨g, cap, cur, rfl, _, _, h2, _⟩
  · omega
  · exact ⟨g, cap, rfl, h2⟩

set_option maxRecDepth 100000 in
set_option maxHeartbeats 4000000 in
theorem ordered36_some (b off : Nat) (c : Nat) (l : List S29) (w : World) (hl : l.length ≤ 100) (hc : ∀ j x, l[j]? = some x → ∀ i v, (cellsOf x)[i]? = some v → w.cell? ⟨b, off + (j * 5 + i), none⟩ = some v) :
    Calls Try.prog 36 #[.slice (some ⟨b, off, none⟩) l.length c] w fun e w' => ∃ v, e = .returned v ∧ Kd.R k29 29 w' w.heap.size (fun _ => True) v (sortV l) ∧ Below w.heap.size w w' := by
  obtain ⟨i0, hi, hz0, hz1, hz2⟩ := info_parts info29
  obtain ⟨n, hn⟩ : ∃ n, n = l.length := ⟨_, rfl⟩
  have HN := Lib.hid hn
  have HC := Lib.hid hc
  rw [← hn] at hl ⊢
  clear hn hc
  go_enter Try.func36, Try.ntmps36
  go_wp2
  go_loopg [3, 4] n (fun gg s3 s4 wr => ∃ (i g cap : Nat) (acc : List S29), s3 = .slice (some ⟨g, 0, none⟩) acc.length cap ∧ s4 = .int .i64 i ∧ i ≤ n ∧ n - i ≤ gg ∧ Hid (acc = insK l i) ∧ acc.length ≤ i ∧ acc.length ≤ cap ∧ Hid (OutIs wr w.heap.size g cap acc) ∧ Hid (Below w.heap.size w wr))
  case atStart => 
    refine ⟨0, w.heap.size, 0, [], rfl, rfl, by omega, by omega, rfl, by simp, by simp, ⟨rfl, .inr ⟨w.heap.size, 0, #[], rfl, Nat.le_refl _, heap_alloc_new w _, by simp, by simp [maxLen], rfl, rfl⟩⟩, (Below.refl _ _).alloc (Nat.le_refl _) _⟩
  case round =>
    obtain ⟨i, g, cap, acc, rfl, rfl, hin, hgg, hacc, hai, hac, hown, hB⟩ := hrel
    by_cases hlt : i < n
    · obtain ⟨x, hx⟩ : ∃ x, l[i]? = some x := ⟨_, List.getElem?_eq_getElem (by rw [← HN.out]; exact hlt)⟩
      have HX := Lib.hid hx
      have a0 := cellK (HC.out i x hx 0 _ rfl) hB.out
      have a1 := cellK (HC.out i x hx 1 _ rfl) hB.out
      have a2 := cellK (HC.out i x hx 2 _ rfl) hB.out
      have a3 := cellK (HC.out i x hx 3 _ rfl) hB.out
      have a4 := cellK (HC.out i x hx 4 _ rfl) hB.out
      rw [← Nat.add_assoc] at a0 a1 a2 a3 a4
      rw [Nat.add_zero] at a0
      have HCK := Lib.hid (check20 x wr)
      unfold S29.val at HCK
      clear hx
      cases hok : x.ok with
      | false =>
        rw [hok] at HCK
        have HOK := Lib.hid hok
        clear hok
        go_wp2_with (go_at_call 20; refine HCK.out.mono ?_; rintro e w1 ⟨rfl, hB1⟩)
        go_roundg (n - (i + 1))
        case measure => omega
        case rel => 
          refine ⟨i + 1, g, cap, acc, rfl, by go_num, by omega, Nat.le_refl _, ?_, by omega, hac, hown.out.below hB1, below_step hB.out hB.out.size hB1⟩
          unfold Hid
          rw [insK_succ HX.out, HOK.out]
          exact hacc.out
      | true =>
        rw [hok] at HCK
        have HOK := Lib.hid hok
        clear hok
        obtain ⟨m, hm⟩ : ∃ m, m = acc.length := ⟨_, rfl⟩
        have HM := Lib.hid hm
        rw [← hm] at hai hac ⊢
        clear hm
        go_wp2_with (go_at_call 20; refine HCK.out.mono ?_; rintro e w1 ⟨rfl, hB1⟩)
        have b0 := cellK a0 hB1
        have b1 := cellK a1 hB1
        have b2 := cellK a2 hB1
        have b3 := cellK a3 hB1
        have b4 := cellK a4 hB1
        have HO1 := Lib.hid (hown.out.below hB1)
        have HB1 := Lib.hid (below_step hB.out hB.out.size hB1)
        clear a0 a1 a2 a3 a4 hB1 hB hown HCK
        go_loopg [5] m (fun hh s5 wr => ∃ k : Nat, s5 = .int .i64 k ∧ k ≤ m ∧ m - k ≤ hh ∧ Hid (∀ j y, acc[j]? = some y → j < k → x.less y = false) ∧ Hid (Below w1.heap.size w1 wr))
        case atStart => exact ⟨0, rfl, by omega, by omega, fun _ _ _ h => absurd h (by omega), Below.refl _ _⟩
        case round =>
          obtain ⟨k, rfl, hkm, hhh, hno, hBr⟩ := hrel
          by_cases hklt : k < m
          · obtain ⟨y, hy⟩ : ∃ y, acc[k]? = some y := ⟨_, List.getElem?_eq_getElem (by rw [← HM.out]; exact hklt)⟩
            have HY := Lib.hid hy
            have c0 := cellK b0 hBr.out
            have c1 := cellK b1 hBr.out
            have c2 := cellK b2 hBr.out
            have c3 := cellK b3 hBr.out
            have c4 := cellK b4 hBr.out
            have e0 := cellK (HO1.out.cell hy (t := 0) rfl) hBr.out
            have e1 := cellK (HO1.out.cell hy (t := 1) rfl) hBr.out
            have e2 := cellK (HO1.out.cell hy (t := 2) rfl) hBr.out
            have e3 := cellK (HO1.out.cell hy (t := 3) rfl) hBr.out
            have e4 := cellK (HO1.out.cell hy (t := 4) rfl) hBr.out
            rw [Nat.add_zero] at e0
            have HLS := Lib.hid fun (W : World) => less54 x y W
            unfold S29.val at HLS
            clear hy
            go_wp2
            have HK := Lib.hid fun (w' : World) (hb : Below wr.heap.size wr w') => (show w'.cell? ⟨b, off + i * 5, none⟩ = some (.int .i64 x.f0) ∧ w'.cell? ⟨b, off + i * 5 + 1, none⟩ = some (.int .i64 x.f1) ∧ w'.cell? ⟨b, off + i * 5 + 2, none⟩ = some (.int .i64 x.f2) ∧ w'.cell? ⟨b, off + i * 5 + 3, none⟩ = some (.int .i64 x.f3) ∧ w'.cell? ⟨b, off + i * 5 + 4, none⟩ = some (.string x.f4) ∧ w'.cell? ⟨g, k * 5, none⟩ = some (.int .i64 y.f0) ∧ w'.cell? ⟨g, k * 5 + 1, none⟩ = some (.int .i64 y.f1) ∧ w'.cell? ⟨g, k * 5 + 2, none⟩ = some (.int .i64 y.f2) ∧ w'.cell? ⟨g, k * 5 + 3, none⟩ = some (.int .i64 y.f3) ∧ w'.cell? ⟨g, k * 5 + 4, none⟩ = some (.string y.f4) ∧ Below wr.heap.size wr w' from ⟨cellK c0 hb, cellK c1 hb, cellK c2 hb, cellK c3 hb, cellK c4 hb, cellK e0 hb, cellK e1 hb, cellK e2 hb, cellK e3 hb, cellK e4 hb, hb⟩)
            have B0 := Lib.hid ((Below.refl wr.heap.size wr).drew)
            refine wp_region_held_drew (S := fun w' => w'.cell? ⟨b, off + i * 5, none⟩ = some (.int .i64 x.f0) ∧ w'.cell? ⟨b, off + i * 5 + 1, none⟩ = some (.int .i64 x.f1) ∧ w'.cell? ⟨b, off + i * 5 + 2, none⟩ = some (.int .i64 x.f2) ∧ w'.cell? ⟨b, off + i * 5 + 3, none⟩ = some (.int .i64 x.f3) ∧ w'.cell? ⟨b, off + i * 5 + 4, none⟩ = some (.string x.f4) ∧ w'.cell? ⟨g, k * 5, none⟩ = some (.int .i64 y.f0) ∧ w'.cell? ⟨g, k * 5 + 1, none⟩ = some (.int .i64 y.f1) ∧ w'.cell? ⟨g, k * 5 + 2, none⟩ = some (.int .i64 y.f2) ∧ w'.cell? ⟨g, k * 5 + 3, none⟩ = some (.int .i64 y.f3) ∧ w'.cell? ⟨g, k * 5 + 4, none⟩ = some (.string y.f4) ∧ Below wr.heap.size wr w') (by kernel_rfl) (HK.out _ B0.out) (fun hHeld => ?_)
            refine takeT (i := 0) (v := (.int .i64 (k : Int))) rfl (by kernel_rfl) (by kernel_rfl) (by kernel_rfl) (fun _ _ _ h => h) rfl ?_ (by assumption) ?_
            · intro w' hw'; go_split_ands; go_simp
            simp only [List.setIfInBounds_toArray, List.set_cons_zero, List.set_cons_succ]
            refine takeT (i := 1) (v := (.slice (some ⟨g, 0, none⟩) m cap)) rfl (by kernel_rfl) (by kernel_rfl) (by kernel_rfl) (fun _ _ _ h => h) rfl ?_ (by assumption) ?_
            · intro w' hw'; go_split_ands; go_simp
            simp only [List.setIfInBounds_toArray, List.set_cons_zero, List.set_cons_succ]
            refine takeT (i := 2) (v := (.int .i64 (m : Int))) rfl (by kernel_rfl) (by kernel_rfl) (by kernel_rfl) (fun _ _ _ h => h) rfl ?_ (by assumption) ?_
            · intro w' hw'; go_split_ands; go_simp
            simp only [List.setIfInBounds_toArray, List.set_cons_zero, List.set_cons_succ]
            refine takeT (i := 3) (v := (.bool true)) rfl (by kernel_rfl) (by kernel_rfl) (by kernel_rfl) (fun _ _ _ h => h) rfl ?_ (by assumption) ?_
            · intro w' hw'; go_split_ands; go_simp
            simp only [List.setIfInBounds_toArray, List.set_cons_zero, List.set_cons_succ]
            refine takeT (i := 4) (v := (.bool true)) rfl (by kernel_rfl) (by kernel_rfl) (by kernel_rfl) (fun _ _ _ h => h) rfl ?_ (by assumption) ?_
            · intro w' hw'; go_split_ands; go_simp
            simp only [List.setIfInBounds_toArray, List.set_cons_zero, List.set_cons_succ]
            refine takeT (i := 5) (v := (.slice (some ⟨b, off, none⟩) n c)) rfl (by kernel_rfl) (by kernel_rfl) (by kernel_rfl) (fun _ _ _ h => h) rfl ?_ (by assumption) ?_
            · intro w' hw'; go_split_ands; go_simp
            simp only [List.setIfInBounds_toArray, List.set_cons_zero, List.set_cons_succ]
            refine takeT (i := 6) (v := (.int .i64 (i : Int))) rfl (by kernel_rfl) (by kernel_rfl) (by kernel_rfl) (fun _ _ _ h => h) rfl ?_ (by assumption) ?_
            · intro w' hw'; go_split_ands; go_simp
            simp only [List.setIfInBounds_toArray, List.set_cons_zero, List.set_cons_succ]
            refine takeT (i := 7) (v := (.pointer (some ⟨b, off + i * 5, none⟩))) rfl (by kernel_rfl) (by kernel_rfl) (by kernel_rfl) (fun _ _ _ h => h) rfl ?_ (by assumption) ?_
            · intro w' hw'; go_split_ands; go_simp
            simp only [List.setIfInBounds_toArray, List.set_cons_zero, List.set_cons_succ]
            refine takeT (i := 8) (v := (.agg #[.int .i64 x.f0, .int .i64 x.f1, .int .i64 x.f2, .int .i64 x.f3, .string x.f4])) rfl (by kernel_rfl) (by kernel_rfl) (by kernel_rfl) (fun _ _ _ h => h) rfl ?_ (by assumption) ?_
            · intro w' hw'; go_split_ands; go_simp
            simp only [List.setIfInBounds_toArray, List.set_cons_zero, List.set_cons_succ]
            refine takeT (i := 9) (v := (.slice (some ⟨g, 0, none⟩) m cap)) rfl (by kernel_rfl) (by kernel_rfl) (by kernel_rfl) (fun _ _ _ h => h) rfl ?_ (by assumption) ?_
            · intro w' hw'; go_split_ands; go_simp
            simp only [List.setIfInBounds_toArray, List.set_cons_zero, List.set_cons_succ]
            refine takeT (i := 10) (v := (.int .i64 (k : Int))) rfl (by kernel_rfl) (by kernel_rfl) (by kernel_rfl) (fun _ _ _ h => h) rfl ?_ (by assumption) ?_
            · intro w' hw'; go_split_ands; go_simp
            simp only [List.setIfInBounds_toArray, List.set_cons_zero, List.set_cons_succ]
            refine takeT (i := 11) (v := (.pointer (some ⟨g, k * 5, none⟩))) rfl (by kernel_rfl) (by kernel_rfl) (by kernel_rfl) (fun _ _ _ h => h) rfl ?_ (by assumption) ?_
            · intro w' hw'; go_split_ands; go_simp
            simp only [List.setIfInBounds_toArray, List.set_cons_zero, List.set_cons_succ]
            refine takeT (i := 12) (v := (.agg #[.int .i64 y.f0, .int .i64 y.f1, .int .i64 y.f2, .int .i64 y.f3, .string y.f4])) rfl (by kernel_rfl) (by kernel_rfl) (by kernel_rfl) (fun _ _ _ h => h) rfl ?_ (by assumption) ?_
            · intro w' hw'; go_split_ands; go_simp
            simp only [List.setIfInBounds_toArray, List.set_cons_zero, List.set_cons_succ]
            refine wpAnyH_all (rs := [13]) (by kernel_rfl) (by simp) ?_
            intro i hi
            simp only [List.mem_cons, List.not_mem_nil, or_false] at hi
            subst hi
            refine wpOp_step rfl (fun K' hK' => ?_)
            rw [if_pos (by rfl)]
            go_simp
            go_at_call 54
            refine (HLS.out _).mono ?_
            rintro e wB ⟨rfl, hBB⟩
            have B1 := Lib.hid (below_go B0.out hBB)
            have hSB1 := HK.out wB B1.out
            refine hK' _ _ ⟨hSB1, ?_⟩
            try simp only [Act.put, List.setIfInBounds_toArray, List.set_cons_zero, List.set_cons_succ]
            refine takeT (i := 14) (v := (.bool (!x.less y))) rfl (by kernel_rfl) (by kernel_rfl) (by kernel_rfl) (fun _ _ _ h => h) rfl ?_ (by assumption) ?_
            · intro w' hw'; go_split_ands; go_simp
            simp only [List.setIfInBounds_toArray, List.set_cons_zero, List.set_cons_succ]
            refine takeT (i := 15) (v := (.bool (!x.less y))) rfl (by kernel_rfl) (by kernel_rfl) (by kernel_rfl) (fun _ _ _ h => h) rfl ?_ (by assumption) ?_
            · intro w' hw'; go_split_ands; go_simp
            simp only [List.setIfInBounds_toArray, List.set_cons_zero, List.set_cons_succ]
            refine wpAnyH_done (by kernel_rfl) ?_ _
            cases hless : x.less y with
            | true => 
              have HLE := Lib.hid hless
              clear hless
              go_wp2
              have HYES := Lib.hid (show ∀ y, acc[k]? = some y → x.less y = true from fun z hz => by rw [HY.out] at hz; cases hz; exact HLE.out)
              have HBW := Lib.hid (below_step hBr.out hBr.out.size B1.out)
              have HK9 := Lib.hid fun (w' : World) (hb : Below wB.heap.size wB w') => (show w'.cell? ⟨b, off + i * 5, none⟩ = some (.int .i64 x.f0) ∧ w'.cell? ⟨b, off + i * 5 + 1, none⟩ = some (.int .i64 x.f1) ∧ w'.cell? ⟨b, off + i * 5 + 2, none⟩ = some (.int .i64 x.f2) ∧ w'.cell? ⟨b, off + i * 5 + 3, none⟩ = some (.int .i64 x.f3) ∧ w'.cell? ⟨b, off + i * 5 + 4, none⟩ = some (.string x.f4) ∧ Below wB.heap.size wB w' from ⟨cellK (cellK b0 HBW.out) hb, cellK (cellK b1 HBW.out) hb, cellK (cellK b2 HBW.out) hb, cellK (cellK b3 HBW.out) hb, cellK (cellK b4 HBW.out) hb, hb⟩)
              have HOW := Lib.hid (HO1.out.below HBW.out)
              obtain ⟨o, ho, HOC⟩ := out_from (acc := acc) g cap k HM.out hkm
              have C0 := Lib.hid ((Below.refl wB.heap.size wB).drew)
              refine wp_region_held_drew (S := fun w' => w'.cell? ⟨b, off + i * 5, none⟩ = some (.int .i64 x.f0) ∧ w'.cell? ⟨b, off + i * 5 + 1, none⟩ = some (.int .i64 x.f1) ∧ w'.cell? ⟨b, off + i * 5 + 2, none⟩ = some (.int .i64 x.f2) ∧ w'.cell? ⟨b, off + i * 5 + 3, none⟩ = some (.int .i64 x.f3) ∧ w'.cell? ⟨b, off + i * 5 + 4, none⟩ = some (.string x.f4) ∧ Below wB.heap.size wB w') (by kernel_rfl) (HK9.out _ C0.out) (fun hHeld => ?_)
              refine takeT (i := 0) (v := (.slice (some ⟨b, off, none⟩) n c)) rfl (by kernel_rfl) (by kernel_rfl) (by kernel_rfl) (fun _ _ _ h => h) rfl ?_ (by assumption) ?_
              · intro w' hw'; go_split_ands; go_simp
              simp only [List.setIfInBounds_toArray, List.set_cons_zero, List.set_cons_succ]
              refine takeT (i := 1) (v := (.int .i64 (i : Int))) rfl (by kernel_rfl) (by kernel_rfl) (by kernel_rfl) (fun _ _ _ h => h) rfl ?_ (by assumption) ?_
              · intro w' hw'; go_split_ands; go_simp
              simp only [List.setIfInBounds_toArray, List.set_cons_zero, List.set_cons_succ]
              refine takeT (i := 2) (v := (.pointer (some ⟨b, off + i * 5, none⟩))) rfl (by kernel_rfl) (by kernel_rfl) (by kernel_rfl) (fun _ _ _ h => h) rfl ?_ (by assumption) ?_
              · intro w' hw'; go_split_ands; go_simp
              simp only [List.setIfInBounds_toArray, List.set_cons_zero, List.set_cons_succ]
              refine takeT (i := 3) (v := (.agg #[.int .i64 x.f0, .int .i64 x.f1, .int .i64 x.f2, .int .i64 x.f3, .string x.f4])) rfl (by kernel_rfl) (by kernel_rfl) (by kernel_rfl) (fun _ _ _ h => h) rfl ?_ (by assumption) ?_
              · intro w' hw'; go_split_ands; go_simp
              simp only [List.setIfInBounds_toArray, List.set_cons_zero, List.set_cons_succ]
              refine takeT (i := 5) (v := (.slice (some ⟨g, 0, none⟩) m cap)) rfl (by kernel_rfl) (by kernel_rfl) (by kernel_rfl) (fun _ _ _ h => h) rfl ?_ (by assumption) ?_
              · intro w' hw'; go_split_ands; go_simp
              simp only [List.setIfInBounds_toArray, List.set_cons_zero, List.set_cons_succ]
              refine takeT (i := 6) (v := (.int .i64 (k : Int))) rfl (by kernel_rfl) (by kernel_rfl) (by kernel_rfl) (fun _ _ _ h => h) rfl ?_ (by assumption) ?_
              · intro w' hw'; go_split_ands; go_simp
              simp only [List.setIfInBounds_toArray, List.set_cons_zero, List.set_cons_succ]
              refine takeT (i := 7) (v := (.slice (some ⟨g, o, none⟩) (m - k) (cap - k))) rfl (by kernel_rfl) (by kernel_rfl) (by kernel_rfl) (fun _ _ _ h => h) rfl ?_ (by assumption) ?_
              · intro w' hw'; go_split_ands; go_simp; exact ho.out
              simp only [List.setIfInBounds_toArray, List.set_cons_zero, List.set_cons_succ]
              refine wpAnyH_all (rs := [4]) (by kernel_rfl) (by simp) ?_
              intro i hi
              simp only [List.mem_cons, List.not_mem_nil, or_false] at hi
              subst hi
              refine wpOp_step rfl (fun K' hK' => ?_)
              rw [if_pos (by rfl)]
              go_simp
              have C1 := Lib.hid (C0.out.alloc (Nat.le_of_eq rfl) (.cells #[.int .i64 x.f0, .int .i64 x.f1, .int .i64 x.f2, .int .i64 x.f3, .string x.f4] 29))
              refine hK' _ _ ⟨HK9.out _ C1.out, ?_⟩
              try simp only [Act.put, List.setIfInBounds_toArray, List.set_cons_zero, List.set_cons_succ]
              refine wpAnyH_all (rs := [8]) (by kernel_rfl) (by simp) ?_
              intro i hi
              simp only [List.mem_cons, List.not_mem_nil, or_false] at hi
              subst hi
              refine wpOp_step rfl (fun K' hK' => ?_)
              rw [if_pos (by rfl)]
              refine wp_append_own _ (.tmp 42) (.tmp 45) 22 rfl wB.heap.size 29 i0 _ 5 48 Try.underlying22 hi hz0 hz1 hz2 rfl (by decide) _ 1 (cellsOf x) rfl (own_one wB.drew x (Nat.le_of_eq rfl)) ⟨g, o, none⟩ (m - k) (cap - k) (flat (acc.drop k)) rfl (by rw [flat_length, List.length_drop, HM.out]) (HOC.out _ _ (HOW.out.below C1.out)) (flat_one _) (by unfold maxLen; omega) (by omega) (by simp) ?_
              intro v6 w6 hown6 hg6 hnil6
              have C6 := Lib.hid (C1.out.grown hg6 (by simp) (by intro j hj; cases hj; exact Nat.le_of_eq rfl))
              have hS6 := HK9.out _ C6.out
              refine hK' _ _ ⟨hS6, ?_⟩
              simp only [Act.put, List.setIfInBounds_toArray]
              obtain ⟨g6, c6, rfl, hg6b⟩ := own_some hown6 (by omega)
              refine takeT (i := 9) (v := (.slice (some ⟨g6, 0, none⟩) (1 + (m - k)) c6)) rfl (by kernel_rfl) (by kernel_rfl) (by kernel_rfl) (fun _ _ _ h => h) rfl ?_ (by assumption) ?_
              · intro w' hw'; go_split_ands; go_simp
              simp only [List.setIfInBounds_toArray, List.set_cons_zero, List.set_cons_succ]
              refine wpAnyH_done (by kernel_rfl) ?_ _
              have HO6 := Lib.hid (HOW.out.below C6.out)
              go_wp2_with (at_builtin; refine wpList_append_grows _ rfl (.tmp 50) (.tmp 51) 22 rfl 29 i0 _ 5 48 Try.underlying22 hi hz0 hz1 hz2 rfl (by decide) (some ⟨g, 0, none⟩) k k (flat (acc.take k)) rfl (by intro h; cases h) (by rw [flat_length, List.length_take_of_le (by rw [← HM.out]; exact hkm)]) (HO6.out.first k) ⟨g6, 0, none⟩ (1 + (m - k)) c6 (cellsOf x ++ flat (acc.drop k)) rfl hown6.1 (hown6.cells rfl) (ones_app (cellsOf_one x) (flat_one _)) (by omega) (by unfold maxLen; omega) (by omega) ?_; intro v7 w7 hown7 hg7; obtain ⟨g7, c7, rfl, hg7b⟩ := own_some hown7 (by omega))
              go_roundg (n - (i + 1))
              case measure => omega
              case rel =>
                have hins : ins x acc = acc.take k ++ x :: acc.drop k := ins_at (by rw [← HM.out]; exact hkm) hno.out HYES.out
                have hlen : (ins x acc).length = k + (1 + (m - k)) := by rw [hins, List.length_append, List.length_cons, List.length_take_of_le (by rw [← HM.out]; exact hkm), List.length_drop, ← HM.out]; omega
                refine ⟨i + 1, g7, c7, ins x acc, by rw [hlen], by go_num, by omega, Nat.le_refl _, ?_, by rw [hlen]; omega, by rw [hlen]; exact hg7b, ?_, ?_⟩
                · unfold Hid; rw [insK_succ HX.out, HOK.out, ← hacc.out]; rfl
                · unfold Hid OutIs
                  rw [hlen, hins, flat_parts]
                  exact own_weaken hown7 (Nat.le_trans HB1.out.size (Nat.le_trans HBW.out.size C6.out.size))
                · exact (below_step (below_step HB1.out HB1.out.size HBW.out) (Nat.le_trans HB1.out.size HBW.out.size) C6.out).grown hg7 (Nat.le_trans HB1.out.size (Nat.le_trans HBW.out.size C6.out.size)) (by intro j hj; cases hj)
            | false => 
              have HLE := Lib.hid hless
              clear hless
              go_wp2
              go_roundg (m - (k + 1))
              case measure => omega
              case rel =>
                refine ⟨k + 1, by go_num, by omega, Nat.le_refl _, fun j z hz hj => ?_, below_step hBr.out hBr.out.size B1.out⟩
                rcases Nat.lt_succ_iff_lt_or_eq.1 hj with h | rfl
                · exact hno.out j z hz h
                · rw [HY.out] at hz; cases hz; exact HLE.out
          · have hkm' : k = m := by omega
            have HYES := Lib.hid (show ∀ y, acc[k]? = some y → x.less y = true from fun z hz => by have := (List.getElem?_eq_some_iff.1 hz).1; have := HM.out; omega)
            have hge : m ≤ k := by omega
            clear hklt hkm'
            go_wp2
            have HK := Lib.hid fun (w' : World) (hb : Below wr.heap.size wr w') => (show Below wr.heap.size wr w' from hb)
            have B0 := Lib.hid ((Below.refl wr.heap.size wr).drew)
            refine wp_region_held_drew (S := fun w' => Below wr.heap.size wr w') (by kernel_rfl) (HK.out _ B0.out) (fun hHeld => ?_)
            refine takeT (i := 0) (v := (.int .i64 (k : Int))) rfl (by kernel_rfl) (by kernel_rfl) (by kernel_rfl) (fun _ _ _ h => h) rfl ?_ (by assumption) ?_
            · intro w' hw'; go_split_ands; go_simp
            simp only [List.setIfInBounds_toArray, List.set_cons_zero, List.set_cons_succ]
            refine takeT (i := 1) (v := (.slice (some ⟨g, 0, none⟩) m cap)) rfl (by kernel_rfl) (by kernel_rfl) (by kernel_rfl) (fun _ _ _ h => h) rfl ?_ (by assumption) ?_
            · intro w' hw'; go_split_ands; go_simp
            simp only [List.setIfInBounds_toArray, List.set_cons_zero, List.set_cons_succ]
            refine takeT (i := 2) (v := (.int .i64 (m : Int))) rfl (by kernel_rfl) (by kernel_rfl) (by kernel_rfl) (fun _ _ _ h => h) rfl ?_ (by assumption) ?_
            · intro w' hw'; go_split_ands; go_simp
            simp only [List.setIfInBounds_toArray, List.set_cons_zero, List.set_cons_succ]
            refine takeT (i := 3) (v := (.bool false)) rfl (by kernel_rfl) (by kernel_rfl) (by kernel_rfl) (fun _ _ _ h => h) rfl ?_ (by assumption) ?_
            · intro w' hw'; go_split_ands; go_simp
            simp only [List.setIfInBounds_toArray, List.set_cons_zero, List.set_cons_succ]
            refine takeT (i := 4) (v := (.bool false)) rfl (by kernel_rfl) (by kernel_rfl) (by kernel_rfl) (fun _ _ _ h => h) rfl ?_ (by assumption) ?_
            · intro w' hw'; go_split_ands; go_simp
            simp only [List.setIfInBounds_toArray, List.set_cons_zero, List.set_cons_succ]
            refine skipT (i := 5) rfl (by kernel_rfl) (by kernel_rfl) (by kernel_rfl) (fun _ _ _ h => h) rfl (by assumption) ?_
            simp only [List.setIfInBounds_toArray, List.set_cons_zero, List.set_cons_succ]
            refine skipT (i := 6) rfl (by kernel_rfl) (by kernel_rfl) (by kernel_rfl) (fun _ _ _ h => h) rfl (by assumption) ?_
            simp only [List.setIfInBounds_toArray, List.set_cons_zero, List.set_cons_succ]
            refine skipT (i := 7) rfl (by kernel_rfl) (by kernel_rfl) (by kernel_rfl) (fun _ _ _ h => h) rfl (by assumption) ?_
            simp only [List.setIfInBounds_toArray, List.set_cons_zero, List.set_cons_succ]
            refine skipT (i := 8) rfl (by kernel_rfl) (by kernel_rfl) (by kernel_rfl) (fun _ _ _ h => h) rfl (by assumption) ?_
            simp only [List.setIfInBounds_toArray, List.set_cons_zero, List.set_cons_succ]
            refine skipT (i := 9) rfl (by kernel_rfl) (by kernel_rfl) (by kernel_rfl) (fun _ _ _ h => h) rfl (by assumption) ?_
            simp only [List.setIfInBounds_toArray, List.set_cons_zero, List.set_cons_succ]
            refine skipT (i := 10) rfl (by kernel_rfl) (by kernel_rfl) (by kernel_rfl) (fun _ _ _ h => h) rfl (by assumption) ?_
            simp only [List.setIfInBounds_toArray, List.set_cons_zero, List.set_cons_succ]
            refine skipT (i := 11) rfl (by kernel_rfl) (by kernel_rfl) (by kernel_rfl) (fun _ _ _ h => h) rfl (by assumption) ?_
            simp only [List.setIfInBounds_toArray, List.set_cons_zero, List.set_cons_succ]
            refine skipT (i := 12) rfl (by kernel_rfl) (by kernel_rfl) (by kernel_rfl) (fun _ _ _ h => h) rfl (by assumption) ?_
            simp only [List.setIfInBounds_toArray, List.set_cons_zero, List.set_cons_succ]
            refine skipT (i := 13) rfl (by kernel_rfl) (by kernel_rfl) (by kernel_rfl) (fun _ _ _ h => h) rfl (by assumption) ?_
            simp only [List.setIfInBounds_toArray, List.set_cons_zero, List.set_cons_succ]
            refine skipT (i := 14) rfl (by kernel_rfl) (by kernel_rfl) (by kernel_rfl) (fun _ _ _ h => h) rfl (by assumption) ?_
            simp only [List.setIfInBounds_toArray, List.set_cons_zero, List.set_cons_succ]
            refine takeT (i := 15) (v := (.bool false)) rfl (by kernel_rfl) (by kernel_rfl) (by kernel_rfl) (fun _ _ _ h => h) rfl ?_ (by assumption) ?_
            · intro w' hw'; go_split_ands; go_simp
            simp only [List.setIfInBounds_toArray, List.set_cons_zero, List.set_cons_succ]
            refine wpAnyH_done (by kernel_rfl) ?_ _
            clear hge
            obtain ⟨W, hW⟩ : ∃ W, W = wr.drew := ⟨_, rfl⟩
            rw [← hW] at B0 ⊢
            clear hW
            go_wp2
            have HBW := Lib.hid (below_step hBr.out hBr.out.size B0.out)
            have HK9 := Lib.hid fun (w' : World) (hb : Below W.heap.size W w') => (show w'.cell? ⟨b, off + i * 5, none⟩ = some (.int .i64 x.f0) ∧ w'.cell? ⟨b, off + i * 5 + 1, none⟩ = some (.int .i64 x.f1) ∧ w'.cell? ⟨b, off + i * 5 + 2, none⟩ = some (.int .i64 x.f2) ∧ w'.cell? ⟨b, off + i * 5 + 3, none⟩ = some (.int .i64 x.f3) ∧ w'.cell? ⟨b, off + i * 5 + 4, none⟩ = some (.string x.f4) ∧ Below W.heap.size W w' from ⟨cellK (cellK b0 HBW.out) hb, cellK (cellK b1 HBW.out) hb, cellK (cellK b2 HBW.out) hb, cellK (cellK b3 HBW.out) hb, cellK (cellK b4 HBW.out) hb, hb⟩)
            have HOW := Lib.hid (HO1.out.below HBW.out)
            obtain ⟨o, ho, HOC⟩ := out_from (acc := acc) g cap k HM.out hkm
            have C0 := Lib.hid ((Below.refl W.heap.size W).drew)
            refine wp_region_held_drew (S := fun w' => w'.cell? ⟨b, off + i * 5, none⟩ = some (.int .i64 x.f0) ∧ w'.cell? ⟨b, off + i * 5 + 1, none⟩ = some (.int .i64 x.f1) ∧ w'.cell? ⟨b, off + i * 5 + 2, none⟩ = some (.int .i64 x.f2) ∧ w'.cell? ⟨b, off + i * 5 + 3, none⟩ = some (.int .i64 x.f3) ∧ w'.cell? ⟨b, off + i * 5 + 4, none⟩ = some (.string x.f4) ∧ Below W.heap.size W w') (by kernel_rfl) (HK9.out _ C0.out) (fun hHeld => ?_)
            refine takeT (i := 0) (v := (.slice (some ⟨b, off, none⟩) n c)) rfl (by kernel_rfl) (by kernel_rfl) (by kernel_rfl) (fun _ _ _ h => h) rfl ?_ (by assumption) ?_
            · intro w' hw'; go_split_ands; go_simp
            simp only [List.setIfInBounds_toArray, List.set_cons_zero, List.set_cons_succ]
            refine takeT (i := 1) (v := (.int .i64 (i : Int))) rfl (by kernel_rfl) (by kernel_rfl) (by kernel_rfl) (fun _ _ _ h => h) rfl ?_ (by assumption) ?_
            · intro w' hw'; go_split_ands; go_simp
            simp only [List.setIfInBounds_toArray, List.set_cons_zero, List.set_cons_succ]
            refine takeT (i := 2) (v := (.pointer (some ⟨b, off + i * 5, none⟩))) rfl (by kernel_rfl) (by kernel_rfl) (by kernel_rfl) (fun _ _ _ h => h) rfl ?_ (by assumption) ?_
            · intro w' hw'; go_split_ands; go_simp
            simp only [List.setIfInBounds_toArray, List.set_cons_zero, List.set_cons_succ]
            refine takeT (i := 3) (v := (.agg #[.int .i64 x.f0, .int .i64 x.f1, .int .i64 x.f2, .int .i64 x.f3, .string x.f4])) rfl (by kernel_rfl) (by kernel_rfl) (by kernel_rfl) (fun _ _ _ h => h) rfl ?_ (by assumption) ?_
            · intro w' hw'; go_split_ands; go_simp
            simp only [List.setIfInBounds_toArray, List.set_cons_zero, List.set_cons_succ]
            refine takeT (i := 5) (v := (.slice (some ⟨g, 0, none⟩) m cap)) rfl (by kernel_rfl) (by kernel_rfl) (by kernel_rfl) (fun _ _ _ h => h) rfl ?_ (by assumption) ?_
            · intro w' hw'; go_split_ands; go_simp
            simp only [List.setIfInBounds_toArray, List.set_cons_zero, List.set_cons_succ]
            refine takeT (i := 6) (v := (.int .i64 (k : Int))) rfl (by kernel_rfl) (by kernel_rfl) (by kernel_rfl) (fun _ _ _ h => h) rfl ?_ (by assumption) ?_
            · intro w' hw'; go_split_ands; go_simp
            simp only [List.setIfInBounds_toArray, List.set_cons_zero, List.set_cons_succ]
            refine takeT (i := 7) (v := (.slice (some ⟨g, o, none⟩) (m - k) (cap - k))) rfl (by kernel_rfl) (by kernel_rfl) (by kernel_rfl) (fun _ _ _ h => h) rfl ?_ (by assumption) ?_
            · intro w' hw'; go_split_ands; go_simp; exact ho.out
            simp only [List.setIfInBounds_toArray, List.set_cons_zero, List.set_cons_succ]
            refine wpAnyH_all (rs := [4]) (by kernel_rfl) (by simp) ?_
            intro i hi
            simp only [List.mem_cons, List.not_mem_nil, or_false] at hi
            subst hi
            refine wpOp_step rfl (fun K' hK' => ?_)
            rw [if_pos (by rfl)]
            go_simp
            have C1 := Lib.hid (C0.out.alloc (Nat.le_of_eq rfl) (.cells #[.int .i64 x.f0, .int .i64 x.f1, .int .i64 x.f2, .int .i64 x.f3, .string x.f4] 29))
            refine hK' _ _ ⟨HK9.out _ C1.out, ?_⟩
            try simp only [Act.put, List.setIfInBounds_toArray, List.set_cons_zero, List.set_cons_succ]
            refine wpAnyH_all (rs := [8]) (by kernel_rfl) (by simp) ?_
            intro i hi
            simp only [List.mem_cons, List.not_mem_nil, or_false] at hi
            subst hi
            refine wpOp_step rfl (fun K' hK' => ?_)
            rw [if_pos (by rfl)]
            refine wp_append_own _ (.tmp 42) (.tmp 45) 22 rfl W.heap.size 29 i0 _ 5 48 Try.underlying22 hi hz0 hz1 hz2 rfl (by decide) _ 1 (cellsOf x) rfl (own_one W.drew x (Nat.le_of_eq rfl)) ⟨g, o, none⟩ (m - k) (cap - k) (flat (acc.drop k)) rfl (by rw [flat_length, List.length_drop, HM.out]) (HOC.out _ _ (HOW.out.below C1.out)) (flat_one _) (by unfold maxLen; omega) (by omega) (by simp) ?_
            intro v6 w6 hown6 hg6 hnil6
            have C6 := Lib.hid (C1.out.grown hg6 (by simp) (by intro j hj; cases hj; exact Nat.le_of_eq rfl))
            have hS6 := HK9.out _ C6.out
            refine hK' _ _ ⟨hS6, ?_⟩
            simp only [Act.put, List.setIfInBounds_toArray]
            obtain ⟨g6, c6, rfl, hg6b⟩ := own_some hown6 (by omega)
            refine takeT (i := 9) (v := (.slice (some ⟨g6, 0, none⟩) (1 + (m - k)) c6)) rfl (by kernel_rfl) (by kernel_rfl) (by kernel_rfl) (fun _ _ _ h => h) rfl ?_ (by assumption) ?_
            · intro w' hw'; go_split_ands; go_simp
            simp only [List.setIfInBounds_toArray, List.set_cons_zero, List.set_cons_succ]
            refine wpAnyH_done (by kernel_rfl) ?_ _
            have HO6 := Lib.hid (HOW.out.below C6.out)
            go_wp2_with (at_builtin; refine wpList_append_grows _ rfl (.tmp 50) (.tmp 51) 22 rfl 29 i0 _ 5 48 Try.underlying22 hi hz0 hz1 hz2 rfl (by decide) (some ⟨g, 0, none⟩) k k (flat (acc.take k)) rfl (by intro h; cases h) (by rw [flat_length, List.length_take_of_le (by rw [← HM.out]; exact hkm)]) (HO6.out.first k) ⟨g6, 0, none⟩ (1 + (m - k)) c6 (cellsOf x ++ flat (acc.drop k)) rfl hown6.1 (hown6.cells rfl) (ones_app (cellsOf_one x) (flat_one _)) (by omega) (by unfold maxLen; omega) (by omega) ?_; intro v7 w7 hown7 hg7; obtain ⟨g7, c7, rfl, hg7b⟩ := own_some hown7 (by omega))
            go_roundg (n - (i + 1))
            case measure => omega
            case rel =>
              have hins : ins x acc = acc.take k ++ x :: acc.drop k := ins_at (by rw [← HM.out]; exact hkm) hno.out HYES.out
              have hlen : (ins x acc).length = k + (1 + (m - k)) := by rw [hins, List.length_append, List.length_cons, List.length_take_of_le (by rw [← HM.out]; exact hkm), List.length_drop, ← HM.out]; omega
              refine ⟨i + 1, g7, c7, ins x acc, by rw [hlen], by go_num, by omega, Nat.le_refl _, ?_, by rw [hlen]; omega, by rw [hlen]; exact hg7b, ?_, ?_⟩
              · unfold Hid; rw [insK_succ HX.out, HOK.out, ← hacc.out]; rfl
              · unfold Hid OutIs
                rw [hlen, hins, flat_parts]
                exact own_weaken hown7 (Nat.le_trans HB1.out.size (Nat.le_trans HBW.out.size C6.out.size))
              · exact (below_step (below_step HB1.out HB1.out.size HBW.out) (Nat.le_trans HB1.out.size HBW.out.size) C6.out).grown hg7 (Nat.le_trans HB1.out.size (Nat.le_trans HBW.out.size C6.out.size)) (by intro j hj; cases hj)
    · obtain rfl : i = n := by omega
      have dlt : decide ((i : Int) < (i : Int)) = false := decide_eq_false (by omega)
      have hs : insK l i = sortV l := by unfold insK; rw [HN.out, List.take_length]
      go_wp2
      go_ret
      refine ⟨_, rfl, ?_, hB.out⟩
      rw [← hs, ← hacc.out]
      exact R_pls hown.out

set_option maxRecDepth 100000 in
set_option maxHeartbeats 1000000 in
theorem ordered36_nil (A : Option Addr) (c : Nat) (w : World) :
    Calls Try.prog 36 #[.slice A 0 c] w fun e w' => ∃ v, e = .returned v ∧ Kd.R k29 29 w' w.heap.size (fun _ => True) v (sortV []) ∧ Below w.heap.size w w' := by
  have H := Lib.hid (show OutIs (w.alloc (.cells #[] 29)) w.heap.size w.heap.size 0 [] from ⟨rfl, .inr ⟨w.heap.size, 0, #[], rfl, Nat.le_refl _, heap_alloc_new w _, by simp, by simp [maxLen], rfl, rfl⟩⟩)
  have HB := Lib.hid ((Below.refl w.heap.size w).alloc (Nat.le_refl _) (.cells #[] 29))
  go_enter Try.func36, Try.ntmps36
  go_wp2
  refine wp_loop_rounds 1 ?_
  rw [rounds_succ]
  go_wp2
  go_ret
  exact ⟨_, rfl, R_pls H.out, HB.out⟩

theorem ordered36 (A : Option Addr) (c : Nat) (l : List S29) (w : World) (hl : l.length ≤ 100) (h : Kd.C k29 w A l.length l) :
    Calls Try.prog 36 #[.slice A l.length c] w fun e w' => ∃ v, e = .returned v ∧ Kd.R k29 29 w' w.heap.size (fun _ => True) v (sortV l) ∧ Below w.heap.size w w' := by
  obtain ⟨_, hc⟩ := cells_of_C h
  cases l with
  | nil => exact ordered36_nil A c w
  | cons x xs =>
    obtain ⟨ad, rfl, hcell⟩ := hc (by simp)
    have h0 := hcell 0 x rfl 0 _ rfl
    have hs := World.cell?_spot h0
    obtain ⟨b, off, sp⟩ := ad
    obtain rfl : sp = none := hs
    exact ordered36_some b off c (x :: xs) w hl (fun j y hy i v hv => by
      have := hcell j y hy i v hv
      rw [Addr.add_lit] at this
      exact this)
end Go.Proofs.Ytihpiejlfdinaaa.PF

