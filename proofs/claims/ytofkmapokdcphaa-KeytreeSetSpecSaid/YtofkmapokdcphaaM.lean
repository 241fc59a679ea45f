import Derived.Test.YtofkmapokdcphaaL
namespace Go.Proofs.Ytofkmapokdcphaa
open Go Go.RowKit Go.Maps Go.My Go.Shelf Go.Sort

theorem mapIs_keys {α : Type} {ev : α → Value} {w : World} {b n : Nat} {f : Int → Option α} (h : MapIs K3 ev w b n f) :
    ∃ D : DataW Value, w.ownsMap Try.prog 3 hv b n D ∧ (intKeys D).Nodup ∧ (∀ x, x ∈ intKeys D ↔ (f x).isSome = true) ∧ (∀ x, (f x).isSome = true → (Lit.int .i64 x).wf = true) ∧ Maps.size D ≤ n := by
  obtain ⟨D, h1, h2, h3, h4⟩ := h
  obtain ⟨es, hD, hpw, _⟩ := h1.entries keyed3
  obtain ⟨es', hD', hko⟩ := h1.keysOf
  obtain rfl : es = es' := by rw [hD] at hD'; simpa using hD'
  subst hD
  have hk : ∀ p ∈ es, ∃ x, p.1 = .int .i64 x := fun p hp => by obtain ⟨v, hv⟩ := hko p hp; obtain ⟨x, _, hx, _⟩ := Maps.keyOf_i64 Try.underlying3 hv; exact ⟨x, hx⟩
  refine ⟨_, h1, ?_, ?_, ?_, h1.size_le⟩
  · show (es.map fun p => Go.intOf p.1).Nodup
    refine List.pairwise_map.2 (hpw.imp_of_mem fun {p q} hp' hq' hne e => hne ?_)
    obtain ⟨a, ha⟩ := hk p hp'
    obtain ⟨b, hb⟩ := hk q hq'
    rw [ha, hb] at e ⊢
    exact congrArg _ e
  · intro x
    have hx : x ∈ intKeys (.map es) ↔ has (.map es) (.int .i64 x) = true := by
      rw [has_eq, List.any_eq_true]
      show x ∈ es.map (fun p => Go.intOf p.1) ↔ _
      rw [List.mem_map]
      constructor
      · rintro ⟨p, hp', rfl⟩
        obtain ⟨a, ha⟩ := hk p hp'
        exact ⟨p, hp', by rw [ha]; simp [Lit.sameKey, Go.intOf]⟩
      · rintro ⟨p, hp', hs⟩
        obtain ⟨a, ha⟩ := hk p hp'
        rw [ha] at hs
        exact ⟨p, hp', by rw [ha]; simpa [Lit.sameKey, Go.intOf] using hs⟩
    rw [hx]
    cases hf : f x with
    | none => have := h3 x hf; change has _ (.int .i64 x) = false at this; rw [this]; simp
    | some a => have := (h4 x a hf).2.1; change has _ (.int .i64 x) = true at this; rw [this]; simp
  · intro x hx
    obtain ⟨a, ha⟩ := Option.isSome_iff_exists.1 hx
    exact (h4 x a ha).1

theorem keys66_any (mb : Option Nat) (W : World) : Calls Try.prog 66 #[.map mb] W fun e w' => e = .returned (.func (.func 84) #[] #[.pointer (some ⟨W.heap.size, 0, none⟩)]) ∧ w' = W.alloc (.cells #[.map mb] 59) :=
  (callsIn_wide (n := 5)).1 (AnyZI.keys_in Try.keys66 Fence.wide 5 trivial rfl mb W)

theorem sorted65_map {α : Type} {ev : α → Value} (w : World) (b n : Nat) (f : Int → Option α) (hn : n ≤ 5000) (h : MapIs K3 ev w b n f) :
    Calls Try.prog 65 #[.func (.func 84) #[] #[.pointer (some ⟨w.heap.size, 0, none⟩)]] (w.alloc (.cells #[.map (some b)] 59)) fun e w' => ∃ (v : Value) (ks : List Int), e = .returned v ∧ ks.Pairwise (· < ·) ∧ (∀ x, x ∈ ks ↔ (f x).isSome = true) ∧ ks.length ≤ n ∧
      IntsAt w' v ks ∧ Below w.heap.size w w' := by
  obtain ⟨D, hown, hnd, hmem, hwf, hsz⟩ := mapIs_keys h
  have hbl := hown.lt
  have hseq : SeqGives Fence.wide 2 Try.prog 84 #[.pointer (some ⟨w.heap.size, 0, none⟩)] encZ (fun ss => ss.Perm (intKeys D)) (Maps.size D) (w.alloc (.cells #[.map (some b)] 59)) :=
    AnyZI.keys_gives (ρ := Try.keys66_ren) { Try.keys66 with } Fence.wide _ trivial rfl (by omega) w.heap.size b n D _ (by simp) (by simp) (by
      obtain ⟨es, clock, hb, Ft, hs, hD⟩ := hown
      exact ⟨es, clock, (Below.heap_alloc _ _ b hbl).trans hb, Ft, hs, hD⟩)
  have cS := AnyZI.sorted_in Try.sorted65 Fence.wide 5 trivial trivial trivial trivial rfl (by omega) (Try.sorts65 _) (enters_of Try.func42 (by kernel_rfl) rfl) 84 #[.pointer (some ⟨w.heap.size, 0, none⟩)] trivial (enters_of Try.func84 (by kernel_rfl) rfl) _ _ (by unfold maxLen; omega) (by omega) _ hseq
  have cS' : CallsIn Fence.wide 5 Try.prog 65 _ _ _ := cS
  refine ((callsIn_wide (n := 5)).1 cS').mono ?_
  rintro e w' ⟨v, ss, rfl, hperm, hrow, _, hB⟩
  have hnd' : ss.Nodup := hperm.nodup_iff.2 hnd
  refine ⟨v, ss.mergeSort (fun x y => decide (x ≤ y)), rfl, ?_, ?_, ?_, .of_own hrow, ((Below.refl _ w).alloc (Nat.le_refl _) _).trans (hB.mono (by simp))⟩
  · have h1 := mergeSort_sorted ss
    have h2 : (ss.mergeSort (fun x y => decide (x ≤ y))).Nodup := (List.mergeSort_perm ss _).nodup_iff.2 hnd'
    exact (h1.and h2).imp (fun ⟨a, b⟩ => by omega)
  · intro x
    rw [List.mem_mergeSort, ← hmem x]
    exact hperm.mem_iff
  · rw [List.length_mergeSort, hperm.length_eq]
    refine Nat.le_trans ?_ hsz
    cases D <;> simp [intKeys, Maps.size]

theorem sorted65_nil (w : World) :
    Calls Try.prog 65 #[.func (.func 84) #[] #[.pointer (some ⟨w.heap.size, 0, none⟩)]] (w.alloc (.cells #[.map none] 59)) fun e w' => e = .returned (.slice none 0 0) ∧ Below w.heap.size w w' := by
  have hseq : SeqGives Fence.wide 2 Try.prog 84 #[.pointer (some ⟨w.heap.size, 0, none⟩)] encZ (fun ss : List Int => ss = []) 0 (w.alloc (.cells #[.map none] 59)) :=
    AnyZI.keys_gives_nil (ρ := Try.keys66_ren) { Try.keys66 with } Fence.wide _ trivial rfl w.heap.size _ (by simp) (by simp)
  have cS := AnyZI.sorted_in Try.sorted65 Fence.wide 5 trivial trivial trivial trivial rfl (by omega) (Try.sorts65 _) (enters_of Try.func42 (by kernel_rfl) rfl) 84 #[.pointer (some ⟨w.heap.size, 0, none⟩)] trivial (enters_of Try.func84 (by kernel_rfl) rfl) _ 0 (Nat.zero_le _) (by omega) _ hseq
  have cS' : CallsIn Fence.wide 5 Try.prog 65 _ _ _ := cS
  refine ((callsIn_wide (n := 5)).1 cS').mono ?_
  rintro e w' ⟨v, ss, rfl, rfl, hrow, hnil, hB⟩
  obtain rfl : v = .slice none 0 0 := hnil.2 rfl
  exact ⟨rfl, ((Below.refl _ w).alloc (Nat.le_refl _) _).trans (hB.mono (by simp))⟩
end Go.Proofs.Ytofkmapokdcphaa
