import Derived.Test.YtofkmapokdcphaaOt
namespace Go.Proofs.Ytofkmapokdcphaa
open Go Go.RowKit Go.Maps Go.My Go.Shelf

theorem updL_cons (f : Int → Option Int) (n : Int × Int) (L : List (Int × Int)) : updL f (n :: L) = updL (upd f n.1 (some n.2)) L := rfl

theorem updL_out : ∀ (ks ps : List Int) (f : Int → Option Int) (x : Int), x ∉ ks → updL f (ks.zip ps) x = f x
  | [], _, f, x, _ => by simp [updL]
  | k :: ks, [], f, x, _ => by simp [updL]
  | k :: ks, p :: ps, f, x, h => by
    rw [List.zip_cons_cons, updL_cons, updL_out ks ps _ x (fun hx => h (by simp [hx]))]
    unfold upd
    rw [if_neg (fun e => h (by simp [e]))]

theorem updL_in : ∀ (ks ps : List Int) (f : Int → Option Int) (i : Nat) (x p : Int), ks.Nodup → ks[i]? = some x → ps[i]? = some p → updL f (ks.zip ps) x = some p
  | [], _, f, i, x, p, _, h, _ => by cases h
  | k :: ks, [], f, i, x, p, _, _, h => by cases h
  | k :: ks, q :: ps, f, i, x, p, hn, h1, h2 => by
    rw [List.nodup_cons] at hn
    rw [List.zip_cons_cons, updL_cons]
    cases i with
    | zero =>
      simp at h1 h2
      subst h1 h2
      rw [updL_out ks ps _ k hn.1]
      unfold upd
      rw [if_pos rfl]
    | succ i => exact updL_in ks ps _ i x p hn.2 (by simpa using h1) (by simpa using h2)

theorem anc_at (d k : Nat) (hk : k < 10) : (anc d)[k]? = some (((512 + d) / 2 ^ k : Nat) : Int) := by
  unfold anc
  cases k with
  | zero => simp
  | succ k =>
    rw [List.getElem?_cons_succ, Int.toNat_natCast]
    unfold pathL
    rw [List.getElem?_map, ups_at _ _ (by omega)]
    simp only [Option.map_some]
    rw [Nat.pow_succ, ← Nat.div_div_eq_div_mul]
    rfl

theorem lvl_tab : ∀ d : Nat, d < 512 → ∀ k : Nat, k < 10 → lvl (((512 + d) / 2 ^ k : Nat) : Int) = k := of_decide_eq_true (by kernel_rfl)

theorem anc_nodup {d : Nat} (hd : d < 512) : (anc d).Nodup := by
  rw [List.nodup_iff_pairwise_ne, List.pairwise_iff_getElem]
  intro i j hi hj hij e
  rw [anc_length] at hi hj
  have h1 := anc_at d i hi
  have h2 := anc_at d j hj
  rw [List.getElem?_eq_getElem (by rw [anc_length]; exact hi)] at h1
  rw [List.getElem?_eq_getElem (by rw [anc_length]; exact hj)] at h2
  have e1 := lvl_tab d hd i hi
  have e2 := lvl_tab d hd j hj
  rw [e] at h1
  rw [h1] at h2
  have h3 : (((512 + d) / 2 ^ i : Nat) : Int) = (((512 + d) / 2 ^ j : Nat) : Int) := Option.some.inj h2
  rw [h3, e2] at e1
  omega

section
variable {F : Int → Option Int} {d : Nat} {ps : List Int}

theorem renF_in (hd : d < 512) (_hp : ps.length = 10) {k : Nat} (_hk : k < 10) {x p : Int} (hx : (anc d)[k]? = some x) (hpk : ps[k]? = some p) : renF F d ps x = some p :=
  updL_in _ _ _ k x p (anc_nodup hd) hx hpk
theorem renF_out {x : Int} (hx : x ∉ anc d) : renF F d ps x = F x := by
  unfold renF
  rw [updL_out _ _ _ _ hx]
  unfold chF chL
  rw [if_neg hx]
theorem renF_mem (hd : d < 512) (hp : ps.length = 10) {x : Int} (hx : x ∈ anc d) : ∃ p, p ∈ ps ∧ renF F d ps x = some p := by
  obtain ⟨k, hk, e⟩ := List.mem_iff_getElem.1 hx
  rw [anc_length] at hk
  refine ⟨ps[k], List.getElem_mem _, renF_in hd hp hk (x := x) (p := ps[k]) (by rw [List.getElem?_eq_getElem (by rw [anc_length]; exact hk), e]) (List.getElem?_eq_getElem _)⟩

theorem renF_valid (h : Valid F) (hd : d < 512) (hp : ps.length = 10) (hc : ∀ p ∈ ps, chk p = 0) : Valid (renF F d ps) := by
  intro x c hx
  by_cases hm : x ∈ anc d
  · obtain ⟨p, hp1, e⟩ := renF_mem (F := F) hd hp hm
    rw [e] at hx
    cases hx
    have hr := anc_range hd hm
    refine ⟨hr.1, hr.2, hc _ hp1, 512 + d, by omega, by omega, ?_, by rw [show (512 + (d : Int)) - 512 = d by omega]; exact hm⟩
    obtain ⟨p2, _, e2⟩ := renF_mem (F := F) hd hp (anc_self d)
    rw [e2]; rfl
  · rw [renF_out hm] at hx
    obtain ⟨v1, v2, v3, l, l0, l1, l2, l3⟩ := h x c hx
    refine ⟨v1, v2, v3, l, l0, l1, ?_, l3⟩
    by_cases hl : l ∈ anc d
    · obtain ⟨p2, _, e2⟩ := renF_mem (F := F) hd hp hl
      rw [e2]; rfl
    · rw [renF_out hl]; exact l2
end

theorem mem_memL_F {xs : List Nd} (h : checkL xs = 0) (x : Int) : x ∈ memL xs ↔ (ofF xs (512 + x)).isSome = true ∧ 0 ≤ x ∧ x < 512 := by
  rw [mem_memL]
  constructor
  · rintro ⟨⟨n, hn, e⟩, hr⟩
    refine ⟨?_, hr⟩
    rw [← e, ofF_sorted (checked h).1 hn]; rfl
  · rintro ⟨hs, hr⟩
    obtain ⟨c, hc⟩ := Option.isSome_iff_exists.1 hs
    exact ⟨⟨_, ofF_some hc, rfl⟩, hr⟩

theorem memL_eq {xs ys : List Nd} (h : checkL xs = 0) (h' : checkL ys = 0) (he : ∀ x, 0 ≤ x → x < 512 → (ofF ys (512 + x)).isSome = (ofF xs (512 + x)).isSome) : memL ys = memL xs := by
  refine sorted_ext (memL_sorted _) (memL_sorted _) fun x => ?_
  rw [mem_memL_F h, mem_memL_F h']
  constructor
  · rintro ⟨a, b, c⟩; exact ⟨by rw [← he x b c]; exact a, b, c⟩
  · rintro ⟨a, b, c⟩; exact ⟨by rw [he x b c]; exact a, b, c⟩

/-- What Renew and Set lead to. -/
structure RenFacts (xs X Y : List Nd) (M : List Int) (d : Nat) (ps : List Int) : Prop where
  ren : renewL xs d ps = (X, 0)
  set : ∀ p0, ps[0]? = some p0 → setL xs d p0 = (Y, 0)
  cX : checkL X = 0
  cY : checkL Y = 0
  lX : X.length ≤ 100
  lY : Y.length ≤ 100
  own : ∀ (k : Nat) (node p : Int), (anc d)[k]? = some node → ps[k]? = some p → ofF X node = some p ∧ lvl node = k ∧ 1 ≤ node ∧ node ≤ 1023 ∧ (ofF Y node).isSome = decide (k = 0) ∧ (k = 0 → ofF Y node = some p)
  other : ∀ n ∈ xs, n.1 ∉ anc d → ofF X n.1 = some n.2 ∧ ofF Y n.1 = some n.2
  root : resL X 1 = ([1], 0)
  mX : memL X = M
  mY : memL Y = M

theorem ren_facts {xs : List Nd} {M : List Int} {d : Nat} {ps : List Int} (hm : xs.length ≤ 80) (hc : checkL xs = 0) (hM : memL xs = M) (hdM : (d : Int) ∈ M) (hd : d < 512) (hp : ps.length = 10) (hg : ∀ p ∈ ps, chk p = 0) : ∃ X Y, RenFacts xs X Y M d ps := by
  obtain ⟨p0, h0⟩ : ∃ p0, ps[0]? = some p0 := ⟨_, List.getElem?_eq_getElem (by omega)⟩
  have hp0 := hg p0 (List.mem_of_getElem? h0)
  have hV := valid_of hc
  have hF := treeL_of hc
  have vX := renF_valid hV hd hp hg
  have vY := setF2_valid (p := p0) hV (show (0 : Int) ≤ (d : Int) by omega) (by omega) hp0
  have kX := checkL_treeL vX
  have kY := checkL_treeL vY
  have oX := of_treeL vX
  have oY := of_treeL vY
  have hdS : (ofF xs (512 + (d : Int))).isSome = true := mem_isSome hc (by rw [hM]; exact hdM)
  have hkey : ∀ x c, ofF xs x = some c → x ∈ xs.map (·.1) := fun x c hx => List.mem_map.2 ⟨(x, c), ofF_some hx, rfl⟩
  have hlX : (treeL (renF (ofF xs) d ps)).length ≤ 100 := by
    have := treeL_length (F := renF (ofF xs) d ps) (anc d ++ xs.map (·.1)) (by
      intro x c hx
      by_cases hxm : x ∈ anc d
      · exact List.mem_append_left _ hxm
      · rw [renF_out hxm] at hx
        exact List.mem_append_right _ (hkey x c hx))
    rw [List.length_append, anc_length, List.length_map] at this
    omega
  have hlY : (treeL (setF2 (ofF xs) d p0)).length ≤ 100 := by
    have := treeL_length (F := setF2 (ofF xs) d p0) ((512 + (d : Int)) :: xs.map (·.1)) (by
      intro x c hx
      rw [setF2_at] at hx
      by_cases e : x = 512 + d
      · simp [e]
      · rw [if_neg e] at hx
        split at hx
        · cases hx
        · exact List.mem_cons_of_mem _ (hkey x c hx))
    rw [List.length_cons, List.length_map] at this
    omega
  have h1X : renewL xs d ps = (treeL (renF (ofF xs) d ps), 0) := by
    unfold renewL
    rw [if_neg (by simp [hc]), if_neg, if_neg]
    · rintro (q | q)
      · exact q hp
      · obtain ⟨p, hp1, hp2⟩ := List.any_eq_true.1 q
        unfold badP at hp2
        simp [hg p hp1] at hp2
    · rintro (q | q | q)
      · omega
      · omega
      · rw [q] at hdS; cases hdS
  have h1Y := setL_ok (p := p0) hV (show (0 : Int) ≤ (d : Int) by omega) (by omega) hp0
  rw [hF] at h1Y
  generalize treeL (renF (ofF xs) d ps) = X at *
  generalize treeL (setF2 (ofF xs) d p0) = Y at *
  have hleaf : ∀ x : Int, 0 ≤ x → x < 512 → 512 + x ∈ anc d → x = d := fun x x0 x1 h => by
    have := anc_leaf hd (show (512 : Int) ≤ 512 + x by omega) h; omega
  refine ⟨X, Y, h1X, fun p hp' => by rw [h0] at hp'; cases hp'; exact h1Y, kX, kY, hlX, hlY, ?_, ?_, ?_, ?_, ?_⟩
  · intro k node p hk hpk
    have hk10 : k < 10 := by have := (List.getElem?_eq_some_iff.1 hk).1; rwa [anc_length] at this
    have hmem := List.mem_of_getElem? hk
    have hr := anc_range hd hmem
    have hat := anc_at d k hk10
    rw [hk] at hat
    have hlv := lvl_tab d hd k hk10
    rw [← Option.some.inj hat] at hlv
    refine ⟨by rw [oX]; exact renF_in hd hp hk10 hk hpk, hlv, hr.1, hr.2, ?_, ?_⟩
    · rw [oY, setF2_at]
      by_cases hk0 : k = 0
      · subst hk0
        rw [if_pos (by have := Option.some.inj hat; rw [this]; simp)]
        simp
      · rw [if_neg, if_pos hmem, decide_eq_false hk0]
        · rfl
        · intro e
          have e0 := lvl_tab d hd 0 (by omega)
          rw [e] at hlv
          rw [show (((512 + d) / 2 ^ 0 : Nat) : Int) = 512 + (d : Int) by simp] at e0
          rw [hlv] at e0
          omega
    · rintro rfl
      rw [oY, setF2_at, if_pos (by have := Option.some.inj hat; rw [this]; simp), ← h0, hpk]
  · intro n hn hna
    have he := ofF_sorted (checked hc).1 hn
    refine ⟨by rw [oX, renF_out hna]; exact he, ?_⟩
    rw [oY, setF2_at, if_neg (fun e => hna (by rw [e]; exact anc_self d)), if_neg hna]
    exact he
  · unfold resL
    rw [if_neg (by simp [kX]), if_neg (by omega), resF_some]
    rw [oX]
    have h1 := anc_at d 9 (by omega)
    rw [show (512 + d) / 2 ^ 9 = 1 by omega] at h1
    obtain ⟨p, _, e⟩ := renF_mem (F := ofF xs) hd hp (List.mem_of_getElem? h1)
    rw [show ((1 : Nat) : Int) = 1 from rfl] at e
    rw [e]; rfl
  · rw [← hM]
    refine memL_eq hc kX fun x x0 x1 => ?_
    rw [oX]
    by_cases hxm : 512 + x ∈ anc d
    · obtain rfl := hleaf x x0 x1 hxm
      obtain ⟨p, _, e⟩ := renF_mem (F := ofF xs) hd hp hxm
      rw [e, hdS]; rfl
    · rw [renF_out hxm]
  · rw [← hM]
    refine memL_eq hc kY fun x x0 x1 => ?_
    rw [oY, setF2_at]
    by_cases hxd : x = d
    · subst hxd
      rw [if_pos rfl, hdS]; rfl
    · rw [if_neg (by omega), if_neg (fun h => hxd (hleaf x x0 x1 h))]
end Go.Proofs.Ytofkmapokdcphaa
