/-
  Chapter 36: what the program computes is what the reference computes. Plain lists and numbers.
-/
import Derived.Test.YtdolhcppabcodaaO0
namespace Go.Ord

theorem lb_strict {l : List Int} {x y : Int} (hx : x ∈ l) (h : x < y) : lb l x < lb l y := by
  unfold lb
  have e : (l.filter fun z => decide (z < x)) = (l.filter fun z => decide (z < y)).filter fun z => decide (z < x) := by
    rw [List.filter_filter]
    apply List.filter_congr
    intro z _
    by_cases h1 : z < x
    · simp [h1, Int.lt_trans h1 h]
    · simp [h1]
  rw [e]
  exact List.length_filter_lt_length_iff_exists.2 ⟨x, List.mem_filter.2 ⟨hx, by simpa using h⟩, by simp⟩
theorem lb_inj {l : List Int} {x y : Int} (hx : x ∈ l) (hy : y ∈ l) (h : lb l x = lb l y) : x = y := by
  rcases Int.lt_trichotomy x y with h' | h' | h'
  · have := lb_strict hx h'; omega
  · exact h'
  · have := lb_strict hy h'; omega

theorem maskTo_bit (A r : List Int) (j : Nat) : ∀ k, k ≤ r.length → ((maskTo A r k).testBit j = true ↔ ∃ x ∈ r.take k, lb A x = j)
  | 0, _ => by simp [maskTo]
  | k + 1, hk => by
    have hk' : k < r.length := hk
    rw [maskTo, Nat.testBit_or, Bool.or_eq_true, maskTo_bit A r j k (by omega), getD_lt hk', List.take_succ_eq_append_getElem hk', Nat.testBit_two_pow]
    simp only [decide_eq_true_eq, List.mem_append, List.mem_singleton]
    constructor
    · rintro (⟨x, h1, h2⟩ | h)
      · exact ⟨x, .inl h1, h2⟩
      · exact ⟨_, .inr rfl, h⟩
    · rintro ⟨x, h1 | rfl, h2⟩
      · exact .inl ⟨x, h1, h2⟩
      · exact .inr h2
theorem mask_bit (A r : List Int) (j : Nat) : (mask A r).testBit j = true ↔ ∃ x ∈ r, lb A x = j := by
  rw [mask, maskTo_bit A r j r.length (Nat.le_refl _), List.take_length]

theorem mask_zero (A r : List Int) : mask A r = 0 ↔ r = [] := by
  constructor
  · intro h
    cases r with
    | nil => rfl
    | cons x r =>
      have := (mask_bit A (x :: r) (lb A x)).2 ⟨x, by simp, rfl⟩
      rw [h] at this; simp at this
  · rintro rfl; rfl
theorem and_eq_left {m n : Nat} : m &&& n = m ↔ ∀ j, m.testBit j = true → n.testBit j = true := by
  constructor
  · intro h j hj
    rw [← h, Nat.testBit_and, Bool.and_eq_true] at hj
    exact hj.2
  · intro h
    apply Nat.eq_of_testBit_eq
    intro j
    rw [Nat.testBit_and]
    cases hm : m.testBit j
    · rfl
    · rw [h j hm]; rfl
section
variable {rows : List (List Int)}
theorem mask_sub {a b : List Int} (ha : a ∈ rows) (hb : b ∈ rows) : mask (allOf rows) a &&& mask (allOf rows) b = mask (allOf rows) a ↔ ∀ t ∈ a, t ∈ b := by
  rw [and_eq_left]
  constructor
  · intro h t ht
    obtain ⟨x, hx, he⟩ := (mask_bit _ _ _).1 (h _ ((mask_bit _ _ _).2 ⟨t, ht, rfl⟩))
    rw [← lb_inj ((allOf_mem rows x).2 ⟨b, hb, hx⟩) ((allOf_mem rows t).2 ⟨a, ha, ht⟩) he]
    exact hx
  · intro h j hj
    obtain ⟨x, hx, rfl⟩ := (mask_bit _ _ _).1 hj
    exact (mask_bit _ _ _).2 ⟨x, h x hx, rfl⟩
theorem mask_eq {a b : List Int} (ha : a ∈ rows) (hb : b ∈ rows) : mask (allOf rows) a = mask (allOf rows) b ↔ (∀ t ∈ a, t ∈ b) ∧ ∀ t ∈ b, t ∈ a := by
  rw [← mask_sub ha hb, ← mask_sub hb ha]
  constructor
  · intro h; rw [h]; exact ⟨Nat.and_self _, Nat.and_self _⟩
  · rintro ⟨h1, h2⟩; rw [← h1, Nat.and_comm, h2]
theorem masks_at {a : Nat} (h : a < rows.length) : mAt (masks rows) a = mask (allOf rows) rows[a] := by
  unfold mAt masks
  rw [getD_lt (by simpa using h)]; simp
theorem killed_eq {a : Nat} (h : a < rows.length) : mKilled (masks rows) a = !(rows[a]).isEmpty := by
  unfold mKilled
  rw [masks_at h, Bool.eq_iff_iff]
  simp [mask_zero]
theorem belowN_eq {a b : Nat} (ha : a < rows.length) (hb : b < rows.length) : mBelow (masks rows) a b = belowN rows a b := by
  unfold mBelow belowN
  rw [killed_eq ha, masks_at ha, masks_at hb, getD_lt ha, getD_lt hb]
  congr 1
  rw [Bool.eq_iff_iff, decide_eq_true_eq, mask_sub (List.getElem_mem ha) (List.getElem_mem hb), List.all_eq_true]
  simp
theorem pBelow_eq (rows : List (List Int)) (a b : Int) : pBelow rows a b = below rows a b := by
  unfold pBelow below
  by_cases h : 0 ≤ a ∧ a < rows.length ∧ 0 ≤ b ∧ b < rows.length
  · rw [decide_eq_true h, decide_eq_true (by omega), belowN_eq (by omega) (by omega)]
  · rw [decide_eq_false h, decide_eq_false (by omega)]; rfl

theorem classTo_none {i : Nat} : ∀ k, k ≤ i + 1 → (∀ j, i + 1 - k ≤ j → j ≤ i → (belowN rows i j && belowN rows j i) = false) → classTo rows i k = -1
  | 0, _, _ => rfl
  | k + 1, hk, h => by
    rw [classTo, h (i - k) (by omega) (by omega)]
    exact classTo_none k (by omega) fun j h1 h2 => h j (by omega) h2
theorem classTo_some {i j0 : Nat} (hj : j0 ≤ i) (h0 : (belowN rows i j0 && belowN rows j0 i) = true) : ∀ k, k ≤ i + 1 → i + 1 - k ≤ j0 → (∀ j, i + 1 - k ≤ j → j < j0 → (belowN rows i j && belowN rows j i) = false) → classTo rows i k = j0
  | 0, _, h, _ => by omega
  | k + 1, hk, h, hno => by
    rw [classTo]
    by_cases he : i - k = j0
    · rw [he, h0]; rfl
    · rw [hno (i - k) (by omega) (by omega)]
      exact classTo_some hj h0 k (by omega) (by omega) fun j h1 h2 => hno j (by omega) h2
theorem both_eq {i j : Nat} (hi : i < rows.length) (hj : j < rows.length) (hk : rows[i] ≠ []) : (belowN rows i j && belowN rows j i) = decide (mask (allOf rows) rows[j] = mask (allOf rows) rows[i]) := by
  rw [Bool.eq_iff_iff, Bool.and_eq_true, decide_eq_true_eq, mask_eq (List.getElem_mem hj) (List.getElem_mem hi)]
  unfold belowN
  rw [getD_lt hi, getD_lt hj]
  simp only [Bool.and_eq_true, Bool.not_eq_true', List.isEmpty_eq_false_iff, List.all_eq_true, List.contains_iff_mem]
  constructor
  · rintro ⟨⟨_, h1⟩, _, h2⟩; exact ⟨h2, h1⟩
  · rintro ⟨h1, h2⟩
    refine ⟨⟨hk, h2⟩, ?_, h1⟩
    intro he
    cases hr : rows[i] with
    | nil => exact hk hr
    | cons x r =>
      have := h2 x (by rw [hr]; simp)
      rw [he] at this; simp at this
theorem classOf_eq {i : Nat} (hi : i < rows.length) : mClassOf (masks rows) i = classOf rows i := by
  unfold mClassOf classOf
  rw [killed_eq hi]
  by_cases hk : rows[i] = []
  · rw [hk]
    symm
    refine classTo_none (i + 1) (Nat.le_refl _) fun j _ _ => ?_
    unfold belowN
    rw [getD_lt hi, hk]; rfl
  · have hne : (!(rows[i]).isEmpty) = true := by simpa using hk
    rw [if_pos hne]
    have hp : ((masks rows).any fun m => decide (m = mAt (masks rows) i)) = true := List.any_eq_true.2 ⟨mAt (masks rows) i, by
      unfold mAt; rw [getD_lt (by simpa [masks] using hi)]; exact List.getElem_mem _, by simp⟩
    rw [← findI_any] at hp
    obtain ⟨j0, h1, h2, h3, h4⟩ := findI_pos (p := fun m => decide (m = mAt (masks rows) i)) (l := masks rows) (fun e => by rw [e] at hp; simp at hp)
    rw [h1]
    have hl := masks_len rows
    have hj0 : j0 < rows.length := by omega
    have hm : ∀ (j : Nat) (h : j < (masks rows).length) (h' : j < rows.length), (masks rows)[j] = mask (allOf rows) rows[j] := fun j h h' => by simp [masks]
    have hno : ∀ j (h : j < j0) (h' : j < rows.length), mask (allOf rows) rows[j] ≠ mask (allOf rows) rows[i] := fun j h h' e => by
      have := h4 (masks rows)[j] (by rw [List.mem_take_iff_getElem]; exact ⟨j, by omega, rfl⟩)
      rw [hm j (by omega) h', masks_at hi] at this
      simp [e] at this
    have hle : j0 ≤ i := by
      rcases Nat.lt_or_ge i j0 with h | h
      · exact absurd rfl (hno i h hi)
      · exact h
    symm
    refine classTo_some hle ?_ (i + 1) (Nat.le_refl _) (by omega) fun j _ hj => ?_
    · rw [both_eq hi hj0 hk]
      rw [hm j0 h2 hj0, masks_at hi] at h3
      exact h3
    · rw [both_eq hi (by omega) hk]
      exact decide_eq_false (hno j hj (by omega))
theorem mClasses_eq (rows : List (List Int)) : mClasses (masks rows) = classes rows := by
  unfold mClasses classes
  rw [masks_len]
  exact List.map_congr_left fun i hi => classOf_eq (List.mem_range.1 hi)
theorem pFirsts_eq (rows : List (List Int)) : pFirsts rows = firsts rows := by rw [pFirsts, firsts, mClasses_eq]

/-! The firsts stand in order. -/
theorem firsts_pw (rows : List (List Int)) : (firsts rows).Pairwise (· < ·) := by
  unfold firsts firstsOf firstsTo
  rw [List.pairwise_map]
  exact (List.pairwise_lt_range.filter _).imp fun h => by omega
theorem firsts_inj {i k : Nat} (hi : i < (firsts rows).length) (hk : k < (firsts rows).length) : (firsts rows)[i] = (firsts rows)[k] ↔ i = k := by
  have h := List.pairwise_iff_getElem.1 (firsts_pw rows)
  constructor
  · intro e
    rcases Nat.lt_trichotomy i k with h' | h' | h'
    · have := h i k hi hk h'; omega
    · exact h'
    · have := h k i hk hi h'; omega
  · rintro rfl; rfl
theorem range_filter {α : Type} (l : List Int) (P : Nat → Bool) (p : Int → Bool) (f : Nat → α) (g : Int → α) (hp : ∀ i (h : i < l.length), P i = p l[i]) (hf : ∀ i (h : i < l.length), f i = g l[i]) : ((List.range l.length).filter P).map f = (l.filter p).map g := by
  have : l = (List.range l.length).map fun i => l.getD i 0 := by
    apply List.ext_getElem
    · simp
    · intro i h1 h2
      simp [h1]
  conv => rhs; rw [this]
  rw [List.filter_map, List.map_map]
  have e1 : (List.range l.length).filter P = (List.range l.length).filter (p ∘ fun i => l.getD i 0) := List.filter_congr fun i hi => by
    have := List.mem_range.1 hi
    rw [hp i this, Function.comp, getD_lt this]
  rw [e1]
  refine List.map_congr_left fun i hi => ?_
  have := List.mem_range.1 (List.mem_filter.1 hi).1
  rw [hf i this, Function.comp, getD_lt this]
theorem under_eq {a b : Int} (ha : a ∈ firsts rows) (hb : b ∈ firsts rows) : pUnder rows a b = (decide (a ≠ b) && below rows a b) := by
  have h1 := firsts_mem ha
  have h2 := firsts_mem hb
  unfold pUnder below
  rw [decide_eq_true (p := 0 ≤ a ∧ _) (by omega), belowN_eq (by omega) (by omega)]; simp
theorem any_range (l : List Int) (p : Int → Bool) (P : Nat → Bool) (hp : ∀ i (h : i < l.length), P i = p l[i]) : (List.range l.length).any P = l.any p := by
  rw [Bool.eq_iff_iff, List.any_eq_true, List.any_eq_true]
  constructor
  · rintro ⟨i, hi, h⟩
    have := List.mem_range.1 hi
    exact ⟨l[i], List.getElem_mem _, by rw [← hp i this]; exact h⟩
  · rintro ⟨x, hx, h⟩
    obtain ⟨i, hi, rfl⟩ := List.getElem_of_mem hx
    exact ⟨i, List.mem_range.2 hi, by rw [hp i hi]; exact h⟩
theorem pRoots_eq (rows : List (List Int)) : pRoots rows = roots rows := by
  unfold pRoots roots rootsTo
  rw [pFirsts_eq]
  symm
  have := range_filter (firsts rows) (fun i => rootTo rows (firsts rows) i (firsts rows).length) (fun a => !((firsts rows).any fun b => pUnder rows b a)) (fun i => (firsts rows).getD i 0) id (fun i hi => ?_) (fun i hi => by rw [getD_lt hi]; rfl)
  · rw [this, List.map_id]
  · unfold rootTo
    rw [← any_range (firsts rows) (fun b => pUnder rows b (firsts rows)[i]) (fun k => !(decide (i = k) || !below rows ((firsts rows).getD k 0) ((firsts rows).getD i 0))), List.not_any_eq_all_not]
    · simp
    · intro k hk
      rw [under_eq (List.getElem_mem hk) (List.getElem_mem hi), getD_lt hk, getD_lt hi, Bool.not_or, Bool.not_not]
      congr 1
      rw [← decide_not]
      exact decide_eq_decide.2 (not_congr ⟨fun e => by subst e; rfl, fun e => ((firsts_inj hk hi).1 e).symm⟩)
theorem pScore_eq (rows : List (List Int)) (tests : List Int) : pScoreTo rows tests (pRoots rows).length = score rows tests := by
  unfold pScoreTo score scoreTo
  rw [pRoots_eq]
  congr 1
  refine List.filter_congr fun r _ => ?_
  unfold kills
  rw [Bool.eq_iff_iff, List.any_eq_true, List.any_eq_true]
  constructor
  · rintro ⟨t, h1, h2⟩; exact ⟨t, List.contains_iff_mem.1 h2, List.contains_iff_mem.2 h1⟩
  · rintro ⟨t, h1, h2⟩; exact ⟨t, List.contains_iff_mem.1 h2, List.contains_iff_mem.2 h1⟩
theorem pEdges_eq (rows : List (List Int)) : pEdges rows = edges rows := by
  unfold pEdges edges pairs rPairs
  rw [pFirsts_eq, List.take_length]
  have hl : firsts rows = (List.range (firsts rows).length).map fun i => (firsts rows).getD i 0 := by
    apply List.ext_getElem
    · simp
    · intro i h1 h2
      simp [h1]
  conv => lhs; rw [hl]
  rw [List.flatMap_map]
  have key : ∀ i ∈ List.range (firsts rows).length, pairsTo (pDirect rows) ((firsts rows).getD i 0) (firsts rows) (firsts rows).length = rRow rows (firsts rows) i (firsts rows).length := fun i hi => by
    have hi := List.mem_range.1 hi
    unfold pairsTo rRow
    rw [List.take_length]
    symm
    refine range_filter _ _ _ _ _ (fun k hk => ?_) (fun k hk => by rw [getD_lt hk])
    unfold dirTo pDirect
    rw [getD_lt hi, getD_lt hk, under_eq (List.getElem_mem hi) (List.getElem_mem hk), pFirsts_eq]
    have e : decide ((firsts rows)[i] ≠ (firsts rows)[k]) = decide (i ≠ k) := decide_eq_decide.2 (not_congr (firsts_inj hi hk))
    rw [e]
    by_cases hik : i = k
    · rw [decide_eq_false (p := i ≠ k) (fun h => h hik)]; simp
    congr 2
    refine any_range _ _ _ fun j hj => ?_
    unfold viaB
    rw [getD_lt hi, getD_lt hk, getD_lt hj, under_eq (List.getElem_mem hi) (List.getElem_mem hj), under_eq (List.getElem_mem hj) (List.getElem_mem hk)]
    have e1 : decide ((firsts rows)[i] ≠ (firsts rows)[j]) = decide (j ≠ i) := decide_eq_decide.2 (not_congr ((firsts_inj hi hj).trans eq_comm))
    have e2 : decide ((firsts rows)[j] ≠ (firsts rows)[k]) = decide (j ≠ k) := decide_eq_decide.2 (not_congr (firsts_inj hj hk))
    rw [e1, e2]
    cases decide (j ≠ i) <;> cases decide (j ≠ k) <;> cases below rows (firsts rows)[i] (firsts rows)[j] <;> simp
  have : ∀ (m : List Nat) , (∀ i ∈ m, i ∈ List.range (firsts rows).length) → (m.flatMap fun i => pairsTo (pDirect rows) ((firsts rows).getD i 0) (firsts rows) (firsts rows).length) = m.flatMap fun i => rRow rows (firsts rows) i (firsts rows).length := fun m => by
    induction m with
    | nil => intro _; rfl
    | cons i m ih => intro h; rw [List.flatMap_cons, List.flatMap_cons, key i (h i (by simp)), ih fun j hj => h j (by simp [hj])]
  rw [← this _ fun i hi => hi]
  rw [← hl]

/-! Scores. -/
theorem classOf_neg {i : Nat} (hi : i < rows.length) (h : rows[i] = []) : classOf rows i = -1 := classTo_none (i + 1) (Nat.le_refl _) fun j _ _ => by
  unfold belowN
  rw [getD_lt hi, h]; rfl
theorem firsts_ne {x : Int} (h : x ∈ firsts rows) (hx : x.toNat < rows.length) : rows[x.toNat] ≠ [] := fun he => by
  unfold firsts firstsOf firstsTo at h
  rw [classes_len] at h
  obtain ⟨i, hi, rfl⟩ := List.mem_map.1 h
  obtain ⟨h1, h2⟩ := List.mem_filter.1 hi
  have h1 := List.mem_range.1 h1
  have h3 : (classes rows)[i]'(by rw [classes_len]; exact h1) = classOf rows i := by simp [classes]
  rw [getD_lt (by rw [classes_len]; exact h1), h3] at h2
  have he' : rows[i] = [] := by simpa using he
  rw [classOf_neg h1 he'] at h2
  simp at h2
theorem roots_sub {x : Int} (h : x ∈ roots rows) : x ∈ firsts rows := by
  rw [← pRoots_eq] at h
  have := (List.mem_filter.1 h).1
  rwa [pFirsts_eq] at this
theorem score_eq (rows : List (List Int)) (tests : List Int) : score rows tests = ((roots rows).filter fun r => kills (rows.getD r.toNat []) tests).length := by unfold score scoreTo; rw [List.take_length]
theorem score_nil (rows : List (List Int)) : score rows [] = 0 := by
  rw [score_eq]
  have : ((roots rows).filter fun r => kills (rows.getD r.toNat []) []) = [] := List.filter_eq_nil_iff.2 fun r _ => by simp [kills]
  rw [this]; rfl
theorem score_mono (rows : List (List Int)) (t m : List Int) : score rows t ≤ score rows (t ++ m) := by
  rw [score_eq, score_eq]
  have : ((roots rows).filter fun r => kills (rows.getD r.toNat []) t) = ((roots rows).filter fun r => kills (rows.getD r.toNat []) (t ++ m)).filter fun r => kills (rows.getD r.toNat []) t := by
    rw [List.filter_filter]
    refine List.filter_congr fun r _ => ?_
    unfold kills
    rw [List.any_append]
    cases (t.any fun x => (rows.getD r.toNat []).contains x) <;> simp
  rw [this]
  exact List.length_filter_le _ _
theorem score_all {rows : List (List Int)} {tests : List Int} (h : ∀ r ∈ rows, ∀ x ∈ r, x ∈ tests) : score rows tests = (roots rows).length := by
  rw [score_eq]
  congr 1
  refine List.filter_eq_self.2 fun r hr => ?_
  have hm := roots_mem hr
  have hlt : r.toNat < rows.length := by omega
  have hne := firsts_ne (roots_sub hr) hlt
  rw [getD_lt hlt]
  cases hrow : rows[r.toNat] with
  | nil => exact absurd hrow hne
  | cons x l =>
    exact List.any_eq_true.2 ⟨x, h _ (List.getElem_mem hlt) x (by rw [hrow]; simp), by simp⟩
end
end Go.Ord
