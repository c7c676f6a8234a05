/-
  Chapter 36: classes, roots and chains of edges over plain lists.
-/
import Derived.Test.YtdolhcppabcodaaL0
import Derived.Test.YtdolhcppabcodaaAvL
namespace Go.Ord
set_option linter.unusedVariables false
section
variable {rows : List (List Int)}

theorem belowN_iff {a b : Nat} (ha : a < rows.length) (hb : b < rows.length) : belowN rows a b = true ↔ rows[a] ≠ [] ∧ ∀ t ∈ rows[a], t ∈ rows[b] := by
  unfold belowN
  rw [getD_lt ha, getD_lt hb]
  simp only [Bool.and_eq_true, Bool.not_eq_true', List.isEmpty_eq_false_iff, List.all_eq_true, List.contains_iff_mem, ne_eq]
theorem belowN_refl {a : Nat} (ha : a < rows.length) (h : rows[a] ≠ []) : belowN rows a a = true := (belowN_iff ha ha).2 ⟨h, fun _ h => h⟩
theorem belowN_trans {a b c : Nat} (ha : a < rows.length) (hb : b < rows.length) (hc : c < rows.length) (h1 : belowN rows a b = true) (h2 : belowN rows b c = true) : belowN rows a c = true := by
  rw [belowN_iff ha hb] at h1
  rw [belowN_iff hb hc] at h2
  exact (belowN_iff ha hc).2 ⟨h1.1, fun t h => h2.2 t (h1.2 t h)⟩
theorem belowN_ne {a b : Nat} (ha : a < rows.length) (hb : b < rows.length) (h : belowN rows a b = true) : rows[b] ≠ [] := by
  obtain ⟨h1, h2⟩ := (belowN_iff ha hb).1 h
  intro e
  cases hr : rows[a] with
  | nil => exact h1 hr
  | cons x r => have := h2 x (by rw [hr]; simp); rw [e] at this; simp at this
theorem below_nat {a b : Nat} (ha : a < rows.length) (hb : b < rows.length) : below rows (a : Int) (b : Int) = belowN rows a b := by
  unfold below
  rw [decide_eq_true (by omega)]; simp

theorem least {P : Nat → Prop} {n : Nat} (h : P n) : ∃ m, m ≤ n ∧ P m ∧ ∀ j, j < m → ¬ P j := by
  induction n using Nat.strongRecOn with
  | _ n ih =>
    by_cases hx : ∃ j, j < n ∧ P j
    · obtain ⟨j, h1, h2⟩ := hx
      obtain ⟨m, k1, k2, k3⟩ := ih j h1 h2
      exact ⟨m, by omega, k2, k3⟩
    · exact ⟨n, Nat.le_refl _, h, fun j hj hp => hx ⟨j, hj, hp⟩⟩
theorem class_spec {i : Nat} (hi : i < rows.length) (hk : rows[i] ≠ []) : ∃ c : Nat, classOf rows i = c ∧ c ≤ i ∧ belowN rows i c = true ∧ belowN rows c i = true ∧ ∀ j, j < c → (belowN rows i j && belowN rows j i) = false := by
  obtain ⟨c, h1, h2, h3⟩ := least (P := fun j => (belowN rows i j && belowN rows j i) = true) (n := i) (by rw [belowN_refl hi hk]; rfl)
  refine ⟨c, ?_, h1, (Bool.and_eq_true _ _ ▸ h2).1, (Bool.and_eq_true _ _ ▸ h2).2, fun j hj => by simpa using h3 j hj⟩
  exact classTo_some h1 h2 (i + 1) (Nat.le_refl _) (by omega) fun j _ hj => by simpa using h3 j hj
theorem class_eq {i j : Nat} (hi : i < rows.length) (hj : j < rows.length) (h1 : belowN rows i j = true) (h2 : belowN rows j i = true) : classOf rows i = classOf rows j := by
  have hki := ((belowN_iff hi hj).1 h1).1
  have hkj := ((belowN_iff hj hi).1 h2).1
  obtain ⟨c, e1, l1, a1, b1, n1⟩ := class_spec hi hki
  obtain ⟨d, e2, l2, a2, b2, n2⟩ := class_spec hj hkj
  rw [e1, e2]
  have hc : c < rows.length := by omega
  have hd : d < rows.length := by omega
  rcases Nat.lt_trichotomy c d with h | h | h
  · have := n2 c h
    rw [belowN_trans hj hi hc h2 a1, belowN_trans hc hi hj b1 h1] at this; cases this
  · rw [h]
  · have := n1 d h
    rw [belowN_trans hi hj hd h1 a2, belowN_trans hd hj hi b2 h2] at this; cases this
theorem mem_firsts {x : Int} : x ∈ firsts rows ↔ ∃ i : Nat, i < rows.length ∧ x = i ∧ classOf rows i = i := by
  unfold firsts firstsOf firstsTo
  rw [classes_len, List.mem_map]
  constructor
  · rintro ⟨i, h, rfl⟩
    obtain ⟨h1, h2⟩ := List.mem_filter.1 h
    have h1 := List.mem_range.1 h1
    refine ⟨i, h1, rfl, ?_⟩
    rw [getD_lt (by rw [classes_len]; exact h1)] at h2
    simpa [classes] using h2
  · rintro ⟨i, h1, rfl, h2⟩
    refine ⟨i, List.mem_filter.2 ⟨List.mem_range.2 h1, ?_⟩, rfl⟩
    rw [getD_lt (by rw [classes_len]; exact h1)]
    simpa [classes] using h2
theorem first_ne {i : Nat} (hi : i < rows.length) (h : classOf rows i = i) : rows[i] ≠ [] := fun e => by rw [classOf_neg hi e] at h; omega
theorem class_first {i : Nat} (hi : i < rows.length) (hk : rows[i] ≠ []) {c : Nat} (h : classOf rows i = c) : c < rows.length ∧ belowN rows i c = true ∧ belowN rows c i = true ∧ classOf rows c = c := by
  obtain ⟨d, e, l, a, b, n⟩ := class_spec hi hk
  rw [h] at e
  have : c = d := by omega
  subst this
  have hc : c < rows.length := by omega
  exact ⟨hc, a, b, by rw [← class_eq hi hc a b]; exact h⟩
/-- Of two first rows that are below each other, one is the other. -/
theorem first_anti {a b : Nat} (ha : a < rows.length) (hb : b < rows.length) (h1 : classOf rows a = a) (h2 : classOf rows b = b) (h3 : belowN rows a b = true) (h4 : belowN rows b a = true) : a = b := by
  have := class_eq ha hb h3 h4
  rw [h1, h2] at this; omega

theorem mem_roots {x : Int} : x ∈ roots rows ↔ x ∈ firsts rows ∧ ∀ y ∈ firsts rows, x ≠ y → below rows y x = false := by
  rw [← pRoots_eq]
  unfold pRoots
  rw [pFirsts_eq, List.mem_filter]
  constructor
  · rintro ⟨h1, h2⟩
    refine ⟨h1, fun y hy hne => ?_⟩
    rw [Bool.not_eq_true', List.any_eq_false] at h2
    have := h2 y hy
    rw [under_eq hy h1] at this
    have hne' : y ≠ x := fun e => hne e.symm
    simpa [hne'] using this
  · rintro ⟨h1, h2⟩
    refine ⟨h1, ?_⟩
    rw [Bool.not_eq_true', List.any_eq_false]
    intro y hy
    rw [under_eq hy h1]
    by_cases e : y = x
    · simp [e]
    · rw [h2 y hy fun e' => e e'.symm]; simp

theorem count_lt {α : Type} {l : List α} {p q : α → Bool} (h : ∀ x ∈ l, p x = true → q x = true) {y : α} (hy : y ∈ l) (hq : q y = true) (hp : p y = false) : (l.filter p).length < (l.filter q).length := by
  have e : l.filter p = (l.filter q).filter p := by
    rw [List.filter_filter]
    refine List.filter_congr fun x hx => ?_
    cases hpx : p x
    · simp
    · rw [h x hx hpx]; rfl
  rw [e]
  exact List.length_filter_lt_length_iff_exists.2 ⟨y, List.mem_filter.2 ⟨hy, hq⟩, by simp [hp]⟩

theorem root_under_first : ∀ (n : Nat) (a : Nat), ((firsts rows).filter fun y => below rows y (a : Int)).length = n → a < rows.length → classOf rows a = a → ∃ r ∈ roots rows, below rows r (a : Int) = true := by
  intro n
  induction n using Nat.strongRecOn with
  | _ n ih =>
    intro a hn ha hc
    have hne := first_ne ha hc
    have hmem : (a : Int) ∈ firsts rows := mem_firsts.2 ⟨a, ha, rfl, hc⟩
    by_cases hr : (a : Int) ∈ roots rows
    · exact ⟨a, hr, by rw [below_nat ha ha]; exact belowN_refl ha hne⟩
    · rw [mem_roots] at hr
      have : ∃ y ∈ firsts rows, (a : Int) ≠ y ∧ below rows y a = true := by
        apply Classical.byContradiction
        intro hno
        exact hr ⟨hmem, fun y hy hne => by
          cases hb : below rows y a
          · rfl
          · exact absurd ⟨y, hy, hne, hb⟩ hno⟩
      obtain ⟨y, hy, hya, hb⟩ := this
      obtain ⟨b, hbl, rfl, hbc⟩ := mem_firsts.1 hy
      rw [below_nat hbl ha] at hb
      have hlt : ((firsts rows).filter fun z => below rows z (b : Int)).length < n := by
        rw [← hn]
        refine count_lt (fun z hz h => ?_) hmem ?_ ?_
        · obtain ⟨c, hcl, rfl, _⟩ := mem_firsts.1 hz
          rw [below_nat hcl hbl] at h
          rw [below_nat hcl ha]
          exact belowN_trans hcl hbl ha h hb
        · show below rows (a : Int) (a : Int) = true
          rw [below_nat ha ha]; exact belowN_refl ha hne
        · show below rows (a : Int) (b : Int) = false
          rw [below_nat ha hbl]
          cases h : belowN rows a b
          · rfl
          · exact absurd (by rw [first_anti ha hbl hc hbc h hb]) hya
      obtain ⟨r, h1, h2⟩ := ih _ hlt b rfl hbl hbc
      obtain ⟨c, hcl, rfl, _⟩ := mem_firsts.1 (roots_sub h1)
      rw [below_nat hcl hbl] at h2
      exact ⟨c, h1, by rw [below_nat hcl ha]; exact belowN_trans hcl hbl ha h2 hb⟩
theorem root_under {a : Nat} (ha : a < rows.length) (hne : rows[a] ≠ []) : ∃ r ∈ roots rows, below rows r (a : Int) = true := by
  obtain ⟨c, e, l, h1, h2, _⟩ := class_spec ha hne
  obtain ⟨hc, h3, h4, h5⟩ := class_first ha hne e
  obtain ⟨r, k1, k2⟩ := root_under_first _ c rfl hc h5
  obtain ⟨d, hdl, rfl, _⟩ := mem_firsts.1 (roots_sub k1)
  rw [below_nat hdl hc] at k2
  exact ⟨d, k1, by rw [below_nat hdl ha]; exact belowN_trans hdl hc ha k2 h4⟩

theorem kills_iff {row tests : List Int} : kills row tests = true ↔ ∃ t ∈ tests, t ∈ row := by
  unfold kills; simp [List.any_eq_true]
theorem score_full {tests : List Int} (h : score rows tests = (roots rows).length) {a : Nat} (ha : a < rows.length) (hne : rows[a] ≠ []) : kills rows[a] tests = true := by
  obtain ⟨r, h1, h2⟩ := root_under ha hne
  obtain ⟨d, hdl, rfl, _⟩ := mem_firsts.1 (roots_sub h1)
  rw [below_nat hdl ha] at h2
  rw [score_eq] at h
  have := List.filter_eq_self.1 (List.Sublist.eq_of_length List.filter_sublist h) _ h1
  rw [show ((d : Int)).toNat = d from rfl, getD_lt hdl] at this
  obtain ⟨t, k1, k2⟩ := kills_iff.1 this
  exact kills_iff.2 ⟨t, k1, ((belowN_iff hdl ha).1 h2).2 t k2⟩
theorem score_le (tests : List Int) : score rows tests ≤ (roots rows).length := by rw [score_eq]; exact List.length_filter_le _ _

/-- The tests that are not those of a root kill each other root, and not it. -/
def othersTo (rows : List (List Int)) (r : Int) (n : Nat) : List Int := ((List.range n).filter fun t : Nat => !kills (rows.getD r.toNat []) [(t : Int)]).map fun t : Nat => (t : Int)
theorem othersTo_succ (r : Int) (n : Nat) : othersTo rows r (n + 1) = if kills (rows.getD r.toNat []) [(n : Int)] = true then othersTo rows r n else othersTo rows r n ++ [(n : Int)] := by
  unfold othersTo
  rw [List.range_succ, List.filter_append, List.map_append]
  by_cases h : kills (rows.getD r.toNat []) [(n : Int)] = true
  · rw [if_pos h, List.filter_cons, if_neg (by rw [h]; exact Bool.noConfusion)]; simp
  · rw [if_neg h, List.filter_cons, if_pos (by simpa using h)]; simp
theorem othersTo_len (r : Int) (n : Nat) : (othersTo rows r n).length ≤ n := by
  unfold othersTo; rw [List.length_map]; exact Nat.le_trans (List.length_filter_le _ _) (by simp)
theorem mem_othersTo {r : Int} {n : Nat} {x : Int} : x ∈ othersTo rows r n ↔ 0 ≤ x ∧ x < n ∧ x ∉ rows.getD r.toNat [] := by
  unfold othersTo
  rw [List.mem_map]
  constructor
  · rintro ⟨t, h, rfl⟩
    obtain ⟨h1, h2⟩ := List.mem_filter.1 h
    have h1 := List.mem_range.1 h1
    refine ⟨by omega, by omega, fun hm => ?_⟩
    rw [kills_iff.2 ⟨(t : Int), by simp, hm⟩] at h2
    cases h2
  · rintro ⟨h0, h1, h2⟩
    refine ⟨x.toNat, List.mem_filter.2 ⟨List.mem_range.2 (by omega), ?_⟩, by omega⟩
    rw [Bool.not_eq_true']
    cases hk : kills (rows.getD r.toNat []) [((x.toNat : Nat) : Int)]
    · rfl
    · obtain ⟨t, k1, k2⟩ := kills_iff.1 hk
      rw [List.mem_singleton] at k1
      rw [k1, Int.toNat_of_nonneg h0] at k2
      exact absurd k2 h2
theorem roots_pw (rows : List (List Int)) : (roots rows).Pairwise (· < ·) := by
  rw [← pRoots_eq]; unfold pRoots; rw [pFirsts_eq]; exact (firsts_pw rows).filter _
theorem roots_inj {i k : Nat} (hi : i < (roots rows).length) (hk : k < (roots rows).length) : (roots rows)[i] = (roots rows)[k] ↔ i = k := by
  have h := List.pairwise_iff_getElem.1 (roots_pw rows)
  constructor
  · intro e
    rcases Nat.lt_trichotomy i k with h' | h' | h'
    · have := h i k hi hk h'; omega
    · exact h'
    · have := h k i hk hi h'; omega
  · rintro rfl; rfl
theorem others_kill {n i k : Nat} (hn : ∀ r ∈ rows, ∀ x ∈ r, 0 ≤ x ∧ x < n) (hi : i < (roots rows).length) (hk : k < (roots rows).length) : kills (rows.getD ((roots rows)[k]).toNat []) (othersTo rows (roots rows)[i] n) = decide (i ≠ k) := by
  have hri := List.getElem_mem hi
  have hrk := List.getElem_mem hk
  obtain ⟨a, ha, ea, ca⟩ := mem_firsts.1 (roots_sub hri)
  obtain ⟨b, hb, eb, cb⟩ := mem_firsts.1 (roots_sub hrk)
  have hinj := roots_inj hi hk
  rw [ea, eb] at hinj
  rw [ea] at hri
  rw [eb] at hrk
  rw [ea, eb, Bool.eq_iff_iff, decide_eq_true_eq, kills_iff, show ((b : Int)).toNat = b from rfl, getD_lt hb]
  constructor
  · rintro ⟨t, h1, h2⟩ hik
    have : a = b := by have := hinj.2 hik; omega
    subst this
    have := (mem_othersTo.1 h1).2.2
    rw [show ((a : Int)).toNat = a from rfl, getD_lt ha] at this
    exact this h2
  · intro hik
    have hne : (a : Int) ≠ b := fun e => hik (hinj.1 e)
    have hno := (mem_roots.1 hri).2 b (roots_sub hrk) hne
    rw [below_nat hb ha] at hno
    apply Classical.byContradiction
    intro hx
    have : belowN rows b a = true := (belowN_iff hb ha).2 ⟨first_ne hb cb, fun t ht => by
      apply Classical.byContradiction
      intro hta
      have hb' := hn _ (List.getElem_mem hb) t ht
      exact hx ⟨t, mem_othersTo.2 ⟨hb'.1, hb'.2, by rw [show ((a : Int)).toNat = a from rfl, getD_lt ha]; exact hta⟩, ht⟩⟩
    rw [this] at hno; cases hno
end
/-- The tests that the statement makes out of bits. -/
def bitsTo (b : Int) (n : Nat) : List Int := ((List.range n).filter fun t : Nat => decide (b / 2 ^ min (t : Int).toNat 64 % 2 = 1)).map fun t : Nat => (t : Int)
theorem bitsTo_succ (b : Int) (n : Nat) : bitsTo b (n + 1) = if b / 2 ^ min (n : Int).toNat 64 % 2 = 1 then bitsTo b n ++ [(n : Int)] else bitsTo b n := by
  unfold bitsTo
  rw [List.range_succ, List.filter_append, List.map_append]
  by_cases h : b / 2 ^ min (n : Int).toNat 64 % 2 = 1
  · rw [if_pos h, List.filter_cons, if_pos (by rw [decide_eq_true h])]; simp
  · rw [if_neg h, List.filter_cons, if_neg (by rw [decide_eq_false h]; exact Bool.noConfusion)]; simp
theorem bitsTo_len (b : Int) (n : Nat) : (bitsTo b n).length ≤ n := by
  unfold bitsTo; rw [List.length_map]; exact Nat.le_trans (List.length_filter_le _ _) (by simp)

open Av (sput)

def stepE (S : List Int) (e : Int × Int) : List Int := if S.contains e.1 then sput S e.2 else S
def roundTo (es : List (Int × Int)) (S : List Int) (n : Nat) : List Int := (es.take n).foldl stepE S
def reachTo (es : List (Int × Int)) (from_ : Int) : Nat → List Int
  | 0 => [from_]
  | r + 1 => roundTo es (reachTo es from_ r) es.length
def reach (es : List (Int × Int)) (from_ : Int) : List Int := reachTo es from_ es.length
theorem roundTo_succ {es : List (Int × Int)} {S : List Int} {n : Nat} (h : n < es.length) : roundTo es S (n + 1) = stepE (roundTo es S n) es[n] := by
  unfold roundTo
  rw [List.take_succ_eq_append_getElem h, List.foldl_append]; rfl
theorem mem_sput {S : List Int} {x y : Int} : y ∈ sput S x ↔ y ∈ S ∨ y = x := by
  unfold sput
  split
  · rename_i h
    constructor
    · exact .inl
    · rintro (h' | rfl)
      · exact h'
      · exact h
  · simp

def Closed (es : List (Int × Int)) (S : List Int) : Prop := ∀ e ∈ es, e.1 ∈ S → e.2 ∈ S
theorem fold_grow : ∀ (es : List (Int × Int)) (S : List Int), (∀ x ∈ S, x ∈ es.foldl stepE S) ∧ ((es.foldl stepE S = S ∧ Closed es S) ∨ ∃ e ∈ es, e.2 ∉ S ∧ e.2 ∈ es.foldl stepE S)
  | [], S => ⟨fun _ h => h, .inl ⟨rfl, fun e he => by simp at he⟩⟩
  | e :: r, S => by
    rw [List.foldl_cons]
    by_cases h1 : e.1 ∈ S
    · have e1 : stepE S e = sput S e.2 := if_pos (List.contains_iff_mem.2 h1)
      by_cases h2 : e.2 ∈ S
      · have e2 : stepE S e = S := by rw [e1]; exact if_pos h2
        rw [e2]
        obtain ⟨k1, k2⟩ := fold_grow r S
        refine ⟨k1, ?_⟩
        rcases k2 with ⟨k2, k3⟩ | ⟨e', k2, k3⟩
        · refine .inl ⟨k2, fun e' he' => ?_⟩
          rcases List.mem_cons.1 he' with rfl | he'
          · exact fun _ => h2
          · exact k3 e' he'
        · exact .inr ⟨e', List.mem_cons_of_mem _ k2, k3⟩
      · obtain ⟨k1, _⟩ := fold_grow r (stepE S e)
        have hs : e.2 ∈ stepE S e := by rw [e1]; exact mem_sput.2 (.inr rfl)
        exact ⟨fun x hx => k1 x (by rw [e1]; exact mem_sput.2 (.inl hx)), .inr ⟨e, by simp, h2, k1 _ hs⟩⟩
    · have e2 : stepE S e = S := if_neg (fun h => h1 (List.contains_iff_mem.1 h))
      rw [e2]
      obtain ⟨k1, k2⟩ := fold_grow r S
      refine ⟨k1, ?_⟩
      rcases k2 with ⟨k2, k3⟩ | ⟨e', k2, k3⟩
      · refine .inl ⟨k2, fun e' he' => ?_⟩
        rcases List.mem_cons.1 he' with rfl | he'
        · exact fun h => absurd h h1
        · exact k3 e' he'
      · exact .inr ⟨e', List.mem_cons_of_mem _ k2, k3⟩
theorem fold_closed : ∀ (es : List (Int × Int)) (S : List Int), Closed es S → es.foldl stepE S = S
  | [], _, _ => rfl
  | e :: r, S, h => by
    have e2 : stepE S e = S := by
      unfold stepE
      split
      · rename_i h1
        exact if_pos (h e (by simp) (List.contains_iff_mem.1 h1))
      · rfl
    rw [List.foldl_cons, e2]
    exact fold_closed r S fun e he => h e (List.mem_cons_of_mem _ he)
def missing (es : List (Int × Int)) (S : List Int) : Nat := (es.filter fun e => !S.contains e.2).length
theorem reach_step (es : List (Int × Int)) (from_ : Int) : ∀ r, Closed es (reachTo es from_ r) ∨ missing es (reachTo es from_ r) + r ≤ es.length
  | 0 => .inr (List.length_filter_le _ _)
  | r + 1 => by
    have hr : reachTo es from_ (r + 1) = es.foldl stepE (reachTo es from_ r) := by rw [reachTo, roundTo, List.take_length]
    obtain ⟨k1, k2⟩ := fold_grow es (reachTo es from_ r)
    rcases reach_step es from_ r with h | h
    · rw [hr, fold_closed es _ h]; exact .inl h
    rcases k2 with ⟨k2, k3⟩ | ⟨e, k2, k3, k4⟩
    · rw [hr, k2]; exact .inl k3
    · have : missing es (reachTo es from_ (r + 1)) < missing es (reachTo es from_ r) := by
        rw [hr]
        refine count_lt (fun x hx h => ?_) k2 (by simpa using k3) (by simpa using k4)
        rw [Bool.not_eq_true'] at h ⊢
        cases hc : (reachTo es from_ r).contains x.2
        · rfl
        · rw [List.contains_iff_mem.2 (k1 _ (List.contains_iff_mem.1 hc))] at h; cases h
      exact .inr (by omega)
theorem reach_closed (es : List (Int × Int)) (from_ : Int) : Closed es (reach es from_) := by
  rcases reach_step es from_ es.length with h | h
  · exact h
  · have h0 : missing es (reachTo es from_ es.length) = 0 := by omega
    intro e he _
    have := List.filter_eq_nil_iff.1 (List.eq_nil_of_length_eq_zero h0) e he
    simpa [reach] using this
theorem reachTo_from (es : List (Int × Int)) (from_ : Int) : ∀ r, from_ ∈ reachTo es from_ r
  | 0 => by simp [reachTo]
  | r + 1 => by
    rw [reachTo, roundTo, List.take_length]
    exact (fold_grow es _).1 _ (reachTo_from es from_ r)
theorem fold_sound {Q : Int → Prop} : ∀ (es : List (Int × Int)) (S : List Int), (∀ e ∈ es, Q e.1 → Q e.2) → (∀ x ∈ S, Q x) → ∀ x ∈ es.foldl stepE S, Q x
  | [], _, _, h => h
  | e :: r, S, he, h => by
    rw [List.foldl_cons]
    refine fold_sound r _ (fun e' h' => he e' (List.mem_cons_of_mem _ h')) fun x hx => ?_
    unfold stepE at hx
    split at hx
    · rename_i h1
      rcases mem_sput.1 hx with hx | rfl
      · exact h x hx
      · exact he e (by simp) (h _ (List.contains_iff_mem.1 h1))
    · exact h x hx
theorem reachTo_sound {Q : Int → Prop} {es : List (Int × Int)} {from_ : Int} (he : ∀ e ∈ es, Q e.1 → Q e.2) (hf : Q from_) : ∀ r, ∀ x ∈ reachTo es from_ r, Q x
  | 0, x, hx => by simp [reachTo] at hx; rw [hx]; exact hf
  | r + 1, x, hx => by
    rw [reachTo, roundTo, List.take_length] at hx
    exact fold_sound es _ he (reachTo_sound he hf r) x hx

section
variable {rows : List (List Int)}
theorem mem_edges {x y : Int} : (x, y) ∈ edges rows ↔ x ∈ firsts rows ∧ y ∈ firsts rows ∧ x ≠ y ∧ below rows x y = true ∧ ∀ z ∈ firsts rows, x ≠ z → z ≠ y → ¬ (below rows x z = true ∧ below rows z y = true) := by
  rw [← pEdges_eq]
  unfold pEdges pairs pairsTo
  rw [List.take_length, pFirsts_eq]
  simp only [List.mem_flatMap, List.mem_map, List.mem_filter, Prod.mk.injEq]
  have key : x ∈ firsts rows → y ∈ firsts rows → (pDirect rows x y = true ↔ x ≠ y ∧ below rows x y = true ∧ ∀ z ∈ firsts rows, x ≠ z → z ≠ y → ¬ (below rows x z = true ∧ below rows z y = true)) := fun hx hy => by
    unfold pDirect
    rw [pFirsts_eq, under_eq hx hy, Bool.and_eq_true, Bool.and_eq_true, decide_eq_true_eq, Bool.not_eq_true', List.any_eq_false, and_assoc]
    refine and_congr_right fun _ => and_congr_right fun _ => ?_
    constructor
    · intro h z hz h1 h2 h3
      refine h z hz ?_
      rw [under_eq hx hz, under_eq hz hy, h3.1, h3.2]
      simp [h1, h2]
    · intro h z hz h4
      rw [under_eq hx hz, under_eq hz hy] at h4
      simp only [Bool.and_eq_true, decide_eq_true_eq] at h4
      exact h z hz h4.1.1 h4.2.1 ⟨h4.1.2, h4.2.2⟩
  constructor
  · rintro ⟨a, ha, b, ⟨hb, hp⟩, rfl, rfl⟩
    exact ⟨ha, hb, (key ha hb).1 hp⟩
  · rintro ⟨hx, hy, h⟩
    exact ⟨x, hx, y, ⟨hy, (key hx hy).2 h⟩, rfl, rfl⟩
theorem firsts_trans {x y z : Int} (hx : x ∈ firsts rows) (hy : y ∈ firsts rows) (hz : z ∈ firsts rows) (h1 : below rows x y = true) (h2 : below rows y z = true) : below rows x z = true := by
  obtain ⟨a, ha, rfl, _⟩ := mem_firsts.1 hx
  obtain ⟨b, hb, rfl, _⟩ := mem_firsts.1 hy
  obtain ⟨c, hc, rfl, _⟩ := mem_firsts.1 hz
  rw [below_nat ha hb] at h1
  rw [below_nat hb hc] at h2
  rw [below_nat ha hc]; exact belowN_trans ha hb hc h1 h2
theorem firsts_anti {x y : Int} (hx : x ∈ firsts rows) (hy : y ∈ firsts rows) (h1 : below rows x y = true) (h2 : below rows y x = true) : x = y := by
  obtain ⟨a, ha, rfl, ca⟩ := mem_firsts.1 hx
  obtain ⟨b, hb, rfl, cb⟩ := mem_firsts.1 hy
  rw [below_nat ha hb] at h1
  rw [below_nat hb ha] at h2
  rw [first_anti ha hb ca cb h1 h2]
theorem firsts_refl {x : Int} (hx : x ∈ firsts rows) : below rows x x = true := by
  obtain ⟨a, ha, rfl, ca⟩ := mem_firsts.1 hx
  rw [below_nat ha ha]; exact belowN_refl ha (first_ne ha ca)
theorem closed_above {S : List Int} (hS : Closed (edges rows) S) : ∀ (n : Nat) (x y : Int), ((firsts rows).filter fun z => below rows y z && below rows z x).length = n → x ∈ firsts rows → y ∈ firsts rows → y ∈ S → below rows y x = true → x ∈ S := by
  intro n
  induction n using Nat.strongRecOn with
  | _ n ih =>
    intro x y hn hx hy hyS hb
    by_cases he : (y, x) ∈ edges rows
    · exact hS _ he hyS
    by_cases hxy : y = x
    · rw [← hxy]; exact hyS
    rw [mem_edges] at he
    have : ∃ z ∈ firsts rows, y ≠ z ∧ z ≠ x ∧ below rows y z = true ∧ below rows z x = true := by
      apply Classical.byContradiction
      intro hno
      exact he ⟨hy, hx, hxy, hb, fun z hz h1 h2 h3 => hno ⟨z, hz, h1, h2, h3⟩⟩
    obtain ⟨z, hz, h1, h2, h3, h4⟩ := this
    have hzS : z ∈ S := by
      refine ih _ ?_ z y rfl hz hy hyS h3
      rw [← hn]
      refine count_lt (fun u hu h => ?_) hx (by rw [hb, firsts_refl hx]; rfl) ?_
      · rw [Bool.and_eq_true] at h ⊢
        exact ⟨h.1, firsts_trans hu hz hx h.2 h4⟩
      · cases hc : below rows x z
        · rw [Bool.and_false]
        · exact absurd (firsts_anti hz hx h4 hc) h2
    refine ih _ ?_ x z rfl hx hz hzS h4
    rw [← hn]
    refine count_lt (fun u hu h => ?_) hy (by rw [hb, firsts_refl hy]; rfl) ?_
    · rw [Bool.and_eq_true] at h ⊢
      exact ⟨firsts_trans hy hz hu h3 h.1, h.2⟩
    · cases hc : below rows z y
      · rfl
      · exact absurd (firsts_anti hy hz h3 hc) h1
theorem reach_iff {c x : Int} (hc : c ∈ firsts rows) (hx : x ∈ firsts rows) : (reach (edges rows) c).contains x = below rows c x := by
  rw [Bool.eq_iff_iff, List.contains_iff_mem]
  constructor
  · intro h
    exact (reachTo_sound (Q := fun x => x ∈ firsts rows ∧ below rows c x = true) (fun e he h => by
      obtain ⟨h1, h2, _, h4, _⟩ := mem_edges.1 he
      exact ⟨h2, firsts_trans hc h1 h2 h.2 h4⟩) ⟨hc, firsts_refl hc⟩ _ x h).2
  · intro h
    exact closed_above (reach_closed _ _) _ x c rfl hx hc (reachTo_from _ _ _) h

theorem classes_get {a : Nat} (ha : a < rows.length) (h : a < (classes rows).length) : (classes rows)[a] = classOf rows a := by simp [classes]
theorem class_mem {a : Nat} (ha : a < rows.length) (hne : rows[a] ≠ []) : classOf rows a ∈ firsts rows ∧ 0 ≤ classOf rows a ∧ classOf rows a ≤ a := by
  obtain ⟨c, e, l, _, _, _⟩ := class_spec ha hne
  obtain ⟨h1, h2, h3, h4⟩ := class_first ha hne e
  exact ⟨mem_firsts.2 ⟨c, h1, e, h4⟩, by omega, by omega⟩
theorem class_below {a b : Nat} (ha : a < rows.length) (hb : b < rows.length) (hna : rows[a] ≠ []) (hnb : rows[b] ≠ []) : below rows (classOf rows a) (classOf rows b) = below rows (a : Int) (b : Int) := by
  obtain ⟨c, e, l, _, _, _⟩ := class_spec ha hna
  obtain ⟨h1, h2, h3, h4⟩ := class_first ha hna e
  obtain ⟨d, e', l', _, _, _⟩ := class_spec hb hnb
  obtain ⟨k1, k2, k3, k4⟩ := class_first hb hnb e'
  rw [e, e', below_nat h1 k1, below_nat ha hb, Bool.eq_iff_iff]
  constructor
  · intro h; exact belowN_trans ha h1 hb h2 (belowN_trans h1 k1 hb h k3)
  · intro h; exact belowN_trans h1 ha k1 h3 (belowN_trans ha hb k1 h k2)
/-- What the statement compares. -/
theorem chain_eq {a b : Nat} (ha : a < rows.length) (hb : b < rows.length) (hna : rows[a] ≠ []) : below rows (a : Int) (b : Int) = (decide (0 ≤ classOf rows b) && (reach (edges rows) (classOf rows a)).contains (classOf rows b)) := by
  by_cases hnb : rows[b] = []
  · rw [classOf_neg hb hnb]
    have : below rows (a : Int) (b : Int) = false := by
      rw [below_nat ha hb]
      cases h : belowN rows a b
      · rfl
      · exact absurd hnb (belowN_ne ha hb h)
    rw [this]; rfl
  · rw [decide_eq_true (class_mem hb hnb).2.1, Bool.true_and, reach_iff (class_mem ha hna).1 (class_mem hb hnb).1, class_below ha hb hna hnb]
theorem both_class {a b : Nat} (ha : a < rows.length) (hb : b < rows.length) (hna : rows[a] ≠ []) : (below rows (a : Int) (b : Int) && below rows (b : Int) (a : Int)) = decide (classOf rows a = classOf rows b) := by
  rw [Bool.eq_iff_iff, Bool.and_eq_true, decide_eq_true_eq, below_nat ha hb, below_nat hb ha]
  constructor
  · rintro ⟨h1, h2⟩; exact class_eq ha hb h1 h2
  · intro h
    by_cases hnb : rows[b] = []
    · rw [classOf_neg hb hnb] at h
      have := (class_mem ha hna).2.1
      omega
    · obtain ⟨c, e, l, _, _, _⟩ := class_spec ha hna
      obtain ⟨h1, h2, h3, _⟩ := class_first ha hna e
      obtain ⟨k1, k2, k3, _⟩ := class_first hb hnb (by rw [← h]; exact e)
      exact ⟨belowN_trans ha h1 hb h2 k3, belowN_trans hb h1 ha k2 h3⟩
theorem below_trans {a b k : Nat} (ha : a < rows.length) (hb : b < rows.length) (hk : k < rows.length) (h1 : below rows (a : Int) (b : Int) = true) (h2 : below rows (b : Int) (k : Int) = true) : below rows (a : Int) (k : Int) = true := by
  rw [below_nat ha hb] at h1
  rw [below_nat hb hk] at h2
  rw [below_nat ha hk]; exact belowN_trans ha hb hk h1 h2
theorem below_self {a : Nat} (ha : a < rows.length) : below rows (a : Int) (a : Int) = decide (0 < rows[a].length) := by
  rw [below_nat ha ha, Bool.eq_iff_iff, belowN_iff ha ha, decide_eq_true_eq]
  constructor
  · rintro ⟨h, _⟩; exact List.length_pos_iff.2 h
  · intro h; exact ⟨List.length_pos_iff.1 h, fun _ h => h⟩
end
end Go.Ord
