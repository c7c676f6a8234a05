/-
  Chapter 36 in plain functions on lists: no program in sight.
-/
import Derived.Test.YtecbcpilcjmhlaaDoorAvF
namespace Go.Ord

def belowN (rows : List (List Int)) (a b : Nat) : Bool := !(rows.getD a []).isEmpty && (rows.getD a []).all fun t => (rows.getD b []).contains t
def below (rows : List (List Int)) (a b : Int) : Bool := decide (0 ≤ a ∧ 0 ≤ b ∧ a < rows.length ∧ b < rows.length) && belowN rows a.toNat b.toNat
/-- The first of the rows up to i with the same tests, or -1. -/
def classTo (rows : List (List Int)) (i : Nat) : Nat → Int
  | 0 => -1
  | k + 1 => if belowN rows i (i - k) && belowN rows (i - k) i then ((i - k : Nat) : Int) else classTo rows i k
def classOf (rows : List (List Int)) (i : Nat) : Int := classTo rows i (i + 1)
def classes (rows : List (List Int)) : List Int := (List.range rows.length).map (classOf rows)
/-- The first k numbers that are said to be first, as the loop finds them. -/
def firstsTo (c : List Int) (k : Nat) : List Int := ((List.range k).filter fun i => decide (c.getD i 0 = (i : Int))).map fun i : Nat => (i : Int)
def firstsOf (c : List Int) : List Int := firstsTo c c.length
def firsts (rows : List (List Int)) : List Int := firstsOf (classes rows)
def kills (row tests : List Int) : Bool := tests.any fun t => row.contains t
/-- No other class than the i-th one of l is below it, up to the k-th one. -/
def rootTo (rows : List (List Int)) (l : List Int) (i k : Nat) : Bool := (List.range k).all fun k => decide (i = k) || !below rows (l.getD k 0) (l.getD i 0)
def rootsTo (rows : List (List Int)) (l : List Int) (n : Nat) : List Int := ((List.range n).filter fun i => rootTo rows l i l.length).map fun i => l.getD i 0
def roots (rows : List (List Int)) : List Int := rootsTo rows (firsts rows) (firsts rows).length
def scoreTo (rows : List (List Int)) (tests l : List Int) (n : Nat) : Nat := ((l.take n).filter fun r => kills (rows.getD r.toNat []) tests).length

theorem firstsTo_succ (c : List Int) (k : Nat) : firstsTo c (k + 1) = if c.getD k 0 = (k : Int) then firstsTo c k ++ [(k : Int)] else firstsTo c k := by
  unfold firstsTo
  rw [List.range_succ, List.filter_append, List.map_append]
  by_cases h : c.getD k 0 = (k : Int)
  · rw [if_pos h, List.filter_cons_of_pos (by simpa using h)]; rfl
  · rw [if_neg h, List.filter_cons_of_neg (by simpa using h)]; simp
theorem rootsTo_succ (rows : List (List Int)) (l : List Int) (k : Nat) : rootsTo rows l (k + 1) = if rootTo rows l k l.length = true then rootsTo rows l k ++ [l.getD k 0] else rootsTo rows l k := by
  unfold rootsTo
  rw [List.range_succ, List.filter_append, List.map_append]
  by_cases h : rootTo rows l k l.length = true
  · rw [if_pos h, List.filter_cons_of_pos (by simpa using h)]; rfl
  · rw [if_neg h, List.filter_cons_of_neg (by simpa using h)]; simp
theorem rootTo_succ (rows : List (List Int)) (l : List Int) (i k : Nat) : rootTo rows l i (k + 1) = (rootTo rows l i k && (decide (i = k) || !below rows (l.getD k 0) (l.getD i 0))) := by
  unfold rootTo
  rw [List.range_succ, List.all_append]; simp
theorem classes_len (rows : List (List Int)) : (classes rows).length = rows.length := by simp [classes]
theorem firstsTo_len (c : List Int) (k : Nat) : (firstsTo c k).length ≤ k := by
  unfold firstsTo; rw [List.length_map]; exact Nat.le_trans (List.length_filter_le _ _) (by simp)
theorem rootsTo_len (rows : List (List Int)) (l : List Int) (k : Nat) : (rootsTo rows l k).length ≤ k := by
  unfold rootsTo; rw [List.length_map]; exact Nat.le_trans (List.length_filter_le _ _) (by simp)
theorem firsts_len (rows : List (List Int)) : (firsts rows).length ≤ rows.length := by
  have := firstsTo_len (classes rows) (classes rows).length
  rw [show firsts rows = firstsTo (classes rows) (classes rows).length from rfl]
  exact Nat.le_trans this (Nat.le_of_eq (classes_len rows))
theorem roots_len (rows : List (List Int)) : (roots rows).length ≤ rows.length := Nat.le_trans (rootsTo_len _ _ _) (firsts_len rows)
theorem getD_lt {α : Type} {l : List α} {i : Nat} (h : i < l.length) (d : α) : l.getD i d = l[i] := by rw [List.getD_eq_getElem?_getD, List.getElem?_eq_getElem h]; rfl
theorem firsts_mem {rows : List (List Int)} {x : Int} (h : x ∈ firsts rows) : 0 ≤ x ∧ x < rows.length := by
  unfold firsts firstsOf firstsTo at h
  rw [classes_len] at h
  obtain ⟨i, hi, rfl⟩ := List.mem_map.1 h
  have := List.mem_range.1 (List.mem_filter.1 hi).1
  omega
theorem roots_mem {rows : List (List Int)} {x : Int} (h : x ∈ roots rows) : 0 ≤ x ∧ x < rows.length := by
  unfold roots rootsTo at h
  obtain ⟨i, hi, rfl⟩ := List.mem_map.1 h
  have := List.mem_range.1 (List.mem_filter.1 hi).1
  rw [getD_lt this]
  exact firsts_mem (List.getElem_mem this)
theorem scoreTo_succ {rows : List (List Int)} {tests l : List Int} {k : Nat} (h : k < l.length) : scoreTo rows tests l (k + 1) = if kills (rows.getD (l[k]).toNat []) tests = true then scoreTo rows tests l k + 1 else scoreTo rows tests l k := by
  unfold scoreTo
  rw [List.take_succ_eq_append_getElem h, List.filter_append, List.length_append]
  by_cases hk : kills (rows.getD (l[k]).toNat []) tests = true
  · rw [if_pos hk, List.filter_cons_of_pos (by simpa using hk)]; rfl
  · rw [if_neg hk, List.filter_cons_of_neg (by simpa using hk)]; rfl
theorem scoreTo_le (rows : List (List Int)) (tests l : List Int) (k : Nat) : scoreTo rows tests l k ≤ k := by
  unfold scoreTo
  exact Nat.le_trans (List.length_filter_le _ _) (by rw [List.length_take]; omega)
/-- How many roots some tests kill. -/
def score (rows : List (List Int)) (tests : List Int) : Nat := scoreTo rows tests (roots rows) (roots rows).length
/-- A number made small. -/
def around (n most : Int) : Int := (if n < 0 then -(n + 1) else n) % most
def at_ (l : List Int) (i : Nat) (most : Int) : Int := if i < l.length then around (l.getD i 0) most else 0
def I64 (n : Int) : Prop := -9223372036854775808 ≤ n ∧ n ≤ 9223372036854775807
theorem around_bound (n : Int) {most : Int} (h : 0 < most) : 0 ≤ around n most ∧ around n most < most := ⟨Int.emod_nonneg _ (by omega), Int.emod_lt_of_pos _ h⟩
theorem at_bound (l : List Int) (i : Nat) {most : Int} (h : 0 < most) : 0 ≤ at_ l i most ∧ at_ l i most < most := by
  unfold at_
  split
  · exact around_bound _ h
  · omega
/-! The rows made from numbers. -/
def rowBits (l : List Int) (i : Nat) : Int := Av.bitsOf .and .i64 (at_ l (2 * (i : Int)).toNat 32) (at_ l (2 * (i : Int) + 1).toNat 64)
theorem rowBits_bound (l : List Int) (i : Nat) : 0 ≤ rowBits l i ∧ rowBits l i < 32 := by
  have h := at_bound l (2 * (i : Int)).toNat (most := 32) (by omega)
  have h' := at_bound l (2 * (i : Int) + 1).toNat (most := 64) (by omega)
  unfold rowBits
  generalize at_ l (2 * (i : Int)).toNat 32 = a at *
  generalize at_ l (2 * (i : Int) + 1).toNat 64 = b at *
  obtain ⟨a, rfl⟩ := Int.eq_ofNat_of_zero_le h.1
  obtain ⟨b, rfl⟩ := Int.eq_ofNat_of_zero_le h'.1
  rw [Av.bits_and_i64 a b (by omega) (by omega)]
  have : a &&& b ≤ a := Nat.and_le_left
  omega
def rowTest (l : List Int) (i k : Nat) : Int := if 64 ≤ at_ l (2 * (i : Int) + 1).toNat 128 then 4 - (k : Int) else k
def rowHas (l : List Int) (i k : Nat) : Prop := rowBits l i / 2 ^ min (rowTest l i k).toNat 64 % 2 = 1
instance (l : List Int) (i k : Nat) : Decidable (rowHas l i k) := inferInstanceAs (Decidable (_ = _))
def rowTo (l : List Int) (i k : Nat) : List Int := ((List.range k).filter fun k => decide (rowHas l i k)).map fun k => rowTest l i k
def rowOf (l : List Int) (i : Nat) : List Int := if 0 < (rowTo l i 5).length ∧ 900 ≤ at_ l (2 * (i : Int) + 1).toNat 1024 then rowTo l i 5 ++ [(rowTo l i 5).getD 0 0] else rowTo l i 5
def rowsTo (l : List Int) (n : Nat) : List (List Int) := (List.range n).map (rowOf l)
def rowsCount (l : List Int) : Nat := min ((l.length + 1) / 2) 14
def rowsOf (l : List Int) : List (List Int) := rowsTo l (rowsCount l)
theorem rowTo_succ (l : List Int) (i k : Nat) : rowTo l i (k + 1) = if rowHas l i k then rowTo l i k ++ [rowTest l i k] else rowTo l i k := by
  unfold rowTo
  rw [List.range_succ, List.filter_append, List.map_append]
  by_cases h : rowHas l i k
  · rw [if_pos h, List.filter_cons_of_pos (by simpa using h)]; rfl
  · rw [if_neg h, List.filter_cons_of_neg (by simpa using h)]; simp
theorem rowTo_len (l : List Int) (i k : Nat) : (rowTo l i k).length ≤ k := by
  unfold rowTo; rw [List.length_map]; exact Nat.le_trans (List.length_filter_le _ _) (by simp)
theorem rowTest_bound (l : List Int) (i : Nat) {k : Nat} (h : k < 5) : 0 ≤ rowTest l i k ∧ rowTest l i k < 5 := by unfold rowTest; split <;> omega
theorem rowTo_mem {l : List Int} {i k : Nat} (hk : k ≤ 5) {x : Int} (h : x ∈ rowTo l i k) : 0 ≤ x ∧ x < 5 := by
  unfold rowTo at h
  obtain ⟨j, hj, rfl⟩ := List.mem_map.1 h
  have := List.mem_range.1 (List.mem_filter.1 hj).1
  exact rowTest_bound l i (by omega)
theorem rowOf_len (l : List Int) (i : Nat) : (rowOf l i).length ≤ 6 := by
  have := rowTo_len l i 5
  unfold rowOf; split
  · rw [List.length_append]; simp; omega
  · omega
theorem rowOf_mem {l : List Int} {i : Nat} {x : Int} (h : x ∈ rowOf l i) : 0 ≤ x ∧ x < 5 := by
  unfold rowOf at h
  split at h
  · rename_i hc
    rcases List.mem_append.1 h with h | h
    · exact rowTo_mem (Nat.le_refl _) h
    · rw [List.mem_singleton.1 h, getD_lt hc.1]
      exact rowTo_mem (Nat.le_refl _) (List.getElem_mem _)
  · exact rowTo_mem (Nat.le_refl _) h
theorem rowsOf_len (l : List Int) : (rowsOf l).length ≤ 14 := by
  unfold rowsOf rowsTo rowsCount; simp; omega
theorem rowsOf_mem {l : List Int} {r : List Int} (h : r ∈ rowsOf l) : r.length ≤ 6 ∧ ∀ x ∈ r, 0 ≤ x ∧ x < 5 := by
  unfold rowsOf rowsTo at h
  obtain ⟨i, _, rfl⟩ := List.mem_map.1 h
  exact ⟨rowOf_len l i, fun x hx => rowOf_mem hx⟩
theorem rowsTo_succ (l : List Int) (n : Nat) : rowsTo l (n + 1) = rowsTo l n ++ [rowOf l n] := by unfold rowsTo; rw [List.range_succ, List.map_append]; rfl
def fewTo (l : List (List Int)) (n : Nat) : List (List Int) := (l.take n).map fun r => r.take 8
def few (l : List (List Int)) : List (List Int) := fewTo l 8
theorem fewTo_succ {l : List (List Int)} {n : Nat} (h : n < l.length) : fewTo l (n + 1) = fewTo l n ++ [l[n].take 8] := by unfold fewTo; rw [List.take_succ_eq_append_getElem h, List.map_append]; rfl
theorem fewTo_len (l : List (List Int)) (n : Nat) : (fewTo l n).length ≤ n := by unfold fewTo; rw [List.length_map, List.length_take]; omega
theorem few_len (l : List (List Int)) : (few l).length ≤ 8 := fewTo_len l 8
theorem few_mem {l : List (List Int)} {r : List Int} (h : r ∈ few l) : r.length ≤ 8 := by
  unfold few fewTo at h
  obtain ⟨x, _, rfl⟩ := List.mem_map.1 h
  rw [List.length_take]; omega
/-- A row of a matrix of which only the tests count. -/
structure KRow where
  kills : List Int
instance : Av.Enc KRow where
  enc r := [.nil, Av.slOf r.kills, .i 0, .i 0, .i 0, .i 0, .nil, .nil, .nil, .i 0, .i 0, .nil, .nil, .nil, .i 0, .i 0, .i 0, .i 0, .nil, .nil]
  es := 20
  len _ := rfl
  one _ d hd := by
    simp only [List.mem_cons, List.not_mem_nil, or_false] at hd
    rcases hd with rfl | rfl | rfl | rfl | rfl | rfl | rfl | rfl | rfl | rfl | rfl | rfl | rfl | rfl | rfl | rfl | rfl | rfl | rfl | rfl <;> rfl
  clo r d hd := by
    simp only [List.mem_cons, List.not_mem_nil, or_false] at hd
    rcases hd with rfl | rfl | rfl | rfl | rfl | rfl | rfl | rfl | rfl | rfl | rfl | rfl | rfl | rfl | rfl | rfl | rfl | rfl | rfl | rfl <;> first | exact Av.clo_sc | exact Av.clo_slOf _
  pos := by decide
/-- The place of the first one of a kind, or -1. -/
def findI {α : Type} (p : α → Bool) (l : List α) : Int := match l.findIdx? p with | some i => i | none => -1
theorem findI_some {α : Type} {p : α → Bool} {l : List α} {k : Nat} (hk : k < l.length) (hp : p l[k] = true) (hno : ∀ j (h : j < l.length), j < k → p l[j] = false) : findI p l = k := by
  have : l.findIdx? p = some k := List.findIdx?_eq_some_iff_getElem.2 ⟨hk, hp, fun j hj => by simpa using hno j (by omega) hj⟩
  simp [findI, this]
theorem findI_none {α : Type} {p : α → Bool} {l : List α} (hno : ∀ j (h : j < l.length), p l[j] = false) : findI p l = -1 := by
  have : l.findIdx? p = none := List.findIdx?_eq_none_iff.2 fun x hx => by
    obtain ⟨j, hj, rfl⟩ := List.getElem_of_mem hx
    exact hno j hj
  simp [findI, this]
theorem findI_any {α : Type} (p : α → Bool) (l : List α) : decide (0 ≤ findI p l) = l.any p := by
  unfold findI
  cases h : l.findIdx? p with
  | none =>
    have : l.any p = false := by
      rw [List.any_eq_false]; intro x hx; simp [List.findIdx?_eq_none_iff.1 h x hx]
    simp [this]
  | some i =>
    obtain ⟨hi, hp, _⟩ := List.findIdx?_eq_some_iff_getElem.1 h
    have : l.any p = true := List.any_eq_true.2 ⟨l[i], List.getElem_mem _, hp⟩
    simp [this]
/-- A set of tests of which only the first word counts. -/
structure W4 where
  m : Nat
  deriving DecidableEq
instance : Av.Enc W4 where
  enc r := [.sc (.int .u64 r.m), .sc (.int .u64 0), .sc (.int .u64 0), .sc (.int .u64 0)]
  es := 4
  len _ := rfl
  one _ d hd := by
    simp only [List.mem_cons, List.not_mem_nil, or_false] at hd
    rcases hd with rfl | rfl | rfl | rfl <;> rfl
  clo r d hd := by
    simp only [List.mem_cons, List.not_mem_nil, or_false] at hd
    rcases hd with rfl | rfl | rfl | rfl <;> exact Av.clo_sc
  pos := by decide
def setsOf (ms : List Nat) : List (List W4) := ms.map fun m => [⟨m⟩]
theorem setsOf_len (ms : List Nat) : (setsOf ms).length = ms.length := by simp [setsOf]
theorem setsOf_at {ms : List Nat} {i : Nat} (h : i < (setsOf ms).length) : (setsOf ms)[i] = [⟨ms[i]'(by rw [setsOf_len] at h; exact h)⟩] := by simp [setsOf]
def mAt (ms : List Nat) (a : Nat) : Nat := ms.getD a 0
def mKilled (ms : List Nat) (a : Nat) : Bool := decide (mAt ms a ≠ 0)
def mBelow (ms : List Nat) (a b : Nat) : Bool := mKilled ms a && decide (mAt ms a &&& mAt ms b = mAt ms a)
def mClassOf (ms : List Nat) (i : Nat) : Int := if mKilled ms i then findI (fun m => decide (m = mAt ms i)) ms else -1
def mClasses (ms : List Nat) : List Int := (List.range ms.length).map (mClassOf ms)
theorem findI_map {α β : Type} (f : α → β) (p : β → Bool) (l : List α) : findI p (l.map f) = findI (fun x => p (f x)) l := by
  unfold findI
  rw [List.findIdx?_map]; rfl
theorem mClassOf_sets {ms : List Nat} {i : Nat} (h : i < ms.length) (hk : mKilled ms i = true) (h' : i < (setsOf ms).length) : findI (fun l => decide (l = (setsOf ms)[i])) (setsOf ms) = mClassOf ms i := by
  rw [mClassOf, if_pos hk]
  rw [setsOf_at h']
  unfold setsOf
  rw [findI_map]
  congr 1
  funext m
  simp [mAt, h]
/-! Lists shortened in place. -/
theorem filter_take_succ {α : Type} {p : α → Bool} {l : List α} {j : Nat} (h : j < l.length) : (l.take (j + 1)).filter p = if p l[j] = true then (l.take j).filter p ++ [l[j]] else (l.take j).filter p := by
  rw [List.take_succ_eq_append_getElem h, List.filter_append]
  split
  · rename_i hp; rw [List.filter_cons_of_pos hp]; rfl
  · rename_i hp; rw [List.filter_cons_of_neg hp]; simp
theorem filter_take_le {α : Type} (p : α → Bool) (l : List α) (j : Nat) : ((l.take j).filter p).length ≤ j := Nat.le_trans (List.length_filter_le _ _) (by rw [List.length_take]; omega)
theorem take_set_succ {α : Type} {r : List α} {i : Nat} {x : α} (h : i < r.length) : (r.set i x).take (i + 1) = r.take i ++ [x] := by
  rw [List.take_succ_eq_append_getElem (by rw [List.length_set]; exact h), List.take_set_of_le (Nat.le_refl _), List.getElem_set_self]
/-- Each element that is the same as the one ahead of it left out. -/
def dedup : List Int → List Int
  | [] => []
  | [x] => [x]
  | x :: y :: r => if x = y then dedup (y :: r) else x :: dedup (y :: r)
theorem dedup_len : ∀ l : List Int, (dedup l).length ≤ l.length
  | [] => by simp [dedup]
  | [x] => by simp [dedup]
  | x :: y :: r => by
    have := dedup_len (y :: r)
    unfold dedup; split
    · simp only [List.length_cons] at this ⊢; omega
    · simp only [List.length_cons] at this ⊢; omega
theorem dedup_snoc : ∀ (l : List Int) (x y : Int), dedup (l ++ [x, y]) = if x = y then dedup (l ++ [x]) else dedup (l ++ [x]) ++ [y]
  | [], x, y => by simp only [List.nil_append, dedup]; split <;> simp_all
  | [a], x, y => by
    have h := dedup_snoc [] x y
    simp only [List.nil_append] at h
    simp only [List.cons_append, List.nil_append, dedup] at h ⊢
    split <;> split <;> simp_all
  | a :: b :: l, x, y => by
    have h := dedup_snoc (b :: l) x y
    simp only [List.cons_append] at h ⊢
    rw [dedup, dedup, h]
    split <;> split <;> simp_all
theorem dedup_take {l : List Int} {k : Nat} (h : k + 1 < l.length) : dedup (l.take (k + 2)) = if l[k] = l[k + 1] then dedup (l.take (k + 1)) else dedup (l.take (k + 1)) ++ [l[k + 1]] := by
  rw [List.take_succ_eq_append_getElem (i := k + 1) h, List.take_succ_eq_append_getElem (i := k) (by omega), List.append_assoc]
  exact dedup_snoc _ _ _
theorem findI_neg {α : Type} {p : α → Bool} {l : List α} (h : findI p l = -1) : ∀ x ∈ l, p x = false := by
  intro x hx
  have : l.any p = false := by rw [← findI_any, h]; rfl
  simpa using List.any_eq_false.1 this x hx
theorem findI_pos {α : Type} {p : α → Bool} {l : List α} (h : findI p l ≠ -1) : ∃ i, findI p l = (i : Nat) ∧ ∃ hi : i < l.length, p l[i] = true ∧ ∀ x ∈ l.take i, p x = false := by
  unfold findI at h ⊢
  cases hf : l.findIdx? p with
  | none => rw [hf] at h; exact absurd rfl h
  | some i =>
    obtain ⟨hi, hp, hno⟩ := List.findIdx?_eq_some_iff_getElem.1 hf
    refine ⟨i, rfl, hi, hp, fun x hx => ?_⟩
    obtain ⟨j, hj, rfl⟩ := List.getElem_of_mem hx
    rw [List.length_take] at hj
    rw [List.getElem_take]
    simpa using hno j (by omega)
theorem drop_at {r l : List Int} {k : Nat} (h : r.drop k = l.drop k) {j : Nat} (hj : k ≤ j) (h1 : j < r.length) (h2 : j < l.length) : r[j] = l[j] := by
  have := congrArg (·[j - k]?) h
  simp only [List.getElem?_drop] at this
  rw [show k + (j - k) = j by omega, List.getElem?_eq_getElem h1, List.getElem?_eq_getElem h2] at this
  exact Option.some.inj this
theorem drop_more {r l : List Int} {k j : Nat} (h : r.drop k = l.drop k) (hj : k ≤ j) : r.drop j = l.drop j := by
  have := congrArg (·.drop (j - k)) h
  simp only [List.drop_drop] at this
  rwa [show k + (j - k) = j by omega] at this
/-- How many elements are less: in a sorted list, where the element stands or would stand. -/
def lb (l : List Int) (x : Int) : Nat := (l.filter fun y => decide (y < x)).length
theorem lb_eq {l : List Int} {x : Int} {i : Nat} (hi : i ≤ l.length) (h1 : ∀ k (h : k < l.length), k < i → l[k] < x) (h2 : ∀ k (h : k < l.length), i ≤ k → x ≤ l[k]) : lb l x = i := by
  unfold lb
  conv => lhs; rw [← List.take_append_drop i l]
  rw [List.filter_append]
  have e1 : (l.take i).filter (fun y => decide (y < x)) = l.take i := List.filter_eq_self.2 fun y hy => by
    obtain ⟨k, hk, rfl⟩ := List.getElem_of_mem hy
    rw [List.length_take] at hk
    rw [List.getElem_take]
    exact decide_eq_true (h1 k (by omega) (by omega))
  have e2 : (l.drop i).filter (fun y => decide (y < x)) = [] := List.filter_eq_nil_iff.2 fun y hy => by
    obtain ⟨k, hk, rfl⟩ := List.getElem_of_mem hy
    rw [List.length_drop] at hk
    rw [List.getElem_drop]
    have := h2 (i + k) (by omega) (by omega)
    simp; omega
  rw [e1, e2, List.append_nil, List.length_take]; omega
/-! The sets of the program: bits for the places of a row's tests among all tests. -/
def catTo (rows : List (List Int)) (n : Nat) : List Int := (rows.take n).flatten
def allOf (rows : List (List Int)) : List Int := dedup (rows.flatten.mergeSort fun x y => decide (x ≤ y))
def maskTo (A r : List Int) : Nat → Nat
  | 0 => 0
  | k + 1 => maskTo A r k ||| 2 ^ lb A (r.getD k 0)
def mask (A r : List Int) : Nat := maskTo A r r.length
def masksTo (rows : List (List Int)) (n : Nat) : List Nat := (rows.take n).map (mask (allOf rows))
def masks (rows : List (List Int)) : List Nat := rows.map (mask (allOf rows))
theorem catTo_succ {rows : List (List Int)} {n : Nat} (h : n < rows.length) : catTo rows (n + 1) = catTo rows n ++ rows[n] := by
  unfold catTo; rw [List.take_succ_eq_append_getElem h, List.flatten_append]; simp
theorem catTo_le (rows : List (List Int)) (n : Nat) : (catTo rows n).length ≤ rows.flatten.length := by
  have : rows.flatten = catTo rows n ++ (rows.drop n).flatten := by rw [catTo, ← List.flatten_append, List.take_append_drop]
  rw [this, List.length_append]; omega
theorem allOf_len (rows : List (List Int)) : (allOf rows).length ≤ rows.flatten.length := Nat.le_trans (dedup_len _) (by rw [List.length_mergeSort]; exact Nat.le_refl _)
theorem dedup_sub : ∀ (l : List Int), (dedup l).Sublist l
  | [] => by simp [dedup]
  | [x] => by simp [dedup]
  | x :: y :: r => by
    unfold dedup; split
    · exact (dedup_sub (y :: r)).trans (List.sublist_cons_self _ _)
    · exact (dedup_sub (y :: r)).cons_cons _
theorem mem_dedup : ∀ (l : List Int) (x : Int), x ∈ dedup l ↔ x ∈ l
  | [], x => by simp [dedup]
  | [a], x => by simp [dedup]
  | a :: b :: r, x => by
    have := mem_dedup (b :: r) x
    unfold dedup; split
    · rename_i h; rw [this, h]; simp
    · rw [List.mem_cons, this, List.mem_cons (a := x) (b := a)]
theorem sorted_ms (l : List Int) : (l.mergeSort fun x y => decide (x ≤ y)).Pairwise (· ≤ ·) := by
  have := List.pairwise_mergeSort (le := fun x y : Int => decide (x ≤ y)) (fun a b c h1 h2 => by simp at *; omega) (fun a b => by simp; omega) l
  exact this.imp fun h => by simpa using h
theorem allOf_sorted (rows : List (List Int)) : (allOf rows).Pairwise (· ≤ ·) := (sorted_ms _).sublist (dedup_sub _)
theorem allOf_mem (rows : List (List Int)) (x : Int) : x ∈ allOf rows ↔ ∃ r ∈ rows, x ∈ r := by
  unfold allOf
  rw [mem_dedup, List.mem_mergeSort, List.mem_flatten]
theorem lb_lt {l : List Int} {x : Int} (h : x ∈ l) : lb l x < l.length := by
  have hle := List.length_filter_le (fun y => decide (y < x)) l
  rcases Nat.lt_or_ge (lb l x) l.length with h' | h'
  · exact h'
  · have he : (l.filter fun y => decide (y < x)).length = l.length := by unfold lb at h'; omega
    have := List.length_filter_eq_length_iff.1 he x h
    simp at this
theorem masksTo_succ {rows : List (List Int)} {n : Nat} (h : n < rows.length) : masksTo rows (n + 1) = masksTo rows n ++ [mask (allOf rows) rows[n]] := by
  unfold masksTo; rw [List.take_succ_eq_append_getElem h, List.map_append]; rfl
theorem maskTo_lt {A r : List Int} (h : ∀ x ∈ r, lb A x < 64) : ∀ k, k ≤ r.length → maskTo A r k < 2 ^ 64
  | 0, _ => by simp [maskTo]
  | k + 1, hk => by
    have hk' : k < r.length := hk
    have := h _ (List.getElem_mem hk')
    rw [maskTo, getD_lt hk']
    exact Nat.or_lt_two_pow (maskTo_lt h k (by omega)) (Nat.pow_lt_pow_right (by decide) this)
theorem masks_lt {rows : List (List Int)} (hA : (allOf rows).length ≤ 64) : ∀ m ∈ masks rows, m < 2 ^ 64 := by
  intro m hm
  obtain ⟨r, hr, rfl⟩ := List.mem_map.1 hm
  refine maskTo_lt (fun x hx => ?_) _ (Nat.le_refl _)
  have := lb_lt ((allOf_mem rows x).2 ⟨r, hr, hx⟩)
  omega
theorem or_bit {m n : Nat} (hm : m < 2 ^ 64) (hn : n < 64) : Av.bitsOf .or .u64 (m : Int) (IntKind.u64.wrap (1 * 2 ^ min ((n : Int) % 64).toNat IntKind.u64.bits)) = ((m ||| 2 ^ n : Nat) : Int) := by
  have e1 : ((n : Int) % 64).toNat = n := by omega
  have e2 : min n IntKind.u64.bits = n := Nat.min_eq_left (by show n ≤ 64; omega)
  rw [e1, e2, Int.one_mul]
  have h2 : 2 ^ n < 2 ^ 64 := Nat.pow_lt_pow_right (by decide) hn
  have e3 : (2 : Int) ^ n = ((2 ^ n : Nat) : Int) := by simp
  have h4 : 2 ^ n < 18446744073709551616 := h2
  rw [e3, Av.wrap_u64 ⟨Int.natCast_nonneg _, Int.ofNat_lt.2 h4⟩]
  exact Av.bits_or_u64 m (2 ^ n) hm h2
theorem masksTo_len {rows : List (List Int)} {n : Nat} : (masksTo rows n).length ≤ n := by unfold masksTo; rw [List.length_map, List.length_take]; omega
def pBelow (rows : List (List Int)) (a b : Int) : Bool := decide (0 ≤ a ∧ a < rows.length ∧ 0 ≤ b ∧ b < rows.length) && mBelow (masks rows) a.toNat b.toNat
theorem masks_len (rows : List (List Int)) : (masks rows).length = rows.length := by simp [masks]
/-- A matrix that the statements make: few rows, few tests. -/
structure Small (rows : List (List Int)) : Prop where
  n : rows.length ≤ 1024
  f : rows.flatten.length ≤ 1048576
  r : ∀ r ∈ rows, r.length ≤ 1024
  a : (allOf rows).length ≤ 64
def pFirsts (rows : List (List Int)) : List Int := firstsOf (mClasses (masks rows))
def pUnder (rows : List (List Int)) (a b : Int) : Bool := decide (a ≠ b) && mBelow (masks rows) a.toNat b.toNat
def pRoots (rows : List (List Int)) : List Int := (pFirsts rows).filter fun a => !((pFirsts rows).any fun b => pUnder rows b a)
def pDirect (rows : List (List Int)) (a b : Int) : Bool := pUnder rows a b && !((pFirsts rows).any fun c => pUnder rows a c && pUnder rows c b)
theorem pFirsts_mem {rows : List (List Int)} {x : Int} (h : x ∈ pFirsts rows) : 0 ≤ x ∧ x < rows.length := by
  unfold pFirsts firstsOf firstsTo at h
  rw [show (mClasses (masks rows)).length = rows.length from by simp [mClasses, masks]] at h
  obtain ⟨i, hi, rfl⟩ := List.mem_map.1 h
  have := List.mem_range.1 (List.mem_filter.1 hi).1
  omega
theorem pFirsts_len (rows : List (List Int)) : (pFirsts rows).length ≤ rows.length := by
  have := firstsTo_len (mClasses (masks rows)) (mClasses (masks rows)).length
  rw [show (mClasses (masks rows)).length = rows.length from by simp [mClasses, masks]] at this
  rw [pFirsts, firstsOf, show (mClasses (masks rows)).length = rows.length from by simp [mClasses, masks]]
  exact this
instance : Av.Enc (Int × Int) where
  enc r := [.i r.1, .i r.2]
  es := 2
  len _ := rfl
  one _ d hd := by
    simp only [List.mem_cons, List.not_mem_nil, or_false] at hd
    rcases hd with rfl | rfl <;> rfl
  clo r d hd := by
    simp only [List.mem_cons, List.not_mem_nil, or_false] at hd
    rcases hd with rfl | rfl <;> exact Av.clo_sc
  pos := by decide
/-- The pairs (a, b) of which b is one of a list and is as said. -/
def pairsTo (p : Int → Int → Bool) (a : Int) (l : List Int) (k : Nat) : List (Int × Int) := ((l.take k).filter (p a)).map fun b => (a, b)
def pairs (p : Int → Int → Bool) (l : List Int) (n : Nat) : List (Int × Int) := (l.take n).flatMap fun a => pairsTo p a l l.length
def pEdges (rows : List (List Int)) : List (Int × Int) := pairs (pDirect rows) (pFirsts rows) (pFirsts rows).length
theorem pairsTo_succ {p : Int → Int → Bool} {a : Int} {l : List Int} {k : Nat} (h : k < l.length) : pairsTo p a l (k + 1) = if p a l[k] = true then pairsTo p a l k ++ [(a, l[k])] else pairsTo p a l k := by
  unfold pairsTo
  rw [filter_take_succ h]
  split
  · rw [List.map_append]; rfl
  · rfl
theorem pairsTo_len (p : Int → Int → Bool) (a : Int) (l : List Int) (k : Nat) : (pairsTo p a l k).length ≤ k := by
  unfold pairsTo; rw [List.length_map]; exact filter_take_le _ _ _
theorem pairs_succ {p : Int → Int → Bool} {l : List Int} {n : Nat} (h : n < l.length) : pairs p l (n + 1) = pairs p l n ++ pairsTo p l[n] l l.length := by
  unfold pairs; rw [List.take_succ_eq_append_getElem h, List.flatMap_append]; simp
theorem pairs_len (p : Int → Int → Bool) (l : List Int) (n : Nat) : (pairs p l n).length ≤ n * l.length := by
  unfold pairs
  rw [List.length_flatMap]
  have : ∀ (m : List Int), (m.map fun a => (pairsTo p a l l.length).length).sum ≤ m.length * l.length := fun m => by
    induction m with
    | nil => simp
    | cons a m ih =>
      have := pairsTo_len p a l l.length
      rw [List.map_cons, List.sum_cons, List.length_cons, Nat.add_one_mul]; omega
  exact Nat.le_trans (this _) (Nat.mul_le_mul_right _ (by rw [List.length_take]; omega))
def pScoreTo (rows : List (List Int)) (tests : List Int) (n : Nat) : Nat := (((pRoots rows).take n).filter fun r => (rows.getD r.toNat []).any fun t => tests.contains t).length
theorem pScoreTo_succ {rows : List (List Int)} {tests : List Int} {k : Nat} (h : k < (pRoots rows).length) : pScoreTo rows tests (k + 1) = if ((rows.getD ((pRoots rows)[k]).toNat []).any fun t => tests.contains t) = true then pScoreTo rows tests k + 1 else pScoreTo rows tests k := by
  unfold pScoreTo
  rw [filter_take_succ h]
  split
  · rw [List.length_append]; rfl
  · rfl
theorem pScoreTo_le (rows : List (List Int)) (tests : List Int) (k : Nat) : pScoreTo rows tests k ≤ k := filter_take_le _ _ _
theorem pRoots_mem {rows : List (List Int)} {x : Int} (h : x ∈ pRoots rows) : 0 ≤ x ∧ x < rows.length := pFirsts_mem (List.mem_filter.1 h).1
theorem pRoots_len (rows : List (List Int)) : (pRoots rows).length ≤ rows.length := Nat.le_trans (List.length_filter_le _ _) (pFirsts_len rows)
/-! The reference's edges. -/
def viaB (rows : List (List Int)) (l : List Int) (i k j : Nat) : Bool := decide (j ≠ i) && (decide (j ≠ k) && (below rows (l.getD i 0) (l.getD j 0) && below rows (l.getD j 0) (l.getD k 0)))
def dirTo (rows : List (List Int)) (l : List Int) (i k n : Nat) : Bool := (decide (i ≠ k) && below rows (l.getD i 0) (l.getD k 0)) && !((List.range n).any fun j => viaB rows l i k j)
def rRow (rows : List (List Int)) (l : List Int) (i n : Nat) : List (Int × Int) := ((List.range n).filter fun k => dirTo rows l i k l.length).map fun k => (l.getD i 0, l.getD k 0)
def rPairs (rows : List (List Int)) (l : List Int) (n : Nat) : List (Int × Int) := (List.range n).flatMap fun i => rRow rows l i l.length
def edges (rows : List (List Int)) : List (Int × Int) := rPairs rows (firsts rows) (firsts rows).length
theorem dirTo_succ (rows : List (List Int)) (l : List Int) (i k n : Nat) : dirTo rows l i k (n + 1) = if viaB rows l i k n = true then false else dirTo rows l i k n := by
  unfold dirTo
  rw [List.range_succ, List.any_append]
  cases h : viaB rows l i k n <;> simp [h]
theorem rRow_succ (rows : List (List Int)) (l : List Int) (i n : Nat) : rRow rows l i (n + 1) = if dirTo rows l i n l.length = true then rRow rows l i n ++ [(l.getD i 0, l.getD n 0)] else rRow rows l i n := by
  unfold rRow
  rw [List.range_succ, List.filter_append, List.map_append]
  by_cases h : dirTo rows l i n l.length = true
  · rw [if_pos h, List.filter_cons_of_pos (by simpa using h)]; rfl
  · rw [if_neg h, List.filter_cons_of_neg (by simpa using h)]; simp
theorem rRow_len (rows : List (List Int)) (l : List Int) (i n : Nat) : (rRow rows l i n).length ≤ n := by
  unfold rRow; rw [List.length_map]; exact Nat.le_trans (List.length_filter_le _ _) (by simp)
theorem rPairs_succ (rows : List (List Int)) (l : List Int) (n : Nat) : rPairs rows l (n + 1) = rPairs rows l n ++ rRow rows l n l.length := by
  unfold rPairs; rw [List.range_succ, List.flatMap_append]; simp
theorem rPairs_len (rows : List (List Int)) (l : List Int) (n : Nat) : (rPairs rows l n).length ≤ n * l.length := by
  induction n with
  | zero => simp [rPairs]
  | succ n ih => rw [rPairs_succ, List.length_append, Nat.add_one_mul]; have := rRow_len rows l n l.length; omega
theorem dirTo_yes {rows : List (List Int)} {l : List Int} {i k n : Nat} (h : viaB rows l i k n = true) : dirTo rows l i k (n + 1) = false := by rw [dirTo_succ, if_pos h]
theorem dirTo_no {rows : List (List Int)} {l : List Int} {i k n : Nat} (h : viaB rows l i k n = false) : dirTo rows l i k (n + 1) = dirTo rows l i k n := by rw [dirTo_succ, if_neg (by rw [h]; exact Bool.noConfusion)]
theorem viaB_1 {rows : List (List Int)} {l : List Int} {i k n : Nat} (h : n = i) : viaB rows l i k n = false := by unfold viaB; rw [decide_eq_false (fun e => e h)]; rfl
theorem viaB_2 {rows : List (List Int)} {l : List Int} {i k n : Nat} (h : n = k) : viaB rows l i k n = false := by unfold viaB; rw [decide_eq_false (p := n ≠ k) (fun e => e h), Bool.false_and, Bool.and_false]
theorem viaB_3 {rows : List (List Int)} {l : List Int} {i k n : Nat} (h : below rows (l.getD i 0) (l.getD n 0) = false) : viaB rows l i k n = false := by unfold viaB; rw [h]; simp
theorem viaB_4 {rows : List (List Int)} {l : List Int} {i k n : Nat} (h : below rows (l.getD n 0) (l.getD k 0) = false) : viaB rows l i k n = false := by unfold viaB; rw [h]; simp
theorem viaB_5 {rows : List (List Int)} {l : List Int} {i k n : Nat} (h1 : n ≠ i) (h2 : n ≠ k) (h3 : below rows (l.getD i 0) (l.getD n 0) = true) (h4 : below rows (l.getD n 0) (l.getD k 0) = true) : viaB rows l i k n = true := by unfold viaB; rw [h3, h4, decide_eq_true h1, decide_eq_true h2]; rfl
def lists (l : List Int) (raw : List (List Int)) : List (List (List Int)) := [rowsOf l, few raw]
theorem dedup_pw : ∀ {l : List Int}, l.Pairwise (· ≤ ·) → (dedup l).Pairwise (· < ·)
  | [], _ => by simp [dedup]
  | [x], _ => by simp [dedup]
  | x :: y :: r, h => by
    have h2 := (List.pairwise_cons.1 h).2
    have ih := dedup_pw h2
    unfold dedup; split
    · exact ih
    · rename_i hne
      refine List.pairwise_cons.2 ⟨fun z hz => ?_, ih⟩
      have h1 := (List.pairwise_cons.1 h).1
      have hz' := (mem_dedup _ _).1 hz
      have hxy := h1 y (by simp)
      rcases List.mem_cons.1 hz' with rfl | hz'
      · omega
      · have := (List.pairwise_cons.1 h2).1 z hz'
        omega
theorem pw_len : ∀ (l : List Int) (a b : Int), l.Pairwise (· < ·) → (∀ x ∈ l, a ≤ x ∧ x < b) → (l.length : Int) ≤ max 0 (b - a)
  | [], _, _, _, _ => by simp; omega
  | x :: r, a, b, h, hb => by
    have h1 := List.pairwise_cons.1 h
    have hx := hb x (by simp)
    have := pw_len r (x + 1) b h1.2 fun y hy => by
      have := h1.1 y hy
      have := hb y (by simp [hy])
      omega
    rw [List.length_cons]; omega
theorem flatten_le {n m : Nat} : ∀ (rows : List (List Int)), rows.length ≤ n → (∀ r ∈ rows, r.length ≤ m) → rows.flatten.length ≤ n * m
  | [], _, _ => by simp
  | r :: rows, h1, h2 => by
    have := flatten_le (n := n - 1) rows (by simp at h1; omega) fun r hr => h2 r (by simp [hr])
    have hr := h2 r (by simp)
    rw [List.flatten_cons, List.length_append]
    obtain ⟨k, rfl⟩ : ∃ k, n = k + 1 := ⟨n - 1, by simp at h1; omega⟩
    rw [Nat.add_one_mul]
    rw [Nat.add_one_sub_one] at this
    omega
theorem small_rows (l : List Int) : Small (rowsOf l) := by
  have h1 := rowsOf_len l
  have h2 : ∀ r ∈ rowsOf l, r.length ≤ 6 := fun r hr => (rowsOf_mem hr).1
  have h3 := flatten_le (rowsOf l) h1 h2
  refine ⟨by omega, by omega, fun r hr => by have := h2 r hr; omega, ?_⟩
  have := pw_len (allOf (rowsOf l)) 0 5 (dedup_pw (sorted_ms _)) fun x hx => by
    obtain ⟨r, hr, hxr⟩ := (allOf_mem _ x).1 hx
    exact (rowsOf_mem hr).2 x hxr
  omega
theorem small_few (raw : List (List Int)) : Small (few raw) := by
  have h1 := few_len raw
  have h2 : ∀ r ∈ few raw, r.length ≤ 8 := fun r hr => few_mem hr
  have h3 := flatten_le (few raw) h1 h2
  exact ⟨by omega, by omega, fun r hr => by have := h2 r hr; omega, Nat.le_trans (allOf_len _) h3⟩
theorem small_lists {l : List Int} {raw : List (List Int)} {r : List (List Int)} (h : r ∈ lists l raw) : Small r := by
  rcases List.mem_cons.1 h with rfl | h
  · exact small_rows l
  · rw [List.mem_singleton.1 h]; exact small_few raw
end Go.Ord
