/-
  Part 5 of the proof: PV AS GA BN AT LN T7 T9 TB PN TC.
-/
import Derived.WalkKit
import Derived.LoopTactic
import Derived.WalkSmall
import Derived.Laws.RangeString
import Derived.Test.YtnppaoeijmgneaaGreatDoorZA1
import Derived.Test.YtnppaoeijmgneaaGreatDoorZA2
import Derived.Test.YtnppaoeijmgneaaGreatDoorZA3
import Derived.Test.YtnppaoeijmgneaaGreatDoorZA4
set_option linter.unusedSimpArgs false
set_option linter.unusedVariables false
set_option maxRecDepth 10000
set_option maxHeartbeats 4000000
section
namespace Go.Proofs
open Go.Av Go.Bl
structure FitI (s : Sh) (n m : Int) (ks : List Nd) (w : Int) : Prop where
 is : s.is = w \/ (s.is = 3 /\ w = 2) \/ (s.is = 6 /\ w = 5)
 low : s.low <= n
 high : n <= s.high
 mlow : 0 <= m
 mhigh : m <= s.last
 least : s.least <= (ks.length : Int) - (s.kids.length : Int)
 more : (ks.length : Int) - (s.kids.length : Int) <= s.more
 kid : ∀ i (h : i < ks.length), WF ks[i] (wantK s i) = true
theorem fit_inv {k n m w : Int} {ks : List Nd} (h : WF (.mk k n m ks) w = true) (hk : k ≠ 26) : FitI (shapesL.getD k.toNat noSh) n m ks w := by
 rw [WF] at h
 split at h
 ·simp only [Bool.and_eq_true] at h
  obtain ⟨⟨h0, h1⟩, h2, h3⟩ := h
  unfold isB at h0
  unfold rngB at h1
  unfold cntB at h2
  unfold kidsB at h3
  simp only [Bool.and_eq_true, Bool.or_eq_true, decide_eq_true_eq] at h0 h1 h2
  rw [fitsF_eq, List.length_map] at h3
  refine ⟨by omega, h1.1.1, h1.1.2, h1.2.1, h1.2.2, h2.1, h2.2, fun i hi => ?_⟩
  have := allI_iff.1 h3 i hi
  rw [qc ks WF hi] at this
  exact this
 ·cases h
theorem kids_all {s : Sh} {n m w : Int} {ks : List Nd} (h : FitI s n m ks w) (c : Int) (hw : ∀ i, i < ks.length -> wantK s i = c) : ∀ x ∈ ks, WF x c = true := fun x hx => by
 obtain ⟨i, hi, rfl⟩ := List.getElem_of_mem hx
 have := h.kid i hi
 rw [hw i hi] at this
 exact this
theorem map_getDb (ks : List Nd) (f : Nd -> Bool) {i : Nat} (h : i < ks.length) : (ks.map f).getD i false = f ks[i] := by
 rw [List.getD_eq_getElem?_getD, List.getElem?_map, List.getElem?_eq_getElem h]; rfl
theorem fit_k {k n m w : Int} {ks : List Nd} (h : WF (.mk k n m ks) w = true) : 0 <= k /\ k < 28 := by
 rw [WF] at h
 split at h
 ·assumption
 ·cases h
theorem fit_typ (t : Nd) : ∀ w, (w = 2 \/ w = 3) -> WF t w = true -> typOk t = true := by
 induction t using Nd.ind with
 | h k n m ks ih =>
 intro w hw h
 have hk := fit_k h
 by_cases h26 : k = 26
 ·subst h26
  rw [WF, if_pos (by decide)] at h
  simp only [Bool.and_eq_true] at h
  have := h.1.1
  unfold isB at this
  simp [shapesL] at this
  omega
 have hf := fit_inv h h26
 have hkk : k = 0 \/ k = 1 \/ k = 2 \/ k = 3 \/ (4 <= k /\ k <= 27) := by omega
 rw [typOk]
 rcases hkk with rfl | rfl | rfl | rfl | h4
 ·have hl : ks.length = 0 := by have := hf.least; have := hf.more; simp [shapesL] at this; simp_all
  obtain rfl : ks = [] := List.eq_nil_of_length_eq_zero hl
  obtain ⟨h0, h1, h2, h3, h4, h5, h6, h7⟩ := hf
  simp [shapesL] at h0 h1 h2 h3 h4 h5 h6
  simp [W9, Q4]; omega
 ·have hl : ks.length = 0 := by have := hf.least; have := hf.more; simp [shapesL] at this; simp_all
  obtain rfl : ks = [] := List.eq_nil_of_length_eq_zero hl
  obtain ⟨h0, h1, h2, h3, h4, h5, h6, h7⟩ := hf
  simp [shapesL] at h0 h1 h2 h3 h4 h5 h6
  simp [W9, Q4]; omega
 ·have hl : ks.length = 0 := by have := hf.least; have := hf.more; simp [shapesL] at this; simp_all
  obtain rfl : ks = [] := List.eq_nil_of_length_eq_zero hl
  obtain ⟨h0, h1, h2, h3, h4, h5, h6, h7⟩ := hf
  simp [shapesL] at h0 h1 h2 h3 h4 h5 h6
  simp [W9, Q4, Zm]; omega
 ·have ha := kids_all hf 3 fun i _ => by show (if i < 0 then _ else (3 : Int)) = 3; rw [if_neg (by omega)]
  obtain ⟨h0, h1, h2, h3, h4, h5, h6, h7⟩ := hf
  simp [shapesL] at h0 h1 h2 h3 h4 h5 h6
  have hl : 0 < ks.length := by omega
  rw [if_neg (by omega), if_neg (by omega), if_pos rfl, typOks_eq]
  have : ks.all typOk = true := by rw [List.all_eq_true]; exact fun x hx => ih x hx 3 (.inr rfl) (ha x hx)
  rw [this]
  simp [W9, Q4, hl]; omega
 ·exfalso
  have h0 := hf.is
  have hs : ∀ j : Fin 28, 4 <= j.val -> ((shapesL.getD j.val noSh).is ≠ 2 /\ (shapesL.getD j.val noSh).is ≠ 3) := by decide
  have := hs ⟨k.toNat, by omega⟩ (by show 4 <= k.toNat; omega)
  dsimp only at this
  omega
theorem fit_is {k n m w : Int} {ks : List Nd} (h : WF (.mk k n m ks) w = true) : (shapesL.getD k.toNat noSh).is = w \/ ((shapesL.getD k.toNat noSh).is = 3 /\ w = 2) \/ ((shapesL.getD k.toNat noSh).is = 6 /\ w = 5) := by
 rw [WF] at h
 split at h
 ·simp only [Bool.and_eq_true] at h
  have := h.1.1
  unfold isB at this
  simp only [Bool.and_eq_true, Bool.or_eq_true, decide_eq_true_eq] at this
  omega
 ·cases h
theorem kind_is {k n m w : Int} {ks : List Nd} (h : WF (.mk k n m ks) w = true) : (w = 4 -> 4 <= k /\ k <= 12) /\ (w = 6 -> k = 13) /\ (w = 5 -> 13 <= k /\ k <= 25) /\ (w = 1 -> k = 26) /\ (w = 0 -> k = 27) := by
 have hk := fit_k h
 have h0 := fit_is h
 have hs : ∀ j : Fin 28, ((shapesL.getD j.val noSh).is = 4 -> 4 <= j.val /\ j.val <= 12) /\ ((shapesL.getD j.val noSh).is = 6 -> j.val = 13) /\ ((shapesL.getD j.val noSh).is = 5 -> 13 <= j.val /\ j.val <= 25) /\ ((shapesL.getD j.val noSh).is = 1 -> j.val = 26) /\ ((shapesL.getD j.val noSh).is = 0 -> j.val = 27) := by decide
 have := hs ⟨k.toNat, by omega⟩
 dsimp only at this
 obtain ⟨a1, a2, a3, a4, a5⟩ := this
 refine ⟨fun hw => ?_, fun hw => ?_, fun hw => ?_, fun hw => ?_, fun hw => ?_⟩
 ·have := a1 (by omega); omega
 ·have := a2 (by omega); omega
 ·by_cases h6 : (shapesL.getD k.toNat noSh).is = 6
  ·have := a2 h6; omega
  ·have := a3 (by omega); omega
 ·have := a4 (by omega); omega
 ·have := a5 (by omega); omega
theorem fit_ex (t : Nd) : WF t 4 = true -> qn t = true := by
 induction t using Nd.ind with
 | h k n m ks ih =>
 intro h
 have hk := (kind_is h).1 rfl
 have hf := fit_inv h (by omega)
 have hkk : k = 4 \/ k = 5 \/ k = 6 \/ k = 7 \/ k = 8 \/ k = 9 \/ k = 10 \/ k = 11 \/ k = 12 := by omega
 have hall : (∀ i, i < ks.length -> wantK (shapesL.getD k.toNat noSh) i = 4) -> exOks ks = true := fun hw => by
  rw [exOks_eq, List.all_eq_true]
  exact fun x hx => ih x hx (kids_all hf 4 hw x hx)
 rw [qn]
 rcases hkk with rfl | rfl | rfl | rfl | rfl | rfl | rfl | rfl | rfl
 ·have hl : ks.length = 0 := by have := hf.least; have := hf.more; simp [shapesL] at this; simp_all
  obtain rfl : ks = [] := List.eq_nil_of_length_eq_zero hl
  obtain ⟨h0, h1, h2, h3, h4, h5, h6, h7⟩ := hf
  simp [shapesL] at h0 h1 h2 h3 h4 h5 h6
  by_cases hn : n < 0
  ·simp [Q4, Zm, hn]; omega
  ·simp [Q4, Zm, hn]; omega
 ·have hl : ks.length = 0 := by have := hf.least; have := hf.more; simp [shapesL] at this; simp_all
  obtain rfl : ks = [] := List.eq_nil_of_length_eq_zero hl
  obtain ⟨h0, h1, h2, h3, h4, h5, h6, h7⟩ := hf
  simp [shapesL] at h0 h1 h2 h3 h4 h5 h6
  simp [Q4, Zm]; omega
 ·have hl : ks.length = 0 := by have := hf.least; have := hf.more; simp [shapesL] at this; simp_all
  obtain rfl : ks = [] := List.eq_nil_of_length_eq_zero hl
  obtain ⟨h0, h1, h2, h3, h4, h5, h6, h7⟩ := hf
  simp [shapesL] at h0 h1 h2 h3 h4 h5 h6
  simp [Q4, Zm]; omega
 ·have hl : ks.length = 1 := by have := hf.least; have := hf.more; simp [shapesL] at *; omega
  have := hall fun i hi => by (have : i = 0 := by omega); subst this; rfl
  obtain ⟨h0, h1, h2, h3, h4, h5, h6, h7⟩ := hf
  simp [shapesL] at h0 h1 h2 h3 h4 h5 h6
  simp [Q4, Zm, this]; omega
 ·have hl : ks.length = 0 := by have := hf.least; have := hf.more; simp [shapesL] at this; simp_all
  obtain rfl : ks = [] := List.eq_nil_of_length_eq_zero hl
  obtain ⟨h0, h1, h2, h3, h4, h5, h6, h7⟩ := hf
  simp [shapesL] at h0 h1 h2 h3 h4 h5 h6
  simp [Q4, Zm]
  omega
 ·have hl : ks.length = 2 := by have := hf.least; have := hf.more; simp [shapesL] at *; omega
  have := hall fun i hi => by (have : i = 0 \/ i = 1 := by omega); rcases this with rfl | rfl <;> rfl
  obtain ⟨h0, h1, h2, h3, h4, h5, h6, h7⟩ := hf
  simp [shapesL] at h0 h1 h2 h3 h4 h5 h6
  simp [Q4, Zm, this]; omega
 ·have hl : ks.length = 1 := by have := hf.least; have := hf.more; simp [shapesL] at *; omega
  have := hall fun i hi => by (have : i = 0 := by omega); subst this; rfl
  obtain ⟨h0, h1, h2, h3, h4, h5, h6, h7⟩ := hf
  simp [shapesL] at h0 h1 h2 h3 h4 h5 h6
  simp [W9, Q4, Zm, this]; omega
 ·have := hall fun i hi => by show (if i < 0 then _ else (4 : Int)) = 4; rw [if_neg (by omega)]
  obtain ⟨h0, h1, h2, h3, h4, h5, h6, h7⟩ := hf
  simp [shapesL] at h0 h1 h2 h3 h4 h5 h6
  simp [Q4, Zm, this]; omega
 ·have hl : ks.length = 0 := by have := hf.least; have := hf.more; simp [shapesL] at this; simp_all
  obtain rfl : ks = [] := List.eq_nil_of_length_eq_zero hl
  obtain ⟨h0, h1, h2, h3, h4, h5, h6, h7⟩ := hf
  simp [shapesL] at h0 h1 h2 h3 h4 h5 h6
  simp [Q4, Zm]; omega
theorem fit_st (t : Nd) : (WF t 5 = true -> stOk t = true) /\ (WF t 6 = true -> inOk t = true) := by
 induction t using Nd.ind with
 | h k n m ks ih =>
 have hblk : ∀ w, k = 13 -> WF (.mk k n m ks) w = true -> W9 n m ks.length (-1) = true /\ qO ks = true := fun w hk h => by
  have hf := fit_inv h (by omega)
  subst hk
  have ha := kids_all hf 5 fun i _ => by show (if i < 0 then _ else (5 : Int)) = 5; rw [if_neg (by omega)]
  obtain ⟨h0, h1, h2, h3, h4, h5, h6, h7⟩ := hf
  simp [shapesL] at h0 h1 h2 h3 h4 h5 h6
  refine ⟨by simp [W9, Q4]; omega, ?_⟩
  have : ∀ ks : List Nd, (∀ x ∈ ks, stOk x = true) -> qO ks = true := by
   intro ks
   induction ks with
   | nil => intro _; rfl
   | cons x r ihr => intro h; rw [qO, h x (by simp), ihr fun y hy => h y (by simp [hy])]; rfl
  exact this ks fun x hx => (ih x hx).1 (ha x hx)
 refine ⟨fun h => ?_, fun h => ?_⟩
 ·have hk := (kind_is h).2.2.1 rfl
  have hf := fit_inv h (by omega)
  have hkk : k = 13 \/ k = 14 \/ k = 15 \/ k = 16 \/ k = 17 \/ k = 18 \/ k = 19 \/ k = 20 \/ k = 21 \/ k = 22 \/ k = 23 \/ k = 24 \/ k = 25 := by omega
  have hall : (∀ i, i < ks.length -> wantK (shapesL.getD k.toNat noSh) i = 4) -> ks.all qn = true := fun hw => by
   rw [List.all_eq_true]
   exact fun x hx => fit_ex x (kids_all hf 4 hw x hx)
  rw [stOk]
  rcases hkk with rfl | rfl | rfl | rfl | rfl | rfl | rfl | rfl | rfl | rfl | rfl | rfl | rfl
  ·obtain ⟨b1, b2⟩ := hblk 5 rfl h
   rw [if_pos rfl, b1, b2]; rfl
  ·have hl : ks.length = 1 := by have := hf.least; have := hf.more; simp [shapesL] at *; omega
   have := hall fun i hi => by (have : i = 0 := by omega); subst this; rfl
   obtain ⟨h0, h1, h2, h3, h4, h5, h6, h7⟩ := hf
   simp [shapesL] at h0 h1 h2 h3 h4 h5 h6
   simp only [simOk, this]
   simp [Q4, Zm]; omega
  ·have hl : ks.length = 2 := by have := hf.least; have := hf.more; simp [shapesL] at *; omega
   have := hall fun i hi => by (have : i = 0 \/ i = 1 := by omega); rcases this with rfl | rfl <;> rfl
   obtain ⟨h0, h1, h2, h3, h4, h5, h6, h7⟩ := hf
   simp [shapesL] at h0 h1 h2 h3 h4 h5 h6
   simp only [simOk, this]
   simp [Q4, Zm]; omega
  ·have hl : ks.length = 1 := by have := hf.least; have := hf.more; simp [shapesL] at *; omega
   have := hall fun i hi => by (have : i = 0 := by omega); subst this; rfl
   obtain ⟨h0, h1, h2, h3, h4, h5, h6, h7⟩ := hf
   simp [shapesL] at h0 h1 h2 h3 h4 h5 h6
   simp only [simOk, this]
   simp [Q4, Zm]; omega
  ·have hl : ks.length = 3 := by have := hf.least; have := hf.more; simp [shapesL] at *; omega
   have k0 : qn ks[0] = true := fit_ex _ (hf.kid 0 (by omega))
   have k1 : inOk ks[1] = true := (ih _ (List.getElem_mem _)).2 (hf.kid 1 (by omega))
   have k2 : inOk ks[2] = true := (ih _ (List.getElem_mem _)).2 (hf.kid 2 (by omega))
   obtain ⟨h0, h1, h2, h3, h4, h5, h6, h7⟩ := hf
   simp [shapesL] at h0 h1 h2 h3 h4 h5 h6
   rw [if_neg (by omega), if_pos rfl, inOks_eq, map_getDb ks qn (i := 0) (by omega), map_getDb ks inOk (i := 1) (by omega), map_getDb ks inOk (i := 2) (by omega), k0, k1, k2]
   simp [W9, Q4]; omega
  ·have hl : ks.length = 2 := by have := hf.least; have := hf.more; simp [shapesL] at *; omega
   have k0 : qn ks[0] = true := fit_ex _ (hf.kid 0 (by omega))
   have k1 : inOk ks[1] = true := (ih _ (List.getElem_mem _)).2 (hf.kid 1 (by omega))
   obtain ⟨h0, h1, h2, h3, h4, h5, h6, h7⟩ := hf
   simp [shapesL] at h0 h1 h2 h3 h4 h5 h6
   rw [if_neg (by omega), if_neg (by omega), if_pos rfl, inOks_eq, map_getDb ks qn (i := 0) (by omega), map_getDb ks inOk (i := 1) (by omega), k0, k1]
   simp [W9, Q4]; omega
  ·have hl : ks.length = 1 := by have := hf.least; have := hf.more; simp [shapesL] at *; omega
   have := hall fun i hi => by (have : i = 0 := by omega); subst this; rfl
   obtain ⟨h0, h1, h2, h3, h4, h5, h6, h7⟩ := hf
   simp [shapesL] at h0 h1 h2 h3 h4 h5 h6
   simp only [simOk, this]
   simp [W9, Q4, Zm]; omega
  ·have hl : ks.length = 1 := by have := hf.least; have := hf.more; simp [shapesL] at *; omega
   have := hall fun i hi => by (have : i = 0 := by omega); subst this; rfl
   obtain ⟨h0, h1, h2, h3, h4, h5, h6, h7⟩ := hf
   simp [shapesL] at h0 h1 h2 h3 h4 h5 h6
   simp only [simOk, this]
   simp [W9, Q4, Zm]; omega
  ·have hl : ks.length = 2 := by have := hf.least; have := hf.more; simp [shapesL] at *; omega
   have k0 : inOk ks[0] = true := (ih _ (List.getElem_mem _)).2 (hf.kid 0 (by omega))
   have k1 : inOk ks[1] = true := (ih _ (List.getElem_mem _)).2 (hf.kid 1 (by omega))
   obtain ⟨h0, h1, h2, h3, h4, h5, h6, h7⟩ := hf
   simp [shapesL] at h0 h1 h2 h3 h4 h5 h6
   rw [if_neg (by omega), if_neg (by omega), if_neg (by omega), if_pos rfl, inOks_eq, map_getDb ks inOk (i := 0) (by omega), map_getDb ks inOk (i := 1) (by omega), k0, k1]
   simp [Q4, Zm]; omega
  ·have hl : ks.length = 1 := by have := hf.least; have := hf.more; simp [shapesL] at *; omega
   have := hall fun i hi => by (have : i = 0 := by omega); subst this; rfl
   obtain ⟨h0, h1, h2, h3, h4, h5, h6, h7⟩ := hf
   simp [shapesL] at h0 h1 h2 h3 h4 h5 h6
   simp only [simOk, this]
   simp [Q4, Zm]; omega
  ·have := hall fun i hi => by show (if i < 0 then _ else (4 : Int)) = 4; rw [if_neg (by omega)]
   obtain ⟨h0, h1, h2, h3, h4, h5, h6, h7⟩ := hf
   simp [shapesL] at h0 h1 h2 h3 h4 h5 h6
   simp only [simOk, this]
   simp [Q4, Zm]; omega
  ·have hl : ks.length = 1 := by have := hf.least; have := hf.more; simp [shapesL] at *; omega
   have := hall fun i hi => by (have : i = 0 := by omega); subst this; rfl
   obtain ⟨h0, h1, h2, h3, h4, h5, h6, h7⟩ := hf
   simp [shapesL] at h0 h1 h2 h3 h4 h5 h6
   simp only [simOk, this]
   simp [W9, Q4, Zm]; omega
  ·have hl : ks.length = 0 := by have := hf.least; have := hf.more; simp [shapesL] at this; simp_all
   obtain rfl : ks = [] := List.eq_nil_of_length_eq_zero hl
   obtain ⟨h0, h1, h2, h3, h4, h5, h6, h7⟩ := hf
   simp [shapesL] at h0 h1 h2 h3 h4 h5 h6
   simp only [simOk]
   simp [W9, Q4, Zm]; omega
 ·have hk := (kind_is h).2.1 rfl
  obtain ⟨b1, b2⟩ := hblk 6 hk h
  rw [inOk, b1, b2, decide_eq_true hk]; rfl
theorem fit_funok (t : Nd) (h : WF t 1 = true) : qV t = true := by
 obtain ⟨k, n, m, ks⟩ := t
 have hk := (kind_is h).2.2.2.1 rfl
 subst hk
 rw [WF, if_pos (by decide), if_pos rfl, fitsF_eq] at h
 simp only [Bool.and_eq_true] at h
 obtain ⟨⟨_, h1⟩, h2⟩ := h
 unfold rngB at h1
 unfold funB at h2
 simp only [Bool.and_eq_true, decide_eq_true_eq, List.length_map] at h1 h2
 simp [shapesL] at h1
 obtain ⟨⟨⟨c1, c2⟩, c3⟩, c4⟩ := h2
 have hl : 0 < ks.length := by
  by_cases h0 : ks.length = 0
  ·omega
  ·omega
 rw [qc ks WF (by omega)] at c3
 rw [qV]
 have d1 : inOk (ks.getD (ks.length - 1) (.mk 0 0 0 [])) = true := by
  rw [List.getD_eq_getElem?_getD, List.getElem?_eq_getElem (show ks.length - 1 < ks.length by omega)]
  exact (fit_st _).2 c3
 have d2 : (ks.take (ks.length - 1)).all typOk = true := by
  rw [List.all_eq_true]
  intro x hx
  obtain ⟨i, hi, rfl⟩ := List.getElem_of_mem hx
  rw [List.length_take] at hi
  have h3 := allI_iff.1 c4 i (by omega)
  rw [qc ks WF (by omega)] at h3
  rw [List.getElem_take]
  refine fit_typ _ _ ?_ h3
  split <;> simp
 rw [d1, d2, decide_eq_true hl]
 simp [Q4, Zm]; omega
theorem fit_pr (t : Nd) (h : WF t 0 = true) : prOk t = true := by
 obtain ⟨k, n, m, ks⟩ := t
 have hk := (kind_is h).2.2.2.2 rfl
 have hf := fit_inv h (by omega)
 subst hk
 have ha := kids_all hf 1 fun i _ => by show (if i < 0 then _ else (1 : Int)) = 1; rw [if_neg (by omega)]
 obtain ⟨h0, h1, h2, h3, h4, h5, h6, h7⟩ := hf
 simp [shapesL] at h0 h1 h2 h3 h4 h5 h6
 rw [prOk, if_pos rfl]
 have : ks.all qV = true := by rw [List.all_eq_true]; exact fun x hx => fit_funok x (ha x hx)
 rw [this]
 simp [Q4, Zm]; omega
theorem valid_pr {t : Nd} (h : validM t = true) : prOk t = true := by
 unfold validM at h
 simp only [Bool.and_eq_true] at h
 exact fit_pr t h.2
def Li (l : List UInt8) : Prop := ∀ b ∈ l, b.toNat < 128 /\ b ≠ 10
theorem ql {a b : List UInt8} (ha : Li a) (hb : Li b) : Li (a ++ b) := fun x hx => (List.mem_append.1 hx).elim (ha x) (hb x)
theorem li_nil : Li [] := fun x hx => by cases hx
theorem li_cons {x : UInt8} {b : List UInt8} (hx : (decide (x.toNat < 128) && decide (x ≠ 10)) = true) (hb : Li b) : Li (x :: b) := fun y hy => by
 rcases List.mem_cons.1 hy with rfl | hy
 ·simpa using hx
 ·exact hb y hy
theorem ZU {l : List UInt8} (h : (l.all fun x => decide (x.toNat < 128) && decide (x ≠ 10)) = true) : Li l := fun b hb => by
 rw [List.all_eq_true] at h
 simpa using h b hb
theorem li_dec (u : Nat) : Li (Lib.decDigits u) := by
 rw [Lib.decDigits_eq]
 intro b hb
 obtain ⟨t, _, rfl⟩ := List.mem_map.1 hb
 unfold Lib.dg
 have h : u / 10 ^ (Lib.nDigits u - 1 - t) % 10 < 10 := Nat.mod_lt _ (by decide)
 generalize u / 10 ^ (Lib.nDigits u - 1 - t) % 10 = d at *
 have e : (UInt8.ofNat (48 + d)).toNat = 48 + d := by
  rw [UInt8.toNat_ofNat']; omega
 refine ⟨by omega, fun h10 => ?_⟩
 rw [h10] at e
 have : (10 : UInt8).toNat = 10 := rfl
 omega
theorem li_itoa (n : Int) : Li (Lib.itoa n) := by
 unfold Lib.itoa
 split
 ·exact li_cons (by decide) (li_dec _)
 ·exact li_dec _
theorem li_commas : ∀ l : List (List UInt8), (∀ x ∈ l, Li x) -> Li (Zs l)
 | [], _ => by show Li (Lib.join [] comma); rw [Lib.join_nil]; exact li_nil
 | x :: r, h => by
  show Li (Lib.join (x :: r) comma)
  rw [Lib.join_cons]
  refine ql (h x (by simp)) ?_
  unfold Lib.joinTail
  intro b hb
  obtain ⟨y, hy, hby⟩ := List.mem_flatten.1 hb
  obtain ⟨z, hz, rfl⟩ := List.mem_map.1 hy
  exact ql (ZU (by decide)) (h z (by simp [hz])) b hby
theorem li_typ (t : Nd) : Li (typT t) := by
 induction t using Nd.ind with
 | h k n m ks ih =>
 rw [typT, typTs_eq]
 repeat' split
 ·exact ZU (by decide)
 ·exact ZU (by decide)
 ·exact ql (ZU (by decide)) (li_itoa n)
 ·refine ql (ql (ZU (by decide)) (li_commas _ fun x hx => ?_)) (ZU (by decide))
  obtain ⟨y, hy, rfl⟩ := List.mem_map.1 hx
  exact ih y hy
 ·exact li_nil
theorem li_op (i : Nat) : Li (opTexts.getD i []) := by
 rcases Nat.lt_or_ge i 14 with h | h
 ·have : ∀ j : Fin 14, (opTexts.getD j.val []).all (fun x => decide (x.toNat < 128) && decide (x ≠ 10)) = true := by decide
  exact ZU (this ⟨i, h⟩)
 ·rw [List.getD_eq_getElem?_getD, List.getElem?_eq_none (by simpa [opTexts] using h)]; exact li_nil
theorem li_getD {l : List (List UInt8)} (h : ∀ x ∈ l, Li x) (i : Nat) : Li (l.getD i []) := by
 rw [List.getD_eq_getElem?_getD]
 cases hx : l[i]? with
 | none => exact li_nil
 | some x => exact h x (List.mem_of_getElem? hx)
theorem li_ex (t : Nd) : Li (exT t) := by
 induction t using Nd.ind with
 | h k n m ks ih =>
 rw [exT, exTs_eq]
 have hk : ∀ x ∈ ks.map exT, Li x := fun x hx => by obtain ⟨y, hy, rfl⟩ := List.mem_map.1 hx; exact ih y hy
 have hc := li_commas _ hk
 have h0 := li_getD hk 0
 have h1 := li_getD hk 1
 have hop := li_op n.toNat
 have hn := li_itoa n
 have hm := li_itoa m
 repeat' split
 all_goals repeat' first | assumption | exact li_nil | exact ZU (by decide) | refine ql ?_ ?_
theorem li_exs (ks : List Nd) : ∀ x ∈ ks.map exT, Li x := fun x hx => by obtain ⟨y, hy, rfl⟩ := List.mem_map.1 hx; exact li_ex y
theorem li_sim (t : Nd) : Li (simT t) := by
 obtain ⟨k, n, m, ks⟩ := t
 rw [simT]
 have hk := li_exs ks
 have hc := li_commas _ hk
 have h0 := li_getD hk 0
 have h1 := li_getD hk 1
 have hn := li_itoa n
 have hm := li_itoa m
 repeat' split
 all_goals repeat' first | assumption | exact li_nil | exact ZU (by decide) | refine ql ?_ ?_
def nlC (l : List UInt8) : Nat := l.countP (· == 10)
theorem nl_app (a b : List UInt8) : nlC (a ++ b) = nlC a + nlC b := List.countP_append
theorem nl_li {l : List UInt8} (h : Li l) : nlC l = 0 := by
 unfold nlC
 rw [List.countP_eq_zero]
 intro b hb
 simpa using (h b hb).2
theorem nl_le (l : List UInt8) : nlC l <= l.length := List.countP_le_length
theorem li_rep (i : Nat) : Li (Lib.repeatL [32, 32] i) := by
 induction i with
 | zero => exact li_nil
 | succ i ih => exact ql (a := [32, 32]) (ZU (by decide)) ih
def Asc (l : List UInt8) : Prop := ∀ b ∈ l, b.toNat < 128
theorem ZS {a b : List UInt8} (ha : Asc a) (hb : Asc b) : Asc (a ++ b) := fun x hx => (List.mem_append.1 hx).elim (ha x) (hb x)
theorem asc_nil : Asc [] := fun x hx => (by cases hx)
theorem li_asc {l : List UInt8} (h : Li l) : Asc l := fun b hb => (h b hb).1
theorem qx {s : List UInt8} (h : Li s) (i : Nat) : Asc (Z6 i s) /\ nlC (Z6 i s) = 1 := by
 unfold Z6
 have h1 := ql (li_rep i) h
 refine ⟨ZS (li_asc h1) (fun b hb => by simp at hb; subst hb; decide), ?_⟩
 rw [nl_app, nl_li h1]; rfl
theorem st_asc (t : Nd) : ∀ i, (Asc (stT t i) /\ nlC (stT t i) = nlC (stT t 0)) /\ (Asc (inT t i) /\ nlC (inT t i) = nlC (inT t 0)) := by
 induction t using Nd.ind with
 | h k n m ks ih =>
 have hsts : ∀ ks : List Nd, (∀ x ∈ ks, ∀ i, Asc (stT x i) /\ nlC (stT x i) = nlC (stT x 0)) -> ∀ i j, Asc (stTs ks i) /\ nlC (stTs ks i) = nlC (stTs ks j) := by
  intro ks
  induction ks with
  | nil => intro _ i j; exact ⟨by rw [stTs]; exact asc_nil, by rw [stTs, stTs]⟩
  | cons x r ihr =>
   intro h i j
   have h1 := h x (by simp) i
   have h1' := h x (by simp) j
   have h2 := ihr (fun y hy => h y (by simp [hy])) i j
   rw [stTs, stTs, nl_app, nl_app]
   exact ⟨ZS h1.1 h2.1, by rw [h1.2, h1'.2, h2.2]⟩
 have hk := hsts ks fun x hx i => (ih x hx i).1
 have hin : ∀ j i, Asc ((ks.map fun x => inT x i).getD j []) /\ nlC ((ks.map fun x => inT x i).getD j []) = nlC ((ks.map fun x => inT x 0).getD j []) := fun j i => by
  rw [List.getD_eq_getElem?_getD, List.getD_eq_getElem?_getD, List.getElem?_map, List.getElem?_map]
  cases hx : ks[j]? with
  | none => exact ⟨asc_nil, rfl⟩
  | some x => exact (ih x (List.mem_of_getElem? hx) i).2
 have hex := li_exs ks
 have hie : Li (sIf ++ (ks.map exT).getD 0 [] ++ sBr) := ql (ql (ZU (by decide)) (li_getD hex 0)) (ZU (by decide))
 have hwe : Li (sWhile ++ (ks.map exT).getD 0 [] ++ sBr) := ql (ql (ZU (by decide)) (li_getD hex 0)) (ZU (by decide))
 have hce : Li (sCatch ++ Lib.itoa n ++ sBr) := ql (ql (ZU (by decide)) (li_itoa n)) (ZU (by decide))
 have lo := fun i => qx (s := sOpen) (ZU (by decide)) i
 have lc := fun i => qx (s := sClose) (ZU (by decide)) i
 have le := fun i => qx (s := sElse) (ZU (by decide)) i
 have lt := fun i => qx (s := sTry) (ZU (by decide)) i
 have l1 := fun i => qx hie i
 have l2 := fun i => qx hwe i
 have l3 := fun i => qx hce i
 have l4 := fun i => qx (li_sim (.mk k n m ks)) i
 intro i
 constructor
 ·rw [stT, stT, inTs_eq, inTs_eq]
  by_cases k13 : k = 13
  ·rw [if_pos k13, if_pos k13]
   split
   ·simp only [nl_app]
    exact ⟨ZS (ZS (lo i).1 (hk (i + 1) 0).1) (lc i).1, by rw [(lo i).2, (lo 0).2, (lc i).2, (lc 0).2, (hk (i + 1) (0 + 1)).2]⟩
   ·simp only [nl_app]
    exact ⟨ZS (ZS (lo i).1 asc_nil) (lc i).1, by rw [(lo i).2, (lo 0).2, (lc i).2, (lc 0).2]⟩
  rw [if_neg k13, if_neg k13]
  split
  ·simp only [nl_app]
   exact ⟨ZS (ZS (ZS (ZS (l1 i).1 (hin 1 i).1) (le i).1) (hin 2 i).1) (lc i).1, by rw [(l1 i).2, (l1 0).2, (hin 1 i).2, (le i).2, (le 0).2, (hin 2 i).2, (lc i).2, (lc 0).2]⟩
  split
  ·simp only [nl_app]
   exact ⟨ZS (ZS (l2 i).1 (hin 1 i).1) (lc i).1, by rw [(l2 i).2, (l2 0).2, (hin 1 i).2, (lc i).2, (lc 0).2]⟩
  split
  ·simp only [nl_app]
   exact ⟨ZS (ZS (ZS (ZS (lt i).1 (hin 0 i).1) (l3 i).1) (hin 1 i).1) (lc i).1, by rw [(lt i).2, (lt 0).2, (hin 0 i).2, (l3 i).2, (l3 0).2, (hin 1 i).2, (lc i).2, (lc 0).2]⟩
  ·exact ⟨(l4 i).1, by rw [(l4 i).2, (l4 0).2]⟩
 ·rw [inT, inT]
  split
  ·exact hk (i + 1) (0 + 1)
  ·exact ⟨asc_nil, rfl⟩
theorem fun_asc (t : Nd) : Asc (funT t) := by
 obtain ⟨k, n, m, ks⟩ := t
 rw [funT]
 split
 ·have hc : Li (Zs ((ks.take (ks.length - 1)).map typT)) := li_commas _ fun x hx => by obtain ⟨y, _, rfl⟩ := List.mem_map.1 hx; exact li_typ y
  exact ZS (qx (ql (ql (ql (ql (ZU (by decide)) (li_itoa n)) (ZU (by decide))) hc) (ZU (by decide))) 0).1 (ZS (st_asc _ 0).2.1 (qx (s := sClose) (ZU (by decide)) 0).1)
 ·exact asc_nil
theorem pr_asc (t : Nd) : Asc (prT t) := by
 obtain ⟨k, n, m, ks⟩ := t
 rw [prT]
 split
 ·refine ZS (qx (ql (ZU (by decide)) (li_itoa n)) 0).1 fun b hb => ?_
  obtain ⟨y, hy, hby⟩ := List.mem_flatten.1 hb
  obtain ⟨z, _, rfl⟩ := List.mem_map.1 hy
  exact fun_asc z b hby
 split
 ·exact fun_asc _
 split
 ·exact li_asc (li_typ _)
 split
 ·exact li_asc (li_ex _)
 ·exact (st_asc _ 0).1.1
theorem print_asc (t : Nd) : Asc (Zo t) := by
 unfold Zo
 split
 ·exact pr_asc t
 ·exact asc_nil
theorem prT_len (t : Nd) (hok : okN t) (hs : QI t <= 1000000) : (prT t).length <= 7000000 * QI t := by
 have h1 := typT_len t hok
 have h2 := exT_len t hok
 have h3 := (st_len t hok 0).1
 have h4 := funT_len t hok hs
 have hb : bnd 0 (QI t) <= 7000000 * QI t := by
  unfold bnd
  exact Nat.mul_le_mul (by omega) (Nat.le_refl _)
 obtain ⟨k, n, m, ks⟩ := t
 rw [prT]
 rw [okN] at hok
 have hn := ZE hok.1.2.1
 have hse : QI (.mk k n m ks) = 1 + QT ks := by rw [QI]
 have hf := funs_len ks hok.2 (by omega)
 repeat' split
 ·rw [List.length_append, Wq, List.length_append, hse]
  simp only [List.length_cons, List.length_nil]; omega
 ·exact h4
 ·omega
 ·omega
 ·omega
theorem print_len (t : Nd) (hok : okN t) (hs : QI t <= 1000000) : (Zo t).length <= 7000000 * QI t := by
 unfold Zo
 split
 ·exact prT_len t hok hs
 ·simp
end Go.Proofs
end
section
namespace Go.Proofs
open Go.Av
variable {G : Nat -> DV}
attribute [local irreducible] OpSem ZA ZV Z8 ACalls AEnd AClose RV
open Go.Bl
theorem s_sub_as2 {P : Program} {G : Nat -> DV} {B : Nat} {f : Operand -> DV} {σ : List ABlk} {K : DV -> List ABlk -> Prop} {dst : Option Tmp} {type : TypeId} {pos : String} {after : Array Edge} {gd : Option (Nat × Bool)} {t t' : TypeId} {x y : Operand} {a b c : Int} (hx : f x = .sc (.int .i64 a)) (hy : f y = .sc (.int .i64 b)) (hc : a - b = c) (h : -9223372036854775808 <= c /\ c <= 9223372036854775807)
  (k : K (.sc (.int .i64 c)) σ) : OpSem P G B ⟨dst, .binOp .sub t x y t', type, pos, after, gd⟩ f σ K :=
 W1 hx hy (by rw [hc]; exact h) (by rw [hc]; exact k)
def arnd (n most : Int) : Int := (if n < 0 then -(n + 1) else n) % most
theorem arnd_bound (n : Int) {most : Int} (h : 0 < most) : 0 <= arnd n most /\ arnd n most < most := by
 unfold arnd
 exact ⟨Int.emod_nonneg _ (by omega), Int.emod_lt_of_pos _ h⟩
theorem around_c (n most : Int) (hn : -9223372036854775808 <= n /\ n <= 9223372036854775807) (hm : 0 < most /\ most <= 9223372036854775807) : Go.Av.Pure Tryz.prog G 14 [.i n, .i most] (.i (arnd n most)) := fun B => by
 have hb := arnd_bound n hm.1
 unfold arnd at hb ⊢
 by_cases h : n < 0
 ·rw [if_pos h] at hb ⊢
  refine Qa Tryz.func14 rfl Tryz.ntmps14 rfl (t := [(0, .i n), (1, .i most)]) rfl fun E hE => ?_
  (repeat' first | (refine Qo ?_; (first | (refine Qj ?_; refine QU rfl ?_) | (refine Qd ?_; refine Q5 rfl ?_) | (refine Qh ?_; (first | refine Wh rfl rfl ?_ | refine Zr rfl rfl (by omega) ?_ | refine qe rfl rfl (by first | omega | exact nn_shr (by omega)) (by omega) ?_)) | (refine WQ ?_; refine s_neg rfl (by omega) ?_))) | (refine Qv ?_; (first | refine Qu ?_ | refine QY rfl ?_)) | (refine Qs ?_; (first | refine Qw ?_ | refine Qc ?_ | refine Qr rfl (by omega) ?_ | refine QM ?_)))
  refine e_1 Tryz.results14 (QQ rfl) (Q2 ?_)
  rfl
 ·rw [if_neg h] at hb ⊢
  refine Qa Tryz.func14 rfl Tryz.ntmps14 rfl (t := [(0, .i n), (1, .i most)]) rfl fun E hE => ?_
  (repeat' first | (refine Qo ?_; (first | (refine Qj ?_; refine QU rfl ?_) | (refine Qd ?_; refine Q5 rfl ?_) | (refine Qh ?_; (first | refine Wh rfl rfl ?_ | refine qe rfl rfl (by first | omega | exact nn_shr (by omega)) (by omega) ?_)))) | (refine Qv ?_; (first | refine Qu ?_ | refine QY rfl ?_)) | (refine Qs ?_; (first | refine Qw ?_ | refine Qc ?_ | refine QR ?_ | refine Qn rfl (by omega) ?_ | refine QM ?_)))
  refine e_1 Tryz.results14 (QQ rfl) (Q2 ?_)
  rfl
def atI (l : List Int) (i most : Int) : Int := if 0 <= i /\ i.toNat < l.length then arnd (l.getD i.toNat 0) most else 0
theorem QX (l : List Int) (i : Int) {most : Int} (h : 0 < most) : 0 <= atI l i most /\ atI l i most < most := by
 unfold atI
 split
 ·exact arnd_bound _ h
 ·omega
def OkI (l : List Int) : Prop := l.length <= 9223372036854775807 /\ ∀ x ∈ l, -9223372036854775808 <= x /\ x <= 9223372036854775807
theorem r01At_c (l : List Int) (hl : OkI l) (i most : Int) (hm : 0 < most /\ most <= 9223372036854775807) : Go.Av.Pure Tryz.prog G 34 [Wi l, .i i, .i most] (.i (atI l i most)) := fun B => by
 unfold atI
 by_cases h : 0 <= i /\ i.toNat < l.length
 ·rw [if_pos h]
  have hgd : l.getD i.toNat 0 = l[i.toNat] := by rw [List.getD_eq_getElem?_getD, List.getElem?_eq_getElem h.2]; rfl
  rw [hgd]
  have har := around_c (G := G) l[i.toNat] most (hl.2 _ (List.getElem_mem h.2)) hm
  obtain ⟨h0, h1⟩ := h
  refine Qa Tryz.func34 rfl Tryz.ntmps34 rfl (t := [(0, Wi l), (1, .i i), (2, .i most)]) rfl fun E hE => ?_
  (repeat' first | (refine Qo ?_; (first | (refine Qj ?_; refine QU rfl ?_) | (refine Qd ?_; refine Q5 rfl ?_) | (refine Ql ?_; refine Wl rfl ?_) | (refine QN ?_; refine s_idx_sl rfl rfl (by omega) (by first | assumption | omega | (simp; done) | (simp; omega)) ?_) | (refine Qh ?_; (first | refine Wh rfl rfl ?_ | refine Zu rfl rfl ?_)) | (refine Qk ?_; (first | refine Q6 rfl ?_ | refine W5 rfl rfl (har) ?_)) | (refine QJ ?_; refine WZ rfl rfl ?_))) | (refine Qv ?_; (first | refine Qu ?_ | refine QY rfl ?_ | refine WX rfl rfl rfl rfl ?_ | refine We rfl rfl (by omega) ?_)) | (refine Qs ?_; (first | refine Qw ?_ | refine Qc ?_ | refine QR ?_ | refine Qn rfl (by omega) ?_ | refine QM ?_)))
  refine e_1 Tryz.results34 (QQ rfl) (Q2 ?_)
  rfl
 ·rw [if_neg h]
  refine Qa Tryz.func34 rfl Tryz.ntmps34 rfl (t := [(0, Wi l), (1, .i i), (2, .i most)]) rfl fun E hE => ?_
  (repeat' first | (refine Qo ?_; (first | (refine Qj ?_; refine QU rfl ?_) | (refine Qd ?_; refine Q5 rfl ?_) | (refine Qh ?_; (first | refine Wh rfl rfl ?_ | refine Zu rfl rfl ?_)) | (refine Qk ?_; refine Q6 rfl ?_) | (refine QJ ?_; (first | refine Ze rfl rfl ?_ | refine WZ rfl rfl ?_)))) | (refine Qv ?_; (first | refine Qu ?_ | refine QY rfl ?_ | refine WX rfl rfl rfl rfl ?_ | refine Zl rfl rfl rfl rfl ?_ | refine qW rfl rfl (fun _ => ?_) (fun _ => ?_))) | (refine Qs ?_; (first | refine Qw ?_ | refine Qc ?_ | refine QB rfl ?_ | refine Qr rfl (by omega) ?_ | refine QM ?_)))
  all_goals
   refine e_1 Tryz.results34 (QQ rfl) (Q2 ?_)
   rfl
abbrev genC (l : List Int) (a r : Int) : List DV := [Wi l, .i a, .i r]
theorem Wm (l : List Int) (hl : OkI l) (a r most : Int) (ha : 0 <= a /\ a <= 9000000000000000000) (hm : 0 < most /\ most <= 9223372036854775807) : CE Tryz.prog G 35 (fun p g => [.ptr p g 0, .i most]) (genC l a r) (.i (atI l a most)) (genC l (a + 1) r) := fun g B hg => by
 have hat := r01At_c (G := G) l hl a most hm
 refine Qa Tryz.func35 rfl Tryz.ntmps35 rfl (t := [(0, .ptr 0 g 0), (1, .i most)]) rfl fun E hE => ?_
 (repeat' first | (refine Qo ?_; (first | (refine Qj ?_; refine QU rfl ?_) | (refine Qd ?_; refine Q5 rfl ?_) | (refine Ql ?_; refine Qf rfl rfl rfl ?_) | (refine Qh ?_; refine Zr rfl rfl (by omega) ?_) | (refine Qx ?_; refine Q8 rfl rfl rfl rfl (by rfl) (by rfl) (by rfl) ?_) | (refine Qb ?_; refine Qg rfl rfl ?_) | (refine Qy ?_; refine Qt rfl rfl ?_))) | (refine Qv ?_; (first | refine Qu ?_ | refine QY rfl ?_ | refine Q1 ?_)) | (refine Qs ?_; (first | refine Qw ?_ | refine Qc ?_ | (refine WJ ?_; first | refine Ws (by rfl) (by kernel_rfl) (by kernel_rfl) ?_ | refine Wr (by kernel_rfl) (by kernel_rfl) ?_) | refine QM ?_)) | (refine g_lex ?_; (first | refine x_op rfl (by (repeat' first | (refine Qo ?_; (first | (refine Qj ?_; refine QU rfl ?_) | (refine Qd ?_; refine Q5 rfl ?_) | (refine Ql ?_; refine Qf rfl rfl rfl ?_) | (refine Qk ?_; refine W5 rfl rfl (hat) ?_) | (refine Qb ?_; refine Qg rfl rfl ?_) | (refine Qy ?_; refine Qt rfl rfl ?_))) | exact ⟨rfl, rfl⟩)) ?_ | refine x_nil ?_)))
 all_goals exact e_1 (Tryz.results35) (QQ rfl) (qb rfl rfl)
end Go.Proofs
end
section
namespace Go.Proofs
open Go.Av Go.Bl
theorem funT_len2 (t : Nd) (hok : okN t) (hs : QI t <= 256) : (funT t).length <= 3000 * QI t := by
 obtain ⟨k, n, m, ks⟩ := t
 rw [okN] at hok
 rw [QI] at hs ⊢
 have hn := ZE hok.1.2.1
 rw [funT]
 split
 ·rename_i h
  have hk : 0 < ks.length := by simp at h; omega
  have hl := sizeL_last hk
  have hb := (st_len _ (Za hok.2 (last_mem hk)) 0).2
  have hc := qA typT (M := 30) ks (ks.length - 1) fun x hx => typT_len x (Za hok.2 hx)
  generalize ks.getD (ks.length - 1) (.mk 0 0 0 []) = b at *
  have hb2 : (6 * (0 + QI b) + 100) * (QI b - 1) <= 3000 * (QI b - 1) := Nat.mul_le_mul (by omega) (Nat.le_refl _)
  simp only [List.length_append, Wq, List.length_cons, List.length_nil]
  omega
 ·simp
theorem funs_len2 : ∀ (ks : List Nd), okL ks -> QT ks <= 256 -> ((ks.map funT).flatten).length <= 3000 * QT ks
 | [], _, _ => by simp
 | x :: r, h, hs => by
  rw [okL] at h
  rw [QT] at hs
  have h1 := funT_len2 x h.1 (by omega)
  have h2 := funs_len2 r h.2 (by omega)
  rw [List.map_cons, List.flatten_cons, List.length_append, QT, Nat.mul_add]; omega
theorem prT_len2 (t : Nd) (hok : okN t) (hs : QI t <= 256) : (prT t).length <= 3000 * QI t := by
 have h1 := typT_len t hok
 have h2 := exT_len t hok
 have h3 := (st_len t hok 0).1
 have h4 := funT_len2 t hok hs
 have hb : bnd 0 (QI t) <= 3000 * QI t := by
  unfold bnd
  exact Nat.mul_le_mul (by omega) (Nat.le_refl _)
 obtain ⟨k, n, m, ks⟩ := t
 rw [prT]
 rw [okN] at hok
 have hn := ZE hok.1.2.1
 have hse : QI (.mk k n m ks) = 1 + QT ks := by rw [QI]
 have hf := funs_len2 ks hok.2 (by omega)
 repeat' split
 ·rw [List.length_append, Wq, List.length_append, hse]
  simp only [List.length_cons, List.length_nil]; omega
 ·exact h4
 ·omega
 ·omega
 ·omega
theorem print_len2 (t : Nd) (hok : okN t) (hs : QI t <= 256) : (Zo t).length <= 768000 := by
 unfold Zo
 split
 ·have := prT_len2 t hok hs; omega
 ·simp
theorem valid_ok {t : Nd} (h : validM t = true) : okN t /\ QI t <= 256 /\ prOk t = true := by
 have hp := valid_pr h
 unfold validM at h
 simp only [Bool.and_eq_true, decide_eq_true_eq] at h
 exact ⟨fit_ok t 0 h.2, h.1.1, hp⟩
def lenS (l : List (List UInt8)) : Nat := (l.map (·.length)).sum
theorem lenS_cons (x : List UInt8) (l : List (List UInt8)) : lenS (x :: l) = x.length + lenS l := by unfold lenS; rw [List.map_cons, List.sum_cons]
theorem scan_toks (s : List UInt8) (a : Nat) : (∀ t ∈ (Zc s a).1.map (·.1), t ≠ [] /\ ∃ u, WA u = t) /\ lenS ((Zc s a).1.map (·.1)) <= s.length := by
 have key : ∀ (n : Nat) (u : List UInt8) (a : Nat), u.length = n -> (∀ t ∈ (Zc u a).1.map (·.1), t ≠ [] /\ ∃ u, WA u = t) /\ lenS ((Zc u a).1.map (·.1)) <= u.length := by
  intro n
  induction n using Nat.strongRecOn with
  | _ n ih =>
  intro u a hu
  have hd := (List.dropWhile_sublist (l := u) spB).length_le
  by_cases hf : WA (u.dropWhile spB) = []
  ·rw [scan_nil hf]
   exact ⟨fun t ht => by simp at ht, by simp [lenS]⟩
  ·have hle := firstM_le (u.dropWhile spB)
   have hpos : 1 <= (WA (u.dropWhile spB)).length := by
    cases hq : WA (u.dropWhile spB) with
    | nil => exact absurd hq hf
    | cons b q => simp
   rw [scan_cons rfl rfl hf rfl]
   have hdl : ((u.dropWhile spB).drop (WA (u.dropWhile spB)).length).length = (u.dropWhile spB).length - (WA (u.dropWhile spB)).length := List.length_drop
   obtain ⟨i1, i2⟩ := ih _ (by rw [hdl]; omega) ((u.dropWhile spB).drop (WA (u.dropWhile spB)).length) (a + (u.length - (u.dropWhile spB).length) + (WA (u.dropWhile spB)).length) rfl
   rw [hdl] at i2
   refine ⟨fun t ht => ?_, ?_⟩
   ·rw [List.map_cons] at ht
    rcases List.mem_cons.1 ht with rfl | ht
    ·exact ⟨hf, _, rfl⟩
    ·exact i1 t ht
   ·rw [List.map_cons, lenS_cons]; dsimp only at *; omega
 exact key _ s a rfl
theorem len_le_lenS : ∀ {l : List (List UInt8)}, (∀ t ∈ l, t ≠ []) -> l.length <= lenS l
 | [], _ => Nat.zero_le _
 | x :: r, h => by
  have h1 := List.length_pos_iff.2 (h x (by simp))
  have h2 := len_le_lenS (l := r) fun t ht => h t (by simp [ht])
  rw [lenS_cons, List.length_cons]; omega
def qX (g : Nat -> List UInt8) : Nat -> List (List UInt8) -> List UInt8
 | _, [] => []
 | i, t :: ts => g i ++ (t ++ qX g (i + 1) ts)
theorem blank_head {g : Nat -> List UInt8} (hg : ∀ i, g i ≠ [] /\ (g i).all spB = true) (i : Nat) (ts : List (List UInt8)) : ∀ b ∈ (qX g i ts).head?, spB b = true := fun b hb => by
 cases ts with
 | nil => cases hb
 | cons t r =>
  rw [qX] at hb
  obtain ⟨h1, h2⟩ := hg i
  cases hq : g i with
  | nil => exact absurd hq h1
  | cons x q =>
   rw [hq] at hb h2
   simp at hb h2
   rw [<- hb]; exact h2.1
theorem blank_lex {g : Nat -> List UInt8} (hg : ∀ i, g i ≠ [] /\ (g i).all spB = true) : ∀ (ts : List (List UInt8)) (i : Nat), (∀ t ∈ ts, t ≠ [] /\ ∃ u, WA u = t) -> Z7 (qX g i ts) ts
 | [], i, _ => lex_end rfl
 | t :: r, i, h => by
  obtain ⟨h1, u, h2⟩ := h t (by simp)
  rw [qX]
  exact lex_cons (hg i).2 h1 (first_stop h2 h1 (blank_head hg (i + 1) r)) (blank_lex hg r (i + 1) fun t ht => h t (by simp [ht]))
theorem blank_len {g : Nat -> List UInt8} (hg : ∀ i, (g i).length <= 3) : ∀ (ts : List (List UInt8)) (i : Nat), (qX g i ts).length <= lenS ts + 3 * ts.length
 | [], i => by simp [qX, lenS]
 | t :: r, i => by
  have := blank_len hg r (i + 1)
  have := hg i
  rw [qX, lenS_cons, List.length_append, List.length_append, List.length_cons]; omega
def gapS : List (List UInt8) := [[32], [10], [32, 32], [32, 10, 32], [10, 10]]
def gapM (gaps : List Int) (i : Nat) : List UInt8 := gapS.getD (atI gaps (((i % 50 : Nat)) : Int) 5).toNat []
theorem gap_ok (gaps : List Int) (i : Nat) : gapM gaps i ≠ [] /\ (gapM gaps i).all spB = true /\ (gapM gaps i).length <= 3 := by
 have h := QX gaps (((i % 50 : Nat)) : Int) (most := 5) (by decide)
 unfold gapM
 have key : ∀ j : Fin 5, gapS.getD j.val [] ≠ [] /\ (gapS.getD j.val []).all spB = true /\ (gapS.getD j.val []).length <= 3 := by decide
 exact key ⟨(atI gaps (((i % 50 : Nat)) : Int) 5).toNat, by omega⟩
theorem prog_ne (n m : Int) (ks : List Nd) : progK (.mk 27 n m ks) ≠ [] := by
 rw [progK]; simp
theorem blank_parse {z : Nd} {n m : Int} {ks : List Nd} (hv : validM (.mk 27 n m ks) = true) {g : Nat -> List UInt8} (hg : ∀ i, g i ≠ [] /\ (g i).all spB = true) (hts : ∀ t ∈ progK (.mk 27 n m ks), t ≠ [] /\ ∃ u, WA u = t) :
  8192 < (qX g 0 (progK (.mk 27 n m ks))).length \/ parseM z (qX g 0 (progK (.mk 27 n m ks))) = (.mk 27 n m ks, -1) := by
 have hp := valid_pr hv
 by_cases hl : 8192 < (qX g 0 (progK (.mk 27 n m ks))).length
 ·exact .inl hl
 ·right
  obtain ⟨h1, h2⟩ := blank_lex hg (progK (.mk 27 n m ks)) 0 hts 0
  generalize qX g 0 (progK (.mk 27 n m ks)) = s at *
  unfold parseM
  rw [if_neg hl, rd_prog hp h1 (by omega), if_neg (by simp), if_neg (by omega)]
  dsimp only
  rw [if_pos hv]
end Go.Proofs
end
section
namespace Go.Proofs
open Go.Av
variable {G : Nat -> DV}
attribute [local irreducible] OpSem ZA ZV Z8 ACalls AEnd AClose RV
open Go.Bl
theorem partD_nd (v : Nd) : partD (Enc.enc v) 0 4 = some (Enc.enc v) := by cases v; rw [Q3]; rfl
theorem copied_c (t : Nd) : QI t <= 1000000 -> Go.Av.Pure Tryz.prog G 121 [.agg (Enc.enc t)] (.agg (Enc.enc t)) := by
 induction t using Nd.ind with
 | h k n m ks ih =>
 intro hsz B
 have hse : QI (.mk k n m ks) = 1 + QT ks := by rw [QI]
 rw [hse] at hsz
 have hln := Zq ks
 have hi : ∀ x ∈ ks, Go.Av.Pure Tryz.prog G 121 [.agg (Enc.enc x)] (.agg (Enc.enc x)) := fun x hx => ih x hx (by have := WK hx; omega)
 clear ih
 rw [Q3]
 refine Qa Tryz.func121 rfl Tryz.ntmps121 rfl (t := [(0, .agg [.i k, .i n, .i m, Wi ks])]) rfl fun E hE => ?_
 (repeat' first | (refine Qo ?_; (first | (refine Qj ?_; refine QU rfl ?_) | (refine Qd ?_; refine Q5 rfl ?_) | (refine Ql ?_; refine Qf rfl rfl rfl ?_) | (refine Qk ?_; refine Q6 rfl ?_) | (refine Qx ?_; refine Q8 rfl rfl rfl rfl (by rfl) (by rfl) (by rfl) ?_) | (refine Qb ?_; refine Qg rfl rfl ?_) | (refine QG ?_; refine QD (fun _ _ => ?_)) | (refine Wx ?_; refine Ww rfl rfl (fun _ _ => ?_)))) | (refine Qv ?_; (first | refine Qu ?_ | refine QY rfl ?_ | refine Q1 ?_)) | (refine Qs ?_; (first | refine Qw ?_ | refine Qc ?_ | refine Qm ?_)))
 rename_i g1 hg1 g2 hg2
 refine r_ownin 0 3 4 rfl rfl (fun _ => rfl) (fun gk hgk => ?_)
 refine r_loop2 (fun (i gc : Nat) => ⟨[(1, .ptr 0 g1 0), (2, .ptr 1 g2 0), (9, Wi ks), (10, .i ks.length), (11, .i i)], [.row g1 [.i k, .i n, .i m, .ref 2 gc 0 (ks.take i).length 4], .row g2 [.i 0, .i 0, .i 0, .nil], .row gc (WH (ks.take i))]⟩) (fun i gc => i <= ks.length /\ E.N < gc) (fun i _ => ks.length - i) 0 gk ?_ ⟨by omega, hgk⟩ ?_
 ·exact zal rfl
 intro i gc ⟨hi2, hgc⟩
 have hcl : (ks.take i).length <= 1000000 := by rw [List.length_take]; omega
 by_cases hil : i < ks.length
 ·have hi1 := hi _ (List.getElem_mem hil)
  have hst := List.take_succ_eq_append_getElem hil
  clear hi
  (repeat' first | (refine Qo ?_; (first | (refine Qj ?_; refine QU rfl ?_) | (refine Ql ?_; refine Wj rfl ?_) | (refine QN ?_; refine Q9 rfl rfl (by first | assumption | omega | (simp; done) | (simp; omega)) ?_) | (refine Qh ?_; (first | refine Wh rfl rfl ?_ | refine Zr rfl rfl (by omega) ?_)) | (refine Qk ?_; refine qk (z := (ks[i])) rfl rfl rfl rfl rfl rfl rfl (by first | omega | (simp; omega)) (by first | omega | (simp; omega)) (fun _ => rfl) (fun _ _ => ?_)) | (refine Qx ?_; (first | refine Qe rfl rfl rfl (by first | assumption | exact Enc.len _ | rfl) (by first | assumption | exact Enc.len _ | rfl) rfl ?_ | refine Q8 rfl rfl rfl rfl (by rfl) (by rfl) (by rfl) ?_)) | (refine QG ?_; refine QD (fun _ _ => ?_)))) | (refine Qv ?_; (first | refine Qu ?_ | refine QY rfl ?_ | refine Q1 ?_)) | (refine Qs ?_; (first | refine Qw ?_ | refine Qc ?_ | refine Qm ?_ | (refine WJ ?_; first | (rename_i g5 hg5; refine Qq (fun p => .row g1 [.i k, .i n, .i m, .ref 2 gc 0 (ks.take i).length 4] :: .row g2 [.i 0, .i 0, .i 0, .nil] :: p :: .row g5 (Enc.enc ks[i]) :: []) 7 [(0, true), (1, true), (2, true), (3, true), (4, true), (5, false), (6, true), (7, false)] (by rfl) (by rfl) (by kernel_rfl) (by decide +kernel) (by decide +kernel) ⟨_, rfl⟩ ?_) | (refine Qq (fun p => p) 100 [(0, true)] (by rfl) (by rfl) (by kernel_rfl) (by decide +kernel) (by decide +kernel) ⟨_, rfl⟩ ?_) | refine Ws (by rfl) (by kernel_rfl) (by kernel_rfl) ?_ | refine Wr (by kernel_rfl) (by kernel_rfl) ?_) | refine QR ?_ | refine Qr rfl (by omega) ?_)) | (refine W8 ?_; (first | refine ZH ?_ | refine i_z0 ?_ | refine i_st rfl rfl (fun _ => (by (repeat' first | (refine Qo ?_; (first | (refine Ql ?_; (first | refine Qi rfl rfl (by first | assumption | exact Enc.len _ | rfl) ?_ | refine Qf rfl rfl rfl ?_)) | (refine Qk ?_; refine ZY rfl rfl hi1 (W0 (Enc.clo _)) ?_) | (refine QK ?_; refine Q0 (z := ks[i]) rfl rfl (by decide) ?_) | (refine Qb ?_; refine Qg rfl rfl ?_))) | exact ⟨rfl, rfl⟩))) ?_ | refine i_ef rfl ?_)) | refine And.intro (Exists.intro (_) rfl) ?_)
  rename_i ga hga
  refine ⟨i + 1, ga, ⟨by omega, by omega⟩, by omega, ?_⟩
  rw [hst]
  exact zal rfl
 ·have hi3 : i = ks.length := by omega
  subst hi3
  rw [List.take_length]
  have c1 := Wu ks
  clear hi
  refine r_pubin 0 3 rfl rfl rfl c1.symm rfl rfl ?_
  (repeat' first | (refine Qo ?_; (first | (refine Ql ?_; refine Qi rfl rfl (by first | assumption | exact Enc.len _ | rfl) ?_) | (refine Qh ?_; refine Wh rfl rfl ?_) | (refine Qx ?_; refine Qe rfl rfl rfl (by first | assumption | exact Enc.len _ | rfl) (by first | assumption | exact Enc.len _ | rfl) rfl ?_))) | (refine Qv ?_; (first | refine Qu ?_ | refine QY rfl ?_ | refine Q1 ?_)) | (refine Qs ?_; (first | refine Qw ?_ | refine Qc ?_ | refine Qn rfl (by omega) ?_ | refine WI rfl ?_ | refine QM ?_)))
  all_goals exact e_1 (Tryz.results121) (QA (size := 4) rfl rfl rfl rfl) (Q2 rfl)
def atM : List Int -> Nd -> Option Nd
 | [], t => some t
 | i :: p, .mk k n m ks => if 0 <= i then (match ks[i.toNat]? with | some x => atM p x | none => none) else none
theorem atM_cons {a : Int} {p : List Int} {k n m : Int} {ks : List Nd} (h0 : 0 <= a) (h1 : a.toNat < ks.length) : atM (a :: p) (.mk k n m ks) = atM p ks[a.toNat] := by
 rw [atM, if_pos h0, List.getElem?_eq_getElem h1]
theorem atM_none {a : Int} {p : List Int} {k n m : Int} {ks : List Nd} (h : a < 0 \/ (ks.length : Int) <= a) : atM (a :: p) (.mk k n m ks) = none := by
 rw [atM]
 split
 ·rw [List.getElem?_eq_none (by omega)]
 ·rfl
def atD (o : Option Nd) : DV := match o with | some x => .tup [.agg (Enc.enc x), .b true] | none => .tup [.agg (Enc.enc zero0), .b false]
where zero0 : Nd := .mk 0 0 0 []
theorem tup_nil0 {L : Lay} {a b c d : DV} {es : Nat} {v : Value} (h : VRep L (.tup [.agg [a, b, c, .sc (.slice none 0 0)], d]) v) : VRep L (.tup [.agg [a, b, c, .sl es []], d]) v := by
 cases h with | tup _ vs hl hg =>
 refine .tup _ _ hl fun j e hj => ?_
 match j with
 | 0 =>
  simp at hj; subst hj
  have h0 := hg 0 _ rfl
  generalize vs.getD 0 undef = v0 at h0 ⊢
  cases h0 with | agg _ ws hl2 ho2 hg2 =>
  refine .agg _ _ hl2 (fun e he => ?_) fun j e hj => ?_
  ·simp only [List.mem_cons, List.not_mem_nil, or_false] at he
   rcases he with rfl | rfl | rfl | rfl
   ·exact ho2 _ (by simp)
   ·exact ho2 _ (by simp)
   ·exact ho2 _ (by simp)
   ·rfl
  ·match j with
   | 0 => exact hg2 0 e hj
   | 1 => exact hg2 1 e hj
   | 2 => exact hg2 2 e hj
   | 3 => simp at hj; subst hj; exact nil_str (hg2 3 _ rfl)
   | j + 4 => simp at hj
 | j + 1 => exact hg (j + 1) e hj
theorem trAt_c (t : Nd) (hsz : QI t <= 1000000) (path : List Int) (hpl : path.length <= 4611686018427387904) : Go.Av.Pure Tryz.prog G 67 [.agg (Enc.enc t), Wi path] (atD (atM path t)) := fun B => by
 refine Qa Tryz.func67 rfl Tryz.ntmps67 rfl (t := [(0, .agg (Enc.enc t)), (1, Wi path)]) rfl fun E hE => ?_
 (repeat' first | (refine Qo ?_; (first | (refine Qj ?_; refine QU rfl ?_) | (refine Qd ?_; refine Q5 rfl ?_) | (refine Qk ?_; refine Q6 rfl ?_) | (refine QG ?_; refine QD (fun _ _ => ?_)) | (refine Wx ?_; refine Ww rfl rfl (fun _ _ => ?_)))) | (refine Qv ?_; (first | refine Qu ?_ | refine QY rfl ?_)) | (refine Qs ?_; (first | refine Qw ?_ | refine Qc ?_ | refine Qm ?_)))
 rename_i g2 hg2 g4 hg4
 refine r_loop2 (fun (j : Nat) (cur : Nd) => ⟨[(2, .ptr 0 g2 0), (4, .ptr 1 g4 0), (8, Wi path), (9, .i path.length), (10, .i j)], [.row g2 (Enc.enc cur), .row g4 [.i 0, .i 0, .i 0, .nil]]⟩) (fun j cur => j <= path.length /\ atM path t = atM (path.drop j) cur /\ QI cur <= 1000000) (fun j _ => path.length - j) 0 t ?_ ⟨by omega, by simp, hsz⟩ ?_
 ·exact zal rfl
 intro j cur ⟨hj, he, hcs⟩
 obtain ⟨k, n, m, ks⟩ := cur
 have hse : QI (.mk k n m ks) = 1 + QT ks := by rw [QI]
 have hln := Zq ks
 by_cases hjl : j < path.length
 ·rw [List.drop_eq_getElem_cons hjl] at he
  rw [Q3]
  by_cases hc : 0 <= path[j] /\ path[j].toNat < ks.length
  ·rw [atM_cons hc.1 hc.2] at he
   have hat : ((path[j].toNat : Nat) : Int) = path[j] := Int.toNat_of_nonneg hc.1
   have hsm := WK (List.getElem_mem hc.2)
   obtain ⟨hc0, hc1⟩ := hc
   (repeat' first | (refine Qo ?_; (first | (refine Qj ?_; refine QU rfl ?_) | (refine Qd ?_; refine Q5 rfl ?_) | (refine Ql ?_; (first | refine Wl rfl ?_ | refine Wj rfl ?_ | refine Qf rfl rfl rfl ?_)) | (refine QN ?_; (first | refine Q9 rfl rfl (by first | assumption | omega | (simp; done) | (simp; omega)) ?_ | refine s_idx_sl rfl rfl (by omega) (by first | assumption | omega | (simp; done) | (simp; omega)) ?_)) | (refine Qh ?_; (first | refine Wh rfl rfl ?_ | refine Zu rfl rfl ?_ | refine Zr rfl rfl (by omega) ?_)) | (refine Qk ?_; refine Q6 rfl ?_) | (refine QJ ?_; refine WZ rfl rfl ?_) | (refine Qx ?_; refine Qe rfl rfl rfl (by first | assumption | exact Enc.len _ | rfl) (by first | assumption | exact Enc.len _ | rfl) rfl ?_) | (refine Qb ?_; refine Qg rfl rfl ?_))) | (refine Qv ?_; (first | refine Qu ?_ | refine QY rfl ?_ | refine Q1 ?_ | refine WX rfl rfl rfl rfl ?_ | refine We rfl rfl (by omega) ?_)) | (refine Qs ?_; (first | refine Qw ?_ | refine Qc ?_ | refine Qm ?_ | refine QR ?_ | refine Qr rfl (by omega) ?_ | refine Qn rfl (by omega) ?_)))
   refine ⟨j + 1, ks[path[j].toNat], ⟨by omega, he, by omega⟩, by omega, ?_⟩
   exact zal rfl
  ·rw [atM_none (by omega)] at he
   rw [he]
   (repeat' first | (refine Qo ?_; (first | (refine Qj ?_; refine QU rfl ?_) | (refine Qd ?_; refine Q5 rfl ?_) | (refine Ql ?_; (first | refine Wl rfl ?_ | refine Qf rfl rfl rfl ?_)) | (refine QN ?_; refine Q9 rfl rfl (by first | assumption | omega | (simp; done) | (simp; omega)) ?_) | (refine Qh ?_; (first | refine Wh rfl rfl ?_ | refine Zu rfl rfl ?_)) | (refine Qk ?_; refine Q6 rfl ?_) | (refine QJ ?_; (first | refine Ze rfl rfl ?_ | refine WZ rfl rfl ?_)) | (refine Qx ?_; refine Qe rfl rfl rfl (by first | assumption | exact Enc.len _ | rfl) (by first | assumption | exact Enc.len _ | rfl) rfl ?_) | (refine Qb ?_; refine Qg rfl rfl ?_) | (refine QS ?_; refine QC rfl rfl ?_))) | (refine Qv ?_; (first | refine Qu ?_ | refine QY rfl ?_ | refine Q1 ?_ | refine WX rfl rfl rfl rfl ?_ | refine Zl rfl rfl rfl rfl ?_ | refine qW rfl rfl (fun _ => ?_) (fun _ => ?_))) | (refine Qs ?_; (first | refine Qw ?_ | refine Qc ?_ | refine Qm ?_ | refine QR ?_ | refine QB rfl ?_ | refine Qr rfl (by omega) ?_ | refine QM ?_)))
   all_goals exact e_2 (Tryz.results67) (QA (size := 4) rfl rfl rfl rfl) (QQ rfl) (c_conv (d2 := .tup [.agg [.i 0, .i 0, .i 0, .sl 4 []], .b false]) (fun L v h => tup_nil0 h) (Q2 (by show _ = DV.tup [.agg (Enc.enc (Nd.mk 0 0 0 [])), .b false]; rw [Q3]; rfl)))
 ·have hje : j = path.length := by omega
  subst hje
  rw [List.drop_length] at he
  have hcp := copied_c (G := G) (.mk k n m ks) hcs
  rw [he]
  show ZA _ _ _ _ _ _ _ _ _
  (repeat' first | (refine Qo ?_; (first | (refine Qd ?_; refine Q5 rfl ?_) | (refine Ql ?_; refine Qi rfl rfl (by first | assumption | exact Enc.len _ | rfl) ?_) | (refine Qh ?_; refine Wh rfl rfl ?_) | (refine Qk ?_; refine ZY rfl rfl hcp (W0 (Enc.clo _)) ?_) | (refine Qx ?_; refine Qe rfl rfl rfl (by first | assumption | exact Enc.len _ | rfl) (by first | assumption | exact Enc.len _ | rfl) rfl ?_))) | (refine Qv ?_; (first | refine Qu ?_ | refine QY rfl ?_ | refine Q1 ?_)) | (refine Qs ?_; (first | refine Qw ?_ | refine Qc ?_ | refine Qn rfl (by omega) ?_ | refine WI rfl ?_ | refine QM ?_)))
  all_goals exact e_2 (Tryz.results67) (QA (size := 4) rfl rfl (partD_nd _) (Enc.len _)) (QQ rfl) (Q2 rfl)
end Go.Proofs
end
section
namespace Go.Proofs
open Go.RowKit
theorem nlC_succ {l : List UInt8} {i : Nat} (h : i < l.length) : nlC (l.take (i + 1)) = nlC (l.take i) + (if l[i] = 10 then 1 else 0) := by
 unfold nlC
 rw [List.take_succ_eq_append_getElem h, List.countP_append, List.countP_singleton]
 congr 1
 by_cases e : l[i] = 10
 ·simp [e]
 ·simp [e]
theorem ba_get (l : List UInt8) (i : Nat) (h : i < (⟨l.toArray⟩ : ByteArray).size) : (⟨l.toArray⟩ : ByteArray)[i]'h = l[i]'(by have := h; change i < l.toArray.size at this; simpa using this) := by
 show l.toArray[i]'h = _
 simp
set_option maxHeartbeats 1600000 in
set_option maxRecDepth 100000 in
theorem lines_gives (l : List UInt8) (ha : ∀ b ∈ l, b.toNat < 128) (hl : l.length <= 9223372036854775807) (w : World) :
  Calls Tryz.prog 69 #[.string ⟨l.toArray⟩] w fun e w' => e = .returned (.int .i64 (nlC l)) /\ Below w.heap.size w w' := by
 have hsz : (⟨l.toArray⟩ : ByteArray).size = l.length := by show l.toArray.size = _; simp
 have hcl : ∀ i, nlC (l.take i) <= i := fun i => by
  have h1 : nlC (l.take i) <= (l.take i).length := List.countP_le_length
  have h2 := List.length_take_le i l
  omega
 go_enter Tryz.func69, Tryz.ntmps69
 go_wp2
 go_loopw [3] (fun v wr => ∃ pos : Nat, pos <= l.length /\ v = .int .i64 (nlC (l.take pos) : Nat) /\ wr = w.iter ⟨l.toArray⟩ pos) (fun _ wr => l.length - wr.iterPos w.heap.size)
 case atStart => exact ⟨0, Nat.zero_le _, rfl, rfl⟩
 case round =>
  obtain ⟨pos, hp, rfl, rfl⟩ := hrel
  have hip : (w.iter ⟨l.toArray⟩ pos).iterPos w.heap.size = pos := by unfold World.iterPos; rw [World.iter_heap]
  have hip1 : (w.iter ⟨l.toArray⟩ (pos + 1)).iterPos w.heap.size = pos + 1 := by unfold World.iterPos; rw [World.iter_heap]
  have hcp := hcl pos
  by_cases hpl : pos < l.length
  ·have hi : pos < (⟨l.toArray⟩ : ByteArray).size := by omega
   have hg := ba_get l pos hi
   have hasc : ((⟨l.toArray⟩ : ByteArray)[pos]'hi).toNat < 128 := by rw [hg]; exact ha _ (List.getElem_mem hpl)
   have hnx := fun ty => run_next_ascii (P := Tryz.prog) w ⟨l.toArray⟩ pos ty hi hasc
   rw [hg] at hnx
   have hs := nlC_succ hpl
   by_cases h10 : l[pos] = 10
   ·rw [h10] at hnx
    rw [if_pos h10] at hs
    go_wp2
    go_roundw
    case rel => exact ⟨pos + 1, hpl, by rw [hs]; rfl, rfl⟩
    case measure => rw [hip, hip1]; omega
   ·have h10' : ((l[pos].toNat : Nat) : Int) ≠ 10 := by
     intro e
     apply h10
     have : l[pos].toNat = 10 := by omega
     exact UInt8.toNat_inj.1 this
    rw [if_neg h10] at hs
    go_wp2
    exact ⟨⟨pos + 1, hpl, by rw [hs]; rfl, rfl⟩, by rw [hip, hip1]; omega⟩
  ·have hpe : pos = l.length := by omega
   subst hpe
   have hnx := fun ty => run_next_end (P := Tryz.prog) w ⟨l.toArray⟩ l.length ty (by omega)
   go_wp2
   go_ret
   exact ⟨by rw [List.take_length]; rfl, (Below.refl _ w).alloc (Nat.le_refl _) _⟩
section
open Go.Av Go.Bl
variable {G : Nat -> DV}
theorem lines_c (l : List UInt8) (ha : ∀ b ∈ l, b.toNat < 128) (hl : l.length <= 9223372036854775807) : Go.Av.Pure Tryz.prog G 69 [W6 l] (.i (nlC l)) :=
 pure_of (us := [.string ⟨l.toArray⟩]) (v := .int .i64 (nlC l)) rfl rfl fun X _ => lines_gives l ha hl X.w
end
end Go.Proofs
end
section
namespace Go.Proofs
open Go.Av
variable {G : Nat -> DV}
attribute [local irreducible] OpSem ZA ZV Z8 ACalls AEnd AClose RV
open Go.Bl
variable {o : List UInt8}
theorem simple1_c {k n m : Int} {ks : List Nd} (b : Bool) (g0 g1 gp gn : Nat) {B : Nat} (hlist : ∀ b, PE Tryz.prog G 84 (fun p g => [Wi ks, .fn (.func 48) [.ptr p g 0] []]) o b (W6 (Zs (ks.map exT))) (b || !ks.all qn)) : 
  ACalls Tryz.prog G B 138 [.ptr 3 gn 0, .ptr 2 gp 0] [pRow 0 1 g0 g1 o.length b, .row g1 (WH o), .row gp [.ptr 0 g0 0], .row gn [.i k, .i n, .i m, Wi ks]]
   (fun d τ => d = W6 (Zs (ks.map exT)) /\ τ = [pRow 0 1 g0 g1 o.length (b || !ks.all qn), .row g1 (WH o), .row gp [.ptr 0 g0 0], .row gn [.i k, .i n, .i m, Wi ks]]) := by
 refine Qa Tryz.func138 rfl Tryz.ntmps138 rfl (t := [(0, .ptr 3 gn 0), (1, .ptr 2 gp 0)]) rfl fun E hE => ?_
 (repeat' first | (refine Qo ?_; (first | (refine Qd ?_; refine Q5 rfl ?_) | (refine Ql ?_; refine Qf rfl rfl rfl ?_) | (refine Qk ?_; refine Zk 0 1 (hlist _) rfl rfl rfl rfl rfl rfl ?_) | (refine Qb ?_; refine Qg rfl rfl ?_) | (refine QW ?_; refine QV rfl rfl ?_))) | (refine Qv ?_; (first | refine Qu ?_ | refine QY rfl ?_)) | (refine Qs ?_; (first | refine Qw ?_ | refine Qc ?_ | refine QM ?_)))
 exact e_1 (Tryz.results138) (QQ rfl) (c_same ⟨rfl, rfl⟩)
theorem simple_c (hG : G 6 = pow10T) (hG1 : G 1 = spaceT) (t : Nd) (hok : okN t) (hsz : QI t <= 1000000) (bad : Bool) : PE Tryz.prog G 91 (fun p g => [.ptr p g 0, .agg (Enc.enc t)]) o bad (W6 (simT t)) (bad || !simOk t) := fun g0 g1 B h0 h1 => by
 obtain ⟨k, n, m, ks⟩ := t
 rw [okN] at hok
 rw [QI] at hsz
 have hl1 := Zq ks
 have hl : ks.length <= 1048576 := by omega
 have hn : -9223372036854775808 <= n /\ n <= 9223372036854775807 := hok.1.2.1
 have hm : -9223372036854775808 <= m /\ m <= 9223372036854775807 := hok.1.2.2
 have hnl := ZE hok.1.2.1
 have hml := ZE hok.1.2.2
 have hcl := qo exT ks (exs_len hok.2)
 have hlist : ∀ b, PE Tryz.prog G 84 (fun p g => [Wi ks, .fn (.func 48) [.ptr p g 0] []]) o b (W6 (Zs (ks.map exT))) (b || !ks.all qn) := fun b => list_c _ exT qn ks b (fun x hx b => expr_c hG hG1 x (Za hok.2 hx) (by have := WK hx; omega) b) hl (by omega)
 have hx : ∀ x ∈ ks, ∀ b, PE Tryz.prog G 48 (fun p g => [.ptr p g 0, .agg (Enc.enc x)]) o b (W6 (exT x)) (b || !qn x) := fun x hx b => expr_c hG hG1 x (Za hok.2 hx) (by have := WK hx; omega) b
 have hxl : ∀ x ∈ ks, (exT x).length <= 60000000 := fun x hx => by have := exT_len x (Za hok.2 hx); have := WK hx; omega
 clear hok
 rw [simT, simOk]
 rw [Q3]
 by_cases k14 : k = 14
 ·subst k14
  by_cases hp : Q4 m ks.length 1 = true
  ·have hpl : ∀ b, PE Tryz.prog G 42 (fun p g => [.ptr p g 0, .agg [.i 14, .i n, .i m, Wi ks], .i 1]) o b (.b true) b := fun b => (Zt 14 n m ks 1 hl).conv (by rw [hp]) (by rw [hp]; simp)
   refine Qa Tryz.func91 rfl Tryz.ntmps91 rfl (t := [(0, .ptr 0 g0 0), (1, .agg [.i _, .i n, .i m, Wi ks])]) rfl fun E hE => ?_
   (repeat' first | (refine Qo ?_; (first | (refine Qj ?_; refine QU rfl ?_) | (refine Qd ?_; refine Q5 rfl ?_) | (refine Ql ?_; (first | refine Qi rfl rfl (by first | assumption | exact Enc.len _ | rfl) ?_ | refine Qf rfl rfl rfl ?_)) | (refine Qh ?_; (first | refine Wc rfl rfl ?_ | refine Zw rfl rfl (by first | omega | (simp only [List.length_append, List.length_cons, List.length_nil]; omega)) ?_)) | (refine Qk ?_; (first | refine qj rfl rfl (simple1_c _ g0 g1 _ _ hlist) ?_ | refine Zk 0 1 (hpl _) rfl rfl rfl rfl rfl rfl ?_ | refine Zk 0 1 (ZC hG _ (by assumption)) rfl rfl rfl rfl rfl rfl ?_)) | (refine QJ ?_; refine Ze rfl rfl ?_) | (refine Qb ?_; refine Qg rfl rfl ?_) | (refine QW ?_; refine QV rfl rfl ?_) | (refine Wx ?_; refine Ww rfl rfl (fun _ _ => ?_)))) | (refine Qv ?_; (first | refine Qu ?_ | refine QY rfl ?_ | refine WX rfl rfl rfl rfl ?_)) | (refine Qs ?_; (first | refine Qw ?_ | refine Qc ?_ | refine Qm ?_ | refine QB rfl ?_ | refine QM ?_)))
   exact e_1 Tryz.results91 (QQ rfl) (c_pe (by simp [*]) (by simp [*, Bool.or_assoc]))
  ·have hp : Q4 m ks.length 1 = false := by rw [<- Bool.not_eq_true]; exact hp
   have hpl : ∀ b, PE Tryz.prog G 42 (fun p g => [.ptr p g 0, .agg [.i 14, .i n, .i m, Wi ks], .i 1]) o b (.b false) true := fun b => (Zt 14 n m ks 1 hl).conv (by rw [hp]) (by rw [hp]; simp)
   refine Qa Tryz.func91 rfl Tryz.ntmps91 rfl (t := [(0, .ptr 0 g0 0), (1, .agg [.i _, .i n, .i m, Wi ks])]) rfl fun E hE => ?_
   (repeat' first | (refine Qo ?_; (first | (refine Qj ?_; refine QU rfl ?_) | (refine Qd ?_; refine Q5 rfl ?_) | (refine Ql ?_; (first | refine Qi rfl rfl (by first | assumption | exact Enc.len _ | rfl) ?_ | refine Qf rfl rfl rfl ?_)) | (refine Qh ?_; refine Wc rfl rfl ?_) | (refine Qk ?_; (first | refine Zk 0 1 (Zp _) rfl rfl rfl rfl rfl rfl ?_ | refine Zk 0 1 (hpl _) rfl rfl rfl rfl rfl rfl ?_)) | (refine QJ ?_; (first | refine Ze rfl rfl ?_ | refine WZ rfl rfl ?_)) | (refine Qb ?_; refine Qg rfl rfl ?_) | (refine QW ?_; refine QV rfl rfl ?_) | (refine Wx ?_; refine Ww rfl rfl (fun _ _ => ?_)))) | (refine Qv ?_; (first | refine Qu ?_ | refine QY rfl ?_ | refine WX rfl rfl rfl rfl ?_ | refine Zl rfl rfl rfl rfl ?_)) | (refine Qs ?_; (first | refine Qw ?_ | refine Qc ?_ | refine Qm ?_ | refine QR ?_ | refine QH rfl ?_ | refine QM ?_)))
   exact e_1 Tryz.results91 (QQ rfl) (c_pe (by simp [*]) (by simp [*, Bool.or_assoc]))
 by_cases k15 : k = 15
 ·subst k15
  by_cases hp : Q4 m ks.length 2 = true
  ·have hpl : ∀ b, PE Tryz.prog G 42 (fun p g => [.ptr p g 0, .agg [.i 15, .i n, .i m, Wi ks], .i 2]) o b (.b true) b := fun b => (Zt 15 n m ks 2 hl).conv (by rw [hp]) (by rw [hp]; simp)
   have h2 : ks.length = 2 := by simp [Q4] at hp; omega
   match ks, h2 with
   | [a, b], _ =>
    have ha := hx a (by simp)
    have hb := hx b (by simp)
    have hal := hxl a (by simp)
    have hbl := hxl b (by simp)
    clear hx hxl hlist hcl
    refine Qa Tryz.func91 rfl Tryz.ntmps91 rfl (t := [(0, .ptr 0 g0 0), (1, .agg [.i _, .i n, .i m, Wi [a, b]])]) rfl fun E hE => ?_
    (repeat' first | (refine Qo ?_; (first | (refine Qj ?_; refine QU rfl ?_) | (refine Qd ?_; refine Q5 rfl ?_) | (refine Ql ?_; (first | refine Qi rfl rfl (by first | assumption | exact Enc.len _ | rfl) ?_ | refine Qf rfl rfl rfl ?_)) | (refine Qh ?_; refine Wc rfl rfl ?_) | (refine Qk ?_; (first | refine Zk 0 1 (hpl _) rfl rfl rfl rfl rfl rfl ?_ | refine Zk 0 1 (ZC hG _ (by assumption)) rfl rfl rfl rfl rfl rfl ?_ | refine Zk 0 1 (ha _) rfl rfl rfl rfl rfl rfl ?_ | refine Zk 0 1 (hb _) rfl rfl rfl rfl rfl rfl ?_)) | (refine QJ ?_; (first | refine Ze rfl rfl ?_ | refine WZ rfl rfl ?_)) | (refine Qb ?_; refine Qg rfl rfl ?_) | (refine QW ?_; refine QV rfl rfl ?_) | (refine Wx ?_; refine Ww rfl rfl (fun _ _ => ?_)))) | (refine Qv ?_; (first | refine Qu ?_ | refine QY rfl ?_ | refine WX rfl rfl rfl rfl ?_ | refine Zl rfl rfl rfl rfl ?_)) | (refine Qs ?_; (first | refine Qw ?_ | refine Qc ?_ | refine Qm ?_ | (refine WJ ?_; first | (refine Qq (pfx3 _ _) 100 [(0, true), (1, true), (2, true), (6, true), (7, true), (8, true), (12, true), (3, false), (4, true), (5, true), (9, false), (10, true), (11, true), (13, false), (14, true), (15, true)] (by rfl) (by rfl) (by kernel_rfl) (by decide +kernel) (by decide +kernel) ⟨(_, _, _, _), rfl⟩ ?_) | (refine Qq (pfx3 _ _) 100 [(0, true), (1, true), (2, true), (6, true), (7, true), (8, true), (9, true), (10, true), (14, true), (15, true), (16, true), (17, true), (18, true), (3, false), (4, true), (5, true), (11, false), (12, true), (13, true), (19, false), (20, true), (21, true)] (by rfl) (by rfl) (by kernel_rfl) (by decide +kernel) (by decide +kernel) ⟨(_, _, _, _), rfl⟩ ?_) | refine Ws (by rfl) (by kernel_rfl) (by kernel_rfl) ?_ | refine Wr (by kernel_rfl) (by kernel_rfl) ?_) | refine QB rfl ?_ | refine QH rfl ?_ | refine QM ?_)) | (refine W8 ?_; (first | refine ZH ?_ | refine i_st rfl rfl (fun _ => (by (repeat' first | (refine Qo ?_; (first | (refine Qd ?_; refine Q5 rfl ?_) | (refine Ql ?_; (first | refine Wj rfl ?_ | refine Qf rfl rfl rfl ?_)) | (refine QN ?_; refine Q9 rfl rfl (by first | assumption | omega | (simp; done) | (simp; omega)) ?_) | (refine Qh ?_; refine Zw rfl rfl (by first | omega | (simp only [List.length_append, List.length_cons, List.length_nil]; omega)) ?_) | (refine Qb ?_; refine Qg rfl rfl ?_))) | exact ⟨rfl, rfl⟩))) ?_ | refine i_ef rfl ?_)) | refine And.intro (Exists.intro ((_, _, _, _)) rfl) ?_)
    have hp2 : Q4 m 2 2 = true := hp
    exact e_1 Tryz.results91 (QQ rfl) (c_pe (by simp [*]) (by simp [*, Bool.or_assoc]))
  ·have hp : Q4 m ks.length 2 = false := by rw [<- Bool.not_eq_true]; exact hp
   have hpl : ∀ b, PE Tryz.prog G 42 (fun p g => [.ptr p g 0, .agg [.i 15, .i n, .i m, Wi ks], .i 2]) o b (.b false) true := fun b => (Zt 15 n m ks 2 hl).conv (by rw [hp]) (by rw [hp]; simp)
   refine Qa Tryz.func91 rfl Tryz.ntmps91 rfl (t := [(0, .ptr 0 g0 0), (1, .agg [.i _, .i n, .i m, Wi ks])]) rfl fun E hE => ?_
   (repeat' first | (refine Qo ?_; (first | (refine Qj ?_; refine QU rfl ?_) | (refine Qd ?_; refine Q5 rfl ?_) | (refine Ql ?_; (first | refine Qi rfl rfl (by first | assumption | exact Enc.len _ | rfl) ?_ | refine Qf rfl rfl rfl ?_)) | (refine Qh ?_; refine Wc rfl rfl ?_) | (refine Qk ?_; (first | refine Zk 0 1 (Zp _) rfl rfl rfl rfl rfl rfl ?_ | refine Zk 0 1 (hpl _) rfl rfl rfl rfl rfl rfl ?_)) | (refine QJ ?_; (first | refine Ze rfl rfl ?_ | refine WZ rfl rfl ?_)) | (refine Qb ?_; refine Qg rfl rfl ?_) | (refine QW ?_; refine QV rfl rfl ?_) | (refine Wx ?_; refine Ww rfl rfl (fun _ _ => ?_)))) | (refine Qv ?_; (first | refine Qu ?_ | refine QY rfl ?_ | refine WX rfl rfl rfl rfl ?_ | refine Zl rfl rfl rfl rfl ?_)) | (refine Qs ?_; (first | refine Qw ?_ | refine Qc ?_ | refine Qm ?_ | refine QR ?_ | refine QH rfl ?_ | refine QM ?_)))
   exact e_1 Tryz.results91 (QQ rfl) (c_pe (by simp [*]) (by simp [*, Bool.or_assoc]))
 by_cases k19 : k = 19
 ·subst k19
  by_cases hp : W9 n m ks.length 1 = true
  ·have hpl : ∀ b, PE Tryz.prog G 87 (fun p g => [.ptr p g 0, .agg [.i 19, .i n, .i m, Wi ks], .i 1]) o b (.b true) b := fun b => (qE 19 n m ks 1 hl).conv (by rw [hp]) (by rw [hp]; simp)
   refine Qa Tryz.func91 rfl Tryz.ntmps91 rfl (t := [(0, .ptr 0 g0 0), (1, .agg [.i _, .i n, .i m, Wi ks])]) rfl fun E hE => ?_
   (repeat' first | (refine Qo ?_; (first | (refine Qj ?_; refine QU rfl ?_) | (refine Qd ?_; refine Q5 rfl ?_) | (refine Ql ?_; (first | refine Qi rfl rfl (by first | assumption | exact Enc.len _ | rfl) ?_ | refine Qf rfl rfl rfl ?_)) | (refine Qh ?_; (first | refine Wc rfl rfl ?_ | refine Zw rfl rfl (by first | omega | (simp only [List.length_append, List.length_cons, List.length_nil]; omega)) ?_)) | (refine Qk ?_; (first | refine qj rfl rfl (simple1_c _ g0 g1 _ _ hlist) ?_ | refine Zk 0 1 (hpl _) rfl rfl rfl rfl rfl rfl ?_)) | (refine QJ ?_; (first | refine Ze rfl rfl ?_ | refine WZ rfl rfl ?_)) | (refine Qb ?_; refine Qg rfl rfl ?_) | (refine QW ?_; refine QV rfl rfl ?_) | (refine Wx ?_; refine Ww rfl rfl (fun _ _ => ?_)))) | (refine Qv ?_; (first | refine Qu ?_ | refine QY rfl ?_ | refine WX rfl rfl rfl rfl ?_ | refine Zl rfl rfl rfl rfl ?_)) | (refine Qs ?_; (first | refine Qw ?_ | refine Qc ?_ | refine Qm ?_ | refine QB rfl ?_ | refine QH rfl ?_ | refine QM ?_)))
   exact e_1 Tryz.results91 (QQ rfl) (c_pe (by simp [*]) (by simp [*, Bool.or_assoc]))
  ·have hp : W9 n m ks.length 1 = false := by rw [<- Bool.not_eq_true]; exact hp
   have hpl : ∀ b, PE Tryz.prog G 87 (fun p g => [.ptr p g 0, .agg [.i 19, .i n, .i m, Wi ks], .i 1]) o b (.b false) true := fun b => (qE 19 n m ks 1 hl).conv (by rw [hp]) (by rw [hp]; simp)
   refine Qa Tryz.func91 rfl Tryz.ntmps91 rfl (t := [(0, .ptr 0 g0 0), (1, .agg [.i _, .i n, .i m, Wi ks])]) rfl fun E hE => ?_
   (repeat' first | (refine Qo ?_; (first | (refine Qj ?_; refine QU rfl ?_) | (refine Qd ?_; refine Q5 rfl ?_) | (refine Ql ?_; (first | refine Qi rfl rfl (by first | assumption | exact Enc.len _ | rfl) ?_ | refine Qf rfl rfl rfl ?_)) | (refine Qh ?_; refine Wc rfl rfl ?_) | (refine Qk ?_; (first | refine Zk 0 1 (Zp _) rfl rfl rfl rfl rfl rfl ?_ | refine Zk 0 1 (hpl _) rfl rfl rfl rfl rfl rfl ?_)) | (refine QJ ?_; (first | refine Ze rfl rfl ?_ | refine WZ rfl rfl ?_)) | (refine Qb ?_; refine Qg rfl rfl ?_) | (refine QW ?_; refine QV rfl rfl ?_) | (refine Wx ?_; refine Ww rfl rfl (fun _ _ => ?_)))) | (refine Qv ?_; (first | refine Qu ?_ | refine QY rfl ?_ | refine WX rfl rfl rfl rfl ?_ | refine Zl rfl rfl rfl rfl ?_)) | (refine Qs ?_; (first | refine Qw ?_ | refine Qc ?_ | refine Qm ?_ | refine QR ?_ | refine QH rfl ?_ | refine QM ?_)))
   exact e_1 Tryz.results91 (QQ rfl) (c_pe (by simp [*]) (by simp [*, Bool.or_assoc]))
 by_cases k20 : k = 20
 ·subst k20
  by_cases hp : W9 n m ks.length 1 = true
  ·have hpl : ∀ b, PE Tryz.prog G 87 (fun p g => [.ptr p g 0, .agg [.i 20, .i n, .i m, Wi ks], .i 1]) o b (.b true) b := fun b => (qE 20 n m ks 1 hl).conv (by rw [hp]) (by rw [hp]; simp)
   refine Qa Tryz.func91 rfl Tryz.ntmps91 rfl (t := [(0, .ptr 0 g0 0), (1, .agg [.i _, .i n, .i m, Wi ks])]) rfl fun E hE => ?_
   (repeat' first | (refine Qo ?_; (first | (refine Qj ?_; refine QU rfl ?_) | (refine Qd ?_; refine Q5 rfl ?_) | (refine Ql ?_; (first | refine Qi rfl rfl (by first | assumption | exact Enc.len _ | rfl) ?_ | refine Qf rfl rfl rfl ?_)) | (refine Qh ?_; (first | refine Wc rfl rfl ?_ | refine Zw rfl rfl (by first | omega | (simp only [List.length_append, List.length_cons, List.length_nil]; omega)) ?_)) | (refine Qk ?_; (first | refine qj rfl rfl (simple1_c _ g0 g1 _ _ hlist) ?_ | refine Zk 0 1 (hpl _) rfl rfl rfl rfl rfl rfl ?_)) | (refine QJ ?_; (first | refine Ze rfl rfl ?_ | refine WZ rfl rfl ?_)) | (refine Qb ?_; refine Qg rfl rfl ?_) | (refine QW ?_; refine QV rfl rfl ?_) | (refine Wx ?_; refine Ww rfl rfl (fun _ _ => ?_)))) | (refine Qv ?_; (first | refine Qu ?_ | refine QY rfl ?_ | refine WX rfl rfl rfl rfl ?_ | refine Zl rfl rfl rfl rfl ?_)) | (refine Qs ?_; (first | refine Qw ?_ | refine Qc ?_ | refine Qm ?_ | refine QB rfl ?_ | refine QH rfl ?_ | refine QM ?_)))
   exact e_1 Tryz.results91 (QQ rfl) (c_pe (by simp [*]) (by simp [*, Bool.or_assoc]))
  ·have hp : W9 n m ks.length 1 = false := by rw [<- Bool.not_eq_true]; exact hp
   have hpl : ∀ b, PE Tryz.prog G 87 (fun p g => [.ptr p g 0, .agg [.i 20, .i n, .i m, Wi ks], .i 1]) o b (.b false) true := fun b => (qE 20 n m ks 1 hl).conv (by rw [hp]) (by rw [hp]; simp)
   refine Qa Tryz.func91 rfl Tryz.ntmps91 rfl (t := [(0, .ptr 0 g0 0), (1, .agg [.i _, .i n, .i m, Wi ks])]) rfl fun E hE => ?_
   (repeat' first | (refine Qo ?_; (first | (refine Qj ?_; refine QU rfl ?_) | (refine Qd ?_; refine Q5 rfl ?_) | (refine Ql ?_; (first | refine Qi rfl rfl (by first | assumption | exact Enc.len _ | rfl) ?_ | refine Qf rfl rfl rfl ?_)) | (refine Qh ?_; refine Wc rfl rfl ?_) | (refine Qk ?_; (first | refine Zk 0 1 (Zp _) rfl rfl rfl rfl rfl rfl ?_ | refine Zk 0 1 (hpl _) rfl rfl rfl rfl rfl rfl ?_)) | (refine QJ ?_; (first | refine Ze rfl rfl ?_ | refine WZ rfl rfl ?_)) | (refine Qb ?_; refine Qg rfl rfl ?_) | (refine QW ?_; refine QV rfl rfl ?_) | (refine Wx ?_; refine Ww rfl rfl (fun _ _ => ?_)))) | (refine Qv ?_; (first | refine Qu ?_ | refine QY rfl ?_ | refine WX rfl rfl rfl rfl ?_ | refine Zl rfl rfl rfl rfl ?_)) | (refine Qs ?_; (first | refine Qw ?_ | refine Qc ?_ | refine Qm ?_ | refine QR ?_ | refine QH rfl ?_ | refine QM ?_)))
   exact e_1 Tryz.results91 (QQ rfl) (c_pe (by simp [*]) (by simp [*, Bool.or_assoc]))
 by_cases k24 : k = 24
 ·subst k24
  by_cases hp : W9 n m ks.length 1 = true
  ·have hpl : ∀ b, PE Tryz.prog G 87 (fun p g => [.ptr p g 0, .agg [.i 24, .i n, .i m, Wi ks], .i 1]) o b (.b true) b := fun b => (qE 24 n m ks 1 hl).conv (by rw [hp]) (by rw [hp]; simp)
   refine Qa Tryz.func91 rfl Tryz.ntmps91 rfl (t := [(0, .ptr 0 g0 0), (1, .agg [.i _, .i n, .i m, Wi ks])]) rfl fun E hE => ?_
   (repeat' first | (refine Qo ?_; (first | (refine Qj ?_; refine QU rfl ?_) | (refine Qd ?_; refine Q5 rfl ?_) | (refine Ql ?_; (first | refine Qi rfl rfl (by first | assumption | exact Enc.len _ | rfl) ?_ | refine Qf rfl rfl rfl ?_)) | (refine Qh ?_; (first | refine Wc rfl rfl ?_ | refine Zw rfl rfl (by first | omega | (simp only [List.length_append, List.length_cons, List.length_nil]; omega)) ?_)) | (refine Qk ?_; (first | refine qj rfl rfl (simple1_c _ g0 g1 _ _ hlist) ?_ | refine Zk 0 1 (hpl _) rfl rfl rfl rfl rfl rfl ?_)) | (refine QJ ?_; (first | refine Ze rfl rfl ?_ | refine WZ rfl rfl ?_)) | (refine Qb ?_; refine Qg rfl rfl ?_) | (refine QW ?_; refine QV rfl rfl ?_) | (refine Wx ?_; refine Ww rfl rfl (fun _ _ => ?_)))) | (refine Qv ?_; (first | refine Qu ?_ | refine QY rfl ?_ | refine WX rfl rfl rfl rfl ?_ | refine Zl rfl rfl rfl rfl ?_)) | (refine Qs ?_; (first | refine Qw ?_ | refine Qc ?_ | refine Qm ?_ | refine QB rfl ?_ | refine QH rfl ?_ | refine QM ?_)))
   exact e_1 Tryz.results91 (QQ rfl) (c_pe (by simp [*]) (by simp [*, Bool.or_assoc]))
  ·have hp : W9 n m ks.length 1 = false := by rw [<- Bool.not_eq_true]; exact hp
   have hpl : ∀ b, PE Tryz.prog G 87 (fun p g => [.ptr p g 0, .agg [.i 24, .i n, .i m, Wi ks], .i 1]) o b (.b false) true := fun b => (qE 24 n m ks 1 hl).conv (by rw [hp]) (by rw [hp]; simp)
   refine Qa Tryz.func91 rfl Tryz.ntmps91 rfl (t := [(0, .ptr 0 g0 0), (1, .agg [.i _, .i n, .i m, Wi ks])]) rfl fun E hE => ?_
   (repeat' first | (refine Qo ?_; (first | (refine Qj ?_; refine QU rfl ?_) | (refine Qd ?_; refine Q5 rfl ?_) | (refine Ql ?_; (first | refine Qi rfl rfl (by first | assumption | exact Enc.len _ | rfl) ?_ | refine Qf rfl rfl rfl ?_)) | (refine Qh ?_; refine Wc rfl rfl ?_) | (refine Qk ?_; (first | refine Zk 0 1 (Zp _) rfl rfl rfl rfl rfl rfl ?_ | refine Zk 0 1 (hpl _) rfl rfl rfl rfl rfl rfl ?_)) | (refine QJ ?_; (first | refine Ze rfl rfl ?_ | refine WZ rfl rfl ?_)) | (refine Qb ?_; refine Qg rfl rfl ?_) | (refine QW ?_; refine QV rfl rfl ?_) | (refine Wx ?_; refine Ww rfl rfl (fun _ _ => ?_)))) | (refine Qv ?_; (first | refine Qu ?_ | refine QY rfl ?_ | refine WX rfl rfl rfl rfl ?_ | refine Zl rfl rfl rfl rfl ?_)) | (refine Qs ?_; (first | refine Qw ?_ | refine Qc ?_ | refine Qm ?_ | refine QR ?_ | refine QH rfl ?_ | refine QM ?_)))
   exact e_1 Tryz.results91 (QQ rfl) (c_pe (by simp [*]) (by simp [*, Bool.or_assoc]))
 by_cases k25 : k = 25
 ·subst k25
  by_cases hp : W9 n m ks.length 0 = true
  ·have hpl : ∀ b, PE Tryz.prog G 87 (fun p g => [.ptr p g 0, .agg [.i 25, .i n, .i m, Wi ks], .i 0]) o b (.b true) b := fun b => (qE 25 n m ks 0 hl).conv (by rw [hp]) (by rw [hp]; simp)
   refine Qa Tryz.func91 rfl Tryz.ntmps91 rfl (t := [(0, .ptr 0 g0 0), (1, .agg [.i _, .i n, .i m, Wi ks])]) rfl fun E hE => ?_
   (repeat' first | (refine Qo ?_; (first | (refine Qj ?_; refine QU rfl ?_) | (refine Qd ?_; refine Q5 rfl ?_) | (refine Ql ?_; (first | refine Qi rfl rfl (by first | assumption | exact Enc.len _ | rfl) ?_ | refine Qf rfl rfl rfl ?_)) | (refine Qh ?_; refine Wc rfl rfl ?_) | (refine Qk ?_; refine Zk 0 1 (hpl _) rfl rfl rfl rfl rfl rfl ?_) | (refine QJ ?_; (first | refine Ze rfl rfl ?_ | refine WZ rfl rfl ?_)) | (refine Qb ?_; refine Qg rfl rfl ?_) | (refine QW ?_; refine QV rfl rfl ?_) | (refine Wx ?_; refine Ww rfl rfl (fun _ _ => ?_)))) | (refine Qv ?_; (first | refine Qu ?_ | refine QY rfl ?_ | refine WX rfl rfl rfl rfl ?_ | refine Zl rfl rfl rfl rfl ?_)) | (refine Qs ?_; (first | refine Qw ?_ | refine Qc ?_ | refine Qm ?_ | refine QB rfl ?_ | refine QH rfl ?_ | refine QM ?_)))
   exact e_1 Tryz.results91 (QQ rfl) (c_pe (by simp [*]) (by simp [*, Bool.or_assoc]))
  ·have hp : W9 n m ks.length 0 = false := by rw [<- Bool.not_eq_true]; exact hp
   have hpl : ∀ b, PE Tryz.prog G 87 (fun p g => [.ptr p g 0, .agg [.i 25, .i n, .i m, Wi ks], .i 0]) o b (.b false) true := fun b => (qE 25 n m ks 0 hl).conv (by rw [hp]) (by rw [hp]; simp)
   refine Qa Tryz.func91 rfl Tryz.ntmps91 rfl (t := [(0, .ptr 0 g0 0), (1, .agg [.i _, .i n, .i m, Wi ks])]) rfl fun E hE => ?_
   (repeat' first | (refine Qo ?_; (first | (refine Qj ?_; refine QU rfl ?_) | (refine Qd ?_; refine Q5 rfl ?_) | (refine Ql ?_; (first | refine Qi rfl rfl (by first | assumption | exact Enc.len _ | rfl) ?_ | refine Qf rfl rfl rfl ?_)) | (refine Qh ?_; refine Wc rfl rfl ?_) | (refine Qk ?_; (first | refine Zk 0 1 (Zp _) rfl rfl rfl rfl rfl rfl ?_ | refine Zk 0 1 (hpl _) rfl rfl rfl rfl rfl rfl ?_)) | (refine QJ ?_; (first | refine Ze rfl rfl ?_ | refine WZ rfl rfl ?_)) | (refine Qb ?_; refine Qg rfl rfl ?_) | (refine QW ?_; refine QV rfl rfl ?_) | (refine Wx ?_; refine Ww rfl rfl (fun _ _ => ?_)))) | (refine Qv ?_; (first | refine Qu ?_ | refine QY rfl ?_ | refine WX rfl rfl rfl rfl ?_ | refine Zl rfl rfl rfl rfl ?_)) | (refine Qs ?_; (first | refine Qw ?_ | refine Qc ?_ | refine Qm ?_ | refine QR ?_ | refine QH rfl ?_ | refine QM ?_)))
   exact e_1 Tryz.results91 (QQ rfl) (c_pe (by simp [*]) (by simp [*, Bool.or_assoc]))
 by_cases k22 : k = 22
 ·subst k22
  by_cases hp : Q4 m ks.length 1 = true
  ·have hpl : ∀ b, PE Tryz.prog G 42 (fun p g => [.ptr p g 0, .agg [.i 22, .i n, .i m, Wi ks], .i 1]) o b (.b true) b := fun b => (Zt 22 n m ks 1 hl).conv (by rw [hp]) (by rw [hp]; simp)
   refine Qa Tryz.func91 rfl Tryz.ntmps91 rfl (t := [(0, .ptr 0 g0 0), (1, .agg [.i _, .i n, .i m, Wi ks])]) rfl fun E hE => ?_
   (repeat' first | (refine Qo ?_; (first | (refine Qj ?_; refine QU rfl ?_) | (refine Qd ?_; refine Q5 rfl ?_) | (refine Ql ?_; (first | refine Qi rfl rfl (by first | assumption | exact Enc.len _ | rfl) ?_ | refine Qf rfl rfl rfl ?_)) | (refine Qh ?_; (first | refine Wc rfl rfl ?_ | refine Zw rfl rfl (by first | omega | (simp only [List.length_append, List.length_cons, List.length_nil]; omega)) ?_)) | (refine Qk ?_; (first | refine qj rfl rfl (simple1_c _ g0 g1 _ _ hlist) ?_ | refine Zk 0 1 (hpl _) rfl rfl rfl rfl rfl rfl ?_ | refine Zk 0 1 (ZC hG _ (by assumption)) rfl rfl rfl rfl rfl rfl ?_)) | (refine QJ ?_; (first | refine Ze rfl rfl ?_ | refine WZ rfl rfl ?_)) | (refine Qb ?_; refine Qg rfl rfl ?_) | (refine QW ?_; refine QV rfl rfl ?_) | (refine Wx ?_; refine Ww rfl rfl (fun _ _ => ?_)))) | (refine Qv ?_; (first | refine Qu ?_ | refine QY rfl ?_ | refine WX rfl rfl rfl rfl ?_ | refine Zl rfl rfl rfl rfl ?_)) | (refine Qs ?_; (first | refine Qw ?_ | refine Qc ?_ | refine Qm ?_ | refine QB rfl ?_ | refine QH rfl ?_ | refine QM ?_)))
   exact e_1 Tryz.results91 (QQ rfl) (c_pe (by simp [*]) (by simp [*, Bool.or_assoc]))
  ·have hp : Q4 m ks.length 1 = false := by rw [<- Bool.not_eq_true]; exact hp
   have hpl : ∀ b, PE Tryz.prog G 42 (fun p g => [.ptr p g 0, .agg [.i 22, .i n, .i m, Wi ks], .i 1]) o b (.b false) true := fun b => (Zt 22 n m ks 1 hl).conv (by rw [hp]) (by rw [hp]; simp)
   refine Qa Tryz.func91 rfl Tryz.ntmps91 rfl (t := [(0, .ptr 0 g0 0), (1, .agg [.i _, .i n, .i m, Wi ks])]) rfl fun E hE => ?_
   (repeat' first | (refine Qo ?_; (first | (refine Qj ?_; refine QU rfl ?_) | (refine Qd ?_; refine Q5 rfl ?_) | (refine Ql ?_; (first | refine Qi rfl rfl (by first | assumption | exact Enc.len _ | rfl) ?_ | refine Qf rfl rfl rfl ?_)) | (refine Qh ?_; refine Wc rfl rfl ?_) | (refine Qk ?_; (first | refine Zk 0 1 (Zp _) rfl rfl rfl rfl rfl rfl ?_ | refine Zk 0 1 (hpl _) rfl rfl rfl rfl rfl rfl ?_)) | (refine QJ ?_; (first | refine Ze rfl rfl ?_ | refine WZ rfl rfl ?_)) | (refine Qb ?_; refine Qg rfl rfl ?_) | (refine QW ?_; refine QV rfl rfl ?_) | (refine Wx ?_; refine Ww rfl rfl (fun _ _ => ?_)))) | (refine Qv ?_; (first | refine Qu ?_ | refine QY rfl ?_ | refine WX rfl rfl rfl rfl ?_ | refine Zl rfl rfl rfl rfl ?_)) | (refine Qs ?_; (first | refine Qw ?_ | refine Qc ?_ | refine Qm ?_ | refine QR ?_ | refine QH rfl ?_ | refine QM ?_)))
   exact e_1 Tryz.results91 (QQ rfl) (c_pe (by simp [*]) (by simp [*, Bool.or_assoc]))
 by_cases k23 : k = 23
 ·subst k23
  by_cases hp : Q4 m ks.length (-1) = true
  ·have hpl : ∀ b, PE Tryz.prog G 42 (fun p g => [.ptr p g 0, .agg [.i 23, .i n, .i m, Wi ks], .i (-1)]) o b (.b true) b := fun b => (Zt 23 n m ks (-1) hl).conv (by rw [hp]) (by rw [hp]; simp)
   refine Qa Tryz.func91 rfl Tryz.ntmps91 rfl (t := [(0, .ptr 0 g0 0), (1, .agg [.i _, .i n, .i m, Wi ks])]) rfl fun E hE => ?_
   (repeat' first | (refine Qo ?_; (first | (refine Qj ?_; refine QU rfl ?_) | (refine Qd ?_; refine Q5 rfl ?_) | (refine Ql ?_; (first | refine Qi rfl rfl (by first | assumption | exact Enc.len _ | rfl) ?_ | refine Qf rfl rfl rfl ?_)) | (refine Qh ?_; (first | refine Wc rfl rfl ?_ | refine Zw rfl rfl (by first | omega | (simp only [List.length_append, List.length_cons, List.length_nil]; omega)) ?_)) | (refine Qk ?_; (first | refine qj rfl rfl (simple1_c _ g0 g1 _ _ hlist) ?_ | refine Zk 0 1 (hpl _) rfl rfl rfl rfl rfl rfl ?_ | refine Zk 0 1 (ZC hG _ (by assumption)) rfl rfl rfl rfl rfl rfl ?_)) | (refine QJ ?_; (first | refine Ze rfl rfl ?_ | refine WZ rfl rfl ?_)) | (refine Qb ?_; refine Qg rfl rfl ?_) | (refine QW ?_; refine QV rfl rfl ?_) | (refine Wx ?_; refine Ww rfl rfl (fun _ _ => ?_)))) | (refine Qv ?_; (first | refine Qu ?_ | refine QY rfl ?_ | refine WX rfl rfl rfl rfl ?_ | refine Zl rfl rfl rfl rfl ?_)) | (refine Qs ?_; (first | refine Qw ?_ | refine Qc ?_ | refine Qm ?_ | refine QB rfl ?_ | refine QH rfl ?_ | refine QM ?_)))
   exact e_1 Tryz.results91 (QQ rfl) (c_pe (by simp [*]) (by simp [*, Bool.or_assoc]))
  ·have hp : Q4 m ks.length (-1) = false := by rw [<- Bool.not_eq_true]; exact hp
   have hpl : ∀ b, PE Tryz.prog G 42 (fun p g => [.ptr p g 0, .agg [.i 23, .i n, .i m, Wi ks], .i (-1)]) o b (.b false) true := fun b => (Zt 23 n m ks (-1) hl).conv (by rw [hp]) (by rw [hp]; simp)
   refine Qa Tryz.func91 rfl Tryz.ntmps91 rfl (t := [(0, .ptr 0 g0 0), (1, .agg [.i _, .i n, .i m, Wi ks])]) rfl fun E hE => ?_
   (repeat' first | (refine Qo ?_; (first | (refine Qj ?_; refine QU rfl ?_) | (refine Qd ?_; refine Q5 rfl ?_) | (refine Ql ?_; (first | refine Qi rfl rfl (by first | assumption | exact Enc.len _ | rfl) ?_ | refine Qf rfl rfl rfl ?_)) | (refine Qh ?_; refine Wc rfl rfl ?_) | (refine Qk ?_; (first | refine Zk 0 1 (Zp _) rfl rfl rfl rfl rfl rfl ?_ | refine Zk 0 1 (hpl _) rfl rfl rfl rfl rfl rfl ?_)) | (refine QJ ?_; (first | refine Ze rfl rfl ?_ | refine WZ rfl rfl ?_)) | (refine Qb ?_; refine Qg rfl rfl ?_) | (refine QW ?_; refine QV rfl rfl ?_) | (refine Wx ?_; refine Ww rfl rfl (fun _ _ => ?_)))) | (refine Qv ?_; (first | refine Qu ?_ | refine QY rfl ?_ | refine WX rfl rfl rfl rfl ?_ | refine Zl rfl rfl rfl rfl ?_)) | (refine Qs ?_; (first | refine Qw ?_ | refine Qc ?_ | refine Qm ?_ | refine QR ?_ | refine QH rfl ?_ | refine QM ?_)))
   exact e_1 Tryz.results91 (QQ rfl) (c_pe (by simp [*]) (by simp [*, Bool.or_assoc]))
 by_cases k16 : k = 16
 ·subst k16
  by_cases hp : ks.length = 1
  ·refine Qa Tryz.func91 rfl Tryz.ntmps91 rfl (t := [(0, .ptr 0 g0 0), (1, .agg [.i _, .i n, .i m, Wi ks])]) rfl fun E hE => ?_
   (repeat' first | (refine Qo ?_; (first | (refine Qj ?_; refine QU rfl ?_) | (refine Qd ?_; refine Q5 rfl ?_) | (refine Ql ?_; refine Qf rfl rfl rfl ?_) | (refine Qh ?_; refine Wc rfl rfl ?_) | (refine Qk ?_; (first | refine qj rfl rfl (simple1_c _ g0 g1 _ _ hlist) ?_ | refine Zk 0 1 (Zp _) rfl rfl rfl rfl rfl rfl ?_ | refine Zk 0 1 (ZC hG _ (by assumption)) rfl rfl rfl rfl rfl rfl ?_ | refine Q6 rfl ?_)) | (refine QJ ?_; (first | refine Ze rfl rfl ?_ | refine WZ rfl rfl ?_)) | (refine Qb ?_; refine Qg rfl rfl ?_) | (refine QW ?_; refine QV rfl rfl ?_) | (refine Wx ?_; refine Ww rfl rfl (fun _ _ => ?_)))) | (refine Qv ?_; (first | refine Qu ?_ | refine QY rfl ?_ | refine WX rfl rfl rfl rfl ?_ | refine Zl rfl rfl rfl rfl ?_)) | (refine Qs ?_; (first | refine Qw ?_ | refine Qc ?_ | refine Qm ?_ | (refine WJ ?_; first | (refine Qq (pfx3 _ _) 100 [(0, true), (1, true), (2, true), (6, true), (7, true), (8, true), (12, true), (3, false), (4, true), (5, true), (9, false), (10, true), (11, true), (13, false), (14, true), (15, true)] (by rfl) (by rfl) (by kernel_rfl) (by decide +kernel) (by decide +kernel) ⟨(_, _, _, _), rfl⟩ ?_) | (refine Qq (pfx3 _ _) 100 [(0, true), (1, true), (2, true), (6, true), (7, true), (8, true), (9, true), (10, true), (14, true), (15, true), (16, true), (17, true), (18, true), (3, false), (4, true), (5, true), (11, false), (12, true), (13, true), (19, false), (20, true), (21, true)] (by rfl) (by rfl) (by kernel_rfl) (by decide +kernel) (by decide +kernel) ⟨(_, _, _, _), rfl⟩ ?_) | refine Ws (by rfl) (by kernel_rfl) (by kernel_rfl) ?_ | refine Wr (by kernel_rfl) (by kernel_rfl) ?_) | refine QH rfl ?_ | refine Qr rfl (by omega) ?_ | refine QM ?_)) | (refine W8 ?_; (first | refine ZH ?_ | refine i_st rfl rfl (fun _ => (by (repeat' first | (refine Qo ?_; (first | (refine Qj ?_; refine QU rfl ?_) | (refine Qd ?_; refine Q5 rfl ?_) | (refine Ql ?_; refine Qf rfl rfl rfl ?_) | (refine Qh ?_; refine Zw rfl rfl (by first | omega | (simp only [List.length_append, List.length_cons, List.length_nil]; omega)) ?_) | (refine Qb ?_; refine Qg rfl rfl ?_))) | exact ⟨rfl, rfl⟩))) ?_ | refine i_ef rfl ?_)) | refine And.intro (Exists.intro ((_, _, _, _)) rfl) ?_)
   exact e_1 Tryz.results91 (QQ rfl) (c_pe (by simp [*]) (by simp [*, Bool.or_assoc]))
  ·refine Qa Tryz.func91 rfl Tryz.ntmps91 rfl (t := [(0, .ptr 0 g0 0), (1, .agg [.i _, .i n, .i m, Wi ks])]) rfl fun E hE => ?_
   (repeat' first | (refine Qo ?_; (first | (refine Qj ?_; refine QU rfl ?_) | (refine Qd ?_; refine Q5 rfl ?_) | (refine Ql ?_; refine Qf rfl rfl rfl ?_) | (refine Qh ?_; refine Wc rfl rfl ?_) | (refine Qk ?_; (first | refine Zk 0 1 (Zp _) rfl rfl rfl rfl rfl rfl ?_ | refine Q6 rfl ?_)) | (refine QJ ?_; (first | refine Ze rfl rfl ?_ | refine WZ rfl rfl ?_)) | (refine Qb ?_; refine Qg rfl rfl ?_) | (refine QW ?_; refine QV rfl rfl ?_) | (refine Wx ?_; refine Ww rfl rfl (fun _ _ => ?_)))) | (refine Qv ?_; (first | refine Qu ?_ | refine QY rfl ?_ | refine WX rfl rfl rfl rfl ?_ | refine Zl rfl rfl rfl rfl ?_)) | (refine Qs ?_; (first | refine Qw ?_ | refine Qc ?_ | refine Qm ?_ | refine QR ?_ | refine QH rfl ?_ | refine Qn rfl (by omega) ?_ | refine QM ?_)))
   exact e_1 Tryz.results91 (QQ rfl) (c_pe (by simp [*]) (by simp [*, Bool.or_assoc]))
 ·refine Qa Tryz.func91 rfl Tryz.ntmps91 rfl (t := [(0, .ptr 0 g0 0), (1, .agg [.i k, .i n, .i m, Wi ks])]) rfl fun E hE => ?_
  (repeat' first | (refine Qo ?_; (first | (refine Qj ?_; refine QU rfl ?_) | (refine Qd ?_; refine Q5 rfl ?_) | (refine Ql ?_; refine Qf rfl rfl rfl ?_) | (refine Qh ?_; refine Wc rfl rfl ?_) | (refine Qk ?_; refine Zk 0 1 (Zp _) rfl rfl rfl rfl rfl rfl ?_) | (refine QJ ?_; refine WZ rfl rfl ?_) | (refine Qb ?_; refine Qg rfl rfl ?_) | (refine QW ?_; refine QV rfl rfl ?_) | (refine Wx ?_; refine Ww rfl rfl (fun _ _ => ?_)))) | (refine Qv ?_; (first | refine Qu ?_ | refine QY rfl ?_ | refine Zl rfl rfl rfl rfl ?_ | refine We rfl rfl (by omega) ?_)) | (refine Qs ?_; (first | refine Qw ?_ | refine Qc ?_ | refine Qm ?_ | refine QR ?_ | refine QH rfl ?_ | refine QM ?_)))
  exact e_1 Tryz.results91 (QQ rfl) (c_pe (by simp [*]) (by simp [*, Bool.or_assoc]))
end Go.Proofs
end
section
namespace Go.Proofs
open Go.Av
variable {G : Nat -> DV}
attribute [local irreducible] OpSem ZA ZV Z8 ACalls AEnd AClose RV
open Go.Bl
variable {o : List UInt8} {bad : Bool}
theorem line_c (i : Nat) (s : List UInt8) (hi : i <= 1000000) (hlen : o.length + s.length <= 140737480000000) : PM Tryz.prog G 43 (fun p g => [.ptr p g 0, .i i, W6 s]) o bad (.tup []) (o ++ Z6 i s) bad := fun g0 g1 B h0 h1 => by
 have hrl : (Lib.repeatL [32, 32] i).length = 2 * i := by rw [Lib.repeatL_length]; show i * 2 = _; omega
 have hwr : PM Tryz.prog G 46 (fun k g => [.ptr k g 0, W6 (Lib.repeatL [32, 32] i ++ s ++ [10])]) o bad (.tup [.i (Lib.repeatL [32, 32] i ++ s ++ [10]).length, .sc .nilIface]) (o ++ Z6 i s) bad := write_c _ (by simp only [List.length_append, List.length_cons, List.length_nil]; omega)
 refine Qa Tryz.func43 rfl Tryz.ntmps43 rfl (t := [(0, .ptr 0 g0 0), (1, .i i), (2, W6 s)]) rfl fun E hE => ?_
 (repeat' first | (refine Qo ?_; (refine Qk ?_; refine s_pm 0 1 (hwr) rfl rfl rfl rfl rfl rfl (fun _ => rfl) (fun _ _ => ?_))) | (refine Qs ?_; (refine WJ ?_; first | (refine Qq (pfx3 _ _) 100 [(0, true), (1, true), (2, true), (3, true), (4, true), (5, true), (6, true), (7, true), (8, true), (9, false), (10, true), (11, true), (12, false)] (by rfl) (by rfl) (by kernel_rfl) (by decide +kernel) (by decide +kernel) ⟨(_, _, _, _), rfl⟩ ?_) | (refine Qq (pfx3 _ _) 100 [(0, true), (1, true), (2, true), (3, true), (4, true), (5, true), (6, false)] (by rfl) (by rfl) (by kernel_rfl) (by decide +kernel) (by decide +kernel) ⟨(_, _, _, _), rfl⟩ ?_) | (refine Qq (pfx3 _ _) 100 [(0, true), (1, true), (2, true), (3, true), (4, true), (5, true), (6, false), (7, true), (8, true), (9, false)] (by rfl) (by rfl) (by kernel_rfl) (by decide +kernel) (by decide +kernel) ⟨(_, _, _, _), rfl⟩ ?_) | (refine Qq (pfx3 _ _) 100 [(0, true), (1, true), (2, true), (3, true), (4, true), (5, true), (6, true), (7, true), (8, false)] (by rfl) (by rfl) (by kernel_rfl) (by decide +kernel) (by decide +kernel) ⟨(_, _, _, _), rfl⟩ ?_) | refine Ws (by rfl) (by kernel_rfl) (by kernel_rfl) ?_ | refine Wr (by kernel_rfl) (by kernel_rfl) ?_)) | (refine W8 ?_; (first | refine ZH ?_ | refine i_st rfl rfl (fun _ => (by (repeat' first | (refine Qo ?_; (first | (refine Qj ?_; refine QU rfl ?_) | (refine Qh ?_; refine Zw rfl rfl (by first | omega | (simp only [List.length_append, List.length_cons, List.length_nil]; omega)) ?_) | (refine Qk ?_; refine W5 rfl rfl (repeat_c _ _ (by omega) (by simp only [List.length_cons, List.length_nil]; omega)) ?_) | (refine Qb ?_; refine Qg rfl rfl ?_) | (refine Qy ?_; refine Qt rfl rfl ?_))) | exact ⟨rfl, rfl⟩))) ?_ | refine i_ef rfl ?_)) | refine And.intro (Exists.intro ((_, _, _, _)) rfl) ?_)
 exact e_0 (Tryz.results43) (c_pm rfl rfl rfl (by omega))
theorem stmt1_c (i : Nat) (s : List UInt8) (hi : i <= 1000000) (hlen : o.length + s.length <= 140737480000000) (g0 g1 gp gi : Nat) {B : Nat} {bl : ABlk} (h1 : g1 <= B) : 
  ACalls Tryz.prog G B 90 [W6 s, .ptr 2 gp 0, .ptr 3 gi 0] [pRow 0 1 g0 g1 o.length bad, .row g1 (WH o), .row gp [.ptr 0 g0 0], .row gi [.i i], bl]
   (fun d τ => d = .tup [] /\ ∃ g', (g' = g1 \/ B < g') /\ τ = [pRow 0 1 g0 g' (o ++ Z6 i s).length bad, .row g' (WH (o ++ Z6 i s)), .row gp [.ptr 0 g0 0], .row gi [.i i], bl]) := by
 refine Qa Tryz.func90 rfl Tryz.ntmps90 rfl (t := [(0, W6 s), (1, .ptr 2 gp 0), (2, .ptr 3 gi 0)]) rfl fun E hE => ?_
 (repeat' first | (refine Qo ?_; (first | (refine Qj ?_; refine QU rfl ?_) | (refine Ql ?_; refine Qf rfl rfl rfl ?_) | (refine Qk ?_; refine s_pm 0 1 (line_c _ _ (by first | assumption | omega) (by first | assumption | (simp only [List.length_append, Wq, List.length_cons, List.length_nil]; omega))) rfl rfl rfl rfl rfl rfl (fun _ => rfl) (fun _ _ => ?_)))) | (refine Qv ?_; (first | refine Qu ?_ | refine QY rfl ?_)) | (refine Qs ?_; refine Qc ?_))
 rename_i g' hg'
 exact e_0 (Tryz.results90) (c_same ⟨rfl, g', by omega, rfl⟩)
theorem st_lenX {t : Nd} (hok : okN t) {i : Nat} (hi : i + QI t <= 1000000) : (stT t i).length <= 7000000 * QI t /\ (inT t i).length <= 7000000 * (QI t - 1) := by
 obtain ⟨h1, h2⟩ := st_len t hok i
 exact ⟨Nat.le_trans h1 (Nat.mul_le_mul (by omega) (Nat.le_refl _)), Nat.le_trans h2 (Nat.mul_le_mul (by omega) (Nat.le_refl _))⟩
def StC (G : Nat -> DV) (t : Nd) : Prop := ∀ (i : Nat) (o : List UInt8) (bad : Bool), i + QI t <= 1000000 -> o.length + 7000000 * QI t <= 140737470000000 -> PM Tryz.prog G 49 (fun p g => [.ptr p g 0, .i i, .agg (Enc.enc t)]) o bad (.tup []) (o ++ stT t i) (bad || !stOk t)
def BlC (G : Nat -> DV) (t : Nd) : Prop := ∀ (i : Nat) (e : List UInt8) (o : List UInt8) (bad : Bool), e.length <= 100 -> i + QI t <= 1000000 -> o.length + 7000000 * QI t <= 140737475000000 -> PM Tryz.prog G 85 (fun p g => [.ptr p g 0, .i i, .agg (Enc.enc t), W6 e]) o bad (.tup []) (o ++ (inT t i ++ Z6 i e)) (bad || !inOk t)
theorem block_c (k n m : Int) (ks : List Nd) (hok : okN (.mk k n m ks)) (hst : ∀ x ∈ ks, StC G x) : BlC G (.mk k n m ks) := fun i e o bad hel hi hlen g0 g1 B h0 h1 => by
 rw [okN] at hok
 rw [QI] at hi hlen
 have hl1 := Zq ks
 have hl : ks.length <= 1048576 := by omega
 rw [Q3, inT, inOk]
 by_cases hk : k = 13
 ·subst hk
  by_cases hp : W9 n m ks.length (-1) = true
  ·have hpl : ∀ b, PE Tryz.prog G 87 (fun p g => [.ptr p g 0, .agg [.i 13, .i n, .i m, Wi ks], .i (-1)]) o b (.b true) b := fun b => (qE 13 n m ks (-1) hl).conv (by rw [hp]) (by rw [hp]; simp)
   refine Qa Tryz.func85 rfl Tryz.ntmps85 rfl (t := [(0, .ptr 0 g0 0), (1, .i i), (2, .agg [.i _, .i n, .i m, Wi ks]), (3, W6 e)]) rfl fun E hE => ?_
   (repeat' first | (refine Qo ?_; (first | (refine Qj ?_; refine QU rfl ?_) | (refine Ql ?_; (first | refine Qi rfl rfl (by first | assumption | exact Enc.len _ | rfl) ?_ | refine Qf rfl rfl rfl ?_)) | (refine Qh ?_; refine Wc rfl rfl ?_) | (refine Qk ?_; (first | refine Zk 0 1 (Zp _) rfl rfl rfl rfl rfl rfl ?_ | refine Zk 0 1 (hpl _) rfl rfl rfl rfl rfl rfl ?_ | refine Q6 rfl ?_)) | (refine QJ ?_; refine Ze rfl rfl ?_) | (refine Qb ?_; refine Qg rfl rfl ?_) | (refine Wx ?_; refine Ww rfl rfl (fun _ _ => ?_)))) | (refine Qv ?_; (first | refine Qu ?_ | refine QY rfl ?_ | refine WX rfl rfl rfl rfl ?_)) | (refine Qs ?_; (first | refine Qw ?_ | refine Qc ?_ | refine Qm ?_ | refine QB rfl ?_)))
   rename_i gn hgn
   have hpos := hst
   rw [show (bad || !decide ((13 : Int) = 13)) = bad by simp]
   refine r_loop2 (fun (j : Nat) (g : Nat) => ⟨[(0, .ptr 0 g0 0), (1, .i i), (3, W6 e), (21, Wi ks), (22, .i ks.length), (23, .i j)], [pRow 0 1 g0 g (o ++ stTs (ks.take j) (i + 1)).length (bad || !qO (ks.take j)), .row g (WH (o ++ stTs (ks.take j) (i + 1))), .row gn [.i 13, .i n, .i m, Wi ks]]⟩) (fun j g => j <= ks.length /\ (g = g1 \/ E.N < g)) (fun j _ => ks.length - j) 0 g1 ?_ (by omega) ?_
   ·rw [show (bad || !qO (ks.take 0)) = bad by simp [qO], show o ++ stTs (ks.take 0) (i + 1) = o by simp [stTs]]
    exact zal rfl
   intro j g hj
   have hpre := stTs_len (C := 7000000) (ks.take j) (i + 1) fun x hx => (st_lenX (Za hok.2 (List.mem_of_mem_take hx)) (by have := WK (List.mem_of_mem_take hx); omega)).1
   have hsl := WY ks j
   by_cases hjl : j < ks.length
   ·have hsm := WK (List.getElem_mem hjl)
    have hst1 := qG ks j hjl
    have hst2 := WY ks (j + 1)
    have hsx := hst _ (List.getElem_mem hjl) (i + 1) (o ++ stTs (ks.take j) (i + 1)) (bad || !qO (ks.take j)) (by omega) (by rw [List.length_append]; omega)
    have e1 : o ++ stTs (ks.take (j + 1)) (i + 1) = (o ++ stTs (ks.take j) (i + 1)) ++ stT ks[j] (i + 1) := by rw [stTs_take hjl, List.append_assoc]
    have e2 : (bad || !qO (ks.take (j + 1))) = ((bad || !qO (ks.take j)) || !stOk ks[j]) := by rw [stOks_take hjl]; cases bad <;> simp
    clear hpos hst
    (repeat' first | (refine Qo ?_; (first | (refine Qj ?_; refine QU rfl ?_) | (refine Ql ?_; (first | refine Qi rfl rfl (by first | assumption | exact Enc.len _ | rfl) ?_ | refine Wj rfl ?_)) | (refine QN ?_; refine Q9 rfl rfl (by first | assumption | omega | (simp; done) | (simp; omega)) ?_) | (refine Qh ?_; (first | refine Wh rfl rfl ?_ | refine Zr rfl rfl (by omega) ?_)) | (refine Qk ?_; refine s_pm 0 1 (hsx) rfl rfl rfl rfl rfl rfl (fun _ => rfl) (fun _ _ => ?_)) | (refine Qx ?_; refine Qe rfl rfl rfl (by first | assumption | exact Enc.len _ | rfl) (by first | assumption | exact Enc.len _ | rfl) rfl ?_) | (refine QG ?_; refine QD (fun _ _ => ?_)))) | (refine Qv ?_; (first | refine Qu ?_ | refine QY rfl ?_ | refine Q1 ?_)) | (refine Qs ?_; (first | refine Qw ?_ | refine Qc ?_ | refine Qm ?_ | refine QR ?_ | refine Qr rfl (by omega) ?_)))
    rename_i g' hg'
    refine ⟨j + 1, g', ⟨by omega, by omega⟩, by omega, ?_⟩
    rw [e1, e2]
    exact zal rfl
   ·have hje : j = ks.length := by omega
    subst hje
    rw [List.take_length] at *
    have hll : (o ++ stTs ks (i + 1)).length + e.length <= 140737480000000 := by rw [List.length_append]; omega
    have hi1 : i <= 1000000 := by omega
    (repeat' first | (refine Qo ?_; (first | (refine Qj ?_; refine QU rfl ?_) | (refine Qh ?_; refine Wh rfl rfl ?_) | (refine Qk ?_; refine s_pm 0 1 (line_c _ _ (by first | assumption | omega) (by first | assumption | (simp only [List.length_append, Wq, List.length_cons, List.length_nil]; omega))) rfl rfl rfl rfl rfl rfl (fun _ => rfl) (fun _ _ => ?_)))) | (refine Qv ?_; (first | refine Qu ?_ | refine QY rfl ?_)) | (refine Qs ?_; (first | refine Qw ?_ | refine Qc ?_ | refine Qn rfl (by omega) ?_ | refine WI rfl ?_)))
    exact e_0 (Tryz.results85) (c_pm rfl (by simp [hp]) (by simp [hp]) (by omega))
  ·have hp : W9 n m ks.length (-1) = false := by rw [<- Bool.not_eq_true]; exact hp
   have hpl : ∀ b, PE Tryz.prog G 87 (fun p g => [.ptr p g 0, .agg [.i 13, .i n, .i m, Wi ks], .i (-1)]) o b (.b false) true := fun b => (qE 13 n m ks (-1) hl).conv (by rw [hp]) (by rw [hp]; simp)
   have hll : o.length + e.length <= 140737480000000 := by omega
   have hi1 : i <= 1000000 := by omega
   refine Qa Tryz.func85 rfl Tryz.ntmps85 rfl (t := [(0, .ptr 0 g0 0), (1, .i i), (2, .agg [.i _, .i n, .i m, Wi ks]), (3, W6 e)]) rfl fun E hE => ?_
   (repeat' first | (refine Qo ?_; (first | (refine Qj ?_; refine QU rfl ?_) | (refine Ql ?_; (first | refine Qi rfl rfl (by first | assumption | exact Enc.len _ | rfl) ?_ | refine Qf rfl rfl rfl ?_)) | (refine Qh ?_; refine Wc rfl rfl ?_) | (refine Qk ?_; (first | refine Zk 0 1 (Zp _) rfl rfl rfl rfl rfl rfl ?_ | refine Zk 0 1 (hpl _) rfl rfl rfl rfl rfl rfl ?_ | refine s_pm 0 1 (line_c _ _ (by first | assumption | omega) (by first | assumption | (simp only [List.length_append, Wq, List.length_cons, List.length_nil]; omega))) rfl rfl rfl rfl rfl rfl (fun _ => rfl) (fun _ _ => ?_))) | (refine QJ ?_; refine Ze rfl rfl ?_) | (refine Qb ?_; refine Qg rfl rfl ?_) | (refine Wx ?_; refine Ww rfl rfl (fun _ _ => ?_)))) | (refine Qv ?_; (first | refine Qu ?_ | refine QY rfl ?_ | refine WX rfl rfl rfl rfl ?_)) | (refine Qs ?_; (first | refine Qw ?_ | refine Qc ?_ | refine QR ?_ | refine QH rfl ?_)))
   exact e_0 (Tryz.results85) (c_pm rfl (by simp [hp]) (by simp [hp]) (by omega))
 ·have hll : o.length + e.length <= 140737480000000 := by omega
  have hi1 : i <= 1000000 := by omega
  refine Qa Tryz.func85 rfl Tryz.ntmps85 rfl (t := [(0, .ptr 0 g0 0), (1, .i i), (2, .agg [.i k, .i n, .i m, Wi ks]), (3, W6 e)]) rfl fun E hE => ?_
  (repeat' first | (refine Qo ?_; (first | (refine Qj ?_; refine QU rfl ?_) | (refine Ql ?_; refine Qf rfl rfl rfl ?_) | (refine Qh ?_; refine Wc rfl rfl ?_) | (refine Qk ?_; (first | refine Zk 0 1 (Zp _) rfl rfl rfl rfl rfl rfl ?_ | refine s_pm 0 1 (line_c _ _ (by first | assumption | omega) (by first | assumption | (simp only [List.length_append, Wq, List.length_cons, List.length_nil]; omega))) rfl rfl rfl rfl rfl rfl (fun _ => rfl) (fun _ _ => ?_))) | (refine QJ ?_; refine WZ rfl rfl ?_) | (refine Qb ?_; refine Qg rfl rfl ?_) | (refine Wx ?_; refine Ww rfl rfl (fun _ _ => ?_)))) | (refine Qv ?_; (first | refine Qu ?_ | refine QY rfl ?_ | refine Zl rfl rfl rfl rfl ?_ | refine We rfl rfl (by omega) ?_)) | (refine Qs ?_; (first | refine Qw ?_ | refine Qc ?_ | refine QR ?_ | refine QH rfl ?_)))
  exact e_0 (Tryz.results85) (c_pm rfl (by simp [hk]) (by simp [hk]) (by omega))
theorem stmt_c (hG : G 6 = pow10T) (hG1 : G 1 = spaceT) (k n m : Int) (ks : List Nd) (hok0 : okN (.mk k n m ks)) (hbl : BlC G (.mk k n m ks)) (hkb : ∀ x ∈ ks, BlC G x) : StC G (.mk k n m ks) := fun i o bad hi hlen g0 g1 B h0 h1 => by
 have hok := hok0
 rw [okN] at hok
 have hse : QI (.mk k n m ks) = 1 + QT ks := by rw [QI]
 have hl1 := Zq ks
 have hsim := simT_len _ hok0
 have hsimc := fun (o : List UInt8) (b : Bool) => simple_c (G := G) (o := o) hG hG1 _ hok0 (by omega) b
 rw [hse] at hi hlen hsim
 have hl : ks.length <= 1048576 := by omega
 have hi1 : i <= 1000000 := by omega
 have hn : -9223372036854775808 <= n /\ n <= 9223372036854775807 := hok.1.2.1
 have hnl := ZE hok.1.2.1
 have hx : ∀ x ∈ ks, ∀ (o : List UInt8) b, PE Tryz.prog G 48 (fun p g => [.ptr p g 0, .agg (Enc.enc x)]) o b (W6 (exT x)) (b || !qn x) := fun x hx o b => expr_c hG hG1 x (Za hok.2 hx) (by have := WK hx; omega) b
 have hxl := exs_len hok.2
 have hil : ∀ x ∈ ks, (inT x i).length <= 7000000 * (QI x - 1) := fun x hx => (st_lenX (Za hok.2 hx) (by have := WK hx; omega)).2
 rw [stT, stOk, inTs_eq, inOks_eq]
 rw [Q3] at hsimc ⊢
 by_cases k13 : k = 13
 ·subst k13
  have hb1 := hbl i sClose (o ++ Z6 i sOpen) bad (by decide) (by rw [hse]; omega) (by rw [hse, List.length_append, Wq]; simp only [List.length_cons, List.length_nil]; omega)
  rw [Q3, inT, inOk] at hb1
  clear hkb hbl hx hxl hil hsimc
  refine Qa Tryz.func49 rfl Tryz.ntmps49 rfl (t := [(0, .ptr 0 g0 0), (1, .i i), (2, .agg [.i _, .i n, .i m, Wi ks])]) rfl fun E hE => ?_
  (repeat' first | (refine Qo ?_; (first | (refine Qj ?_; refine QU rfl ?_) | (refine Qd ?_; refine Q5 rfl ?_) | (refine Ql ?_; (first | refine Qi rfl rfl (by first | assumption | exact Enc.len _ | rfl) ?_ | refine Qf rfl rfl rfl ?_)) | (refine Qh ?_; refine Wc rfl rfl ?_) | (refine Qk ?_; (first | refine qi rfl rfl rfl (fun B' hB' => stmt1_c i _ hi1 (by first | omega | (simp only [List.length_append, Wq, List.length_cons, List.length_nil]; omega)) g0 _ _ _ hB') (fun _ _ => ?_) | refine s_pm 0 1 (hb1) rfl rfl rfl rfl rfl rfl (fun _ => rfl) (fun _ _ => ?_))) | (refine Qb ?_; refine Qg rfl rfl ?_) | (refine QW ?_; refine QV rfl rfl ?_) | (refine Wx ?_; refine Ww rfl rfl (fun _ _ => ?_)))) | (refine Qv ?_; (first | refine Qu ?_ | refine QY rfl ?_)) | (refine Qs ?_; (first | refine Qw ?_ | refine Qc ?_ | refine Qm ?_ | refine QB rfl ?_)))
  exact e_0 (Tryz.results49) (c_pm rfl (by simp) (by simp [Bool.or_assoc]) (by omega))
 by_cases k17 : k = 17
 ·subst k17
  by_cases hp : W9 n m ks.length 3 = true
  ·have hpl : ∀ (o : List UInt8) b, PE Tryz.prog G 87 (fun p g => [.ptr p g 0, .agg [.i 17, .i n, .i m, Wi ks], .i 3]) o b (.b true) b := fun o b => (qE 17 n m ks 3 hl).conv (by rw [hp]) (by rw [hp]; simp)
   have h2 : ks.length = 3 := by simp [W9, Q4] at hp; omega
   match ks, h2 with
   | [a, b, c], _ =>
    have hxa := hx a (by simp)
    have hba := hkb a (by simp)
    have hxal := hxl a (by simp)
    have hial := hil a (by simp)
    have hsa := QZ a
    have hxb := hx b (by simp)
    have hbb := hkb b (by simp)
    have hxbl := hxl b (by simp)
    have hibl := hil b (by simp)
    have hsb := QZ b
    have hxc := hx c (by simp)
    have hbc := hkb c (by simp)
    have hxcl := hxl c (by simp)
    have hicl := hil c (by simp)
    have hsc := QZ c
    have hp2 : W9 n m 3 3 = true := hp
    simp only [QT] at hi hlen
    clear hx hkb hxl hil hbl hsimc
    refine Qa Tryz.func49 rfl Tryz.ntmps49 rfl (t := [(0, .ptr 0 g0 0), (1, .i i), (2, .agg [.i _, .i n, .i m, Wi [a, b, c]])]) rfl fun E hE => ?_
    (repeat' first | (refine Qo ?_; (first | (refine Qj ?_; refine QU rfl ?_) | (refine Qd ?_; refine Q5 rfl ?_) | (refine Ql ?_; (first | refine Qi rfl rfl (by first | assumption | exact Enc.len _ | rfl) ?_ | refine Qf rfl rfl rfl ?_)) | (refine Qh ?_; refine Wc rfl rfl ?_) | (refine Qk ?_; (first | refine qi rfl rfl rfl (fun B' hB' => stmt1_c i _ hi1 (by first | omega | (simp only [List.length_append, Wq, List.length_cons, List.length_nil]; omega)) g0 _ _ _ hB') (fun _ _ => ?_) | refine Zk 0 1 (hpl _ _) rfl rfl rfl rfl rfl rfl ?_ | refine Zk 0 1 (hxa _ _) rfl rfl rfl rfl rfl rfl ?_ | refine s_pm 0 1 (hbb i _ _ _ (by first | decide | (simp only [List.length_append, List.length_cons, List.length_nil]; omega)) (by omega) (by first | omega | (simp only [List.length_append, Wq, List.length_cons, List.length_nil]; omega))) rfl rfl rfl rfl rfl rfl (fun _ => rfl) (fun _ _ => ?_) | refine s_pm 0 1 (hbc i _ _ _ (by first | decide | (simp only [List.length_append, List.length_cons, List.length_nil]; omega)) (by omega) (by first | omega | (simp only [List.length_append, Wq, List.length_cons, List.length_nil]; omega))) rfl rfl rfl rfl rfl rfl (fun _ => rfl) (fun _ _ => ?_))) | (refine QJ ?_; refine Ze rfl rfl ?_) | (refine Qb ?_; refine Qg rfl rfl ?_) | (refine QW ?_; refine QV rfl rfl ?_) | (refine Wx ?_; refine Ww rfl rfl (fun _ _ => ?_)))) | (refine Qv ?_; (first | refine Qu ?_ | refine QY rfl ?_ | refine WX rfl rfl rfl rfl ?_)) | (refine Qs ?_; (first | refine Qw ?_ | refine Qc ?_ | refine Qm ?_ | (refine WJ ?_; first | (refine Qq (pfx3 _ _) 100 [(0, true), (1, true), (2, true), (3, true), (4, true), (5, true), (6, true), (7, true), (8, true), (9, false), (10, true), (11, true), (12, false)] (by rfl) (by rfl) (by kernel_rfl) (by decide +kernel) (by decide +kernel) ⟨(_, _, _, _), rfl⟩ ?_) | (refine Qq (pfx3 _ _) 100 [(0, true), (1, true), (2, true), (3, true), (4, true), (5, true), (6, false)] (by rfl) (by rfl) (by kernel_rfl) (by decide +kernel) (by decide +kernel) ⟨(_, _, _, _), rfl⟩ ?_) | (refine Qq (pfx3 _ _) 100 [(0, true), (1, true), (2, true), (3, true), (4, true), (5, true), (6, false), (7, true), (8, true), (9, false)] (by rfl) (by rfl) (by kernel_rfl) (by decide +kernel) (by decide +kernel) ⟨(_, _, _, _), rfl⟩ ?_) | (refine Qq (pfx3 _ _) 100 [(0, true), (1, true), (2, true), (3, true), (4, true), (5, true), (6, true), (7, true), (8, false)] (by rfl) (by rfl) (by kernel_rfl) (by decide +kernel) (by decide +kernel) ⟨(_, _, _, _), rfl⟩ ?_) | refine Ws (by rfl) (by kernel_rfl) (by kernel_rfl) ?_ | refine Wr (by kernel_rfl) (by kernel_rfl) ?_) | refine QB rfl ?_ | refine QH rfl ?_)) | (refine W8 ?_; (first | refine ZH ?_ | refine i_st rfl rfl (fun _ => (by (repeat' first | (refine Qo ?_; (first | (refine Qj ?_; refine QU rfl ?_) | (refine Ql ?_; (first | refine Wj rfl ?_ | refine Qf rfl rfl rfl ?_)) | (refine QN ?_; refine Q9 rfl rfl (by first | assumption | omega | (simp; done) | (simp; omega)) ?_) | (refine Qh ?_; refine Zw rfl rfl (by first | omega | (simp only [List.length_append, List.length_cons, List.length_nil]; omega)) ?_) | (refine Qb ?_; refine Qg rfl rfl ?_))) | exact ⟨rfl, rfl⟩))) ?_ | refine i_ef rfl ?_)) | refine And.intro (Exists.intro ((_, _, _, _)) rfl) ?_)
    exact e_0 (Tryz.results49) (c_pm rfl (by simp [hp2]) (by simp [hp2, Bool.or_assoc]) (by omega))
  ·have hp : W9 n m ks.length 3 = false := by rw [<- Bool.not_eq_true]; exact hp
   have hpl : ∀ (o : List UInt8) b, PE Tryz.prog G 87 (fun p g => [.ptr p g 0, .agg [.i 17, .i n, .i m, Wi ks], .i 3]) o b (.b false) true := fun o b => (qE 17 n m ks 3 hl).conv (by rw [hp]) (by rw [hp]; simp)
   clear hkb hbl hx hxl hil
   refine Qa Tryz.func49 rfl Tryz.ntmps49 rfl (t := [(0, .ptr 0 g0 0), (1, .i i), (2, .agg [.i _, .i n, .i m, Wi ks])]) rfl fun E hE => ?_
   (repeat' first | (refine Qo ?_; (first | (refine Qj ?_; refine QU rfl ?_) | (refine Qd ?_; refine Q5 rfl ?_) | (refine Ql ?_; (first | refine Qi rfl rfl (by first | assumption | exact Enc.len _ | rfl) ?_ | refine Qf rfl rfl rfl ?_)) | (refine Qh ?_; refine Wc rfl rfl ?_) | (refine Qk ?_; (first | refine qi rfl rfl rfl (fun B' hB' => stmt1_c i _ hi1 (by first | omega | (simp only [List.length_append, Wq, List.length_cons, List.length_nil]; omega)) g0 _ _ _ hB') (fun _ _ => ?_) | refine Zk 0 1 (hpl _ _) rfl rfl rfl rfl rfl rfl ?_ | refine Zk 0 1 (hsimc _ _) rfl rfl rfl rfl rfl rfl ?_)) | (refine QJ ?_; (first | refine Ze rfl rfl ?_ | refine WZ rfl rfl ?_)) | (refine Qb ?_; refine Qg rfl rfl ?_) | (refine QW ?_; refine QV rfl rfl ?_) | (refine Wx ?_; refine Ww rfl rfl (fun _ _ => ?_)))) | (refine Qv ?_; (first | refine Qu ?_ | refine QY rfl ?_ | refine WX rfl rfl rfl rfl ?_ | refine Zl rfl rfl rfl rfl ?_)) | (refine Qs ?_; (first | refine Qw ?_ | refine Qc ?_ | refine Qm ?_ | refine QH rfl ?_)))
   exact e_0 (Tryz.results49) (c_pm rfl (by simp [hp]) (by simp [hp, Bool.or_assoc]) (by omega))
 by_cases k18 : k = 18
 ·subst k18
  by_cases hp : W9 n m ks.length 2 = true
  ·have hpl : ∀ (o : List UInt8) b, PE Tryz.prog G 87 (fun p g => [.ptr p g 0, .agg [.i 18, .i n, .i m, Wi ks], .i 2]) o b (.b true) b := fun o b => (qE 18 n m ks 2 hl).conv (by rw [hp]) (by rw [hp]; simp)
   have h2 : ks.length = 2 := by simp [W9, Q4] at hp; omega
   match ks, h2 with
   | [a, b], _ =>
    have hxa := hx a (by simp)
    have hba := hkb a (by simp)
    have hxal := hxl a (by simp)
    have hial := hil a (by simp)
    have hsa := QZ a
    have hxb := hx b (by simp)
    have hbb := hkb b (by simp)
    have hxbl := hxl b (by simp)
    have hibl := hil b (by simp)
    have hsb := QZ b
    have hp2 : W9 n m 2 2 = true := hp
    simp only [QT] at hi hlen
    clear hx hkb hxl hil hbl hsimc
    refine Qa Tryz.func49 rfl Tryz.ntmps49 rfl (t := [(0, .ptr 0 g0 0), (1, .i i), (2, .agg [.i _, .i n, .i m, Wi [a, b]])]) rfl fun E hE => ?_
    (repeat' first | (refine Qo ?_; (first | (refine Qj ?_; refine QU rfl ?_) | (refine Qd ?_; refine Q5 rfl ?_) | (refine Ql ?_; (first | refine Qi rfl rfl (by first | assumption | exact Enc.len _ | rfl) ?_ | refine Qf rfl rfl rfl ?_)) | (refine Qh ?_; refine Wc rfl rfl ?_) | (refine Qk ?_; (first | refine qi rfl rfl rfl (fun B' hB' => stmt1_c i _ hi1 (by first | omega | (simp only [List.length_append, Wq, List.length_cons, List.length_nil]; omega)) g0 _ _ _ hB') (fun _ _ => ?_) | refine Zk 0 1 (hpl _ _) rfl rfl rfl rfl rfl rfl ?_ | refine Zk 0 1 (hxa _ _) rfl rfl rfl rfl rfl rfl ?_ | refine s_pm 0 1 (hbb i _ _ _ (by first | decide | (simp only [List.length_append, List.length_cons, List.length_nil]; omega)) (by omega) (by first | omega | (simp only [List.length_append, Wq, List.length_cons, List.length_nil]; omega))) rfl rfl rfl rfl rfl rfl (fun _ => rfl) (fun _ _ => ?_))) | (refine QJ ?_; (first | refine Ze rfl rfl ?_ | refine WZ rfl rfl ?_)) | (refine Qb ?_; refine Qg rfl rfl ?_) | (refine QW ?_; refine QV rfl rfl ?_) | (refine Wx ?_; refine Ww rfl rfl (fun _ _ => ?_)))) | (refine Qv ?_; (first | refine Qu ?_ | refine QY rfl ?_ | refine WX rfl rfl rfl rfl ?_ | refine Zl rfl rfl rfl rfl ?_)) | (refine Qs ?_; (first | refine Qw ?_ | refine Qc ?_ | refine Qm ?_ | (refine WJ ?_; first | (refine Qq (pfx3 _ _) 100 [(0, true), (1, true), (2, true), (3, true), (4, true), (5, true), (6, true), (7, true), (8, true), (9, false), (10, true), (11, true), (12, false)] (by rfl) (by rfl) (by kernel_rfl) (by decide +kernel) (by decide +kernel) ⟨(_, _, _, _), rfl⟩ ?_) | (refine Qq (pfx3 _ _) 100 [(0, true), (1, true), (2, true), (3, true), (4, true), (5, true), (6, false)] (by rfl) (by rfl) (by kernel_rfl) (by decide +kernel) (by decide +kernel) ⟨(_, _, _, _), rfl⟩ ?_) | (refine Qq (pfx3 _ _) 100 [(0, true), (1, true), (2, true), (3, true), (4, true), (5, true), (6, false), (7, true), (8, true), (9, false)] (by rfl) (by rfl) (by kernel_rfl) (by decide +kernel) (by decide +kernel) ⟨(_, _, _, _), rfl⟩ ?_) | (refine Qq (pfx3 _ _) 100 [(0, true), (1, true), (2, true), (3, true), (4, true), (5, true), (6, true), (7, true), (8, false)] (by rfl) (by rfl) (by kernel_rfl) (by decide +kernel) (by decide +kernel) ⟨(_, _, _, _), rfl⟩ ?_) | refine Ws (by rfl) (by kernel_rfl) (by kernel_rfl) ?_ | refine Wr (by kernel_rfl) (by kernel_rfl) ?_) | refine QB rfl ?_ | refine QH rfl ?_)) | (refine W8 ?_; (first | refine ZH ?_ | refine i_st rfl rfl (fun _ => (by (repeat' first | (refine Qo ?_; (first | (refine Qj ?_; refine QU rfl ?_) | (refine Ql ?_; (first | refine Wj rfl ?_ | refine Qf rfl rfl rfl ?_)) | (refine QN ?_; refine Q9 rfl rfl (by first | assumption | omega | (simp; done) | (simp; omega)) ?_) | (refine Qh ?_; refine Zw rfl rfl (by first | omega | (simp only [List.length_append, List.length_cons, List.length_nil]; omega)) ?_) | (refine Qb ?_; refine Qg rfl rfl ?_))) | exact ⟨rfl, rfl⟩))) ?_ | refine i_ef rfl ?_)) | refine And.intro (Exists.intro ((_, _, _, _)) rfl) ?_)
    exact e_0 (Tryz.results49) (c_pm rfl (by simp [hp2]) (by simp [hp2, Bool.or_assoc]) (by omega))
  ·have hp : W9 n m ks.length 2 = false := by rw [<- Bool.not_eq_true]; exact hp
   have hpl : ∀ (o : List UInt8) b, PE Tryz.prog G 87 (fun p g => [.ptr p g 0, .agg [.i 18, .i n, .i m, Wi ks], .i 2]) o b (.b false) true := fun o b => (qE 18 n m ks 2 hl).conv (by rw [hp]) (by rw [hp]; simp)
   clear hkb hbl hx hxl hil
   refine Qa Tryz.func49 rfl Tryz.ntmps49 rfl (t := [(0, .ptr 0 g0 0), (1, .i i), (2, .agg [.i _, .i n, .i m, Wi ks])]) rfl fun E hE => ?_
   (repeat' first | (refine Qo ?_; (first | (refine Qj ?_; refine QU rfl ?_) | (refine Qd ?_; refine Q5 rfl ?_) | (refine Ql ?_; (first | refine Qi rfl rfl (by first | assumption | exact Enc.len _ | rfl) ?_ | refine Qf rfl rfl rfl ?_)) | (refine Qh ?_; refine Wc rfl rfl ?_) | (refine Qk ?_; (first | refine qi rfl rfl rfl (fun B' hB' => stmt1_c i _ hi1 (by first | omega | (simp only [List.length_append, Wq, List.length_cons, List.length_nil]; omega)) g0 _ _ _ hB') (fun _ _ => ?_) | refine Zk 0 1 (hpl _ _) rfl rfl rfl rfl rfl rfl ?_ | refine Zk 0 1 (hsimc _ _) rfl rfl rfl rfl rfl rfl ?_)) | (refine QJ ?_; (first | refine Ze rfl rfl ?_ | refine WZ rfl rfl ?_)) | (refine Qb ?_; refine Qg rfl rfl ?_) | (refine QW ?_; refine QV rfl rfl ?_) | (refine Wx ?_; refine Ww rfl rfl (fun _ _ => ?_)))) | (refine Qv ?_; (first | refine Qu ?_ | refine QY rfl ?_ | refine WX rfl rfl rfl rfl ?_ | refine Zl rfl rfl rfl rfl ?_)) | (refine Qs ?_; (first | refine Qw ?_ | refine Qc ?_ | refine Qm ?_ | refine QH rfl ?_)))
   exact e_0 (Tryz.results49) (c_pm rfl (by simp [hp]) (by simp [hp, Bool.or_assoc]) (by omega))
 by_cases k21 : k = 21
 ·subst k21
  by_cases hp : Q4 m ks.length 2 = true
  ·have hpl : ∀ (o : List UInt8) b, PE Tryz.prog G 42 (fun p g => [.ptr p g 0, .agg [.i 21, .i n, .i m, Wi ks], .i 2]) o b (.b true) b := fun o b => (Zt 21 n m ks 2 hl).conv (by rw [hp]) (by rw [hp]; simp)
   have h2 : ks.length = 2 := by simp [W9, Q4] at hp; omega
   match ks, h2 with
   | [a, b], _ =>
    have hxa := hx a (by simp)
    have hba := hkb a (by simp)
    have hxal := hxl a (by simp)
    have hial := hil a (by simp)
    have hsa := QZ a
    have hxb := hx b (by simp)
    have hbb := hkb b (by simp)
    have hxbl := hxl b (by simp)
    have hibl := hil b (by simp)
    have hsb := QZ b
    have hp2 : Q4 m 2 2 = true := hp
    simp only [QT] at hi hlen
    clear hx hkb hxl hil hbl hsimc
    refine Qa Tryz.func49 rfl Tryz.ntmps49 rfl (t := [(0, .ptr 0 g0 0), (1, .i i), (2, .agg [.i _, .i n, .i m, Wi [a, b]])]) rfl fun E hE => ?_
    (repeat' first | (refine Qo ?_; (first | (refine Qj ?_; refine QU rfl ?_) | (refine Qd ?_; refine Q5 rfl ?_) | (refine Ql ?_; (first | refine Qi rfl rfl (by first | assumption | exact Enc.len _ | rfl) ?_ | refine Qf rfl rfl rfl ?_)) | (refine Qh ?_; refine Wc rfl rfl ?_) | (refine Qk ?_; (first | refine qi rfl rfl rfl (fun B' hB' => stmt1_c i _ hi1 (by first | omega | (simp only [List.length_append, Wq, List.length_cons, List.length_nil]; omega)) g0 _ _ _ hB') (fun _ _ => ?_) | refine Zk 0 1 (hpl _ _) rfl rfl rfl rfl rfl rfl ?_ | refine Zk 0 1 (ZC hG _ (by assumption)) rfl rfl rfl rfl rfl rfl ?_ | refine s_pm 0 1 (hba i _ _ _ (by first | decide | (simp only [List.length_append, List.length_cons, List.length_nil]; omega)) (by omega) (by first | omega | (simp only [List.length_append, Wq, List.length_cons, List.length_nil]; omega))) rfl rfl rfl rfl rfl rfl (fun _ => rfl) (fun _ _ => ?_) | refine s_pm 0 1 (hbb i _ _ _ (by first | decide | (simp only [List.length_append, List.length_cons, List.length_nil]; omega)) (by omega) (by first | omega | (simp only [List.length_append, Wq, List.length_cons, List.length_nil]; omega))) rfl rfl rfl rfl rfl rfl (fun _ => rfl) (fun _ _ => ?_))) | (refine QJ ?_; (first | refine Ze rfl rfl ?_ | refine WZ rfl rfl ?_)) | (refine Qb ?_; refine Qg rfl rfl ?_) | (refine QW ?_; refine QV rfl rfl ?_) | (refine Wx ?_; refine Ww rfl rfl (fun _ _ => ?_)))) | (refine Qv ?_; (first | refine Qu ?_ | refine QY rfl ?_ | refine WX rfl rfl rfl rfl ?_ | refine Zl rfl rfl rfl rfl ?_)) | (refine Qs ?_; (first | refine Qw ?_ | refine Qc ?_ | refine Qm ?_ | (refine WJ ?_; first | (refine Qq (pfx3 _ _) 100 [(0, true), (1, true), (2, true), (3, true), (4, true), (5, true), (6, true), (7, true), (8, true), (9, false), (10, true), (11, true), (12, false)] (by rfl) (by rfl) (by kernel_rfl) (by decide +kernel) (by decide +kernel) ⟨(_, _, _, _), rfl⟩ ?_) | (refine Qq (pfx3 _ _) 100 [(0, true), (1, true), (2, true), (3, true), (4, true), (5, true), (6, false)] (by rfl) (by rfl) (by kernel_rfl) (by decide +kernel) (by decide +kernel) ⟨(_, _, _, _), rfl⟩ ?_) | (refine Qq (pfx3 _ _) 100 [(0, true), (1, true), (2, true), (3, true), (4, true), (5, true), (6, false), (7, true), (8, true), (9, false)] (by rfl) (by rfl) (by kernel_rfl) (by decide +kernel) (by decide +kernel) ⟨(_, _, _, _), rfl⟩ ?_) | (refine Qq (pfx3 _ _) 100 [(0, true), (1, true), (2, true), (3, true), (4, true), (5, true), (6, true), (7, true), (8, false)] (by rfl) (by rfl) (by kernel_rfl) (by decide +kernel) (by decide +kernel) ⟨(_, _, _, _), rfl⟩ ?_) | refine Ws (by rfl) (by kernel_rfl) (by kernel_rfl) ?_ | refine Wr (by kernel_rfl) (by kernel_rfl) ?_) | refine QB rfl ?_ | refine QH rfl ?_)) | (refine W8 ?_; (first | refine ZH ?_ | refine i_st rfl rfl (fun _ => (by (repeat' first | (refine Qo ?_; (first | (refine Ql ?_; (first | refine Wj rfl ?_ | refine Qf rfl rfl rfl ?_)) | (refine QN ?_; refine Q9 rfl rfl (by first | assumption | omega | (simp; done) | (simp; omega)) ?_) | (refine Qh ?_; refine Zw rfl rfl (by first | omega | (simp only [List.length_append, List.length_cons, List.length_nil]; omega)) ?_) | (refine Qb ?_; refine Qg rfl rfl ?_))) | exact ⟨rfl, rfl⟩))) ?_ | refine i_ef rfl ?_)) | refine And.intro (Exists.intro ((_, _, _, _)) rfl) ?_)
    exact e_0 (Tryz.results49) (c_pm rfl (by simp [hp2]) (by simp [hp2, Bool.or_assoc]) (by omega))
  ·have hp : Q4 m ks.length 2 = false := by rw [<- Bool.not_eq_true]; exact hp
   have hpl : ∀ (o : List UInt8) b, PE Tryz.prog G 42 (fun p g => [.ptr p g 0, .agg [.i 21, .i n, .i m, Wi ks], .i 2]) o b (.b false) true := fun o b => (Zt 21 n m ks 2 hl).conv (by rw [hp]) (by rw [hp]; simp)
   clear hkb hbl hx hxl hil
   refine Qa Tryz.func49 rfl Tryz.ntmps49 rfl (t := [(0, .ptr 0 g0 0), (1, .i i), (2, .agg [.i _, .i n, .i m, Wi ks])]) rfl fun E hE => ?_
   (repeat' first | (refine Qo ?_; (first | (refine Qj ?_; refine QU rfl ?_) | (refine Qd ?_; refine Q5 rfl ?_) | (refine Ql ?_; (first | refine Qi rfl rfl (by first | assumption | exact Enc.len _ | rfl) ?_ | refine Qf rfl rfl rfl ?_)) | (refine Qh ?_; refine Wc rfl rfl ?_) | (refine Qk ?_; (first | refine qi rfl rfl rfl (fun B' hB' => stmt1_c i _ hi1 (by first | omega | (simp only [List.length_append, Wq, List.length_cons, List.length_nil]; omega)) g0 _ _ _ hB') (fun _ _ => ?_) | refine Zk 0 1 (hpl _ _) rfl rfl rfl rfl rfl rfl ?_ | refine Zk 0 1 (hsimc _ _) rfl rfl rfl rfl rfl rfl ?_)) | (refine QJ ?_; (first | refine Ze rfl rfl ?_ | refine WZ rfl rfl ?_)) | (refine Qb ?_; refine Qg rfl rfl ?_) | (refine QW ?_; refine QV rfl rfl ?_) | (refine Wx ?_; refine Ww rfl rfl (fun _ _ => ?_)))) | (refine Qv ?_; (first | refine Qu ?_ | refine QY rfl ?_ | refine WX rfl rfl rfl rfl ?_ | refine Zl rfl rfl rfl rfl ?_)) | (refine Qs ?_; (first | refine Qw ?_ | refine Qc ?_ | refine Qm ?_ | refine QH rfl ?_)))
   exact e_0 (Tryz.results49) (c_pm rfl (by simp [hp]) (by simp [hp, Bool.or_assoc]) (by omega))
 ·clear hkb hbl hx hxl hil
  refine Qa Tryz.func49 rfl Tryz.ntmps49 rfl (t := [(0, .ptr 0 g0 0), (1, .i i), (2, .agg [.i k, .i n, .i m, Wi ks])]) rfl fun E hE => ?_
  (repeat' first | (refine Qo ?_; (first | (refine Qj ?_; refine QU rfl ?_) | (refine Qd ?_; refine Q5 rfl ?_) | (refine Ql ?_; (first | refine Qi rfl rfl (by first | assumption | exact Enc.len _ | rfl) ?_ | refine Qf rfl rfl rfl ?_)) | (refine Qh ?_; refine Wc rfl rfl ?_) | (refine Qk ?_; (first | refine qi rfl rfl rfl (fun B' hB' => stmt1_c i _ hi1 (by first | omega | (simp only [List.length_append, Wq, List.length_cons, List.length_nil]; omega)) g0 _ _ _ hB') (fun _ _ => ?_) | refine Zk 0 1 (hsimc _ _) rfl rfl rfl rfl rfl rfl ?_)) | (refine QJ ?_; refine WZ rfl rfl ?_) | (refine Qb ?_; refine Qg rfl rfl ?_) | (refine QW ?_; refine QV rfl rfl ?_) | (refine Wx ?_; refine Ww rfl rfl (fun _ _ => ?_)))) | (refine Qv ?_; (first | refine Qu ?_ | refine QY rfl ?_ | refine Zl rfl rfl rfl rfl ?_ | refine We rfl rfl (by omega) ?_)) | (refine Qs ?_; (first | refine Qw ?_ | refine Qc ?_ | refine Qm ?_ | refine QH rfl ?_ | refine Qn rfl (by omega) ?_)))
  exact e_0 (Tryz.results49) (c_pm rfl (by simp [*]) (by simp [*, Bool.or_assoc]) (by omega))
theorem stmts_c (hG : G 6 = pow10T) (hG1 : G 1 = spaceT) (t : Nd) : okN t -> StC G t /\ BlC G t := by
 induction t using Nd.ind with
 | h k n m ks ih =>
 intro hok
 have hok2 := hok
 rw [okN] at hok2
 have hb := block_c k n m ks hok fun x hx => (ih x hx (Za hok2.2 hx)).1
 exact ⟨stmt_c hG hG1 k n m ks hok hb fun x hx => (ih x hx (Za hok2.2 hx)).2, hb⟩
theorem fun_c (hG : G 6 = pow10T) (hG1 : G 1 = spaceT) (t : Nd) (hok : okN t) (hsz : QI t <= 1000000) (hlen : o.length + 7000000 * QI t <= 140737470000000) : PM Tryz.prog G 45 (fun p g => [.ptr p g 0, .agg (Enc.enc t)]) o bad (.tup []) (o ++ funT t) (bad || !qV t) := fun g0 g1 B h0 h1 => by
 obtain ⟨k, n, m, ks⟩ := t
 rw [okN] at hok
 rw [QI] at hsz hlen
 have hl1 := Zq ks
 have hl : ks.length <= 1048576 := by omega
 have hn : -9223372036854775808 <= n /\ n <= 9223372036854775807 := hok.1.2.1
 have hnl := ZE hok.1.2.1
 rw [funT, qV, Q3]
 by_cases hk : k = 26
 ·subst hk
  by_cases hp : 0 < ks.length
  ·have hpz : (0 : Int) < (ks.length : Int) := by omega
   by_cases hm : Q4 m ks.length (-1) = true
   ·have hpl : ∀ b, PE Tryz.prog G 42 (fun p g => [.ptr p g 0, .agg [.i 26, .i n, .i m, Wi ks], .i (-1)]) o b (.b true) b := fun b => (Zt 26 n m ks (-1) hl).conv (by rw [hm]) (by rw [hm]; simp)
    have hsl := sizeL_last hp
    have hmem := last_mem hp
    have hbb := (stmts_c hG hG1 _ (Za hok.2 hmem)).2
    have hgl : ks.length - 1 < ks.length := by omega
    have hge : ks.getD (ks.length - 1) (.mk 0 0 0 []) = ks[ks.length - 1] := by rw [List.getD_eq_getElem?_getD, List.getElem?_eq_getElem hgl]; rfl
    have hlist : ∀ b, PE Tryz.prog G 84 (fun p g => [Wi (ks.take (ks.length - 1)), .fn (.func 47) [.ptr p g 0] []]) o b (W6 (Zs ((ks.take (ks.length - 1)).map typT))) (b || !(ks.take (ks.length - 1)).all typOk) := fun b =>
     list_c _ typT typOk _ b (fun x hx b => typed_c hG x (Za hok.2 (List.mem_of_mem_take hx)) (by have := WK (List.mem_of_mem_take hx); omega) b) (by simp; omega) (by have := qA typT (M := 30) ks (ks.length - 1) fun x hx => typT_len x (Za hok.2 hx); have := WY ks (ks.length - 1); omega)
    have hcl := qA typT (M := 30) ks (ks.length - 1) fun x hx => typT_len x (Za hok.2 hx)
    rw [hge] at hbb hsl ⊢
    have hq : ((ks.length : Int) - 1).toNat = ks.length - 1 := by omega
    have hgl2 : ((ks.length : Int) - 1).toNat < ks.length := by omega
    have hlist2 : ∀ b, PE Tryz.prog G 84 (fun p g => [Wi (ks.take ((ks.length : Int) - 1).toNat), .fn (.func 47) [.ptr p g 0] []]) o b (W6 (Zs ((ks.take (ks.length - 1)).map typT))) (b || !(ks.take (ks.length - 1)).all typOk) := by rw [hq]; exact hlist
    have hgq : ks[((ks.length : Int) - 1).toNat] = ks[ks.length - 1] := by congr 1
    have hbb2 : BlC G ks[((ks.length : Int) - 1).toNat] := by rw [hgq]; exact hbb
    have hsl2 : QT (ks.take (ks.length - 1)) + QI ks[((ks.length : Int) - 1).toNat] = QT ks := by rw [hgq]; exact hsl
    have hsn := QZ ks[((ks.length : Int) - 1).toNat]
    refine Qa Tryz.func45 rfl Tryz.ntmps45 rfl (t := [(0, .ptr 0 g0 0), (1, .agg [.i _, .i n, .i m, Wi ks])]) rfl fun E hE => ?_
    (repeat' first | (refine Qo ?_; (first | (refine Qj ?_; refine QU rfl ?_) | (refine Qd ?_; refine Q5 rfl ?_) | (refine Ql ?_; (first | refine Qi rfl rfl (by first | assumption | exact Enc.len _ | rfl) ?_ | refine Wj rfl ?_ | refine Qf rfl rfl rfl ?_)) | (refine QN ?_; refine s_idx_sl rfl rfl (by omega) (by first | assumption | omega | (simp; done) | (simp; omega)) ?_) | (refine Qh ?_; (first | refine ZM rfl rfl ?_ | refine Wc rfl rfl ?_ | refine W1 rfl rfl (by omega) ?_)) | (refine Qk ?_; (first | refine Q6 rfl ?_ | refine Zk 0 1 (Zp _) rfl rfl rfl rfl rfl rfl ?_ | refine Zk 0 1 (hpl _) rfl rfl rfl rfl rfl rfl ?_ | refine Zk 0 1 (ZC hG _ (by assumption)) rfl rfl rfl rfl rfl rfl ?_ | refine Zk 0 1 (hlist2 _) rfl rfl rfl rfl rfl rfl ?_ | refine s_pm 0 1 (line_c 0 _ (by omega) (by first | assumption | (simp only [List.length_append, Wq, List.length_cons, List.length_nil]; omega))) rfl rfl rfl rfl rfl rfl (fun _ => rfl) (fun _ _ => ?_) | refine s_pm 0 1 (hbb2 0 _ _ _ (by decide) (by omega) (by first | assumption | omega | (simp only [List.length_append, Wq, List.length_cons, List.length_nil]; omega))) rfl rfl rfl rfl rfl rfl (fun _ => rfl) (fun _ _ => ?_))) | (refine QJ ?_; (first | refine Ze rfl rfl ?_ | refine WZ rfl rfl ?_)) | (refine WQ ?_; (first | refine s_not_d rfl ?_ | refine Zv rfl ?_)) | (refine Qb ?_; refine Qg rfl rfl ?_) | (refine Wx ?_; refine Ww rfl rfl (fun _ _ => ?_)))) | (refine Qv ?_; (first | refine Qu ?_ | refine QY rfl ?_ | refine WX rfl rfl rfl rfl ?_ | refine We rfl rfl (by omega) ?_)) | (refine Qs ?_; (first | refine Qw ?_ | refine Qc ?_ | (refine WJ ?_; first | (refine Qq (pfx3 _ _) 100 [(0, true), (1, true), (2, true), (3, true), (7, true), (8, true), (9, true), (10, true), (11, true), (12, true), (4, false), (5, true), (6, true), (13, false), (14, true), (15, true), (16, false)] (by rfl) (by rfl) (by kernel_rfl) (by decide +kernel) (by decide +kernel) ⟨(_, _, _, _), rfl⟩ ?_) | refine Ws (by rfl) (by kernel_rfl) (by kernel_rfl) ?_ | refine Wr (by kernel_rfl) (by kernel_rfl) ?_) | refine QR ?_ | refine QH rfl ?_)) | (refine W8 ?_; (first | refine ZH ?_ | refine i_st rfl rfl (fun _ => (by (repeat' first | (refine Qo ?_; (first | (refine Qj ?_; refine QU rfl ?_) | (refine Ql ?_; refine Qf rfl rfl rfl ?_) | (refine Qh ?_; refine Zw rfl rfl (by first | omega | (simp only [List.length_append, List.length_cons, List.length_nil]; omega)) ?_) | (refine Qb ?_; refine Qg rfl rfl ?_) | (refine Zx ?_; refine s_slice_h rfl rfl (by omega) (by omega) ?_) | (refine QW ?_; refine QV rfl rfl ?_))) | exact ⟨rfl, rfl⟩))) ?_ | refine i_ef rfl ?_)) | refine And.intro (Exists.intro ((_, _, _, _)) rfl) ?_)
    exact e_0 (Tryz.results45) (c_pm rfl (by rw [hgq]; simp [hm, hp]) (by rw [hgq]; simp [hm, hp, Bool.or_assoc]) (by omega))
   ·have hm : Q4 m ks.length (-1) = false := by rw [<- Bool.not_eq_true]; exact hm
    have hpl : ∀ b, PE Tryz.prog G 42 (fun p g => [.ptr p g 0, .agg [.i 26, .i n, .i m, Wi ks], .i (-1)]) o b (.b false) true := fun b => (Zt 26 n m ks (-1) hl).conv (by rw [hm]) (by rw [hm]; simp)
    refine Qa Tryz.func45 rfl Tryz.ntmps45 rfl (t := [(0, .ptr 0 g0 0), (1, .agg [.i _, .i n, .i m, Wi ks])]) rfl fun E hE => ?_
    (repeat' first | (refine Qo ?_; (first | (refine Qj ?_; refine QU rfl ?_) | (refine Ql ?_; (first | refine Qi rfl rfl (by first | assumption | exact Enc.len _ | rfl) ?_ | refine Qf rfl rfl rfl ?_)) | (refine Qh ?_; (first | refine ZM rfl rfl ?_ | refine Wc rfl rfl ?_)) | (refine Qk ?_; (first | refine Q6 rfl ?_ | refine Zk 0 1 (Zp _) rfl rfl rfl rfl rfl rfl ?_ | refine Zk 0 1 (hpl _) rfl rfl rfl rfl rfl rfl ?_)) | (refine QJ ?_; (first | refine Ze rfl rfl ?_ | refine WZ rfl rfl ?_)) | (refine WQ ?_; (first | refine s_not_d rfl ?_ | refine Zv rfl ?_)) | (refine Qb ?_; refine Qg rfl rfl ?_) | (refine Wx ?_; refine Ww rfl rfl (fun _ _ => ?_)))) | (refine Qv ?_; (first | refine Qu ?_ | refine QY rfl ?_ | refine WX rfl rfl rfl rfl ?_ | refine We rfl rfl (by omega) ?_)) | (refine Qs ?_; (first | refine Qw ?_ | refine Qc ?_ | refine QB rfl ?_ | refine QM ?_)))
    exact e_0 (Tryz.results45) (c_pm rfl (by simp [hm, hp]) (by simp [hm, hp]) (by omega))
  ·have hpz : ¬ (0 : Int) < (ks.length : Int) := by omega
   refine Qa Tryz.func45 rfl Tryz.ntmps45 rfl (t := [(0, .ptr 0 g0 0), (1, .agg [.i _, .i n, .i m, Wi ks])]) rfl fun E hE => ?_
   (repeat' first | (refine Qo ?_; (first | (refine Qj ?_; refine QU rfl ?_) | (refine Ql ?_; refine Qf rfl rfl rfl ?_) | (refine Qh ?_; (first | refine ZM rfl rfl ?_ | refine Wc rfl rfl ?_)) | (refine Qk ?_; (first | refine Q6 rfl ?_ | refine Zk 0 1 (Zp _) rfl rfl rfl rfl rfl rfl ?_)) | (refine QJ ?_; refine Ze rfl rfl ?_) | (refine WQ ?_; refine s_not_d rfl ?_) | (refine Qb ?_; refine Qg rfl rfl ?_) | (refine Wx ?_; refine Ww rfl rfl (fun _ _ => ?_)))) | (refine Qv ?_; (first | refine Qu ?_ | refine QY rfl ?_ | refine WX rfl rfl rfl rfl ?_ | refine Zl rfl rfl rfl rfl ?_ | refine Wv rfl rfl (by omega) ?_)) | (refine Qs ?_; (first | refine Qw ?_ | refine Qc ?_ | refine QB rfl ?_ | refine QM ?_)))
   exact e_0 (Tryz.results45) (c_pm rfl (by simp [hp]) (by simp [hp]) (by omega))
 ·refine Qa Tryz.func45 rfl Tryz.ntmps45 rfl (t := [(0, .ptr 0 g0 0), (1, .agg [.i k, .i n, .i m, Wi ks])]) rfl fun E hE => ?_
  (repeat' first | (refine Qo ?_; (first | (refine Qj ?_; refine QU rfl ?_) | (refine Ql ?_; refine Qf rfl rfl rfl ?_) | (refine Qh ?_; refine Wc rfl rfl ?_) | (refine Qk ?_; refine Zk 0 1 (Zp _) rfl rfl rfl rfl rfl rfl ?_) | (refine QJ ?_; (first | refine Ze rfl rfl ?_ | refine WZ rfl rfl ?_)) | (refine WQ ?_; refine Zv rfl ?_) | (refine Qb ?_; refine Qg rfl rfl ?_) | (refine Wx ?_; refine Ww rfl rfl (fun _ _ => ?_)))) | (refine Qv ?_; (first | refine Qu ?_ | refine QY rfl ?_ | refine Zl rfl rfl rfl rfl ?_ | refine We rfl rfl (by omega) ?_)) | (refine Qs ?_; (first | refine Qw ?_ | refine Qc ?_ | refine QB rfl ?_ | refine QM ?_)))
  exact e_0 (Tryz.results45) (c_pm rfl (by simp [hk]) (by simp [hk]) (by omega))
end Go.Proofs
end
section
namespace Go.Av
open Go.Bl Go.Proofs
section
variable {P : Program} {G : Nat -> DV} {B : Nat} {f : Operand -> DV} {σ : List ABlk} {K : DV -> List ABlk -> Prop} {dst : Option Tmp} {type : TypeId} {pos : String} {after : Array Edge} {gd : Option (Nat × Bool)}
theorem s_box_bld {x : Operand} (hx : f x = .agg [.sc (.pointer none), .sc (.slice none 0 0), .sc (.bool false)]) (k : ∀ g g1, B < g -> B < g1 -> K (.ptr σ.length g 0) (σ ++ [pRow σ.length (σ.length + 1) g g1 ([] : List UInt8).length false, .row g1 (WH ([] : List UInt8))])) : OpSem P G B ⟨dst, .box 77 x, type, pos, after, gd⟩ f σ K := fun X ρ hS hσ hB _ hf => by
 subst hσ
 have e1 := hf x (by simp [Op.operands, Call.operands]); rw [hx] at e1
 obtain ⟨h1, h2, h3⟩ := dcells_spec (ds := [.sc (.pointer none), .sc (.slice none 0 0), .sc (.bool false)]) rfl e1
 simp only [execOp, Instr.box, newVar, newRow, run_newObj, Sem.run_bind, Sem.run_pure, Result.andThen_ok, World.alloc_eq]
 generalize ρ x = u at *
 have hk := Keep.alloc X.w (.cells u.cells 77)
 have hnew := heap_alloc_new X.w (.cells u.cells 77)
 have hob : ∀ b' n, some (X.w.heap.size, u.cells.size) = some (b', n) -> X.w.heap.size <= b' := fun b' n h => by cases h; exact Nat.le_refl _
 let R0 : ABlk := .row (X.N + 1) [.sc (.pointer none), .sc (.slice none 0 0), .sc (.bool false)]
 have hh : R0.holds X.lay (X.w.alloc (.cells u.cells 77)) (some (X.w.heap.size, u.cells.size)) := ⟨u.cells, 77, (0, 0), hnew, rfl, by rw [h1]; exact Nat.le_refl _, fun j _ h => by simp at h, h3⟩
 have hS' := hS.push hk (B := R0) rfl hob hh
 have hE' := WExt.push hS hk (B := R0) rfl hob
 have hσ1 : (X.push (X.w.alloc (.cells u.cells 77)) (some (X.w.heap.size, u.cells.size)) R0).σ = X.σ ++ [R0] := rfl
 have hρ1 : (X.push (X.w.alloc (.cells u.cells 77)) (some (X.w.heap.size, u.cells.size)) R0).ρ X.σ.length = some (X.w.heap.size, u.cells.size) := by simp [AX.push]
 have hw1 : (X.push (X.w.alloc (.cells u.cells 77)) (some (X.w.heap.size, u.cells.size)) R0).w = X.w.alloc (.cells u.cells 77) := rfl
 have hN1 : (X.push (X.w.alloc (.cells u.cells 77)) (some (X.w.heap.size, u.cells.size)) R0).N = X.N + 1 := rfl
 generalize X.push (X.w.alloc (.cells u.cells 77)) (some (X.w.heap.size, u.cells.size)) R0 = Y at *
 -- the buffer, which lies nowhere yet
 let R1 : ABlk := .row (Y.N + 1) []
 have hob1 : ∀ b' n, (none : Option (Nat × Nat)) = some (b', n) -> Y.w.heap.size <= b' := fun b' n h => by cases h
 have hS1 := hS'.push (Keep.refl Y.w) (B := R1) rfl hob1 rfl
 have hE1 := WExt.push hS' (Keep.refl Y.w) (B := R1) rfl hob1
 have hlen1 : Y.σ.length = X.σ.length + 1 := by rw [hσ1]; simp
 have hσ2 : (Y.push Y.w none R1).σ = X.σ ++ [R0, .row (X.N + 2) []] := by show Y.σ ++ [ABlk.row (Y.N + 1) []] = _; rw [hσ1, hN1]; simp
 have hρ2 : (Y.push Y.w none R1).ρ X.σ.length = some (X.w.heap.size, u.cells.size) := by simp only [AX.push]; rw [if_neg (by omega)]; exact hρ1
 have hρ3 : (Y.push Y.w none R1).ρ (X.σ.length + 1) = none := by simp only [AX.push]; rw [if_pos hlen1.symm]
 have hw2 : (Y.push Y.w none R1).w = X.w.alloc (.cells u.cells 77) := hw1
 have hN2 : (Y.push Y.w none R1).N = X.N + 2 := by show Y.N + 1 = _; omega
 generalize hZ : Y.push Y.w none R1 = Z at *
 have hk0 : Z.σ[X.σ.length]? = some R0 := by rw [hσ2]; simp
 have hk1 : Z.σ[X.σ.length + 1]? = some (.row (X.N + 2) []) := by rw [hσ2]; simp
 let R2 : ABlk := pRow X.σ.length (X.σ.length + 1) (X.N + 1) (X.N + 2) 0 false
 have hok : ReplOk Z X.σ.length (X.N + 1) Z.w (Z.ρ X.σ.length) R2 Z.N := {
  live := WS hk0, os := rfl, tape := rfl, output := rfl, size := Nat.le_refl _, block := fun _ _ _ => rfl
  gen := .inr ⟨rfl, Nat.le_refl _, rfl⟩
  lies := fun b n h => .inr ⟨n, h⟩
  shp := fun _ _ h => h }
 have hE2 := WExt.repl hS1 hok
 have hlive : (Z.repl X.σ.length Z.w (Z.ρ X.σ.length) R2 Z.N).live X.σ.length (X.N + 1) := (AX.repl_live (AX.live_lt (WS hk0))).2 (.inr ⟨rfl, rfl⟩)
 have hlive1 : (Z.repl X.σ.length Z.w (Z.ρ X.σ.length) R2 Z.N).live (X.σ.length + 1) (X.N + 2) := (AX.repl_live (AX.live_lt (WS hk0))).2 (.inl ⟨by omega, WS hk1⟩)
 have hc : ∀ j e, [DV.sc (.pointer none), .sc (.slice none 0 0), .sc (.bool false)][j]? = some e -> u.cells.getD j undef = (match e with | .sc v => v | _ => undef) := fun j e hj => by
  have := (h3 j e hj).2
  match j, hj with
  | 0, hj => cases hj; exact VRep.sc_eq this
  | 1, hj => cases hj; exact VRep.sc_eq this
  | 2, hj => cases hj; exact VRep.sc_eq this
 have c0 := hc 0 _ rfl
 have c1 := hc 1 _ rfl
 have c2 := hc 2 _ rfl
 have key : ∀ (ob0 : Option (Nat × Nat)) (w0 : World), ob0 = some (X.w.heap.size, u.cells.size) -> w0 = X.w.alloc (.cells u.cells 77) -> R2.holds (Z.repl X.σ.length Z.w (Z.ρ X.σ.length) R2 Z.N).lay w0 ob0 := fun ob0 w0 e0 ew => by
  subst e0; subst ew
  refine ⟨u.cells, 77, (0, 0), hnew, rfl, by rw [h1]; exact Nat.le_refl _, fun j _ h => by simp at h, fun j e hj => ?_⟩
  match j, hj with
  | 0, hj =>
   cases hj
   refine ⟨rfl, ?_⟩
   rw [c0]
   refine .bld _ _ _ _ (by show X.N + 1 <= Z.N; omega) fun ob hob => ?_
   rw [AX.row_mk hlive] at hob
   simp only [AX.repl, if_true, hρ2, Option.some.injEq] at hob
   refine ⟨X.w.heap.size, u.cells.size, hob.symm, ?_, .inl rfl⟩
   show World.shape? _ _ = _
   simp only [AX.repl, hw2, World.shape?, hnew]
   rw [h1]; rfl
  | 1, hj =>
   cases hj
   refine ⟨rfl, ?_⟩
   rw [c1]
   refine .bref _ _ _ _ _ _ _ (by show X.N + 2 <= Z.N; omega) fun ob hob => ?_
   rw [AX.row_mk hlive1] at hob
   simp only [AX.repl, if_neg (show ¬ X.σ.length + 1 = X.σ.length by omega), hρ3, Option.some.injEq] at hob
   subst hob
   exact ⟨⟨rfl, rfl, rfl⟩, fun b n h => by cases h⟩
  | 2, hj => cases hj; exact ⟨rfl, by rw [c2]; exact .sc _⟩
 have hS2 := Sto.repl' hS1 hok (key _ _ hρ2 hw2)
 have hk2 := k (X.N + 1) (X.N + 2) (by omega) (by omega)
 refine ⟨_, ?_, hS2, (hE'.trans hE1).trans hE2, .ptr X.σ.length (X.N + 1) 0, ?_, ?_⟩
 ·exact hw2
 ·refine .ptr _ _ _ _ (by show X.N + 1 <= Z.N; omega) fun ob hob => ?_
  rw [AX.row_mk hlive] at hob
  simp only [AX.repl, if_true, hρ2, Option.some.injEq] at hob
  exact ⟨_, _, hob.symm, rfl⟩
 ·have : (Z.repl X.σ.length Z.w (Z.ρ X.σ.length) R2 Z.N).σ = X.σ ++ [R2, .row (X.N + 2) []] := by
   simp only [AX.repl, hσ2]
   rw [List.set_append_right _ _ (Nat.le_refl _)]
   simp
  rw [this]; exact hk2
end
theorem freeze_other {b n : Nat} (w : World) {b' : Nat} (o : Nat) (h : b' ≠ b) : (w.drew.freeze ⟨b, n, none⟩ o).heap[b']? = w.heap[b']? := by
 unfold World.freeze
 split
 ·rfl
 ·show (w.heap.modify b _)[b']? = _
  rw [Array.getElem?_modify, if_neg (fun e => h e.symm)]
theorem freeze_size (w : World) (a : Addr) (o : Nat) : (w.drew.freeze a o).heap.size = w.heap.size := by
 unfold World.freeze; split
 ·rfl
 ·show (w.heap.modify _ _).size = _; simp
theorem freeze_os (w : World) (a : Addr) (o : Nat) : (w.drew.freeze a o).os = w.os := by unfold World.freeze; split <;> rfl
theorem freeze_tape (w : World) (a : Addr) (o : Nat) : (w.drew.freeze a o).tape = w.tape := by unfold World.freeze; split <;> rfl
theorem freeze_output (w : World) (a : Addr) (o : Nat) : (w.drew.freeze a o).output = w.output := by unfold World.freeze; split <;> rfl
theorem freeze_shape (w : World) (a : Addr) (o b' : Nat) : (w.drew.freeze a o).shape? b' = w.shape? b' := by
 unfold World.freeze
 split
 ·rfl
 ·have key : ∀ x : Option Obj, (match x.map (fun | .cells c elem (lo, hi) => Obj.cells c elem (if lo == hi then (a.off, a.off + o) else (min lo a.off, max hi (a.off + o))) | x => x) with | some (.cells c elem _) => some (elem, c.size) | _ => none) = (match x with | some (.cells c elem _) => some (elem, c.size) | _ => none) := fun x => by
   cases x with
   | none => rfl
   | some o => cases o <;> rfl
  by_cases h : a.block = b'
  ·subst h
   have := key w.heap[a.block]?
   unfold World.shape?
   show (match (w.heap.modify a.block _)[a.block]? with | some (.cells c elem _) => some (elem, c.size) | _ => none) = _
   rw [Array.getElem?_modify, if_pos rfl]
   exact this
  ·unfold World.shape?
   show (match (w.heap.modify a.block _)[b']? with | some (.cells c elem _) => some (elem, c.size) | _ => none) = _
   rw [Array.getElem?_modify, if_neg h]
   rfl
theorem string_c {G : Nat -> DV} {B k0 k1 g0 g1 : Nat} {σ σ' : List ABlk} {o : List UInt8} {bad : Bool} (h0 : σ[k0]? = some (pRow k0 k1 g0 g1 o.length bad)) (h1 : σ[k1]? = some (.row g1 (WH o))) (ho : o ≠ []) (hl : o.length <= 9223372036854775807) (hσ' : setA σ k1 .gone = some σ') :
  ACalls Tryz.prog G B 50 [.ptr k0 g0 0] σ (fun d τ => d = W6 o /\ τ = σ') := fun X vs hS hσ hB hG hv => by
 subst hσ
 obtain ⟨hv1, hv2⟩ := hv
 have e1 := hv2 0 _ rfl
 obtain ⟨b, n, hρ, e2⟩ := e1.ptr_inv h0
 have hvs : vs = #[.pointer (some ⟨b, 0, none⟩)] := by
  apply Array.ext
  ·simpa using hv1
  ·intro j hj1 hj2
   have hj : j < 1 := by simpa using hj2
   match j, hj with
   | 0, _ => simpa [Array.getD_eq_getD_getElem?, hj1] using e2
 subst hvs
 obtain ⟨arr, T, fr, q1, q2, q3, q4, q5⟩ := hS.row h0 hρ
 have q30 : 3 <= n := q3
 have hr := (q5 1 _ rfl).2
 have hopos : 0 < o.length := List.length_pos_iff.2 ho
 have hel : (WH o : List DV).length = o.length := by rw [Wu]; exact Nat.mul_one _
 obtain ⟨a, l, c, hval⟩ : ∃ a l c, arr.getD 1 undef = .slice a l c := by
  generalize arr.getD 1 undef = u at hr
  cases hr with | bref _ _ _ _ a l c _ _ => exact ⟨a, l, c, rfl⟩
 rw [hval] at hr
 have hinv : RefOk (X.ρ k1) 0 o.length 1 (.slice a l c) /\ ∀ b n, X.ρ k1 = some (b, n) -> ∃ m, X.lay.shp b = some (5, m) := by
  cases hr with | bref _ _ _ _ _ _ _ g1 g2 => exact g2 _ (AX.row_mk (WS h1))
 obtain ⟨hro, hshp⟩ := hinv
 unfold RefOk at hro
 cases hρ1 : X.ρ k1 with
 | none => rw [hρ1] at hro; obtain ⟨_, _, hz⟩ := hro; omega
 | some z =>
  obtain ⟨b1, n1⟩ := z
  rw [hρ1] at hro
  obtain ⟨a', cap, hsl, hlc, hcase⟩ := hro
  cases hsl
  rcases hcase with hcase | ⟨rfl, hcap⟩
  ·omega
  obtain ⟨m, hm⟩ := hshp b1 n1 hρ1
  obtain ⟨arr1, T1, fr1, r1, r2, r3, r4, r5⟩ := hS.row h1 hρ1
  have hm' : X.w.shape? b1 = some (5, m) := hm
  have hT1 : T1 = 5 /\ arr1.size = m := by simp only [World.shape?, r1, Option.some.injEq, Prod.mk.injEq] at hm'; exact hm'
  obtain ⟨rfl, hsz⟩ := hT1
  have hc1 : X.w.cell? ⟨b, 1, none⟩ = some (.slice (some ⟨b1, 0, none⟩) o.length c) := by
   have : 1 < arr.size := by omega
   simp only [World.cell?, q1]
   rw [<- hval]; simp [Array.getD_eq_getD_getElem?, this]
  rw [hel] at r3
  refine (string_row b b1 c o arr1 X.w ho hc1 (by simp only [World.shape?, r1]) hlc hl (by omega) (fun j x hj => ?_)).mono ?_
  ·have hjl := (List.getElem?_eq_some_iff.1 hj).1
   have hen : (WH o : List DV)[j]? = some (.u x) := by
    have := encs_at o j hjl 0 (by decide)
    have hes : Enc.es UInt8 = 1 := rfl
    have hx : o[j] = x := (List.getElem?_eq_some_iff.1 hj).2
    rw [hes, Nat.mul_one, Nat.add_zero, hx] at this
    exact this
   have hrep := VRep.sc_eq (r5 j _ hen).2
   have : j < arr1.size := by omega
   simp only [World.cell?, r1]
   rw [<- hrep]; simp [Array.getD_eq_getD_getElem?, this]
  ·rintro e w' ⟨rfl, rfl⟩
   have hmut : X.mut b1 := ⟨k1, g1, n1, WS h1, hρ1⟩
   have hoth : ∀ b', b' ≠ b1 -> (X.w.drew.freeze ⟨b1, 0, none⟩ o.length).heap[b']? = X.w.heap[b']? := fun b' hb' => freeze_other _ _ hb'
   have hset := qU hσ'
   have hlive : ∀ k g, (X.σ.set k1 .gone)[k]?.bind ABlk.gen? = some g -> k ≠ k1 /\ X.live k g := fun k g hg => by
    rw [List.getElem?_set] at hg
    split at hg
    ·split at hg <;> simp [ABlk.gen?] at hg
    ·rename_i hne; exact ⟨fun e => hne e.symm, hg⟩
   let X' : AX := { X with w := X.w.drew.freeze ⟨b1, 0, none⟩ o.length, σ := X.σ.set k1 .gone }
   have hE : WExt X X' := {
    hid := rfl, top := Nat.le_refl _, os := freeze_os _ _ _, tape := freeze_tape _ _ _, output := freeze_output _ _ _, size := Nat.le_of_eq (freeze_size _ _ _).symm
    old := fun b' _ hm' => ⟨hoth b' fun e => hm' (e ▸ hmut), fun ⟨k, g, n, hl', hr'⟩ => hm' ⟨k, g, n, (hlive k g hl').2, hr'⟩⟩
    rows := fun k g _ hl' => ⟨(hlive k g hl').2, rfl⟩
    shp := fun b' s hs => by rw [freeze_shape]; exact hs }
   have hS' : Sto X' := {
    inj := fun k k' g g' b n n' hl hl' hr hr' => hS.inj k k' g g' b n n' (hlive k g hl).2 (hlive k' g' hl').2 hr hr'
    gen := fun k g hl => hS.gen k g (hlive k g hl).2
    hid := fun b ⟨k, g, n, hl, hr⟩ hh => hS.hid b ⟨k, g, n, (hlive k g hl).2, hr⟩ hh
    hidlt := fun b hb => Nat.lt_of_lt_of_le (hS.hidlt b hb) (Nat.le_of_eq (freeze_size _ _ _).symm)
    holds := fun k B hB => by
     have hB' : (X.σ.set k1 .gone)[k]? = some B := hB
     cases hg : B.gen? with
     | none => cases B <;> first | trivial | cases hg
     | some g =>
      obtain ⟨hne, hl⟩ := hlive k g (by rw [hB']; exact hg)
      have hBX : X.σ[k]? = some B := by rw [List.getElem?_set_ne (fun e => hne e.symm)] at hB'; exact hB'
      exact (hS.holds k B hBX).mono hE.le fun b' n' hb' => hoth b' fun e => hne (hS.inj k k1 g g1 b' n' n1 hl (WS h1) hb' (by rw [e]; exact hρ1)) }
   exact ⟨_, rfl, X', rfl, hS', hE, _, .sc _, rfl, hset.symm⟩
abbrev pfx4 (b : ABlk) (g0 : Nat) (p : DV × DV × DV × ABlk) : List ABlk := b :: .row g0 [p.1, p.2.1, p.2.2.1] :: p.2.2.2 :: []
theorem s_call_str {G : Nat -> DV} {B : Nat} {f : Operand -> DV} {σ σ' : List ABlk} {K : DV -> List ABlk -> Prop} {dst : Option Tmp} {type : TypeId} {pos : String} {after : Array Edge} {gd : Option (Nat × Bool)} {args : Array Operand} {ts : Array TypeId} {k0 k1 g0 g1 : Nat} {o : List UInt8} {bad : Bool} (hx : f (.func 50) = .fn (.func 50) [] []) (hds : reL (args.toList.map f) = some [.ptr k0 g0 0]) (h0 : σ[k0]? = some (pRow k0 k1 g0 g1 o.length bad)) (h1 : σ[k1]? = some (.row g1 (WH o))) (ho : o ≠ []) (hl : o.length <= 9223372036854775807) (hσ' : setA σ k1 .gone = some σ') (kk : K (W6 o) σ') :
  OpSem Tryz.prog G B ⟨dst, .call ⟨.value (.func 50), args, ts⟩, type, pos, after, gd⟩ f σ K := s_call hx hds ((string_c h0 h1 ho hl hσ').mono fun _ _ ⟨e1, e2⟩ => by rw [e1, e2]; exact kk)
end Go.Av
end
section
namespace Go.Proofs
open Go.Av
variable {G : Nat -> DV}
attribute [local irreducible] OpSem ZA ZV Z8 ACalls AEnd AClose RV
open Go.Bl
theorem itoa_ne (n : Int) : Lib.itoa n ≠ [] := by
 intro h
 have h2 := congrArg List.length h
 unfold Lib.itoa at h2
 split at h2
 ·simp at h2
 ·rw [Lib.decDigits_length] at h2
  have := Lib.nDigits_pos n.toNat
  simp at h2; omega
theorem typT_ne (t : Nd) (h : typOk t = true) : typT t ≠ [] := by
 obtain ⟨k, n, m, ks⟩ := t
 rw [typOk] at h
 rw [typT]
 split at h
 ·rename_i hk
  rcases hk with hk | hk <;> simp [hk]
 split at h
 ·rename_i h1 hk; simp [hk]
 split at h
 ·rename_i h1 h2 hk; simp [hk]
 ·cases h
theorem exT_ne (t : Nd) (h : qn t = true) : exT t ≠ [] := by
 obtain ⟨k, n, m, ks⟩ := t
 rw [qn] at h
 rw [exT]
 split at h
 ·rename_i hk; rw [if_pos hk]; exact itoa_ne n
 split at h
 ·rename_i h1 hk; simp [hk]; split <;> simp
 split at h
 ·rename_i h1 h2 hk; simp [hk]
 split at h
 ·rename_i h1 h2 h3 hk; simp [hk]
 split at h
 ·rename_i h1 h2 h3 h4 hk; simp [hk]
 split at h
 ·rename_i h1 h2 h3 h4 h5 hk
  rw [if_neg h1, if_neg h2, if_neg h3, if_neg h4, if_neg h5, if_pos hk, if_pos (by simp at h; simp [h])]
  simp
 split at h
 ·rename_i h1 h2 h3 h4 h5 h6 hk; simp [hk]
 split at h
 ·rename_i h1 h2 h3 h4 h5 h6 h7 hk; simp [hk]
 split at h
 ·rename_i h1 h2 h3 h4 h5 h6 h7 h8 hk; simp [hk]
 ·cases h
theorem line_ne (i : Nat) (s r : List UInt8) : Z6 i s ++ r ≠ [] := by simp [Z6]
theorem stT_ne (t : Nd) (i : Nat) : stT t i ≠ [] := by
 obtain ⟨k, n, m, ks⟩ := t
 rw [stT]
 repeat' split
 all_goals simp [Z6]
theorem prT_ne (t : Nd) (h : prOk t = true) : prT t ≠ [] := by
 obtain ⟨k, n, m, ks⟩ := t
 rw [prOk] at h
 rw [prT]
 split
 ·exact line_ne _ _ _
 split
 ·rename_i h1 hk
  rw [if_neg h1, if_pos hk] at h
  rw [qV] at h
  rw [funT, if_pos (by simp at h; simp [h])]
  exact line_ne _ _ _
 split
 ·rename_i h1 h2 hk
  rw [if_neg h1, if_neg h2, if_pos hk] at h
  exact typT_ne _ h
 split
 ·rename_i h1 h2 h3 hk
  rw [if_neg h1, if_neg h2, if_neg h3, if_pos hk] at h
  exact exT_ne _ h
 ·exact stT_ne _ _
theorem okL_take {ks : List Nd} (h : okL ks) : ∀ j, okL (ks.take j) := fun j => by
 induction ks generalizing j with
 | nil => simpa using h
 | cons x r ih =>
  rw [okL] at h
  cases j with
  | zero => rw [List.take_zero, okL]; trivial
  | succ j => rw [List.take_succ_cons, okL]; exact ⟨h.1, ih h.2 j⟩
theorem print_c (hG : G 6 = pow10T) (hG1 : G 1 = spaceT) (t : Nd) (hok : okN t) (hsz : QI t <= 1000000) : Go.Av.Pure Tryz.prog G 18 [.agg (Enc.enc t)] (W6 (Zo t)) := fun B => by
 have htyp := fun (o : List UInt8) (b : Bool) => typed_c (G := G) (o := o) hG t hok hsz b
 have hex := fun (o : List UInt8) (b : Bool) => expr_c (G := G) (o := o) hG hG1 t hok hsz b
 have hstm := (stmts_c (G := G) hG hG1 t hok).1
 have hfun := fun (o : List UInt8) (b : Bool) (h : o.length + 7000000 * QI t <= 140737470000000) => fun_c (G := G) (o := o) (bad := b) hG hG1 t hok hsz h
 have hpne := prT_ne t
 obtain ⟨k, n, m, ks⟩ := t
 unfold Zo
 have hse : QI (.mk k n m ks) = 1 + QT ks := by rw [QI]
 have hok2 := hok
 rw [okN] at hok2
 have hl1 := Zq ks
 have hl : ks.length <= 1048576 := by omega
 have hn : -9223372036854775808 <= n /\ n <= 9223372036854775807 := hok2.1.2.1
 have hnl := ZE hok2.1.2.1
 rw [prOk, prT] at *
 rw [Q3] at htyp hex hfun ⊢
 by_cases k27 : k = 27
 ·subst k27
  have hfs : ∀ x ∈ ks, ∀ (o : List UInt8) (b : Bool), o.length + 7000000 * QI x <= 140737470000000 -> PM Tryz.prog G 45 (fun p g => [.ptr p g 0, .agg (Enc.enc x)]) o b (.tup []) (o ++ funT x) (b || !qV x) := fun x hx o b h => fun_c (G := G) (o := o) (bad := b) hG hG1 x (Za hok2.2 hx) (by have := WK hx; omega) h
  have hfl := funs_len ks hok2.2 (by omega)
  clear htyp hex hstm hfun
  refine Qa Tryz.func18 rfl Tryz.ntmps18 rfl (t := [(0, .agg [.i _, .i n, .i m, Wi ks])]) rfl fun E hE => ?_
  (repeat' first | (refine Qo ?_; (first | (refine Qj ?_; refine QU rfl ?_) | (refine Qd ?_; refine Q5 rfl ?_) | (refine Ql ?_; (first | refine Qi rfl rfl (by first | assumption | exact Enc.len _ | rfl) ?_ | refine Qf rfl rfl rfl ?_)) | (refine Qh ?_; (first | refine Wc rfl rfl ?_ | refine Zw rfl rfl (by first | omega | (simp only [List.length_append, List.length_cons, List.length_nil]; omega)) ?_)) | (refine Qk ?_; (first | refine Zk 1 2 (Zt _ _ _ _ _ (by assumption)) rfl rfl rfl rfl rfl rfl ?_ | refine Zk 1 2 (ZC hG _ (by assumption)) rfl rfl rfl rfl rfl rfl ?_ | refine s_pm 1 2 (line_c 0 _ (by omega) (by first | assumption | omega | (simp only [List.length_append, Wq, List.length_cons, List.length_nil]; omega))) rfl rfl rfl rfl rfl rfl (fun _ => rfl) (fun _ _ => ?_) | refine Q6 rfl ?_)) | (refine Wx ?_; (first | refine s_box_bld rfl (fun _ _ _ _ => ?_) | refine Ww rfl rfl (fun _ _ => ?_))) | (refine Qb ?_; refine Qg rfl rfl ?_) | (refine QS ?_; refine QC rfl rfl ?_))) | (refine Qv ?_; (first | refine Qu ?_ | refine QY rfl ?_)) | (refine Qs ?_; (first | refine Qw ?_ | refine Qc ?_ | refine Qm ?_ | refine QB rfl ?_)))
  rename_i gn hgn gp gb hgp hgb gb2 hgb2
  generalize hhd : [] ++ Z6 0 ([112, 114, 111, 103, 114, 97, 109, 32] ++ Lib.itoa n) = hd at *
  have hhl : hd.length <= 1000 := by rw [<- hhd]; simp only [List.length_append, List.length_nil, List.length_cons, Wq]; omega
  have hhd2 : Z6 0 ([112, 114, 111, 103, 114, 97, 109, 32] ++ Lib.itoa n) = hd := by rw [<- hhd]; simp
  generalize hb0 : (false || !Q4 m ks.length (-1) || !Zm n) = b0 at *
  refine r_loop2 (fun (j : Nat) (g : Nat) => ⟨[(1, .ptr 0 gn 0), (2, W6 []), (3, .ptr 1 gp 0), (26, Wi ks), (27, .i ks.length), (28, .i j)], [.row gn [.i 27, .i n, .i m, Wi ks], pRow 1 2 gp g (hd ++ ((ks.take j).map funT).flatten).length (b0 || !(ks.take j).all qV), .row g (WH (hd ++ ((ks.take j).map funT).flatten))]⟩) (fun j g => j <= ks.length /\ (g = gb2 \/ E.N < g)) (fun j _ => ks.length - j) 0 gb2 ?_ (by omega) ?_
  ·rw [show (b0 || !(ks.take 0).all qV) = b0 by simp, show hd ++ ((ks.take 0).map funT).flatten = hd by simp]
   exact zal rfl
  intro j g hj
  have hsl := WY ks j
  have hfl2 := funs_len (ks.take j) (okL_take hok2.2 j) (by omega)
  by_cases hjl : j < ks.length
  ·have hsm := WK (List.getElem_mem hjl)
   have hst1 := qG ks j hjl
   have hst2 := WY ks (j + 1)
   have hsx := hfs _ (List.getElem_mem hjl) (hd ++ ((ks.take j).map funT).flatten) (b0 || !(ks.take j).all qV) (by rw [List.length_append]; omega)
   have e1 : hd ++ ((ks.take (j + 1)).map funT).flatten = (hd ++ ((ks.take j).map funT).flatten) ++ funT ks[j] := by rw [flatten_take _ hjl, List.append_assoc]
   have e2 : (b0 || !(ks.take (j + 1)).all qV) = ((b0 || !(ks.take j).all qV) || !qV ks[j]) := by rw [List.take_succ_eq_append_getElem hjl, List.all_append]; cases b0 <;> simp
   clear hfs
   (repeat' first | (refine Qo ?_; (first | (refine Qj ?_; refine QU rfl ?_) | (refine Ql ?_; (first | refine Qi rfl rfl (by first | assumption | exact Enc.len _ | rfl) ?_ | refine Wj rfl ?_)) | (refine QN ?_; refine Q9 rfl rfl (by first | assumption | omega | (simp; done) | (simp; omega)) ?_) | (refine Qh ?_; (first | refine Wh rfl rfl ?_ | refine Zr rfl rfl (by omega) ?_)) | (refine Qk ?_; refine s_pm 1 2 (hsx) rfl rfl rfl rfl rfl rfl (fun _ => rfl) (fun _ _ => ?_)) | (refine Qx ?_; refine Qe rfl rfl rfl (by first | assumption | exact Enc.len _ | rfl) (by first | assumption | exact Enc.len _ | rfl) rfl ?_) | (refine QG ?_; refine QD (fun _ _ => ?_)))) | (refine Qv ?_; (first | refine Qu ?_ | refine QY rfl ?_ | refine Q1 ?_)) | (refine Qs ?_; (first | refine Qw ?_ | refine Qc ?_ | refine Qm ?_ | refine QR ?_ | refine Qr rfl (by omega) ?_)))
   rename_i g' hg'
   refine ⟨j + 1, g', ⟨by omega, by omega⟩, by omega, ?_⟩
   rw [e1, e2]
   exact zal rfl
  ·have hje : j = ks.length := by omega
   subst hje
   rw [List.take_length] at *
   (repeat' first | (refine Qo ?_; (first | (refine Qj ?_; refine QU rfl ?_) | (refine Ql ?_; refine Qf rfl rfl rfl ?_) | (refine Qh ?_; refine Wh rfl rfl ?_) | (refine Qb ?_; refine Qg rfl rfl ?_) | (refine Qy ?_; refine Qt rfl rfl ?_))) | (refine Qv ?_; (first | refine Qu ?_ | refine QY rfl ?_)) | (refine Qs ?_; (first | refine Qw ?_ | refine Qc ?_ | refine Qn rfl (by omega) ?_ | refine WI rfl ?_)))
   refine r_cond rfl (fun hb => ?_) (fun hb => ?_)
   ·have hb2 : (Q4 m ks.length (-1) && Zm n && ks.all qV) = false := by rw [<- hb0] at hb; revert hb; cases Q4 m ks.length (-1) <;> cases Zm n <;> simp
    (repeat' first | (refine Qo ?_; (refine Qd ?_; refine Q5 rfl ?_)) | (refine Qv ?_; (first | refine Qu ?_ | refine QY rfl ?_)) | (refine Qs ?_; (first | refine Qw ?_ | refine Qc ?_ | refine QM ?_)))
    refine e_1 Tryz.results18 (QQ rfl) (Q2 ?_)
    rw [if_pos rfl, hb2]; rfl
   ·have hb2 : (Q4 m ks.length (-1) && Zm n && ks.all qV) = true := by rw [<- hb0] at hb; revert hb; cases Q4 m ks.length (-1) <;> cases Zm n <;> simp
    have hne : hd ++ (ks.map funT).flatten ≠ [] := by rw [<- hhd]; simp [Z6]
    have hlim : (hd ++ (ks.map funT).flatten).length <= 9223372036854775807 := by rw [List.length_append]; omega
    (repeat' first | (refine Qo ?_; (first | (refine Qj ?_; refine QU rfl ?_) | (refine Qd ?_; refine Q5 rfl ?_) | (refine Qk ?_; refine s_call_str (k0 := 1) (k1 := 2) rfl rfl rfl rfl hne hlim rfl ?_) | (refine Qb ?_; refine Qg rfl rfl ?_) | (refine Qy ?_; refine Qt rfl rfl ?_))) | (refine Qv ?_; (first | refine Qu ?_ | refine QY rfl ?_)) | (refine Qs ?_; (first | refine Qw ?_ | refine Qc ?_ | refine QR ?_ | refine QM ?_)))
    refine e_1 Tryz.results18 (QQ rfl) (Q2 ?_)
    rw [if_pos rfl, if_pos rfl, hhd2, if_pos hb2]
 by_cases k26 : k = 26
 ·subst k26
  have hlx := funT_len _ hok hsz
  refine Qa Tryz.func18 rfl Tryz.ntmps18 rfl (t := [(0, .agg [.i _, .i n, .i m, Wi ks])]) rfl fun E hE => ?_
  (repeat' first | (refine Qo ?_; (first | (refine Qj ?_; refine QU rfl ?_) | (refine Qd ?_; refine Q5 rfl ?_) | (refine Ql ?_; (first | refine Qi rfl rfl (by first | assumption | exact Enc.len _ | rfl) ?_ | refine Qf rfl rfl rfl ?_)) | (refine Qh ?_; refine Wc rfl rfl ?_) | (refine Qk ?_; refine s_pm 1 2 (hfun _ _ (by first | assumption | omega | (simp only [List.length_append, Wq, List.length_cons, List.length_nil]; omega))) rfl rfl rfl rfl rfl rfl (fun _ => rfl) (fun _ _ => ?_)) | (refine Wx ?_; (first | refine s_box_bld rfl (fun _ _ _ _ => ?_) | refine Ww rfl rfl (fun _ _ => ?_))) | (refine Qb ?_; refine Qg rfl rfl ?_) | (refine QS ?_; refine QC rfl rfl ?_) | (refine Qy ?_; refine Qt rfl rfl ?_))) | (refine Qv ?_; (first | refine Qu ?_ | refine QY rfl ?_)) | (refine Qs ?_; (first | refine Qw ?_ | refine Qc ?_ | refine Qm ?_ | refine QB rfl ?_ | refine QH rfl ?_)))
  refine r_cond rfl (fun hb => ?_) (fun hb => ?_)
  ·have hb2 : qV (.mk 26 n m ks) = false := by simpa using hb
   (repeat' first | (refine Qo ?_; (refine Qd ?_; refine Q5 rfl ?_)) | (refine Qv ?_; (first | refine Qu ?_ | refine QY rfl ?_)) | (refine Qs ?_; (first | refine Qw ?_ | refine Qc ?_ | refine QM ?_)))
   refine e_1 Tryz.results18 (QQ rfl) (Q2 ?_)
   simp [hb2, *]
  ·have hb2 : qV (.mk 26 n m ks) = true := by simpa using hb
   have hne : ([] ++ funT (.mk 26 n m ks)) ≠ [] := by have := hpne (by simp [hb2, *]); simpa [*] using this
   have hlim : (([] ++ funT (.mk 26 n m ks))).length <= 9223372036854775807 := by have hll := hlx; simp only [List.length_append, List.length_nil, List.length_cons, Wq]; omega
   (repeat' first | (refine Qo ?_; (first | (refine Qj ?_; refine QU rfl ?_) | (refine Qd ?_; refine Q5 rfl ?_) | (refine Qk ?_; refine s_call_str (k0 := 1) (k1 := 2) rfl rfl rfl rfl hne hlim rfl ?_) | (refine Qb ?_; refine Qg rfl rfl ?_) | (refine Qy ?_; refine Qt rfl rfl ?_))) | (refine Qv ?_; (first | refine Qu ?_ | refine QY rfl ?_)) | (refine Qs ?_; (first | refine Qw ?_ | refine Qc ?_ | refine QR ?_ | refine QM ?_)))
   refine e_1 Tryz.results18 (QQ rfl) (Q2 ?_)
   simp [hb2, *]
 by_cases kt : 0 <= k /\ k <= 3
 ·obtain ⟨kt0, kt3⟩ := kt
  have hlx := typT_len _ hok
  refine Qa Tryz.func18 rfl Tryz.ntmps18 rfl (t := [(0, .agg [.i k, .i n, .i m, Wi ks])]) rfl fun E hE => ?_
  (repeat' first | (refine Qo ?_; (first | (refine Qj ?_; refine QU rfl ?_) | (refine Qd ?_; refine Q5 rfl ?_) | (refine Ql ?_; refine Qf rfl rfl rfl ?_) | (refine Qh ?_; (first | refine W3 rfl rfl ?_ | refine Zu rfl rfl ?_ | refine Wc rfl rfl ?_)) | (refine Qk ?_; (first | refine Zk 1 2 (htyp _ _) rfl rfl rfl rfl rfl rfl ?_ | refine s_pm 1 2 (write_c _ (by first | assumption | omega | (simp only [List.length_append, List.length_cons, List.length_nil]; omega))) rfl rfl rfl rfl rfl rfl (fun _ => rfl) (fun _ _ => ?_))) | (refine QJ ?_; refine Ze rfl rfl ?_) | (refine Wx ?_; (first | refine s_box_bld rfl (fun _ _ _ _ => ?_) | refine Ww rfl rfl (fun _ _ => ?_))) | (refine Qb ?_; refine Qg rfl rfl ?_) | (refine QS ?_; refine QC rfl rfl ?_) | (refine Qy ?_; refine Qt rfl rfl ?_))) | (refine Qv ?_; (first | refine Qu ?_ | refine QY rfl ?_ | refine WX rfl rfl rfl rfl ?_ | refine Wv rfl rfl (by omega) ?_)) | (refine Qs ?_; (first | refine Qw ?_ | refine Qc ?_ | refine Qm ?_ | (refine WJ ?_; first | (refine Qq (pfx4 _ _) 100 [(0, true), (1, true), (2, true), (3, true), (4, true), (5, false), (6, false)] (by rfl) (by rfl) (by kernel_rfl) (by decide +kernel) (by decide +kernel) ⟨(_, _, _, _), rfl⟩ ?_) | refine Ws (by rfl) (by kernel_rfl) (by kernel_rfl) ?_ | refine Wr (by kernel_rfl) (by kernel_rfl) ?_) | refine Qr rfl (by omega) ?_ | refine Qn rfl (by omega) ?_)) | (refine W8 ?_; (first | refine ZH ?_ | refine i_st rfl rfl (fun _ => (by (repeat' first | (refine Qo ?_; (first | (refine Qj ?_; refine QU rfl ?_) | (refine Ql ?_; refine Qi rfl rfl (by first | assumption | exact Enc.len _ | rfl) ?_) | (refine Qb ?_; refine Qg rfl rfl ?_) | (refine Qy ?_; refine Qt rfl rfl ?_))) | exact ⟨rfl, rfl⟩))) ?_ | refine i_ef rfl ?_)) | refine And.intro (Exists.intro ((_, _, _, _)) rfl) ?_)
  refine r_cond rfl (fun hb => ?_) (fun hb => ?_)
  ·have hb2 : typOk (.mk k n m ks) = false := by simpa using hb
   (repeat' first | (refine Qo ?_; (refine Qd ?_; refine Q5 rfl ?_)) | (refine Qv ?_; (first | refine Qu ?_ | refine QY rfl ?_)) | (refine Qs ?_; (first | refine Qw ?_ | refine Qc ?_ | refine QM ?_)))
   refine e_1 Tryz.results18 (QQ rfl) (Q2 ?_)
   simp [hb2, *]
  ·have hb2 : typOk (.mk k n m ks) = true := by simpa using hb
   have hne : ([] ++ typT (.mk k n m ks)) ≠ [] := by have := hpne (by simp [hb2, *]); simpa [*] using this
   have hlim : (([] ++ typT (.mk k n m ks))).length <= 9223372036854775807 := by have hll := hlx; simp only [List.length_append, List.length_nil, List.length_cons, Wq]; omega
   (repeat' first | (refine Qo ?_; (first | (refine Qj ?_; refine QU rfl ?_) | (refine Qd ?_; refine Q5 rfl ?_) | (refine Qk ?_; refine s_call_str (k0 := 1) (k1 := 2) rfl rfl rfl rfl hne hlim rfl ?_) | (refine Qb ?_; refine Qg rfl rfl ?_) | (refine Qy ?_; refine Qt rfl rfl ?_))) | (refine Qv ?_; (first | refine Qu ?_ | refine QY rfl ?_)) | (refine Qs ?_; (first | refine Qw ?_ | refine Qc ?_ | refine QR ?_ | refine QM ?_)))
   refine e_1 Tryz.results18 (QQ rfl) (Q2 ?_)
   simp [hb2, *]
 by_cases ke : 4 <= k /\ k <= 12
 ·obtain ⟨ke0, ke3⟩ := ke
  have hlx := exT_len _ hok
  refine Qa Tryz.func18 rfl Tryz.ntmps18 rfl (t := [(0, .agg [.i k, .i n, .i m, Wi ks])]) rfl fun E hE => ?_
  (repeat' first | (refine Qo ?_; (first | (refine Qj ?_; refine QU rfl ?_) | (refine Qd ?_; refine Q5 rfl ?_) | (refine Ql ?_; refine Qf rfl rfl rfl ?_) | (refine Qh ?_; (first | refine W3 rfl rfl ?_ | refine Zu rfl rfl ?_ | refine Wc rfl rfl ?_)) | (refine Qk ?_; (first | refine Zk 1 2 (hex _ _) rfl rfl rfl rfl rfl rfl ?_ | refine s_pm 1 2 (write_c _ (by first | assumption | omega | (simp only [List.length_append, List.length_cons, List.length_nil]; omega))) rfl rfl rfl rfl rfl rfl (fun _ => rfl) (fun _ _ => ?_))) | (refine QJ ?_; refine Ze rfl rfl ?_) | (refine Wx ?_; (first | refine s_box_bld rfl (fun _ _ _ _ => ?_) | refine Ww rfl rfl (fun _ _ => ?_))) | (refine Qb ?_; refine Qg rfl rfl ?_) | (refine QS ?_; refine QC rfl rfl ?_) | (refine Qy ?_; refine Qt rfl rfl ?_))) | (refine Qv ?_; (first | refine Qu ?_ | refine QY rfl ?_ | refine WX rfl rfl rfl rfl ?_ | refine Wv rfl rfl (by omega) ?_)) | (refine Qs ?_; (first | refine Qw ?_ | refine Qc ?_ | refine Qm ?_ | (refine WJ ?_; first | (refine Qq (pfx4 _ _) 100 [(0, true), (1, true), (2, true), (3, true), (4, true), (5, false), (6, false)] (by rfl) (by rfl) (by kernel_rfl) (by decide +kernel) (by decide +kernel) ⟨(_, _, _, _), rfl⟩ ?_) | refine Ws (by rfl) (by kernel_rfl) (by kernel_rfl) ?_ | refine Wr (by kernel_rfl) (by kernel_rfl) ?_) | refine Qr rfl (by omega) ?_ | refine Qn rfl (by omega) ?_)) | (refine W8 ?_; (first | refine ZH ?_ | refine i_st rfl rfl (fun _ => (by (repeat' first | (refine Qo ?_; (first | (refine Qj ?_; refine QU rfl ?_) | (refine Ql ?_; refine Qi rfl rfl (by first | assumption | exact Enc.len _ | rfl) ?_) | (refine Qb ?_; refine Qg rfl rfl ?_) | (refine Qy ?_; refine Qt rfl rfl ?_))) | exact ⟨rfl, rfl⟩))) ?_ | refine i_ef rfl ?_)) | refine And.intro (Exists.intro ((_, _, _, _)) rfl) ?_)
  refine r_cond rfl (fun hb => ?_) (fun hb => ?_)
  ·have hb2 : qn (.mk k n m ks) = false := by simpa using hb
   (repeat' first | (refine Qo ?_; (refine Qd ?_; refine Q5 rfl ?_)) | (refine Qv ?_; (first | refine Qu ?_ | refine QY rfl ?_)) | (refine Qs ?_; (first | refine Qw ?_ | refine Qc ?_ | refine QM ?_)))
   refine e_1 Tryz.results18 (QQ rfl) (Q2 ?_)
   simp [hb2, *]
  ·have hb2 : qn (.mk k n m ks) = true := by simpa using hb
   have hne : ([] ++ exT (.mk k n m ks)) ≠ [] := by have := hpne (by simp [hb2, *]); simpa [*] using this
   have hlim : (([] ++ exT (.mk k n m ks))).length <= 9223372036854775807 := by have hll := hlx; simp only [List.length_append, List.length_nil, List.length_cons, Wq]; omega
   (repeat' first | (refine Qo ?_; (first | (refine Qj ?_; refine QU rfl ?_) | (refine Qd ?_; refine Q5 rfl ?_) | (refine Qk ?_; refine s_call_str (k0 := 1) (k1 := 2) rfl rfl rfl rfl hne hlim rfl ?_) | (refine Qb ?_; refine Qg rfl rfl ?_) | (refine Qy ?_; refine Qt rfl rfl ?_))) | (refine Qv ?_; (first | refine Qu ?_ | refine QY rfl ?_)) | (refine Qs ?_; (first | refine Qw ?_ | refine Qc ?_ | refine QR ?_ | refine QM ?_)))
   refine e_1 Tryz.results18 (QQ rfl) (Q2 ?_)
   simp [hb2, *]
 ·have hlx := (st_lenX hok (i := 0) (by omega)).1
  have hst0 : ∀ (o : List UInt8) (b : Bool), o.length + 7000000 * QI (.mk k n m ks) <= 140737470000000 -> PM Tryz.prog G 49 (fun p g => [.ptr p g 0, .i 0, .agg [.i k, .i n, .i m, Wi ks]]) o b (.tup []) (o ++ stT (.mk k n m ks) 0) (b || !stOk (.mk k n m ks)) := fun o b h => by
   have := hstm 0 o b (by omega) h
   rwa [Q3] at this
  clear hstm
  by_cases kn : 0 <= k
  ·have k13 : 13 <= k := by omega
   have k3n : ¬ k <= 3 := by omega
   have k12n : ¬ k <= 12 := by omega
   refine Qa Tryz.func18 rfl Tryz.ntmps18 rfl (t := [(0, .agg [.i k, .i n, .i m, Wi ks])]) rfl fun E hE => ?_
   (repeat' first | (refine Qo ?_; (first | (refine Qj ?_; refine QU rfl ?_) | (refine Qd ?_; refine Q5 rfl ?_) | (refine Ql ?_; (first | refine Qi rfl rfl (by first | assumption | exact Enc.len _ | rfl) ?_ | refine Qf rfl rfl rfl ?_)) | (refine Qh ?_; (first | refine W3 rfl rfl ?_ | refine Zu rfl rfl ?_ | refine Wc rfl rfl ?_)) | (refine Qk ?_; refine s_pm 1 2 (hst0 _ _ (by first | assumption | omega | (simp only [List.length_append, Wq, List.length_cons, List.length_nil]; omega))) rfl rfl rfl rfl rfl rfl (fun _ => rfl) (fun _ _ => ?_)) | (refine QJ ?_; refine Ze rfl rfl ?_) | (refine Wx ?_; (first | refine s_box_bld rfl (fun _ _ _ _ => ?_) | refine Ww rfl rfl (fun _ _ => ?_))) | (refine Qb ?_; refine Qg rfl rfl ?_) | (refine QS ?_; refine QC rfl rfl ?_) | (refine Qy ?_; refine Qt rfl rfl ?_))) | (refine Qv ?_; (first | refine Qu ?_ | refine QY rfl ?_ | refine WX rfl rfl rfl rfl ?_ | refine Wv rfl rfl (by omega) ?_)) | (refine Qs ?_; (first | refine Qw ?_ | refine Qc ?_ | refine Qm ?_ | refine Qn rfl (by omega) ?_)))
   refine r_cond rfl (fun hb => ?_) (fun hb => ?_)
   ·have hb2 : stOk (.mk k n m ks) = false := by simpa using hb
    (repeat' first | (refine Qo ?_; (refine Qd ?_; refine Q5 rfl ?_)) | (refine Qv ?_; (first | refine Qu ?_ | refine QY rfl ?_)) | (refine Qs ?_; (first | refine Qw ?_ | refine Qc ?_ | refine QM ?_)))
    refine e_1 Tryz.results18 (QQ rfl) (Q2 ?_)
    simp [hb2, *]
   ·have hb2 : stOk (.mk k n m ks) = true := by simpa using hb
    have hne : ([] ++ stT (.mk k n m ks) 0) ≠ [] := by have := hpne (by simp [hb2, *]); simpa [*] using this
    have hlim : (([] ++ stT (.mk k n m ks) 0)).length <= 9223372036854775807 := by have hll := hlx; simp only [List.length_append, List.length_nil, List.length_cons, Wq]; omega
    (repeat' first | (refine Qo ?_; (first | (refine Qj ?_; refine QU rfl ?_) | (refine Qd ?_; refine Q5 rfl ?_) | (refine Qk ?_; refine s_call_str (k0 := 1) (k1 := 2) rfl rfl rfl rfl hne hlim rfl ?_) | (refine Qb ?_; refine Qg rfl rfl ?_) | (refine Qy ?_; refine Qt rfl rfl ?_))) | (refine Qv ?_; (first | refine Qu ?_ | refine QY rfl ?_)) | (refine Qs ?_; (first | refine Qw ?_ | refine Qc ?_ | refine QR ?_ | refine QM ?_)))
    refine e_1 Tryz.results18 (QQ rfl) (Q2 ?_)
    simp [hb2, *]
  ·refine Qa Tryz.func18 rfl Tryz.ntmps18 rfl (t := [(0, .agg [.i k, .i n, .i m, Wi ks])]) rfl fun E hE => ?_
   (repeat' first | (refine Qo ?_; (first | (refine Qj ?_; refine QU rfl ?_) | (refine Qd ?_; refine Q5 rfl ?_) | (refine Ql ?_; (first | refine Qi rfl rfl (by first | assumption | exact Enc.len _ | rfl) ?_ | refine Qf rfl rfl rfl ?_)) | (refine Qh ?_; (first | refine Zu rfl rfl ?_ | refine Wc rfl rfl ?_)) | (refine Qk ?_; refine s_pm 1 2 (hst0 _ _ (by first | assumption | omega | (simp only [List.length_append, Wq, List.length_cons, List.length_nil]; omega))) rfl rfl rfl rfl rfl rfl (fun _ => rfl) (fun _ _ => ?_)) | (refine QJ ?_; refine WZ rfl rfl ?_) | (refine Wx ?_; (first | refine s_box_bld rfl (fun _ _ _ _ => ?_) | refine Ww rfl rfl (fun _ _ => ?_))) | (refine Qb ?_; refine Qg rfl rfl ?_) | (refine QS ?_; refine QC rfl rfl ?_) | (refine Qy ?_; refine Qt rfl rfl ?_))) | (refine Qv ?_; (first | refine Qu ?_ | refine QY rfl ?_ | refine Zl rfl rfl rfl rfl ?_ | refine We rfl rfl (by omega) ?_)) | (refine Qs ?_; (first | refine Qw ?_ | refine Qc ?_ | refine Qm ?_ | refine QH rfl ?_ | refine Qn rfl (by omega) ?_)))
   refine r_cond rfl (fun hb => ?_) (fun hb => ?_)
   ·have hb2 : stOk (.mk k n m ks) = false := by simpa using hb
    (repeat' first | (refine Qo ?_; (refine Qd ?_; refine Q5 rfl ?_)) | (refine Qv ?_; (first | refine Qu ?_ | refine QY rfl ?_)) | (refine Qs ?_; (first | refine Qw ?_ | refine Qc ?_ | refine QM ?_)))
    refine e_1 Tryz.results18 (QQ rfl) (Q2 ?_)
    simp [hb2, *]
   ·have hb2 : stOk (.mk k n m ks) = true := by simpa using hb
    have hne : ([] ++ stT (.mk k n m ks) 0) ≠ [] := by have := hpne (by simp [hb2, *]); simpa [*] using this
    have hlim : (([] ++ stT (.mk k n m ks) 0)).length <= 9223372036854775807 := by have hll := hlx; simp only [List.length_append, List.length_nil, List.length_cons, Wq]; omega
    (repeat' first | (refine Qo ?_; (first | (refine Qj ?_; refine QU rfl ?_) | (refine Qd ?_; refine Q5 rfl ?_) | (refine Qk ?_; refine s_call_str (k0 := 1) (k1 := 2) rfl rfl rfl rfl hne hlim rfl ?_) | (refine Qb ?_; refine Qg rfl rfl ?_) | (refine Qy ?_; refine Qt rfl rfl ?_))) | (refine Qv ?_; (first | refine Qu ?_ | refine QY rfl ?_)) | (refine Qs ?_; (first | refine Qw ?_ | refine Qc ?_ | refine QR ?_ | refine QM ?_)))
    refine e_1 Tryz.results18 (QQ rfl) (Q2 ?_)
    simp [hb2, *]
end Go.Proofs
end
