/-
  Part 7 of the proof: VS VT VU VV U2 U3 U4 AvT U5 U6 U7 U8 XB.
-/
import Derived.Test.YtnppaoeijmgneaaGreatDoorZF0
import Derived.Test.YtnppaoeijmgneaaGreatDoorZF1
import Derived.Test.YtnppaoeijmgneaaGreatDoorZF2
import Derived.Test.YtnppaoeijmgneaaGreatDoorZF3
import Derived.Test.YtnppaoeijmgneaaGreatDoorZF4
import Derived.Test.YtnppaoeijmgneaaGreatDoorZF5
import Derived.Test.YtnppaoeijmgneaaGreatDoorZF6
set_option linter.unusedSimpArgs false
set_option linter.unusedVariables false
set_option maxRecDepth 10000
set_option maxHeartbeats 4000000
section
namespace Go.Proofs
open Go.Av
variable {G : Nat -> DV}
attribute [local irreducible] OpSem WR Zc Zp ACalls ZS AClose RV
open Go.Bl
def blkR (k n m : Int) (ks : List Nd) : Bool := if k = 13 then Zl n m ks.length 0 0 0 8 && ks.all (Qp · 5) else false
theorem fits6_blk (k n m : Int) (ks : List Nd) : Qp (.mk k n m ks) 6 = blkR k n m ks := by
 rw [Qp]
 by_cases h0 : 0 <= k /\ k < 28
 ·rw [if_pos h0]
  obtain ⟨a, rfl⟩ := Int.eq_ofNat_of_zero_le h0.1
  have : a = 0 \/ a = 1 \/ a = 2 \/ a = 3 \/ a = 4 \/ a = 5 \/ a = 6 \/ a = 7 \/ a = 8 \/ a = 9 \/ a = 10 \/ a = 11 \/ a = 12 \/ a = 13 \/ a = 14 \/ a = 15 \/ a = 16 \/ a = 17 \/ a = 18 \/ a = 19 \/ a = 20 \/ a = 21 \/ a = 22 \/ a = 23 \/ a = 24 \/ a = 25 \/ a = 26 \/ a = 27 := by omega
  clear h0
  rcases this with rfl|rfl|rfl|rfl|rfl|rfl|rfl|rfl|rfl|rfl|rfl|rfl|rfl|rfl|rfl|rfl|rfl|rfl|rfl|rfl|rfl|rfl|rfl|rfl|rfl|rfl|rfl|rfl
  ·rfl
  ·rfl
  ·rfl
  ·rfl
  ·rfl
  ·rfl
  ·rfl
  ·rfl
  ·rfl
  ·rfl
  ·rfl
  ·rfl
  ·rfl
  ·show (isB ⟨6, 0, 0, 0, [], 8, 0, 5⟩ 6 && ZD ⟨6, 0, 0, 0, [], 8, 0, 5⟩ n m && (Zf ⟨6, 0, 0, 0, [], 8, 0, 5⟩ ks.length && Zd ⟨6, 0, 0, 0, [], 8, 0, 5⟩ (Zk ks))) = (Zl n m ks.length 0 0 0 8 && ks.all (Qp · 5))
   rw [kidsR_all ⟨6, 0, 0, 0, [], 8, 0, 5⟩ 5 ks (fun i hi => by simp [qu])]
   generalize ks.all (Qp · 5) = al
   generalize ks.length = len
   rw [Bool.eq_iff_iff];cases al <;> simp [isB, ZD, Zf, Zl] <;> omega
  ·rfl
  ·rfl
  ·rfl
  ·rfl
  ·rfl
  ·rfl
  ·rfl
  ·rfl
  ·rfl
  ·rfl
  ·rfl
  ·rfl
  ·rfl
  ·rfl
 ·rw [if_neg h0, blkR, if_neg (by omega)]
theorem fits5_blk (k n m : Int) (ks : List Nd) (hk : k = 13) : Qp (.mk k n m ks) 5 = blkR k n m ks := by
 subst hk
 rw [Qp]
 show (isB ⟨6, 0, 0, 0, [], 8, 0, 5⟩ 5 && ZD ⟨6, 0, 0, 0, [], 8, 0, 5⟩ n m && (Zf ⟨6, 0, 0, 0, [], 8, 0, 5⟩ ks.length && Zd ⟨6, 0, 0, 0, [], 8, 0, 5⟩ (Zk ks))) = (Zl n m ks.length 0 0 0 8 && ks.all (Qp · 5))
 rw [kidsR_all ⟨6, 0, 0, 0, [], 8, 0, 5⟩ 5 ks (fun i hi => by simp [qu])]
 generalize ks.all (Qp · 5) = al
 generalize ks.length = len
 rw [Bool.eq_iff_iff];cases al <;> simp [isB, ZD, Zf, Zl] <;> omega
theorem wkVS {X W0 W1 W2 : Prop} (w0 : W0 := by exact True.intro) (w1 : W1 := by exact True.intro) (w2 : W2 := by exact True.intro) (s : (Unit -> W0) -> (Unit -> W1) -> (Unit -> W2) -> Unit -> X := by (intro w0 w1 w2 _;(repeat' first|(refine Qz ?_;(first|refine Ws rfl ?_|refine WM rfl ?_|(refine QN ?_;(first|refine Z4 rfl rfl ?_|refine Q0 rfl ?_|refine Qc rfl rfl rfl ?_))|refine Qq rfl rfl (by first|assumption|omega|(simp;done)|(simp;omega)) ?_|(refine Qw ?_;(first|refine Zw rfl rfl ?_|refine s_neq rfl rfl ?_|refine ZU rfl rfl (by omega) ?_))|(refine QK ?_;(first|refine Qv rfl ?_|refine WA rfl rfl (hpl) ?_|refine WA rfl rfl (hbt) ?_))|(refine Q1 ?_;(first|refine ZO rfl rfl ?_|refine W9 rfl rfl ?_))|refine qK rfl ?_|refine Qe rfl rfl ?_|refine ZC rfl rfl (fun _ _ => ?_)))|(refine We ?_;(first|refine Wb ?_|refine Zg rfl ?_|refine qd rfl rfl rfl rfl ?_|refine qw rfl rfl rfl rfl ?_|refine WN rfl rfl (by omega) ?_|refine WD rfl rfl (by omega) ?_))|(refine Wc ?_;(first|refine Q7 ?_|refine Qm ?_|refine QM ?_|refine QV ?_|refine QD rfl ?_|refine QR rfl ?_|refine Qu rfl (by omega) ?_|refine Qn rfl (by omega) ?_|refine W8 rfl ?_|refine Wi ?_)));all_goals (repeat (rename_i x;(fail_if_success have : Unit := x);revert x));(first|done|exact w0 ());(first|done|exact w1 ());(first|done|exact w2 ()))) (u : (W0 \/ True) /\ (W1 \/ True) /\ (W2 \/ True) := by (refine ⟨?_, ?_, ?_⟩ <;> first|exact Or.inl True.intro|exact Or.inr True.intro)) : X := s (fun _ => w0) (fun _ => w1) (fun _ => w2) ()
theorem block0_c (k n m : Int) (ks : List Nd) (hl : ks.length <= 1000000) (h : ∀ i (hi : i < ks.length), Go.Av.Pure Tryz.prog G 185 [.agg (Enc.enc ks[i])] (.b (Qp ks[i] 5))) : Go.Av.Pure Tryz.prog G 156 [.agg [.i k, .i n, .i m, Qo ks]] (.b (blkR k n m ks)) := fun B => by
 have hbt := between_c (G := G) k n m ks hl 0 0 0 8
 unfold blkR
 by_cases k13 : k = 13
 ·rw [if_pos k13]
  cases hb : Zl n m ks.length 0 0 0 8
  ·rw [hb] at hbt
   clear h
   have hpl := trivial
   refine Qa Tryz.func156 rfl Tryz.ntmps156 rfl (t := [(0, .agg [.i k, .i n, .i m, Qo ks])]) rfl fun E hE => ?_
   (refine wkVS ?_;intros)
   all_goals exact e_1 (Tryz.results156) (Qb rfl) (Qd (by simp))
  rw [hb] at hbt
  rw [Bool.true_and]
  refine Qa Tryz.func156 rfl Tryz.ntmps156 rfl (t := [(0, .agg [.i k, .i n, .i m, Qo ks])]) rfl fun E hE => ?_
  have hpl := trivial
  (refine wkVS ?_;intros)
  rename_i g1 hg1
  clear hbt
  have hbt := trivial
  refine WY (fun i : Nat => ⟨[(1, .ptr 0 g1 0), (3, .i i)], [.row g1 [.i k, .i n, .i m, Qo ks]]⟩) (fun i => i <= ks.length /\ (ks.take i).all (Qp · 5) = true) (fun i => ks.length - i) 0 ?_ ⟨by omega, by simp⟩ ?_
  ·exact zal rfl
  intro i ⟨hi, ha⟩
  by_cases hil : i < ks.length
  ·have hpl := h i hil
   clear h
   cases hb5 : Qp ks[i] 5
   ·rw [hb5] at hpl
    have hf : ks.all (Qp · 5) = false := by
     rw [Bool.eq_false_iff];intro hc
     rw [List.all_eq_true] at hc
     exact absurd (hc _ (List.getElem_mem hil)) (by rw [hb5];simp)
    rw [hf]
    (refine wkVS ?_;intros)
    all_goals exact e_1 (Tryz.results156) (Qb rfl) (Qd rfl)
   ·rw [hb5] at hpl
    have ht := all_take hil (Qp · 5)
    (refine wkVS ?_;intros)
    refine ⟨i + 1, ⟨by omega, by rw [ht, ha, hb5];rfl⟩, by omega, ?_⟩
    exact zal rfl
  ·have hie : i = ks.length := by omega
   subst hie
   rw [List.take_length] at ha
   rw [ha]
   clear h
   (refine wkVS ?_;intros)
   all_goals exact e_1 (Tryz.results156) (Qb rfl) (Qd rfl)
 ·rw [if_neg k13]
  clear h hbt
  have hbt := trivial
  have hpl := trivial
  refine Qa Tryz.func156 rfl Tryz.ntmps156 rfl (t := [(0, .agg [.i k, .i n, .i m, Qo ks])]) rfl fun E hE => ?_
  (refine wkVS ?_;intros)
  all_goals exact e_1 (Tryz.results156) (Qb rfl) (Qd rfl)
def atB (ks : List Nd) (i : Nat) (w : Int) : Bool := Qp (ks.getD i (.mk 0 0 0 [])) w
def stR (k n m : Int) (ks : List Nd) : Bool := if k = 13 then blkR k n m ks else if k = 17 then (Zl n m ks.length 0 0 3 3 && (atB ks 0 4 && atB ks 1 6 && atB ks 2 6)) else if k = 18 then (Zl n m ks.length 0 0 2 2 && (atB ks 0 4 && atB ks 1 6)) else if k = 21 then (Zl n m ks.length 5 0 2 2 && (atB ks 0 6 && atB ks 1 6)) else if k = 14 then (Zl n m ks.length 5 0 1 1 && ks.all (Qp · 4)) else if k = 15 then (Zl n m ks.length 5 0 2 2 && ks.all (Qp · 4)) else if k = 16 then (Zl n m ks.length 5 2 1 1 && ks.all (Qp · 4)) else if k = 19 then (Zl n m ks.length 0 0 1 1 && ks.all (Qp · 4)) else if k = 20 then (Zl n m ks.length 0 0 1 1 && ks.all (Qp · 4)) else if k = 24 then (Zl n m ks.length 0 0 1 1 && ks.all (Qp · 4)) else if k = 22 then (Zl n m ks.length 2 0 1 1 && ks.all (Qp · 4)) else if k = 23 then (Zl n m ks.length 5 0 0 3 && ks.all (Qp · 4)) else if k = 25 then Zl n m ks.length 0 0 0 0 else false
theorem fits5 (k n m : Int) (ks : List Nd) : Qp (.mk k n m ks) 5 = stR k n m ks := by
 by_cases k13 : k = 13
 ·rw [fits5_blk k n m ks k13, stR, if_pos k13]
 rw [Qp]
 by_cases h0 : 0 <= k /\ k < 28
 ·rw [if_pos h0]
  obtain ⟨a, rfl⟩ := Int.eq_ofNat_of_zero_le h0.1
  have : a = 0 \/ a = 1 \/ a = 2 \/ a = 3 \/ a = 4 \/ a = 5 \/ a = 6 \/ a = 7 \/ a = 8 \/ a = 9 \/ a = 10 \/ a = 11 \/ a = 12 \/ a = 13 \/ a = 14 \/ a = 15 \/ a = 16 \/ a = 17 \/ a = 18 \/ a = 19 \/ a = 20 \/ a = 21 \/ a = 22 \/ a = 23 \/ a = 24 \/ a = 25 \/ a = 26 \/ a = 27 := by omega
  have key : ∀ s : Sh, (Zf s ks.length = true -> ∀ i < ks.length, qu s i = 4) -> (Zf s ks.length && Zd s (Zk ks)) = (Zf s ks.length && ks.all (Qp · 4)) := by
   intro s hs
   cases hc : Zf s ks.length
   ·rfl
   ·rw [kidsR_all s 4 ks (hs hc)]
  clear h0
  rcases this with rfl|rfl|rfl|rfl|rfl|rfl|rfl|rfl|rfl|rfl|rfl|rfl|rfl|rfl|rfl|rfl|rfl|rfl|rfl|rfl|rfl|rfl|rfl|rfl|rfl|rfl|rfl|rfl
  ·rfl
  ·rfl
  ·rfl
  ·rfl
  ·rfl
  ·rfl
  ·rfl
  ·rfl
  ·rfl
  ·rfl
  ·rfl
  ·rfl
  ·rfl
  ·exact absurd rfl k13
  ·show (isB ⟨5, 0, 5, 0, [4], 0, 0, 0⟩ 5 && ZD ⟨5, 0, 5, 0, [4], 0, 0, 0⟩ n m && (Zf ⟨5, 0, 5, 0, [4], 0, 0, 0⟩ ks.length && Zd ⟨5, 0, 5, 0, [4], 0, 0, 0⟩ (Zk ks))) = (Zl n m ks.length 5 0 1 1 && ks.all (Qp · 4))
   rw [key ⟨5, 0, 5, 0, [4], 0, 0, 0⟩ (by intro hc i hi;simp [Zf] at hc;(have : i = 0 := by omega);subst this;rfl)]
   generalize ks.all (Qp · 4) = al
   generalize ks.length = len
   rw [Bool.eq_iff_iff];cases al <;> simp [isB, ZD, Zf, Zl] <;> omega
  ·show (isB ⟨5, 0, 5, 0, [4, 4], 0, 0, 0⟩ 5 && ZD ⟨5, 0, 5, 0, [4, 4], 0, 0, 0⟩ n m && (Zf ⟨5, 0, 5, 0, [4, 4], 0, 0, 0⟩ ks.length && Zd ⟨5, 0, 5, 0, [4, 4], 0, 0, 0⟩ (Zk ks))) = (Zl n m ks.length 5 0 2 2 && ks.all (Qp · 4))
   rw [key ⟨5, 0, 5, 0, [4, 4], 0, 0, 0⟩ (by intro hc i hi;simp [Zf] at hc;(have : i = 0 \/ i = 1 := by omega);rcases this with rfl|rfl <;> rfl)]
   generalize ks.all (Qp · 4) = al
   generalize ks.length = len
   rw [Bool.eq_iff_iff];cases al <;> simp [isB, ZD, Zf, Zl] <;> omega
  ·show (isB ⟨5, 0, 5, 2, [4], 0, 0, 0⟩ 5 && ZD ⟨5, 0, 5, 2, [4], 0, 0, 0⟩ n m && (Zf ⟨5, 0, 5, 2, [4], 0, 0, 0⟩ ks.length && Zd ⟨5, 0, 5, 2, [4], 0, 0, 0⟩ (Zk ks))) = (Zl n m ks.length 5 2 1 1 && ks.all (Qp · 4))
   rw [key ⟨5, 0, 5, 2, [4], 0, 0, 0⟩ (by intro hc i hi;simp [Zf] at hc;(have : i = 0 := by omega);subst this;rfl)]
   generalize ks.all (Qp · 4) = al
   generalize ks.length = len
   rw [Bool.eq_iff_iff];cases al <;> simp [isB, ZD, Zf, Zl] <;> omega
  ·show (isB ⟨5, 0, 0, 0, [4, 6, 6], 0, 0, 0⟩ 5 && ZD ⟨5, 0, 0, 0, [4, 6, 6], 0, 0, 0⟩ n m && (Zf ⟨5, 0, 0, 0, [4, 6, 6], 0, 0, 0⟩ ks.length && Zd ⟨5, 0, 0, 0, [4, 6, 6], 0, 0, 0⟩ (Zk ks))) = (Zl n m ks.length 0 0 3 3 && (atB ks 0 4 && atB ks 1 6 && atB ks 2 6))
   by_cases hk : ks.length = 3
   ·obtain ⟨x, y, z, rfl⟩ : ∃ x y z, ks = [x, y, z] := by
     match ks, hk with
     | [x, y, z], _ => exact ⟨x, y, z, rfl⟩
    rw [show Zd ⟨5, 0, 0, 0, [4, 6, 6], 0, 0, 0⟩ (Zk [x, y, z]) = (Qp x 4 && Qp y 6 && Qp z 6) by simp [Zk, Zd, allI, qu, List.range, List.range.loop, Bool.and_assoc]]
    simp only [atB, List.getD_cons_zero, List.getD_cons_succ]
    generalize Qp x 4 = fx;generalize Qp y 6 = fy;generalize Qp z 6 = fz
    rw [Bool.eq_iff_iff];cases fx <;> cases fy <;> cases fz <;> simp [isB, ZD, Zf, Zl] <;> omega
   ·have h1 : Zf ⟨5, 0, 0, 0, [4, 6, 6], 0, 0, 0⟩ ks.length = false := by rw [Bool.eq_false_iff];intro hc;simp [Zf] at hc;omega
    have h2 : Zl n m ks.length 0 0 3 3 = false := by rw [Bool.eq_false_iff];intro hc;simp [Zl] at hc;omega
    rw [h1, h2];simp
  ·show (isB ⟨5, 0, 0, 0, [4, 6], 0, 0, 0⟩ 5 && ZD ⟨5, 0, 0, 0, [4, 6], 0, 0, 0⟩ n m && (Zf ⟨5, 0, 0, 0, [4, 6], 0, 0, 0⟩ ks.length && Zd ⟨5, 0, 0, 0, [4, 6], 0, 0, 0⟩ (Zk ks))) = (Zl n m ks.length 0 0 2 2 && (atB ks 0 4 && atB ks 1 6))
   by_cases hk : ks.length = 2
   ·obtain ⟨x, y, rfl⟩ : ∃ x y, ks = [x, y] := by
     match ks, hk with
     | [x, y], _ => exact ⟨x, y, rfl⟩
    rw [show Zd ⟨5, 0, 0, 0, [4, 6], 0, 0, 0⟩ (Zk [x, y]) = (Qp x 4 && Qp y 6) by simp [Zk, Zd, allI, qu, List.range, List.range.loop, Bool.and_assoc]]
    simp only [atB, List.getD_cons_zero, List.getD_cons_succ]
    generalize Qp x 4 = fx;generalize Qp y 6 = fy
    rw [Bool.eq_iff_iff];cases fx <;> cases fy <;> simp [isB, ZD, Zf, Zl] <;> omega
   ·have h1 : Zf ⟨5, 0, 0, 0, [4, 6], 0, 0, 0⟩ ks.length = false := by rw [Bool.eq_false_iff];intro hc;simp [Zf] at hc;omega
    have h2 : Zl n m ks.length 0 0 2 2 = false := by rw [Bool.eq_false_iff];intro hc;simp [Zl] at hc;omega
    rw [h1, h2];simp
  ·show (isB ⟨5, 0, 0, 0, [4], 0, 0, 0⟩ 5 && ZD ⟨5, 0, 0, 0, [4], 0, 0, 0⟩ n m && (Zf ⟨5, 0, 0, 0, [4], 0, 0, 0⟩ ks.length && Zd ⟨5, 0, 0, 0, [4], 0, 0, 0⟩ (Zk ks))) = (Zl n m ks.length 0 0 1 1 && ks.all (Qp · 4))
   rw [key ⟨5, 0, 0, 0, [4], 0, 0, 0⟩ (by intro hc i hi;simp [Zf] at hc;(have : i = 0 := by omega);subst this;rfl)]
   generalize ks.all (Qp · 4) = al
   generalize ks.length = len
   rw [Bool.eq_iff_iff];cases al <;> simp [isB, ZD, Zf, Zl] <;> omega
  ·show (isB ⟨5, 0, 0, 0, [4], 0, 0, 0⟩ 5 && ZD ⟨5, 0, 0, 0, [4], 0, 0, 0⟩ n m && (Zf ⟨5, 0, 0, 0, [4], 0, 0, 0⟩ ks.length && Zd ⟨5, 0, 0, 0, [4], 0, 0, 0⟩ (Zk ks))) = (Zl n m ks.length 0 0 1 1 && ks.all (Qp · 4))
   rw [key ⟨5, 0, 0, 0, [4], 0, 0, 0⟩ (by intro hc i hi;simp [Zf] at hc;(have : i = 0 := by omega);subst this;rfl)]
   generalize ks.all (Qp · 4) = al
   generalize ks.length = len
   rw [Bool.eq_iff_iff];cases al <;> simp [isB, ZD, Zf, Zl] <;> omega
  ·show (isB ⟨5, 0, 5, 0, [6, 6], 0, 0, 0⟩ 5 && ZD ⟨5, 0, 5, 0, [6, 6], 0, 0, 0⟩ n m && (Zf ⟨5, 0, 5, 0, [6, 6], 0, 0, 0⟩ ks.length && Zd ⟨5, 0, 5, 0, [6, 6], 0, 0, 0⟩ (Zk ks))) = (Zl n m ks.length 5 0 2 2 && (atB ks 0 6 && atB ks 1 6))
   by_cases hk : ks.length = 2
   ·obtain ⟨x, y, rfl⟩ : ∃ x y, ks = [x, y] := by
     match ks, hk with
     | [x, y], _ => exact ⟨x, y, rfl⟩
    rw [show Zd ⟨5, 0, 5, 0, [6, 6], 0, 0, 0⟩ (Zk [x, y]) = (Qp x 6 && Qp y 6) by simp [Zk, Zd, allI, qu, List.range, List.range.loop, Bool.and_assoc]]
    simp only [atB, List.getD_cons_zero, List.getD_cons_succ]
    generalize Qp x 6 = fx;generalize Qp y 6 = fy
    rw [Bool.eq_iff_iff];cases fx <;> cases fy <;> simp [isB, ZD, Zf, Zl] <;> omega
   ·have h1 : Zf ⟨5, 0, 5, 0, [6, 6], 0, 0, 0⟩ ks.length = false := by rw [Bool.eq_false_iff];intro hc;simp [Zf] at hc;omega
    have h2 : Zl n m ks.length 5 0 2 2 = false := by rw [Bool.eq_false_iff];intro hc;simp [Zl] at hc;omega
    rw [h1, h2];simp
  ·show (isB ⟨5, 0, 2, 0, [4], 0, 0, 0⟩ 5 && ZD ⟨5, 0, 2, 0, [4], 0, 0, 0⟩ n m && (Zf ⟨5, 0, 2, 0, [4], 0, 0, 0⟩ ks.length && Zd ⟨5, 0, 2, 0, [4], 0, 0, 0⟩ (Zk ks))) = (Zl n m ks.length 2 0 1 1 && ks.all (Qp · 4))
   rw [key ⟨5, 0, 2, 0, [4], 0, 0, 0⟩ (by intro hc i hi;simp [Zf] at hc;(have : i = 0 := by omega);subst this;rfl)]
   generalize ks.all (Qp · 4) = al
   generalize ks.length = len
   rw [Bool.eq_iff_iff];cases al <;> simp [isB, ZD, Zf, Zl] <;> omega
  ·show (isB ⟨5, 0, 5, 0, [], 3, 0, 4⟩ 5 && ZD ⟨5, 0, 5, 0, [], 3, 0, 4⟩ n m && (Zf ⟨5, 0, 5, 0, [], 3, 0, 4⟩ ks.length && Zd ⟨5, 0, 5, 0, [], 3, 0, 4⟩ (Zk ks))) = (Zl n m ks.length 5 0 0 3 && ks.all (Qp · 4))
   rw [key ⟨5, 0, 5, 0, [], 3, 0, 4⟩ (by intro hc i hi;simp [qu])]
   generalize ks.all (Qp · 4) = al
   generalize ks.length = len
   rw [Bool.eq_iff_iff];cases al <;> simp [isB, ZD, Zf, Zl] <;> omega
  ·show (isB ⟨5, 0, 0, 0, [4], 0, 0, 0⟩ 5 && ZD ⟨5, 0, 0, 0, [4], 0, 0, 0⟩ n m && (Zf ⟨5, 0, 0, 0, [4], 0, 0, 0⟩ ks.length && Zd ⟨5, 0, 0, 0, [4], 0, 0, 0⟩ (Zk ks))) = (Zl n m ks.length 0 0 1 1 && ks.all (Qp · 4))
   rw [key ⟨5, 0, 0, 0, [4], 0, 0, 0⟩ (by intro hc i hi;simp [Zf] at hc;(have : i = 0 := by omega);subst this;rfl)]
   generalize ks.all (Qp · 4) = al
   generalize ks.length = len
   rw [Bool.eq_iff_iff];cases al <;> simp [isB, ZD, Zf, Zl] <;> omega
  ·show (isB ⟨5, 0, 0, 0, [], 0, 0, 0⟩ 5 && ZD ⟨5, 0, 0, 0, [], 0, 0, 0⟩ n m && (Zf ⟨5, 0, 0, 0, [], 0, 0, 0⟩ ks.length && Zd ⟨5, 0, 0, 0, [], 0, 0, 0⟩ (Zk ks))) = Zl n m ks.length 0 0 0 0
   cases ks with
   | nil => rw [Bool.eq_iff_iff];simp [isB, ZD, Zf, Zl, Zd, Zk, allI];try omega
   | cons x r => rw [Bool.eq_iff_iff];simp [isB, ZD, Zf, Zl];try omega
  ·rfl
  ·rfl
 ·rw [if_neg h0]
  unfold stR
  repeat rw [if_neg (by omega)]
theorem wkVT {X W0 W1 W2 : Prop} (w0 : W0 := by exact True.intro) (w1 : W1 := by exact True.intro) (w2 : W2 := by exact True.intro) (s : (Unit -> W0) -> (Unit -> W1) -> (Unit -> W2) -> Unit -> X := by (intro w0 w1 w2 _;(repeat' first|(refine Qz ?_;(first|refine Ws rfl ?_|refine WM rfl ?_|(refine QN ?_;(first|refine Z4 rfl rfl ?_|refine Qc rfl rfl rfl ?_))|refine WX rfl rfl ?_|(refine QK ?_;(first|refine WA rfl rfl (hpl) ?_|refine WA rfl rfl (hxs) ?_|refine WA rfl rfl (hbt) ?_))|(refine Q1 ?_;(first|refine ZO rfl rfl ?_|refine W9 rfl rfl ?_))|refine Qe rfl rfl ?_|refine ZC rfl rfl (fun _ _ => ?_)))|(refine We ?_;(first|refine Wb ?_|refine Zg rfl ?_|refine qd rfl rfl rfl rfl ?_|refine qw rfl rfl rfl rfl ?_|refine WN rfl rfl (by omega) ?_|refine WD rfl rfl (by omega) ?_))|(refine Wc ?_;(first|refine Q7 ?_|refine Qm ?_|refine QM ?_|refine QV ?_|refine Qu rfl (by omega) ?_|refine Qn rfl (by omega) ?_|refine Wi ?_)));(all_goals (repeat (rename_i x;(fail_if_success have : Unit := x);revert x)));(first|done|exact w0 ());(first|done|exact w1 ());(first|done|exact w2 ()))) (u : (W0 \/ True) /\ (W1 \/ True) /\ (W2 \/ True) := by (refine ⟨?_, ?_, ?_⟩ <;> first|exact Or.inl True.intro|exact Or.inr True.intro)) : X := s (fun _ => w0) (fun _ => w1) (fun _ => w2) ()
theorem stmt0_c (k n m : Int) (ks : List Nd) (hl : ks.length <= 1000000) (h4 : ∀ i (hi : i < ks.length), Go.Av.Pure Tryz.prog G 205 [.agg (Enc.enc ks[i])] (.b (Qp ks[i] 4))) (h6 : ∀ i (hi : i < ks.length), Go.Av.Pure Tryz.prog G 156 [.agg (Enc.enc ks[i])] (.b (Qp ks[i] 6))) (hb0 : Go.Av.Pure Tryz.prog G 156 [.agg [.i k, .i n, .i m, Qo ks]] (.b (blkR k n m ks))) : Go.Av.Pure Tryz.prog G 185 [.agg [.i k, .i n, .i m, Qo ks]] (.b (stR k n m ks)) := fun B => by
 have hxs := exprs_c ks hl h4
 have hbt0 := between_c (G := G) k n m ks hl
 have h0 := trivial
 have h1 := trivial
 have h2 := trivial
 unfold stR
 by_cases k13 : k = 13
 ·rw [if_pos k13]
  clear h4 h6 hbt0 hxs
  have hxs := trivial
  have hbt := trivial
  have hpl := hb0
  generalize blkR k n m ks = r at hpl ⊢
  clear hb0
  refine Qa Tryz.func185 rfl Tryz.ntmps185 rfl (t := [(0, .agg [.i k, .i n, .i m, Qo ks])]) rfl fun E hE => ?_
  (refine wkVT ?_;intros)
  all_goals exact e_1 (Tryz.results185) (Qb rfl) (Qd rfl)
 rw [if_neg k13]
 clear hb0
 have hpl := trivial
 by_cases k17 : k = 17
 ·rw [if_pos k17]
  have hbt := hbt0 0 0 3 3
  clear hbt0
  cases hb : Zl n m ks.length 0 0 3 3
  ·rw [hb] at hbt
   clear h4 h6 hxs
   have hxs := trivial
   refine Qa Tryz.func185 rfl Tryz.ntmps185 rfl (t := [(0, .agg [.i k, .i n, .i m, Qo ks])]) rfl fun E hE => ?_
   (refine wkVT ?_;intros)
   all_goals exact e_1 (Tryz.results185) (Qb rfl) (Qd (by simp [*]))
  rw [hb] at hbt
  have hk : ks.length = 3 := by simp [Zl] at hb;omega
  obtain ⟨x, y, z, rfl⟩ : ∃ x y z, ks = [x, y, z] := by
   match ks, hk with
   | [x, y, z], _ => exact ⟨x, y, z, rfl⟩
  clear hb hk hxs
  have hxs := trivial
  have h0 := h4 0 (by simp)
  simp only [List.getElem_cons_zero, List.getElem_cons_succ] at h0
  have h1 := h6 1 (by simp)
  simp only [List.getElem_cons_zero, List.getElem_cons_succ] at h1
  have h2 := h6 2 (by simp)
  simp only [List.getElem_cons_zero, List.getElem_cons_succ] at h2
  clear h4 h6
  simp only [atB, List.getD_cons_zero, List.getD_cons_succ]
  generalize Qp x 4 = fx at h0 ⊢;generalize Qp y 6 = fy at h1 ⊢;generalize Qp z 6 = fz at h2 ⊢
  cases fx <;> cases fy <;> cases fz
  all_goals
   refine Qa Tryz.func185 rfl Tryz.ntmps185 rfl (t := [(0, .agg [.i k, .i n, .i m, Qo [x, y, z]])]) rfl fun E hE => ?_
   (repeat' first|(refine Qz ?_;(first|refine Ws rfl ?_|refine WM rfl ?_|(refine QN ?_;(first|refine Z4 rfl rfl ?_|refine Q0 rfl ?_|refine Qc rfl rfl rfl ?_))|refine Qq rfl rfl (by first|assumption|omega|(simp;done)|(simp;omega)) ?_|refine WX rfl rfl ?_|(refine QK ?_;(first|refine WA rfl rfl (h0) ?_|refine WA rfl rfl (h1) ?_|refine WA rfl rfl (h2) ?_|refine WA rfl rfl (hbt) ?_))|(refine Q1 ?_;(first|refine ZO rfl rfl ?_|refine W9 rfl rfl ?_))|refine Qe rfl rfl ?_|refine ZC rfl rfl (fun _ _ => ?_)))|(refine We ?_;(first|refine Wb ?_|refine Zg rfl ?_|refine qd rfl rfl rfl rfl ?_|refine qw rfl rfl rfl rfl ?_))|(refine Wc ?_;(first|refine Q7 ?_|refine Qm ?_|refine QM ?_|refine Qu rfl (by omega) ?_|refine Qn rfl (by omega) ?_|refine Wi ?_)))
   all_goals exact e_1 (Tryz.results185) (Qb rfl) (Qd rfl)
 rw [if_neg k17]
 by_cases k18 : k = 18
 ·rw [if_pos k18]
  have hbt := hbt0 0 0 2 2
  clear hbt0
  cases hb : Zl n m ks.length 0 0 2 2
  ·rw [hb] at hbt
   clear h4 h6 hxs
   have hxs := trivial
   refine Qa Tryz.func185 rfl Tryz.ntmps185 rfl (t := [(0, .agg [.i k, .i n, .i m, Qo ks])]) rfl fun E hE => ?_
   (refine wkVT ?_;intros)
   all_goals exact e_1 (Tryz.results185) (Qb rfl) (Qd (by simp [*]))
  rw [hb] at hbt
  have hk : ks.length = 2 := by simp [Zl] at hb;omega
  obtain ⟨x, y, rfl⟩ : ∃ x y, ks = [x, y] := by
   match ks, hk with
   | [x, y], _ => exact ⟨x, y, rfl⟩
  clear hb hk hxs
  have hxs := trivial
  have h0 := h4 0 (by simp)
  simp only [List.getElem_cons_zero, List.getElem_cons_succ] at h0
  have h1 := h6 1 (by simp)
  simp only [List.getElem_cons_zero, List.getElem_cons_succ] at h1
  clear h4 h6
  simp only [atB, List.getD_cons_zero, List.getD_cons_succ]
  generalize Qp x 4 = fx at h0 ⊢;generalize Qp y 6 = fy at h1 ⊢
  cases fx <;> cases fy
  all_goals
   refine Qa Tryz.func185 rfl Tryz.ntmps185 rfl (t := [(0, .agg [.i k, .i n, .i m, Qo [x, y]])]) rfl fun E hE => ?_
   (repeat' first|(refine Qz ?_;(first|refine Ws rfl ?_|refine WM rfl ?_|(refine QN ?_;(first|refine Z4 rfl rfl ?_|refine Q0 rfl ?_|refine Qc rfl rfl rfl ?_))|refine Qq rfl rfl (by first|assumption|omega|(simp;done)|(simp;omega)) ?_|refine WX rfl rfl ?_|(refine QK ?_;(first|refine WA rfl rfl (h0) ?_|refine WA rfl rfl (h1) ?_|refine WA rfl rfl (hbt) ?_))|(refine Q1 ?_;(first|refine ZO rfl rfl ?_|refine W9 rfl rfl ?_))|refine Qe rfl rfl ?_|refine ZC rfl rfl (fun _ _ => ?_)))|(refine We ?_;(first|refine Wb ?_|refine Zg rfl ?_|refine qd rfl rfl rfl rfl ?_|refine qw rfl rfl rfl rfl ?_))|(refine Wc ?_;(first|refine Q7 ?_|refine Qm ?_|refine QM ?_|refine Qu rfl (by omega) ?_|refine Qn rfl (by omega) ?_|refine Wi ?_)))
   all_goals exact e_1 (Tryz.results185) (Qb rfl) (Qd rfl)
 rw [if_neg k18]
 by_cases k21 : k = 21
 ·rw [if_pos k21]
  have hbt := hbt0 5 0 2 2
  clear hbt0
  cases hb : Zl n m ks.length 5 0 2 2
  ·rw [hb] at hbt
   clear h4 h6 hxs
   have hxs := trivial
   refine Qa Tryz.func185 rfl Tryz.ntmps185 rfl (t := [(0, .agg [.i k, .i n, .i m, Qo ks])]) rfl fun E hE => ?_
   (refine wkVT ?_;intros)
   all_goals exact e_1 (Tryz.results185) (Qb rfl) (Qd (by simp [*]))
  rw [hb] at hbt
  have hk : ks.length = 2 := by simp [Zl] at hb;omega
  obtain ⟨x, y, rfl⟩ : ∃ x y, ks = [x, y] := by
   match ks, hk with
   | [x, y], _ => exact ⟨x, y, rfl⟩
  clear hb hk hxs
  have hxs := trivial
  have h0 := h6 0 (by simp)
  simp only [List.getElem_cons_zero, List.getElem_cons_succ] at h0
  have h1 := h6 1 (by simp)
  simp only [List.getElem_cons_zero, List.getElem_cons_succ] at h1
  clear h4 h6
  simp only [atB, List.getD_cons_zero, List.getD_cons_succ]
  generalize Qp x 6 = fx at h0 ⊢;generalize Qp y 6 = fy at h1 ⊢
  cases fx <;> cases fy
  all_goals
   refine Qa Tryz.func185 rfl Tryz.ntmps185 rfl (t := [(0, .agg [.i k, .i n, .i m, Qo [x, y]])]) rfl fun E hE => ?_
   (repeat' first|(refine Qz ?_;(first|refine Ws rfl ?_|refine WM rfl ?_|(refine QN ?_;(first|refine Z4 rfl rfl ?_|refine Q0 rfl ?_|refine Qc rfl rfl rfl ?_))|refine Qq rfl rfl (by first|assumption|omega|(simp;done)|(simp;omega)) ?_|refine WX rfl rfl ?_|(refine QK ?_;(first|refine WA rfl rfl (h0) ?_|refine WA rfl rfl (h1) ?_|refine WA rfl rfl (hbt) ?_))|(refine Q1 ?_;(first|refine ZO rfl rfl ?_|refine W9 rfl rfl ?_))|refine Qe rfl rfl ?_|refine ZC rfl rfl (fun _ _ => ?_)))|(refine We ?_;(first|refine Wb ?_|refine Zg rfl ?_|refine qd rfl rfl rfl rfl ?_|refine qw rfl rfl rfl rfl ?_))|(refine Wc ?_;(first|refine Q7 ?_|refine Qm ?_|refine QM ?_|refine Qu rfl (by omega) ?_|refine Qn rfl (by omega) ?_|refine Wi ?_)))
   all_goals exact e_1 (Tryz.results185) (Qb rfl) (Qd rfl)
 rw [if_neg k21]
 by_cases k14 : k = 14
 ·rw [if_pos k14]
  have hbt := hbt0 5 0 1 1
  clear hbt0
  clear h4 h6
  generalize ks.all (Qp · 4) = al at hxs ⊢
  cases hb : Zl n m ks.length 5 0 1 1
  all_goals
   rw [hb] at hbt
   refine Qa Tryz.func185 rfl Tryz.ntmps185 rfl (t := [(0, .agg [.i k, .i n, .i m, Qo ks])]) rfl fun E hE => ?_
   (refine wkVT ?_ ?_ <;> first|exact True.intro|intros)
   all_goals exact e_1 (Tryz.results185) (Qb rfl) (Qd (by simp))
 rw [if_neg k14]
 by_cases k15 : k = 15
 ·rw [if_pos k15]
  have hbt := hbt0 5 0 2 2
  clear hbt0
  clear h4 h6
  generalize ks.all (Qp · 4) = al at hxs ⊢
  cases hb : Zl n m ks.length 5 0 2 2
  all_goals
   rw [hb] at hbt
   refine Qa Tryz.func185 rfl Tryz.ntmps185 rfl (t := [(0, .agg [.i k, .i n, .i m, Qo ks])]) rfl fun E hE => ?_
   (refine wkVT ?_ ?_ <;> first|exact True.intro|intros)
   all_goals exact e_1 (Tryz.results185) (Qb rfl) (Qd (by simp))
 rw [if_neg k15]
 by_cases k16 : k = 16
 ·rw [if_pos k16]
  have hbt := hbt0 5 2 1 1
  clear hbt0
  clear h4 h6
  generalize ks.all (Qp · 4) = al at hxs ⊢
  cases hb : Zl n m ks.length 5 2 1 1
  all_goals
   rw [hb] at hbt
   refine Qa Tryz.func185 rfl Tryz.ntmps185 rfl (t := [(0, .agg [.i k, .i n, .i m, Qo ks])]) rfl fun E hE => ?_
   (refine wkVT ?_ ?_ <;> first|exact True.intro|intros)
   all_goals exact e_1 (Tryz.results185) (Qb rfl) (Qd (by simp))
 rw [if_neg k16]
 by_cases k19 : k = 19
 ·rw [if_pos k19]
  have hbt := hbt0 0 0 1 1
  clear hbt0
  clear h4 h6
  generalize ks.all (Qp · 4) = al at hxs ⊢
  cases hb : Zl n m ks.length 0 0 1 1
  all_goals
   rw [hb] at hbt
   refine Qa Tryz.func185 rfl Tryz.ntmps185 rfl (t := [(0, .agg [.i k, .i n, .i m, Qo ks])]) rfl fun E hE => ?_
   (refine wkVT ?_ ?_ <;> first|exact True.intro|intros)
   all_goals exact e_1 (Tryz.results185) (Qb rfl) (Qd (by simp))
 rw [if_neg k19]
 by_cases k20 : k = 20
 ·rw [if_pos k20]
  have hbt := hbt0 0 0 1 1
  clear hbt0
  clear h4 h6
  generalize ks.all (Qp · 4) = al at hxs ⊢
  cases hb : Zl n m ks.length 0 0 1 1
  all_goals
   rw [hb] at hbt
   refine Qa Tryz.func185 rfl Tryz.ntmps185 rfl (t := [(0, .agg [.i k, .i n, .i m, Qo ks])]) rfl fun E hE => ?_
   (refine wkVT ?_ ?_ <;> first|exact True.intro|intros)
   all_goals exact e_1 (Tryz.results185) (Qb rfl) (Qd (by simp))
 rw [if_neg k20]
 by_cases k24 : k = 24
 ·rw [if_pos k24]
  have hbt := hbt0 0 0 1 1
  clear hbt0
  clear h4 h6
  generalize ks.all (Qp · 4) = al at hxs ⊢
  cases hb : Zl n m ks.length 0 0 1 1
  all_goals
   rw [hb] at hbt
   refine Qa Tryz.func185 rfl Tryz.ntmps185 rfl (t := [(0, .agg [.i k, .i n, .i m, Qo ks])]) rfl fun E hE => ?_
   (refine wkVT ?_ ?_ <;> first|exact True.intro|intros)
   all_goals exact e_1 (Tryz.results185) (Qb rfl) (Qd (by simp))
 rw [if_neg k24]
 by_cases k22 : k = 22
 ·rw [if_pos k22]
  have hbt := hbt0 2 0 1 1
  clear hbt0
  clear h4 h6
  generalize ks.all (Qp · 4) = al at hxs ⊢
  cases hb : Zl n m ks.length 2 0 1 1
  all_goals
   rw [hb] at hbt
   refine Qa Tryz.func185 rfl Tryz.ntmps185 rfl (t := [(0, .agg [.i k, .i n, .i m, Qo ks])]) rfl fun E hE => ?_
   (refine wkVT ?_ ?_ <;> first|exact True.intro|intros)
   all_goals exact e_1 (Tryz.results185) (Qb rfl) (Qd (by simp))
 rw [if_neg k22]
 by_cases k23 : k = 23
 ·rw [if_pos k23]
  have hbt := hbt0 5 0 0 3
  clear hbt0
  clear h4 h6
  generalize ks.all (Qp · 4) = al at hxs ⊢
  cases hb : Zl n m ks.length 5 0 0 3
  all_goals
   rw [hb] at hbt
   refine Qa Tryz.func185 rfl Tryz.ntmps185 rfl (t := [(0, .agg [.i k, .i n, .i m, Qo ks])]) rfl fun E hE => ?_
   (refine wkVT ?_ ?_ <;> first|exact True.intro|intros)
   all_goals exact e_1 (Tryz.results185) (Qb rfl) (Qd (by simp))
 rw [if_neg k23]
 by_cases k25 : k = 25
 ·rw [if_pos k25]
  have hbt := hbt0 0 0 0 0
  clear hbt0
  clear h4 h6 hxs
  have hxs := trivial
  refine Qa Tryz.func185 rfl Tryz.ntmps185 rfl (t := [(0, .agg [.i k, .i n, .i m, Qo ks])]) rfl fun E hE => ?_
  (refine wkVT ?_;intros)
  all_goals exact e_1 (Tryz.results185) (Qb rfl) (Qd (by simp))
 rw [if_neg k25]
 clear h4 h6 hbt0 hxs
 have hxs := trivial
 have hbt := trivial
 refine Qa Tryz.func185 rfl Tryz.ntmps185 rfl (t := [(0, .agg [.i k, .i n, .i m, Qo ks])]) rfl fun E hE => ?_
 (refine wkVT ?_;intros)
 all_goals exact e_1 (Tryz.results185) (Qb rfl) (Qd rfl)
theorem r05StBl_c (t : Nd) : Qk t <= 1000000 -> Go.Av.Pure Tryz.prog G 185 [.agg (Enc.enc t)] (.b (Qp t 5)) /\ Go.Av.Pure Tryz.prog G 156 [.agg (Enc.enc t)] (.b (Qp t 6)) := by
 induction t using Nd.ind with
 | h k n m ks ih =>
 intro hs
 rw [Qk] at hs
 have hln := Wk ks
 have hi' : ∀ i (hi : i < ks.length), Qk ks[i] <= 1000000 := fun i hi => by have := QG (List.getElem_mem hi);omega
 have hb := block0_c (G := G) k n m ks (by omega) fun i hi => (ih _ (List.getElem_mem hi) (hi' i hi)).1
 rw [fits5, fits6_blk, Qr]
 exact ⟨stmt0_c k n m ks (by omega) (fun i hi => r05Expr_c _ (hi' i hi)) (fun i hi => (ih _ (List.getElem_mem hi) (hi' i hi)).2) hb, hb⟩
theorem fits3 (x : Nd) : Qp x 3 = plnN x := by
 obtain ⟨k, n, m, ks⟩ := x
 rw [Qp, plnN, plnB]
 by_cases h0 : 0 <= k /\ k < 28
 ·rw [if_pos h0]
  obtain ⟨a, rfl⟩ := Int.eq_ofNat_of_zero_le h0.1
  have : a = 0 \/ a = 1 \/ (2 <= a /\ a < 28) := by omega
  have hz : ∀ (al : Bool), ks.length = 0 -> Zd ⟨3, 0, 0, 0, [], 0, 0, 0⟩ (Zk ks) = true := by
   intro _ h;rw [List.length_eq_zero_iff.1 h];rfl
  rcases this with rfl|rfl|h
  ·show (isB ⟨3, 0, 0, 0, [], 0, 0, 0⟩ 3 && ZD ⟨3, 0, 0, 0, [], 0, 0, 0⟩ n m && (Zf ⟨3, 0, 0, 0, [], 0, 0, 0⟩ ks.length && Zd ⟨3, 0, 0, 0, [], 0, 0, 0⟩ (Zk ks))) = _
   cases ks with
   | nil => rw [Bool.eq_iff_iff];simp [isB, ZD, Zf, Zd, Zk, allI];omega
   | cons x r => rw [Bool.eq_iff_iff];simp [isB, ZD, Zf];try omega
  ·show (isB ⟨3, 0, 0, 0, [], 0, 0, 0⟩ 3 && ZD ⟨3, 0, 0, 0, [], 0, 0, 0⟩ n m && (Zf ⟨3, 0, 0, 0, [], 0, 0, 0⟩ ks.length && Zd ⟨3, 0, 0, 0, [], 0, 0, 0⟩ (Zk ks))) = _
   cases ks with
   | nil => rw [Bool.eq_iff_iff];simp [isB, ZD, Zf, Zd, Zk, allI];omega
   | cons x r => rw [Bool.eq_iff_iff];simp [isB, ZD, Zf];try omega
  ·rw [decide_eq_false (by omega : ¬ (a : Int) = 0), decide_eq_false (by omega : ¬ (a : Int) = 1)]
   have hs : isB (shapesL.getD ((a : Int)).toNat noSh) 3 = false := by
    have : ∀ b : Fin 28, 2 <= b.val -> isB (shapesL.getD ((b.val : Int)).toNat noSh) 3 = false := by decide
    exact this ⟨a, h.2⟩ h.1
   rw [hs];simp
 ·rw [if_neg h0, decide_eq_false (by omega : ¬ k = 0), decide_eq_false (by omega : ¬ k = 1)];simp
theorem fits2 (x : Nd) : Qp x 2 = typR x := by
 obtain ⟨k, n, m, ks⟩ := x
 rw [Qp, typR]
 by_cases h0 : 0 <= k /\ k < 28
 ·rw [if_pos h0]
  obtain ⟨a, rfl⟩ := Int.eq_ofNat_of_zero_le h0.1
  have : a = 0 \/ a = 1 \/ a = 2 \/ a = 3 \/ (4 <= a /\ a < 28) := by omega
  rcases this with rfl|rfl|rfl|rfl|h
  ·show (isB ⟨3, 0, 0, 0, [], 0, 0, 0⟩ 2 && ZD ⟨3, 0, 0, 0, [], 0, 0, 0⟩ n m && (Zf ⟨3, 0, 0, 0, [], 0, 0, 0⟩ ks.length && Zd ⟨3, 0, 0, 0, [], 0, 0, 0⟩ (Zk ks))) = plnB 0 n m ks.length
   cases ks with
   | nil => rw [Bool.eq_iff_iff];simp [isB, ZD, Zf, Zd, Zk, allI, plnB];omega
   | cons x r => rw [Bool.eq_iff_iff];simp [isB, ZD, Zf, plnB];try omega
  ·show (isB ⟨3, 0, 0, 0, [], 0, 0, 0⟩ 2 && ZD ⟨3, 0, 0, 0, [], 0, 0, 0⟩ n m && (Zf ⟨3, 0, 0, 0, [], 0, 0, 0⟩ ks.length && Zd ⟨3, 0, 0, 0, [], 0, 0, 0⟩ (Zk ks))) = plnB 1 n m ks.length
   cases ks with
   | nil => rw [Bool.eq_iff_iff];simp [isB, ZD, Zf, Zd, Zk, allI, plnB];omega
   | cons x r => rw [Bool.eq_iff_iff];simp [isB, ZD, Zf, plnB];try omega
  ·show (isB ⟨2, 1, 4, 0, [], 0, 0, 0⟩ 2 && ZD ⟨2, 1, 4, 0, [], 0, 0, 0⟩ n m && (Zf ⟨2, 1, 4, 0, [], 0, 0, 0⟩ ks.length && Zd ⟨2, 1, 4, 0, [], 0, 0, 0⟩ (Zk ks))) = (((decide (1 <= n) && decide (n <= 4)) && decide (m = 0)) && decide ((ks.length : Int) = 0))
   cases ks with
   | nil => rw [Bool.eq_iff_iff];simp [isB, ZD, Zf, Zd, Zk, allI];omega
   | cons x r => rw [Bool.eq_iff_iff];simp [isB, ZD, Zf];try omega
  ·show (isB ⟨2, 0, 0, 0, [], 3, 1, 3⟩ 2 && ZD ⟨2, 0, 0, 0, [], 3, 1, 3⟩ n m && (Zf ⟨2, 0, 0, 0, [], 3, 1, 3⟩ ks.length && Zd ⟨2, 0, 0, 0, [], 3, 1, 3⟩ (Zk ks))) = ((((decide (n = 0) && decide (m = 0)) && decide (1 <= (ks.length : Int))) && decide ((ks.length : Int) <= 3)) && ks.all plnN)
   rw [kidsR_all ⟨2, 0, 0, 0, [], 3, 1, 3⟩ 3 ks (fun i hi => by simp [qu]), show ks.all plnN = ks.all (Qp · 3) by congr 1;funext x;exact (fits3 x).symm]
   generalize ks.all (Qp · 3) = al
   generalize ks.length = len
   rw [Bool.eq_iff_iff];cases al <;> simp [isB, ZD, Zf] <;> omega
  ·rw [if_neg (by omega : ¬ (a : Int) = 2), if_neg (by omega : ¬ (a : Int) = 3), plnB, decide_eq_false (by omega : ¬ (a : Int) = 0), decide_eq_false (by omega : ¬ (a : Int) = 1)]
   have hs : isB (shapesL.getD ((a : Int)).toNat noSh) 2 = false := by
    have : ∀ b : Fin 28, 4 <= b.val -> isB (shapesL.getD ((b.val : Int)).toNat noSh) 2 = false := by decide
    exact this ⟨a, h.2⟩ h.1
   rw [hs];simp
 ·rw [if_neg h0, if_neg (by omega), if_neg (by omega), plnB, decide_eq_false (by omega : ¬ k = 0), decide_eq_false (by omega : ¬ k = 1)];simp
theorem fits32 {x : Nd} (h : Qp x 3 = true) : Qp x 2 = true := by
 rw [fits3] at h
 rw [fits2]
 obtain ⟨k, n, m, ks⟩ := x
 rw [plnN] at h
 rw [typR, if_neg, if_neg]
 ·exact h
 ·intro hk;subst hk;simp [plnB] at h
 ·intro hk;subst hk;simp [plnB] at h
theorem fits1 (k n m : Int) (ks : List Nd) : Qp (.mk k n m ks) 1 = (decide (k = 26) && (ZD ⟨1, 0, 3, 0, [], 0, 0, 0⟩ n m && funB n (ks.map Qp))) := by
 rw [Qp, fitsF_eq]
 by_cases h26 : k = 26
 ·subst h26
  rw [if_pos (by decide), if_pos rfl]
  rfl
 ·rw [decide_eq_false h26, Bool.false_and]
  by_cases h0 : 0 <= k /\ k < 28
  ·rw [if_pos h0, if_neg h26]
   obtain ⟨a, rfl⟩ := Int.eq_ofNat_of_zero_le h0.1
   have hs : isB (shapesL.getD ((a : Int)).toNat noSh) 1 = false := by
    have : ∀ b : Fin 28, b.val ≠ 26 -> isB (shapesL.getD ((b.val : Int)).toNat noSh) 1 = false := by decide
    exact this ⟨a, by omega⟩ (by show a ≠ 26;omega)
   rw [hs];simp
  ·rw [if_neg h0]
theorem fits0 (k n m : Int) (ks : List Nd) : Qp (.mk k n m ks) 0 = (decide (k = 27) && (Zl n m ks.length 3 0 1 6 && ks.all (Qp · 1))) := by
 rw [Qp]
 by_cases h27 : k = 27
 ·subst h27
  rw [if_pos (by decide), if_neg (by decide)]
  show (isB ⟨0, 0, 3, 0, [], 6, 1, 1⟩ 0 && ZD ⟨0, 0, 3, 0, [], 6, 1, 1⟩ n m && (Zf ⟨0, 0, 3, 0, [], 6, 1, 1⟩ ks.length && Zd ⟨0, 0, 3, 0, [], 6, 1, 1⟩ (Zk ks))) = _
  rw [kidsR_all ⟨0, 0, 3, 0, [], 6, 1, 1⟩ 1 ks (fun i hi => by simp [qu])]
  generalize ks.all (Qp · 1) = al
  generalize ks.length = len
  rw [Bool.eq_iff_iff];cases al <;> simp [isB, ZD, Zf, Zl] <;> omega
 ·rw [decide_eq_false h27, Bool.false_and]
  by_cases h0 : 0 <= k /\ k < 28
  ·rw [if_pos h0]
   obtain ⟨a, rfl⟩ := Int.eq_ofNat_of_zero_le h0.1
   have hs : isB (shapesL.getD ((a : Int)).toNat noSh) 0 = false := by
    have : ∀ b : Fin 28, b.val ≠ 27 -> isB (shapesL.getD ((b.val : Int)).toNat noSh) 0 = false := by decide
    exact this ⟨a, by omega⟩ (by show a ≠ 27;omega)
   rw [hs];simp
  ·rw [if_neg h0]
theorem wkVV {X W0 W1 W2 : Prop} (w0 : W0 := by exact True.intro) (w1 : W1 := by exact True.intro) (w2 : W2 := by exact True.intro) (s : (Unit -> W0) -> (Unit -> W1) -> (Unit -> W2) -> Unit -> X := by (intro w0 w1 w2 _;(repeat' first|(refine Qz ?_;(first|refine Ws rfl ?_|refine WM rfl ?_|(refine QN ?_;(first|refine Z4 rfl rfl ?_|refine Q0 rfl ?_|refine Qc rfl rfl rfl ?_))|refine Qq rfl rfl (by first|assumption|omega|(simp;done)|(simp;omega)) ?_|(refine Qw ?_;(first|refine s_sub_as rfl rfl hvs ⟨by omega, by omega⟩ ?_|refine Zw rfl rfl ?_|refine s_gtr rfl rfl ?_|refine s_neq rfl rfl ?_|refine ZU rfl rfl (by omega) ?_))|(refine QK ?_;(first|refine Qv rfl ?_|refine WA rfl rfl (hlast) ?_|refine WA rfl rfl (hty) ?_|refine WA rfl rfl (hpl) ?_|refine WA rfl rfl (hbt) ?_|refine WA rfl rfl (hsz) ?_|refine WA rfl rfl (hdp) ?_))|(refine Q1 ?_;(first|refine ZO rfl rfl ?_|refine W9 rfl rfl ?_))|refine qK rfl ?_|refine Qe rfl rfl ?_|refine ZC rfl rfl (fun _ _ => ?_)))|(refine We ?_;(first|refine Wb ?_|refine Zg rfl ?_|refine qd rfl rfl rfl rfl ?_|refine qw rfl rfl rfl rfl ?_|refine o_gu rfl rfl rfl rfl rfl ?_|refine WN rfl rfl (by omega) ?_|refine WD rfl rfl (by omega) ?_))|(refine Wc ?_;(first|refine Q7 ?_|refine Qm ?_|refine QM ?_|refine QV ?_|refine QD rfl ?_|refine QR rfl ?_|refine Qu rfl (by omega) ?_|refine Qn rfl (by omega) ?_|refine W8 rfl ?_|refine Wi ?_)));all_goals (repeat (rename_i x;(fail_if_success have : Unit := x);revert x));(first|done|exact w0 ());(first|done|exact w1 ());(first|done|exact w2 ()))) (u : (W0 \/ True) /\ (W1 \/ True) /\ (W2 \/ True) := by (refine ⟨?_, ?_, ?_⟩ <;> first|exact Or.inl True.intro|exact Or.inr True.intro)) : X := s (fun _ => w0) (fun _ => w1) (fun _ => w2) ()
theorem r05Fun_c (t : Nd) (hs : Qk t <= 1000000) : Go.Av.Pure Tryz.prog G 119 [.agg (Enc.enc t)] (.b (Qp t 1)) := fun B => by
 obtain ⟨k, n, m, ks⟩ := t
 rw [Qk] at hs
 have hln := Wk ks
 have hi' : ∀ i (hi : i < ks.length), Qk ks[i] <= 1000000 := fun i hi => by have := QG (List.getElem_mem hi);omega
 have hbt0 := between_c (G := G) k n m ks (by omega) 3 0 1 7
 rw [fits1, Qr]
 have hlast := trivial
 have hty := trivial
 have hpl := trivial
 have hvs := trivial
 have hsz := trivial
 have hdp := trivial
 by_cases h26 : k = 26
 case neg =>
  rw [decide_eq_false h26, Bool.false_and]
  clear hi' hbt0
  have hbt := trivial
  refine Qa Tryz.func119 rfl Tryz.ntmps119 rfl (t := [(0, .agg [.i k, .i n, .i m, Qo ks])]) rfl fun E hE => ?_
  (refine wkVV ?_;intros)
  all_goals exact e_1 (Tryz.results119) (Qb rfl) (Qd rfl)
 rw [decide_eq_true h26, Bool.true_and]
 cases hb : Zl n m ks.length 3 0 1 7
 ·have hF : (ZD ⟨1, 0, 3, 0, [], 0, 0, 0⟩ n m && funB n (ks.map Qp)) = false := by
   rw [Bool.eq_false_iff] at hb ⊢
   intro h
   apply hb
   simp [ZD, funB] at h
   simp [Zl]
   omega
  rw [hF]
  rw [hb] at hbt0
  have hbt := hbt0
  clear hi'
  refine Qa Tryz.func119 rfl Tryz.ntmps119 rfl (t := [(0, .agg [.i k, .i n, .i m, Qo ks])]) rfl fun E hE => ?_
  (refine wkVV ?_;intros)
  all_goals exact e_1 (Tryz.results119) (Qb rfl) (Qd rfl)
 rw [hb] at hbt0
 have hbt := hbt0
 have hb2 : (0 <= n /\ n <= 3) /\ m = 0 /\ 1 <= ks.length /\ ks.length <= 7 := by simp [Zl] at hb;omega
 clear hb hbt0
 obtain ⟨v, hv⟩ : ∃ v : Nat, ks.length = v + 1 := ⟨ks.length - 1, by omega⟩
 have hvs : (ks.length : Int) - 1 = (v : Int) := by omega
 have hvk : v < ks.length := by omega
 have hfl := Z2 ks Qp hvk
 have hlast := (r05StBl_c (G := G) ks[v] (hi' v hvk)).2
 have hfun : (ZD ⟨1, 0, 3, 0, [], 0, 0, 0⟩ n m && funB n (ks.map Qp)) = ((decide (n <= (v : Int)) && Qp ks[v] 6) && allI (fun i => (ks.map Qp).getD i noF (if (i : Int) < n then 3 else 2)) v) := by
  unfold funB
  rw [List.length_map, hvs, show ks.length - 1 = v by omega, hfl, show ZD ⟨1, 0, 3, 0, [], 0, 0, 0⟩ n m = true by simp [ZD];omega, decide_eq_true (by omega : (v : Int) <= 6), Bool.and_true, Bool.true_and]
 rw [hfun]
 by_cases hc : n <= (v : Int)
 case neg =>
  rw [decide_eq_false hc, Bool.false_and, Bool.false_and]
  clear hi' hfun hfl hlast
  have hlast := trivial
  refine Qa Tryz.func119 rfl Tryz.ntmps119 rfl (t := [(0, .agg [.i k, .i n, .i m, Qo ks])]) rfl fun E hE => ?_
  (refine wkVV ?_;intros)
  all_goals exact e_1 (Tryz.results119) (Qb rfl) (Qd rfl)
 rw [decide_eq_true hc, Bool.true_and]
 have hK : ∀ i (hi : i < ks.length), Go.Av.Pure Tryz.prog G 154 [.agg (Enc.enc ks[i])] (.b (Qp ks[i] 2)) /\ Go.Av.Pure Tryz.prog G 155 [.agg (Enc.enc ks[i])] (.b (Qp ks[i] 3)) := fun i hi => by
  rw [fits2, fits3]
  exact ⟨typeR_c _ (hi' i hi), plainN_c _ (hi' i hi)⟩
 have hget : ∀ i (hi : i < ks.length), (ks.map Qp).getD i noF = Qp ks[i] := fun i hi => Z2 ks Qp hi
 clear hi' hfun hfl
 generalize Qp ks[v] 6 = bl at *
 generalize ks.map Qp = fs at *
 refine Qa Tryz.func119 rfl Tryz.ntmps119 rfl (t := [(0, .agg [.i k, .i n, .i m, Qo ks])]) rfl fun E hE => ?_
 (refine wkVV ?_;intros)
 rename_i g1 hg1
 clear hbt
 have hbt := trivial
 refine WY (fun (i : Nat) => ⟨[(1, .ptr 0 g1 0), (3, .i i)], [.row g1 [.i k, .i n, .i m, Qo ks]]⟩) (fun i => i <= v /\ ∀ j, j < i -> fs.getD j noF (if (j : Int) < n then 3 else 2) = true) (fun i => v - i) 0 ?_ ⟨by omega, fun j hj => by omega⟩ ?_
 ·exact zal rfl
 intro i ⟨hi, hall⟩
 by_cases hil : i < v
 ·have hik : i < ks.length := by omega
  obtain ⟨hty, hpl⟩ := hK i hik
  have hge := hget i hik
  have h32 : Qp ks[i] 3 = true -> Qp ks[i] 2 = true := fun h => fits32 h
  clear hK hget hlast
  have hlast := trivial
  by_cases hin : (i : Int) < n
  ·cases h3 : Qp ks[i] 3 with
   | false =>
    have hA : allI (fun i => fs.getD i noF (if (i : Int) < n then 3 else 2)) v = false := by
     rw [Bool.eq_false_iff]
     intro h
     have := allI_iff.1 h i hil
     rw [if_pos hin, hge, h3] at this;cases this
    rw [hA, Bool.and_false]
    rw [h3] at hpl
    generalize Qp ks[i] 2 = b2 at *
    clear hge hall
    cases b2
    all_goals
     (refine wkVV ?_ ?_ <;> first|exact True.intro|intros)
     all_goals exact e_1 (Tryz.results119) (Qb rfl) (Qd rfl)
   | true =>
    have h2 := h32 h3
    rw [h3] at hpl
    rw [h2] at hty
    have hnew : ∀ j, j < i + 1 -> fs.getD j noF (if (j : Int) < n then 3 else 2) = true := fun j hj => by
     rcases Nat.lt_or_ge j i with h|h
     ·exact hall j h
     ·have : j = i := by omega
      subst this;rw [if_pos hin, hge];exact h3
    clear hge hall h32
    (refine wkVV ?_;intros)
    refine ⟨i + 1, ⟨by omega, hnew⟩, by omega, ?_⟩
    exact zal rfl
  ·clear hpl
   have hpl := trivial
   cases h2 : Qp ks[i] 2 with
   | false =>
    have hA : allI (fun i => fs.getD i noF (if (i : Int) < n then 3 else 2)) v = false := by
     rw [Bool.eq_false_iff]
     intro h
     have := allI_iff.1 h i hil
     rw [if_neg hin, hge, h2] at this;cases this
    rw [hA, Bool.and_false]
    rw [h2] at hty
    clear hge hall h32
    (refine wkVV ?_;intros)
    all_goals exact e_1 (Tryz.results119) (Qb rfl) (Qd rfl)
   | true =>
    rw [h2] at hty
    have hnew : ∀ j, j < i + 1 -> fs.getD j noF (if (j : Int) < n then 3 else 2) = true := fun j hj => by
     rcases Nat.lt_or_ge j i with h|h
     ·exact hall j h
     ·have : j = i := by omega
      subst this;rw [if_neg hin, hge];exact h2
    clear hge hall h32
    (refine wkVV ?_;intros)
    refine ⟨i + 1, ⟨by omega, hnew⟩, by omega, ?_⟩
    exact zal rfl
 ·have hiv : i = v := by omega
  subst hiv
  have hA : allI (fun j => fs.getD j noF (if (j : Int) < n then 3 else 2)) i = true := allI_iff.2 hall
  rw [hA, Bool.and_true]
  clear hK hget hall
  (refine wkVV ?_;intros)
  all_goals exact e_1 (Tryz.results119) (Qb rfl) (Qd rfl)
theorem r05Valid_c (t : Nd) (hs : Qk t <= 1000000) : Go.Av.Pure Tryz.prog G 65 [.agg (Enc.enc t)] (.b (qX t)) := fun B => by
 have hsz := r05Size_c (G := G) t (by omega)
 have hdp := r05Depth_c (G := G) t (by omega)
 have hd := depth_size t
 unfold qX
 obtain ⟨k, n, m, ks⟩ := t
 have hkl : ks.length <= 1000000 /\ ∀ i (hi : i < ks.length), Qk ks[i] <= 1000000 := by
  rw [Qk] at hs
  have hln := Wk ks
  exact ⟨by omega, fun i hi => by have := QG (List.getElem_mem hi);omega⟩
 obtain ⟨hkl, hi'⟩ := hkl
 have hbt0 := between_c (G := G) k n m ks hkl 3 0 1 6
 rw [fits0]
 rw [Qr] at hsz hdp ⊢
 generalize Qk (.mk k n m ks) = a at *
 generalize Q5 (.mk k n m ks) = b at *
 have hlast := trivial
 have hty := trivial
 have hpl := trivial
 have hvs := trivial
 by_cases h27 : k = 27
 case neg =>
  rw [decide_eq_false h27, Bool.false_and, Bool.and_false]
  clear hi' hbt0 hsz hdp
  have hsz := trivial
  have hdp := trivial
  have hbt := trivial
  refine Qa Tryz.func65 rfl Tryz.ntmps65 rfl (t := [(0, .agg [.i k, .i n, .i m, Qo ks])]) rfl fun E hE => ?_
  (refine wkVV ?_;intros)
  all_goals exact e_1 (Tryz.results65) (Qb rfl) (Qd rfl)
 rw [decide_eq_true h27, Bool.true_and]
 cases hb : Zl n m ks.length 3 0 1 6
 ·rw [Bool.false_and, Bool.and_false]
  rw [hb] at hbt0
  have hbt := hbt0
  clear hi' hsz hdp
  have hsz := trivial
  have hdp := trivial
  refine Qa Tryz.func65 rfl Tryz.ntmps65 rfl (t := [(0, .agg [.i k, .i n, .i m, Qo ks])]) rfl fun E hE => ?_
  (refine wkVV ?_;intros)
  all_goals exact e_1 (Tryz.results65) (Qb rfl) (Qd rfl)
 rw [Bool.true_and]
 rw [hb] at hbt0
 have hbt := hbt0
 by_cases ha : a <= 256
 case neg =>
  rw [decide_eq_false ha, Bool.false_and, Bool.false_and]
  clear hi'
  refine Qa Tryz.func65 rfl Tryz.ntmps65 rfl (t := [(0, .agg [.i k, .i n, .i m, Qo ks])]) rfl fun E hE => ?_
  (refine wkVV ?_;intros)
  all_goals exact e_1 (Tryz.results65) (Qb rfl) (Qd rfl)
 rw [decide_eq_true ha, Bool.true_and]
 by_cases hb16 : b <= 16
 case neg =>
  rw [decide_eq_false hb16, Bool.false_and]
  clear hi'
  refine Qa Tryz.func65 rfl Tryz.ntmps65 rfl (t := [(0, .agg [.i k, .i n, .i m, Qo ks])]) rfl fun E hE => ?_
  (refine wkVV ?_;intros)
  all_goals exact e_1 (Tryz.results65) (Qb rfl) (Qd rfl)
 rw [decide_eq_true hb16, Bool.true_and]
 refine Qa Tryz.func65 rfl Tryz.ntmps65 rfl (t := [(0, .agg [.i k, .i n, .i m, Qo ks])]) rfl fun E hE => ?_
 (refine wkVV ?_;intros)
 rename_i g1 hg1
 clear hbt hsz hdp hbt0
 have hbt := trivial
 have hsz := trivial
 have hdp := trivial
 refine WY (fun i : Nat => ⟨[(1, .ptr 0 g1 0), (3, .i i)], [.row g1 [.i k, .i n, .i m, Qo ks]]⟩) (fun i => i <= ks.length /\ (ks.take i).all (Qp · 1) = true) (fun i => ks.length - i) 0 ?_ ⟨by omega, by simp⟩ ?_
 ·exact zal rfl
 intro i ⟨hi, hal⟩
 by_cases hil : i < ks.length
 ·have hpl := r05Fun_c (G := G) ks[i] (hi' i hil)
  clear hi'
  cases hb5 : Qp ks[i] 1
  ·rw [hb5] at hpl
   have hf : ks.all (Qp · 1) = false := by
    rw [Bool.eq_false_iff];intro hc
    rw [List.all_eq_true] at hc
    exact absurd (hc _ (List.getElem_mem hil)) (by rw [hb5];simp)
   rw [hf]
   (refine wkVV ?_;intros)
   all_goals exact e_1 (Tryz.results65) (Qb rfl) (Qd rfl)
  ·rw [hb5] at hpl
   have ht := all_take hil (Qp · 1)
   (refine wkVV ?_;intros)
   refine ⟨i + 1, ⟨by omega, by rw [ht, hal, hb5];rfl⟩, by omega, ?_⟩
   exact zal rfl
 ·have hie : i = ks.length := by omega
  subst hie
  rw [List.take_length] at hal
  rw [hal]
  clear hi'
  (refine wkVV ?_;intros)
  all_goals exact e_1 (Tryz.results65) (Qb rfl) (Qd rfl)
theorem Q3 (m : Int) (l : Nat) (c : Int) (h : 0 <= c) : QI m l c = bareR m l c := by unfold QI bareR;rw [decide_eq_false (show ¬ c < 0 by omega)];simp
theorem WW (n m : Int) (l : Nat) (c : Int) (h : 0 <= c) : Wu n m l c = (decide (n = 0) && bareR m l c) := by unfold Wu;rw [Q3 _ _ _ h]
theorem itoa_nat {n : Int} (h : 0 <= n) : Lib.itoa n = Lib.decDigits n.toNat := by unfold Lib.itoa;rw [if_neg (by omega)]
theorem qY {n : Int} (h : WF n = true) : 0 <= n /\ n <= 999 := by simpa [WF] using h
theorem wkU2 {X W0 W1 W2 : Prop} (w0 : W0 := by exact True.intro) (w1 : W1 := by exact True.intro) (w2 : W2 := by exact True.intro) (s : (Unit -> W0) -> (Unit -> W1) -> (Unit -> W2) -> Unit -> X := by (intro w0 w1 w2 _;(repeat' first|(refine Qz ?_;(first|refine Ws rfl ?_|refine WM rfl ?_|(refine QN ?_;(first|refine Q0 rfl ?_|refine Qc rfl rfl rfl ?_))|refine Qq rfl rfl (by first|assumption|omega|(simp;done)|(simp;omega)) ?_|(refine Qw ?_;(first|refine Zw rfl rfl ?_|refine WX rfl rfl ?_|refine s_neq rfl rfl ?_|refine ZU rfl rfl (by omega) ?_|refine s_ad rfl rfl ?_))|(refine QK ?_;(first|refine s_call_v rfl rfl (View.ref rfl (by rw [Qx];rfl) (Qy _) View.nil) (r_list_c _ hJ hN) rfl ?_|refine WA rfl rfl (hx) ?_|refine Zy (z := Str.mk _) rfl rfl rfl rfl rfl rfl rfl (by first|omega|(simp;omega)) (by first|omega|(simp;omega)) (fun _ => rfl) (fun _ _ => ?_)|refine Qv rfl ?_))|(refine Q1 ?_;(first|refine ZO rfl rfl ?_|refine W9 rfl rfl ?_))|refine W5 rfl rfl (by decide) rfl ?_|refine qK rfl ?_|refine Qe rfl rfl ?_|refine Zm rfl rfl rfl ?_|refine ZC rfl rfl (fun _ _ => ?_)))|(refine We ?_;(first|refine Wb ?_|refine Zg rfl ?_|refine qd rfl rfl rfl rfl ?_|refine qw rfl rfl rfl rfl ?_|refine WN rfl rfl (by omega) ?_|refine WD rfl rfl (by omega) ?_))|(refine Wc ?_;(first|refine Q7 ?_|refine Qm ?_|refine QM ?_|(refine WC ?_;first|refine Q9 (by rfl) (by kernel_rfl) (by kernel_rfl) ?_|refine Q8 (by kernel_rfl) (by kernel_rfl) ?_)|refine QV ?_|refine QD rfl ?_|refine QR rfl ?_|refine Qu rfl (by omega) ?_|refine Qn rfl (by omega) ?_|refine W8 rfl ?_|refine Wi ?_))|(refine qM ?_;(first|refine x_gn rfl rfl rfl rfl ?_|refine x_op rfl (by (repeat' first|(refine Qz ?_;(first|refine Ws rfl ?_|refine WM rfl ?_|(refine QN ?_;(first|refine Z4 rfl rfl ?_|refine QA rfl ?_|refine Qc rfl rfl rfl ?_))|refine Qq rfl rfl (by first|assumption|omega|(simp;done)|(simp;omega)) ?_|(refine Qw ?_;(first|refine WX rfl rfl ?_|refine s_ad rfl rfl ?_))|(refine QK ?_;(first|refine s_max rfl rfl ?_|refine WA rfl rfl (hdig) ?_|refine WA rfl rfl (ZK _) ?_|refine WA rfl rfl (qa _ _ _ _ _) ?_))|(refine Q1 ?_;(first|refine ZO rfl rfl ?_|refine W9 rfl rfl ?_))|refine s_bslice_e [Str.mk [105, 110, 116], Str.mk [98, 111, 111, 108]] rfl rfl (by decide) rfl ?_|refine Qe rfl rfl ?_))|exact ⟨rfl, rfl⟩)) ?_|refine x_gy rfl rfl rfl rfl (by (repeat' first|(refine Qz ?_;(first|refine Ws rfl ?_|refine WM rfl ?_|(refine QN ?_;(first|refine Z4 rfl rfl ?_|refine QA rfl ?_|refine Qc rfl rfl rfl ?_))|refine Qq rfl rfl (by first|assumption|omega|(simp;done)|(simp;omega)) ?_|(refine Qw ?_;(first|refine WX rfl rfl ?_|refine s_ad rfl rfl ?_))|(refine QK ?_;(first|refine s_max rfl rfl ?_|refine WA rfl rfl (hdig) ?_|refine WA rfl rfl (ZK _) ?_|refine WA rfl rfl (qa _ _ _ _ _) ?_))|(refine Q1 ?_;(first|refine ZO rfl rfl ?_|refine W9 rfl rfl ?_))|refine s_bslice_e [Str.mk [105, 110, 116], Str.mk [98, 111, 111, 108]] rfl rfl (by decide) rfl ?_|refine Qe rfl rfl ?_))|exact ⟨rfl, rfl⟩)) ?_|refine qJ ?_|refine x_sp_t rfl rfl (by omega) ?_|refine x_sp_f rfl rfl (by omega) ?_|refine x_sp rfl rfl (fun _ => ?_) (fun _ => ?_))));(all_goals (repeat (rename_i x;(fail_if_success have : Unit := x);revert x)));(first|done|exact w0 ());(first|done|exact w1 ());(first|done|exact w2 ()))) (u : (W0 \/ True) /\ (W1 \/ True) /\ (W2 \/ True) := by (refine ⟨?_, ?_, ?_⟩ <;> first|exact Or.inl True.intro|exact Or.inr True.intro)) : X := s (fun _ => w0) (fun _ => w1) (fun _ => w2) ()
theorem rTy_c (t : Nd) : okN t -> Qk t <= 1000000 -> ∃ x, Go.Av.Pure Tryz.prog G 54 [.agg (Enc.enc t)] (.tup [Q2 x, .b (ZH t)]) /\ (ZH t = true -> x = qz t) := by
 induction t using Nd.ind with
 | h k n m ks ih =>
 intro hok hsz
 rw [okN] at hok
 rw [Qk] at hsz
 have hl1 := Wk ks
 have hi : ∀ x ∈ ks, ∃ y, Go.Av.Pure Tryz.prog G 54 [.agg (Enc.enc x)] (.tup [Q2 y, .b (ZH x)]) /\ (ZH x = true -> y = qz x) := fun x hx => ih x hx (Wa hok.2 hx) (by have := QG hx;omega)
 clear ih
 rw [qz, ZH, typTs_eq, typOks_eq, Qr]
 by_cases k2 : k = 2
 ·subst k2
  have hdig : Go.Av.Pure Tryz.prog G 93 [.i (max n 0)] (Q2 (Lib.decDigits n.toNat)) := by
   rw [show max n 0 = (n.toNat : Int) by omega];exact qW _ (by have := hok.1.2.1.2;omega)
  have hdl := digits_len n.toNat (by have := hok.1.2.1.2;omega)
  rw [Q3 _ _ _ (by decide)]
  refine ⟨[97, 114, 114, 32] ++ Lib.decDigits n.toNat, fun B => ?_, ?_⟩
  ·refine Qa Tryz.func54 rfl Tryz.ntmps54 rfl (t := [(0, .agg [.i 2, .i n, .i m, Qo ks])]) rfl fun E hE => ?_
   (refine wkU2 ?_ ?_ <;> first|exact True.intro|intros)
   all_goals exact e_2 Tryz.results54 (Qb rfl) (Qb rfl) (Qd (by simp [*]))
  ·intro h
   simp at h
   rw [itoa_nat (qY h.2).1];simp
 by_cases k0 : k = 0
 ·subst k0
  rw [WW _ _ _ _ (by decide)]
  refine ⟨[105, 110, 116], fun B => ?_, by simp⟩
  by_cases hn : n = 0
  all_goals
   refine Qa Tryz.func54 rfl Tryz.ntmps54 rfl (t := [(0, .agg [.i 0, .i n, .i m, Qo ks])]) rfl fun E hE => ?_
   (refine wkU2 ?_ ?_ <;> first|exact True.intro|intros)
   all_goals exact e_2 Tryz.results54 (Qb rfl) (Qb rfl) (Qd (by simp [*]))
 by_cases k1 : k = 1
 ·subst k1
  rw [WW _ _ _ _ (by decide)]
  refine ⟨[98, 111, 111, 108], fun B => ?_, by simp⟩
  by_cases hn : n = 0
  all_goals
   refine Qa Tryz.func54 rfl Tryz.ntmps54 rfl (t := [(0, .agg [.i 1, .i n, .i m, Qo ks])]) rfl fun E hE => ?_
   (refine wkU2 ?_ ?_ <;> first|exact True.intro|intros)
   all_goals exact e_2 Tryz.results54 (Qb rfl) (Qb rfl) (Qd (by simp [*]))
 by_cases k3 : k = 3
 ·subst k3
  by_cases hc : ks.length = 0 \/ n ≠ 0 \/ m ≠ 0
  ·refine ⟨[], fun B => ?_, fun h => ?_⟩
   ·by_cases h0 : (ks.length : Int) = 0
    ·have h00 : ks.length = 0 := by omega
     refine Qa Tryz.func54 rfl Tryz.ntmps54 rfl (t := [(0, .agg [.i 3, .i n, .i m, Qo ks])]) rfl fun E hE => ?_
     (refine wkU2 ?_;intros)
     all_goals exact e_2 Tryz.results54 (Qb rfl) (Qb rfl) (Qd (by simp [*]))
    by_cases hn : n = 0
    ·have hm : m ≠ 0 := by omega
     refine Qa Tryz.func54 rfl Tryz.ntmps54 rfl (t := [(0, .agg [.i 3, .i n, .i m, Qo ks])]) rfl fun E hE => ?_
     (refine wkU2 ?_;intros)
     all_goals exact e_2 (Tryz.results54) (Qb rfl) (Qb rfl) (Qd (by simp [Wu, QI, *]))
    ·refine Qa Tryz.func54 rfl Tryz.ntmps54 rfl (t := [(0, .agg [.i 3, .i n, .i m, Qo ks])]) rfl fun E hE => ?_
     (refine wkU2 ?_;intros)
     all_goals exact e_2 (Tryz.results54) (Qb rfl) (Qb rfl) (Qd (by simp [Wu, QI, *]))
   ·simp [Wu, QI] at h;omega
  ·have hlen : ¬ ks.length = 0 := fun h => hc (.inl h)
   have hn : n = 0 := Classical.byContradiction fun h => hc (.inr (.inl h))
   have hm : m = 0 := Classical.byContradiction fun h => hc (.inr (.inr h))
   have hlz : ¬ (ks.length : Int) = 0 := by omega
   have hlp : 0 < ks.length := by omega
   have hcl := ZN qz ks fun x hx => qT x (Wa hok.2 hx)
   subst hn;subst hm
   refine ⟨if ks.all ZH = true then [114, 101, 99, 32, 40] ++ Wy (ks.map qz) ++ [41] else [], fun B => ?_, fun h => ?_⟩
   ·refine Qa Tryz.func54 rfl Tryz.ntmps54 rfl (t := [(0, .agg [.i 3, .i 0, .i 0, Qo ks])]) rfl fun E hE => ?_
    (refine wkU2 ?_;intros)
    rename_i gb hgb
    refine r_own 4 1 rfl fun gO hgO => ?_
    refine r_loopg (fun (i : Nat) g => ⟨[(1, .ptr 0 gb 0), (4, .ref 1 g 0 ((ks.take i).map fun x => Str.mk (qz x)).length 1), (5, .i i)], [.row gb [.i 3, .i 0, .i 0, Qo ks], .row g (Wf ((ks.take i).map fun x => Str.mk (qz x)))]⟩) (fun i => i <= ks.length /\ (ks.take i).all ZH = true) (fun i => ks.length - i) 0 gO hgO ?_ (by simp) ?_
    ·exact zal rfl
    intro i g ⟨hil0, hall⟩ hg
    by_cases hil : i < ks.length
    ·obtain ⟨y, hx, hxe⟩ := hi _ (List.getElem_mem hil)
     by_cases hk : ZH ks[i] = true
     ·have hye := hxe hk
      subst hye
      rw [hk] at hx
      have hb2 : ((ks.take (i + 1)).map fun x => Str.mk (qz x)) = ((ks.take i).map fun x => Str.mk (qz x)) ++ [Str.mk (qz ks[i])] := by rw [List.take_succ_eq_append_getElem hil, List.map_append];rfl
      have hal : ((ks.take i).map fun x => Str.mk (qz x)).length <= 1048576 := by simp;omega
      (refine wkU2 ?_;intros)
      refine ⟨i + 1, _, ⟨by omega, by rw [List.take_succ_eq_append_getElem hil, List.all_append, hall];simp [hk]⟩, by assumption, by omega, ?_⟩
      rw [hb2]
      exact zal rfl
     ·have hk2 : ZH ks[i] = false := by rw [<- Bool.not_eq_true];exact hk
      rw [hk2] at hx
      have hna : ks.all ZH = false := by
       rw [<- Bool.not_eq_true, List.all_eq_true]
       intro h;exact hk (h _ (List.getElem_mem hil))
      (refine wkU2 ?_;intros)
      exact e_2 (Tryz.results54) (Qb rfl) (Qb rfl) (Qd (by simp [hna]))
    ·have hie : i = ks.length := by omega
     subst hie
     rw [List.take_length] at *
     have hJ : (Wy (qm (ks.map fun x => Str.mk (qz x)))).length <= 140737488355328 := by unfold qm;rw [List.map_map];show (Wy (ks.map qz)).length <= _;omega
     have hN : (ks.map fun x => Str.mk (qz x)).length <= 1000000000 := by simp;omega
     have hst : qm (ks.map fun x => Str.mk (qz x)) = ks.map qz := by unfold qm;rw [List.map_map];rfl
     have hcl2 : (Wy (qm (ks.map fun x => Str.mk (qz x)))).length <= 30 * Qs ks := by rw [hst];exact hcl
     (refine wkU2 ?_;intros)
     exact e_2 (Tryz.results54) (Qb rfl) (Qb rfl) (Qd (by rw [hst];simp [hall, Wu, QI, hlp]))
   ·have ha : ks.all ZH = true := by simp at h;rw [List.all_eq_true];exact h.2
    rw [if_pos ha];simp
 ·refine ⟨[], fun B => ?_, by simp [k0, k1, k2, k3]⟩
  refine Qa Tryz.func54 rfl Tryz.ntmps54 rfl (t := [(0, .agg [.i k, .i n, .i m, Qo ks])]) rfl fun E hE => ?_
  (refine wkU2 ?_;intros)
  all_goals exact e_2 Tryz.results54 (Qb rfl) (Qb rfl) (Qd (by simp [*]))
def RxC (G : Nat -> DV) (t : Nd) : Prop := ∃ x, Go.Av.Pure Tryz.prog G 55 [.agg (Enc.enc t)] (.tup [Q2 x, .b (Zn t)]) /\ (Zn t = true -> x = exT t)
theorem wkU3 {X W0 W1 W2 : Prop} (w0 : W0 := by exact True.intro) (w1 : W1 := by exact True.intro) (w2 : W2 := by exact True.intro) (s : (Unit -> W0) -> (Unit -> W1) -> (Unit -> W2) -> Unit -> X := by (intro w0 w1 w2 _;(repeat' first|(refine Qz ?_;(first|refine Ws rfl ?_|refine WM rfl ?_|(refine QN ?_;(first|refine Z4 rfl rfl ?_|refine Q0 rfl ?_|refine Qc rfl rfl rfl ?_))|refine Qq rfl rfl (by first|assumption|omega|(simp;done)|(simp;omega)) ?_|(refine Qw ?_;(first|refine Zw rfl rfl ?_|refine WG rfl rfl ?_|refine WX rfl rfl ?_|refine ZU rfl rfl (by omega) ?_|refine s_ad rfl rfl ?_))|(refine QK ?_;(first|refine Zy (z := Str.mk _) rfl rfl rfl rfl rfl rfl rfl (by first|omega|(simp;omega)) (by first|omega|(simp;omega)) (fun _ => rfl) (fun _ _ => ?_)|refine Qv rfl ?_|refine WA rfl rfl (hdig) ?_|refine WA rfl rfl (hsm) ?_|refine WA rfl rfl (hbr) ?_|refine WA rfl rfl (hes) ?_|refine WA rfl rfl (hes2) ?_|refine WA rfl rfl (qa _ _ _ _ _) ?_|refine WA rfl rfl (hx) ?_))|(refine Q1 ?_;(first|refine ZO rfl rfl ?_|refine W9 rfl rfl ?_))|refine W5 rfl rfl (by decide) rfl ?_|refine qK rfl ?_|refine Qe rfl rfl ?_|refine Zm rfl rfl rfl ?_|refine ZC rfl rfl (fun _ _ => ?_)))|(refine We ?_;(first|refine Wb ?_|refine Zg rfl ?_|refine qd rfl rfl rfl rfl ?_|refine qw rfl rfl rfl rfl ?_|refine WN rfl rfl (by omega) ?_|refine WD rfl rfl (by omega) ?_))|(refine Wc ?_;(first|refine Q7 ?_|refine Qm ?_|refine QM ?_|(refine WC ?_;first|refine Q9 (by rfl) (by kernel_rfl) (by kernel_rfl) ?_|refine Q8 (by kernel_rfl) (by kernel_rfl) ?_)|refine QV ?_|refine QD rfl ?_|refine QR rfl ?_|refine Qu rfl (by omega) ?_|refine Qn rfl (by omega) ?_|refine W8 rfl ?_|refine Wi ?_))|(refine qM ?_;(first|refine x_gn rfl rfl rfl rfl ?_|refine x_op rfl (by (repeat' first|(refine Qz ?_;(first|refine Ws rfl ?_|refine WM rfl ?_|(refine QN ?_;(first|refine Z4 rfl rfl ?_|refine QA rfl ?_|refine Qc rfl rfl rfl ?_))|(refine qp ?_;(first|refine Qq rfl rfl (by first|assumption|omega|(simp;done)|(simp;omega)) ?_|refine s_idx_sl rfl rfl (by omega) (by first|assumption|omega|(simp;done)|(simp;omega)) ?_))|(refine Qw ?_;(first|refine qv rfl rfl ?_|refine WG rfl rfl ?_|refine WX rfl rfl ?_|refine s_ad rfl rfl ?_))|(refine QK ?_;(first|refine s_max rfl rfl ?_|refine Qv rfl ?_|refine s_min rfl rfl ?_|refine WA rfl rfl (hdig) ?_|refine WA rfl rfl (hdig2) ?_|refine WA rfl rfl (hsm) ?_|refine WA rfl rfl (hsm2) ?_|refine WA rfl rfl (hli) ?_|refine WA rfl rfl (hops) ?_|refine WA rfl rfl (qa _ _ _ _ _) ?_))|(refine Q1 ?_;(first|refine ZO rfl rfl ?_|refine W9 rfl rfl ?_))|refine s_bslice_e [Str.mk [102, 97, 108, 115, 101], Str.mk [116, 114, 117, 101]] rfl rfl (by decide) rfl ?_|refine s_neg rfl (by omega) ?_|refine Qe rfl rfl ?_))|exact ⟨rfl, rfl⟩)) ?_|refine x_gy rfl rfl rfl rfl (by (repeat' first|(refine Qz ?_;(first|refine Ws rfl ?_|refine WM rfl ?_|(refine QN ?_;(first|refine Z4 rfl rfl ?_|refine QA rfl ?_|refine Qc rfl rfl rfl ?_))|(refine qp ?_;(first|refine Qq rfl rfl (by first|assumption|omega|(simp;done)|(simp;omega)) ?_|refine s_idx_sl rfl rfl (by omega) (by first|assumption|omega|(simp;done)|(simp;omega)) ?_))|(refine Qw ?_;(first|refine qv rfl rfl ?_|refine WG rfl rfl ?_|refine WX rfl rfl ?_|refine s_ad rfl rfl ?_))|(refine QK ?_;(first|refine s_max rfl rfl ?_|refine Qv rfl ?_|refine s_min rfl rfl ?_|refine WA rfl rfl (hdig) ?_|refine WA rfl rfl (hdig2) ?_|refine WA rfl rfl (hsm) ?_|refine WA rfl rfl (hsm2) ?_|refine WA rfl rfl (hli) ?_|refine WA rfl rfl (hops) ?_|refine WA rfl rfl (qa _ _ _ _ _) ?_))|(refine Q1 ?_;(first|refine ZO rfl rfl ?_|refine W9 rfl rfl ?_))|refine s_bslice_e [Str.mk [102, 97, 108, 115, 101], Str.mk [116, 114, 117, 101]] rfl rfl (by decide) rfl ?_|refine s_neg rfl (by omega) ?_|refine Qe rfl rfl ?_))|exact ⟨rfl, rfl⟩)) ?_|refine qJ ?_|refine x_sp_t rfl rfl (by omega) ?_|refine x_sp_f rfl rfl (by omega) ?_|refine x_sp_d rfl rfl (fun _ => ?_) (fun _ => ?_)|refine x_sp rfl rfl (fun _ => ?_) (fun _ => ?_))));(all_goals (repeat (rename_i x;(fail_if_success have : Unit := x);revert x)));(first|done|exact w0 ());(first|done|exact w1 ());(first|done|exact w2 ()))) (u : (W0 \/ True) /\ (W1 \/ True) /\ (W2 \/ True) := by (refine ⟨?_, ?_, ?_⟩ <;> first|exact Or.inl True.intro|exact Or.inr True.intro)) : X := s (fun _ => w0) (fun _ => w1) (fun _ => w2) ()
theorem rexprs_c (ks : List Nd) (hsz : Qs ks <= 1000000) (hi : ∀ x ∈ ks, RxC G x) : Go.Av.Pure Tryz.prog G 98 [Qo ks] (.tup [Qo (if ks.all Zn = true then ks.map (fun x => Str.mk (exT x)) else []), .b (ks.all Zn)]) := fun B => by
 have hl1 := Wk ks
 refine Qa Tryz.func98 rfl Tryz.ntmps98 rfl (t := [(0, Qo ks)]) rfl fun E hE => ?_
 (refine wkU3 ?_;intros)
 refine r_own 4 1 rfl fun gO hgO => ?_
 refine r_loopg (fun (i : Nat) g => ⟨[(0, Qo ks), (4, .ref 0 g 0 ((ks.take i).map fun x => Str.mk (exT x)).length 1), (5, .i i)], [.row g (Wf ((ks.take i).map fun x => Str.mk (exT x)))]⟩) (fun i => i <= ks.length /\ (ks.take i).all Zn = true) (fun i => ks.length - i) 0 gO hgO ?_ (by simp) ?_
 ·exact zal rfl
 intro i g ⟨hil0, hall⟩ hg
 by_cases hil : i < ks.length
 ·obtain ⟨y, hx, hxe⟩ := hi _ (List.getElem_mem hil)
  by_cases hk : Zn ks[i] = true
  ·have hye := hxe hk
   subst hye
   rw [hk] at hx
   have hb2 : ((ks.take (i + 1)).map fun x => Str.mk (exT x)) = ((ks.take i).map fun x => Str.mk (exT x)) ++ [Str.mk (exT ks[i])] := by rw [List.take_succ_eq_append_getElem hil, List.map_append];rfl
   have hal : ((ks.take i).map fun x => Str.mk (exT x)).length <= 1048576 := by simp;omega
   (refine wkU3 ?_;intros)
   refine ⟨i + 1, _, ⟨by omega, by rw [List.take_succ_eq_append_getElem hil, List.all_append, hall];simp [hk]⟩, by assumption, by omega, ?_⟩
   rw [hb2]
   exact zal rfl
  ·have hk2 : Zn ks[i] = false := by rw [<- Bool.not_eq_true];exact hk
   rw [hk2] at hx
   have hna : ks.all Zn = false := by
    rw [<- Bool.not_eq_true, List.all_eq_true]
    intro h;exact hk (h _ (List.getElem_mem hil))
   (refine wkU3 ?_;intros)
   exact e_2 (Tryz.results98) (Qb rfl) (Qb rfl) (Ze (fun L v h => ZB (fun v hv => Zj (es := 1) hv) h) (Qd (by simp [hna];rfl)))
 ·have hie : i = ks.length := by omega
  subst hie
  rw [List.take_length] at *
  refine r_pub 4 rfl rfl (by rw [Qx];rfl) rfl ?_
  (refine wkU3 ?_;intros)
  exact e_2 (Tryz.results98) (Qb rfl) (Qb rfl) (WV (σ := []) ⟨by simp [hall];rfl, rfl⟩)
theorem exOk_all (k n m : Int) (ks : List Nd) (h : Zn (.mk k n m ks) = true) : ks.all Zn = true := by
 rw [Zn, WQ] at h
 have h0 : ks.length = 0 -> ks.all Zn = true := fun h => by rw [List.eq_nil_of_length_eq_zero h];rfl
 have hp : QI m ks.length 0 = true -> ks.all Zn = true := fun h => h0 (by unfold QI at h;simp only [Bool.and_eq_true, Bool.or_eq_true, decide_eq_true_eq] at h;omega)
 split at h
 ·simp only [Bool.and_eq_true] at h;exact hp h.1
 split at h
 ·simp only [Bool.and_eq_true] at h;exact hp h.1
 split at h
 ·simp only [Bool.and_eq_true] at h;exact hp h.1
 split at h
 ·simp only [Bool.and_eq_true] at h;exact h.2
 split at h
 ·simp only [Bool.and_eq_true, decide_eq_true_eq] at h;exact h0 h.1.1
 split at h
 ·simp only [Bool.and_eq_true] at h;exact h.2
 split at h
 ·simp only [Bool.and_eq_true] at h;exact h.2
 split at h
 ·simp only [Bool.and_eq_true] at h;exact h.2
 split at h
 ·simp only [Bool.and_eq_true] at h;exact hp h.1
 ·cases h
theorem exOk_small (k n m : Int) (ks : List Nd) (hk : k ≠ 4) (h : Zn (.mk k n m ks) = true) : WF n = true := by
 rw [Zn] at h
 have h5 : decide (n = 0) = true \/ decide (n = 1) = true -> WF n = true := fun h => by simp [WF] at h ⊢;omega
 split at h
 ·exact absurd (by assumption) hk
 split at h
 ·simp only [Bool.and_eq_true, Bool.or_eq_true] at h;exact h5 h.2
 split at h
 ·simp only [Bool.and_eq_true] at h;exact h.2
 split at h
 ·simp only [Bool.and_eq_true] at h;exact h.1.2
 split at h
 ·simp only [Bool.and_eq_true, decide_eq_true_eq] at h;exact h.1.2
 split at h
 ·simp only [Bool.and_eq_true, decide_eq_true_eq] at h;simp [WF];omega
 split at h
 ·simp only [Bool.and_eq_true, Wu, decide_eq_true_eq] at h;simp [WF];omega
 split at h
 ·simp only [Bool.and_eq_true] at h;exact h.1.2
 split at h
 ·simp only [Bool.and_eq_true] at h;exact h.2
 ·cases h
theorem ZL (m : Int) (l : Nat) : QI m l (-1) = decide (m = 0) := by unfold QI;simp
theorem opAt2 {n : Int} (h0 : 0 <= n) (h1 : n < 14) (h : n.toNat < (opTexts.map Str.mk).length) : ((opTexts.map Str.mk)[n.toNat]).l = opTexts.getD n.toNat [] := by
 rw [List.getElem_map, List.getD_eq_getElem?_getD, List.getElem?_eq_getElem (by simpa using h)];rfl
theorem rEx_c (t : Nd) : okN t -> Qk t <= 1000000 -> RxC G t := by
 induction t using Nd.ind with
 | h k n m ks ih =>
 intro hok hsz
 rw [okN] at hok
 rw [Qk] at hsz
 have hl1 := Wk ks
 have hes := rexprs_c ks (by omega) fun x hx => ih x hx (Wa hok.2 hx) (by have := QG hx;omega)
 have hcl := ZN exT ks (fun x hx => qS x (Wa hok.2 hx))
 have hxl : ∀ x ∈ ks, (exT x).length <= 60000000 := fun x hx => by have := qS x (Wa hok.2 hx);have := QG hx;omega
 have hsx := exOk_small k n m ks
 have hax := exOk_all k n m ks
 clear ih
 unfold RxC
 rw [Qr]
 by_cases hall : ks.all Zn = true
 ·rw [hall, if_pos rfl] at hes
  have hst : qm (ks.map fun x => Str.mk (exT x)) = ks.map exT := by unfold qm;rw [List.map_map];rfl
  have hli := r_list_c (G := G) (ks.map fun x => Str.mk (exT x)) (by rw [hst];omega) (by simp;omega)
  rw [hst] at hli
  by_cases k4 : k = 4
  ·subst k4
   by_cases hn : n < 0
   ·have hdig : Go.Av.Pure Tryz.prog G 93 [.i (-(max n (-999)))] (Q2 (Lib.decDigits (-(max n (-999))).toNat)) := by
     have := qW (G := G) (-(max n (-999))).toNat (by omega)
     rwa [show (((-(max n (-999))).toNat : Nat) : Int) = -(max n (-999)) by omega] at this
    have hdl := digits_len (-(max n (-999))).toNat (by omega)
    have hi := hok.1.2.1.1
    refine ⟨[45] ++ Lib.decDigits (-(max n (-999))).toNat, fun B => ?_, fun h => ?_⟩
    ·by_cases h9 : -999 <= n
     all_goals
      refine Qa Tryz.func55 rfl Tryz.ntmps55 rfl (t := [(0, .agg [.i 4, .i n, .i m, Qo ks])]) rfl fun E hE => ?_
      (refine wkU3 ?_ ?_ <;> first|exact True.intro|intros)
      all_goals exact e_2 (Tryz.results55) (Qb rfl) (Qb rfl) (Qd (by rw [Zn, WQ];simp [Q3, *]))
    ·rw [Zn] at h
     rw [exT, if_pos rfl]
     have h9 : -999 <= n := by simp [hn] at h;omega
     unfold Lib.itoa
     rw [if_pos hn, show (-(max n (-999))).toNat = n.natAbs by omega];rfl
   ·have hn0 : 0 <= n := by omega
    have hdig : Go.Av.Pure Tryz.prog G 93 [.i n] (Q2 (Lib.itoa n)) := by
     rw [itoa_nat hn0]
     have := qW (G := G) n.toNat (by have := hok.1.2.1.2;omega)
     rwa [show ((n.toNat : Nat) : Int) = n by omega] at this
    refine ⟨Lib.itoa n, fun B => ?_, fun h => by rw [exT, if_pos rfl]⟩
    by_cases hs : WF n = true
    ·have hsm : Go.Av.Pure Tryz.prog G 92 [.i n] (.b true) := by have := ZK (G := G) n;rwa [hs] at this
     refine Qa Tryz.func55 rfl Tryz.ntmps55 rfl (t := [(0, .agg [.i 4, .i n, .i m, Qo ks])]) rfl fun E hE => ?_
     (refine wkU3 ?_;intros)
     all_goals exact e_2 (Tryz.results55) (Qb rfl) (Qb rfl) (Qd (by rw [Zn, WQ];simp [Q3, *]))
    ·have hs2 : WF n = false := by rw [<- Bool.not_eq_true];exact hs
     have hsm : Go.Av.Pure Tryz.prog G 92 [.i n] (.b false) := by have := ZK (G := G) n;rwa [hs2] at this
     refine Qa Tryz.func55 rfl Tryz.ntmps55 rfl (t := [(0, .agg [.i 4, .i n, .i m, Qo ks])]) rfl fun E hE => ?_
     (refine wkU3 ?_;intros)
     all_goals exact e_2 (Tryz.results55) (Qb rfl) (Qb rfl) (Qd (by rw [Zn, WQ];simp [Q3, *]))
  have hsx := hsx k4
  by_cases hs : WF n = true
  case neg =>
   have hs2 : WF n = false := by rw [<- Bool.not_eq_true];exact hs
   have hsm : Go.Av.Pure Tryz.prog G 92 [.i n] (.b false) := by have := ZK (G := G) n;rwa [hs2] at this
   have hf : Zn (.mk k n m ks) = false := by rw [<- Bool.not_eq_true];exact fun h => hs (hsx h)
   refine ⟨[], fun B => ?_, fun h => by rw [hf] at h;cases h⟩
   refine Qa Tryz.func55 rfl Tryz.ntmps55 rfl (t := [(0, .agg [.i k, .i n, .i m, Qo ks])]) rfl fun E hE => ?_
   (refine wkU3 ?_;intros)
   all_goals exact e_2 (Tryz.results55) (Qb rfl) (Qb rfl) (Qd (by rw [hf]))
  have hsm : Go.Av.Pure Tryz.prog G 92 [.i n] (.b true) := by have := ZK (G := G) n;rwa [hs] at this
  obtain ⟨hn0, hn9⟩ := qY hs
  have hdig : Go.Av.Pure Tryz.prog G 93 [.i n] (Q2 (Lib.itoa n)) := by
   rw [itoa_nat hn0]
   have := qW (G := G) n.toNat (by omega)
   rwa [show ((n.toNat : Nat) : Int) = n by omega] at this
  have hil := WP hok.1.2.1
  by_cases k5 : k = 5
  ·subst k5
   refine ⟨if n = 0 then [102, 97, 108, 115, 101] else [116, 114, 117, 101], fun B => ?_, fun h => ?_⟩
   ·by_cases n0 : n = 0
    ·subst n0
     refine Qa Tryz.func55 rfl Tryz.ntmps55 rfl (t := [(0, .agg [.i 5, .i 0, .i m, Qo ks])]) rfl fun E hE => ?_
     (refine wkU3 ?_;intros)
     all_goals exact e_2 (Tryz.results55) (Qb rfl) (Qb rfl) (Qd (by rw [Zn, WQ];simp [Q3, WW, *]))
    ·have hmin : min n 1 = 1 := by omega
     by_cases n1 : n <= 1
     all_goals
      refine Qa Tryz.func55 rfl Tryz.ntmps55 rfl (t := [(0, .agg [.i 5, .i n, .i m, Qo ks])]) rfl fun E hE => ?_
      (refine wkU3 ?_ ?_ <;> first|exact True.intro|intros)
      all_goals exact e_2 (Tryz.results55) (Qb rfl) (Qb rfl) (Qd (by rw [Zn, WQ];simp [Q3, WW, *] <;> omega))
   ·rw [Zn, WQ] at h
    rw [exT, q9]
    simp at h ⊢
    rcases h.2 with h|h <;> simp [h]
  by_cases k6 : k = 6
  ·subst k6
   refine ⟨[118] ++ Lib.itoa n, fun B => ?_, fun h => ?_⟩
   ·refine Qa Tryz.func55 rfl Tryz.ntmps55 rfl (t := [(0, .agg [.i 6, .i n, .i m, Qo ks])]) rfl fun E hE => ?_
    (refine wkU3 ?_;intros)
    all_goals exact e_2 (Tryz.results55) (Qb rfl) (Qb rfl) (Qd (by rw [Zn, WQ];simp [Q3, WW, *]))
   ·rw [Zn, WQ] at h
    rw [exT, q9]
    simp at h ⊢
  by_cases k7 : k = 7
  ·subst k7
   refine ⟨[118] ++ Lib.itoa n ++ [91] ++ Wy (ks.map exT) ++ [93], fun B => ?_, fun h => ?_⟩
   ·refine Qa Tryz.func55 rfl Tryz.ntmps55 rfl (t := [(0, .agg [.i 7, .i n, .i m, Qo ks])]) rfl fun E hE => ?_
    (refine wkU3 ?_;intros)
    all_goals exact e_2 (Tryz.results55) (Qb rfl) (Qb rfl) (Qd (by rw [Zn, WQ];simp [Q3, WW, *]))
   ·rw [Zn, WQ] at h
    rw [exT, q9]
    simp at h ⊢
  by_cases k8 : k = 8
  ·subst k8
   have hdig2 : Go.Av.Pure Tryz.prog G 93 [.i (max m 0)] (Q2 (Lib.decDigits m.toNat)) := by
    rw [show max m 0 = (m.toNat : Int) by omega];exact qW _ (by have := hok.1.2.2.2;omega)
   have hdl := digits_len m.toNat (by have := hok.1.2.2.2;omega)
   have hsm2 := ZK (G := G) m
   refine ⟨[118] ++ Lib.itoa n ++ [46] ++ Lib.decDigits m.toNat, fun B => ?_, fun h => ?_⟩
   ·refine Qa Tryz.func55 rfl Tryz.ntmps55 rfl (t := [(0, .agg [.i 8, .i n, .i m, Qo ks])]) rfl fun E hE => ?_
    (refine wkU3 ?_ ?_ <;> first|exact True.intro|intros)
    all_goals exact e_2 (Tryz.results55) (Qb rfl) (Qb rfl) (Qd (by rw [Zn, WQ];simp [Q3, WW, *]))
   ·rw [Zn, WQ] at h
    rw [exT, q9]
    simp at h ⊢
    rw [itoa_nat (qY h.2).1]
  by_cases k10 : k = 10
  ·subst k10
   refine ⟨[33] ++ Wy (ks.map exT), fun B => ?_, fun h => ?_⟩
   ·refine Qa Tryz.func55 rfl Tryz.ntmps55 rfl (t := [(0, .agg [.i 10, .i n, .i m, Qo ks])]) rfl fun E hE => ?_
    (refine wkU3 ?_ ?_ <;> first|exact True.intro|intros)
    all_goals exact e_2 (Tryz.results55) (Qb rfl) (Qb rfl) (Qd (by rw [Zn, WQ];simp [Q3, WW, *]))
   ·rw [Zn, WQ] at h
    rw [exT, q9]
    simp at h ⊢
  by_cases k11 : k = 11
  ·subst k11
   refine ⟨[102] ++ Lib.itoa n ++ [40] ++ Wy (ks.map exT) ++ [41], fun B => ?_, fun h => ?_⟩
   ·refine Qa Tryz.func55 rfl Tryz.ntmps55 rfl (t := [(0, .agg [.i 11, .i n, .i m, Qo ks])]) rfl fun E hE => ?_
    (refine wkU3 ?_;intros)
    all_goals exact e_2 (Tryz.results55) (Qb rfl) (Qb rfl) (Qd (by rw [Zn, WQ];simp [Q3, WW, ZL, *]))
   ·rw [Zn, WQ] at h
    rw [exT, q9]
    simp at h ⊢
  by_cases k12 : k = 12
  ·subst k12
   refine ⟨[114, 101, 99, 118, 32, 99] ++ Lib.itoa n, fun B => ?_, fun h => ?_⟩
   ·refine Qa Tryz.func55 rfl Tryz.ntmps55 rfl (t := [(0, .agg [.i 12, .i n, .i m, Qo ks])]) rfl fun E hE => ?_
    (refine wkU3 ?_;intros)
    all_goals exact e_2 (Tryz.results55) (Qb rfl) (Qb rfl) (Qd (by rw [Zn, WQ];simp [Q3, WW, *]))
   ·rw [Zn, WQ] at h
    rw [exT, q9]
    simp at h ⊢
  by_cases k9 : k = 9
  ·subst k9
   have hops := r_ops_c (G := G)
   by_cases hc : n < 14 /\ bareR m ks.length 2 = true
   ·obtain ⟨hn14, hbr2⟩ := hc
    have h2 : ks.length = 2 := by simp [bareR] at hbr2;omega
    match ks, h2 with
    | [a, b], _ =>
     have hal := hxl a (by simp)
     have hbl := hxl b (by simp)
     have hlt : n.toNat < (opTexts.map Str.mk).length := by show n.toNat < 14;omega
     have hoa := opAt2 hn0 hn14 hlt
     have hol' : ((opTexts.map Str.mk)[n.toNat]).l.length <= 2 := by rw [hoa];exact opTexts_len n.toNat
     have hbr : Go.Av.Pure Tryz.prog G 97 [.agg [.i 9, .i n, .i m, Qo [a, b]], .i 2] (.b true) := by have := qa (G := G) 9 n m [a, b] 2;rwa [hbr2] at this
     obtain ⟨ls, hls⟩ : ∃ ls, ls = [Str.mk (exT a), Str.mk (exT b)] := ⟨_, rfl⟩
     have hes2 : Go.Av.Pure Tryz.prog G 98 [Qo [a, b]] (.tup [Qo ls, .b true]) := by rw [hls];exact hes
     have hll : ls.length = 2 := by rw [hls];rfl
     have hz0 : 0 < ls.length := by omega
     have hz1 : 1 < ls.length := by omega
     have ha0 : ls[0].l = exT a := by subst hls;rfl
     have hb0 : ls[1].l = exT b := by subst hls;rfl
     have hla : ls[0].l.length <= 60000000 := by rw [ha0];exact hal
     have hlb : ls[1].l.length <= 60000000 := by rw [hb0];exact hbl
     clear hls hes hcl hxl hst hli hax hsx
     refine ⟨[40] ++ exT a ++ [32] ++ ((opTexts.map Str.mk)[n.toNat]).l ++ [32] ++ exT b ++ [41], fun B => ?_, fun h => ?_⟩
     ·refine Qa Tryz.func55 rfl Tryz.ntmps55 rfl (t := [(0, .agg [.i 9, .i n, .i m, Qo [a, b]])]) rfl fun E hE => ?_
      (refine wkU3 ?_;intros)
      have hbr3 : bareR m 2 2 = true := hbr2
      all_goals exact e_2 (Tryz.results55) (Qb rfl) (Qb rfl) (Qd (by rw [Zn, WQ];simp [Q3, WW, *]))
     ·have hbr3 : bareR m 2 2 = true := hbr2
      rw [exT, q9, hoa]
      simp [Q3, hbr3, hn0, hn14]
   ·refine ⟨[], fun B => ?_, fun h => by rw [Zn] at h;simp [Q3] at h;exact absurd ⟨h.1.2.2, h.1.1⟩ hc⟩
    by_cases hn14 : n < 14
    ·have hbr2 : bareR m ks.length 2 = false := by rw [<- Bool.not_eq_true];exact fun h => hc ⟨hn14, h⟩
     have hbr : Go.Av.Pure Tryz.prog G 97 [.agg [.i 9, .i n, .i m, Qo ks], .i 2] (.b false) := by have := qa (G := G) 9 n m ks 2;rwa [hbr2] at this
     refine Qa Tryz.func55 rfl Tryz.ntmps55 rfl (t := [(0, .agg [.i 9, .i n, .i m, Qo ks])]) rfl fun E hE => ?_
     (refine wkU3 ?_;intros)
     all_goals exact e_2 (Tryz.results55) (Qb rfl) (Qb rfl) (Qd (by rw [Zn, WQ];simp [Q3, WW, *]))
    ·refine Qa Tryz.func55 rfl Tryz.ntmps55 rfl (t := [(0, .agg [.i 9, .i n, .i m, Qo ks])]) rfl fun E hE => ?_
     (refine wkU3 ?_;intros)
     all_goals exact e_2 (Tryz.results55) (Qb rfl) (Qb rfl) (Qd (by rw [Zn, WQ];simp [Q3, WW, *]))
  refine ⟨[], fun B => ?_, fun h => by rw [Zn] at h;simp [*] at h⟩
  refine Qa Tryz.func55 rfl Tryz.ntmps55 rfl (t := [(0, .agg [.i k, .i n, .i m, Qo ks])]) rfl fun E hE => ?_
  (refine wkU3 ?_;intros)
  all_goals exact e_2 (Tryz.results55) (Qb rfl) (Qb rfl) (Qd (by rw [Zn, WQ];simp [Q3, WW, *]))
 ·have hall2 : ks.all Zn = false := by rw [<- Bool.not_eq_true];exact hall
  rw [hall2] at hes
  have hf : Zn (.mk k n m ks) = false := by rw [<- Bool.not_eq_true];exact fun h => hall (hax h)
  refine ⟨[], fun B => ?_, fun h => by rw [hf] at h;cases h⟩
  refine Qa Tryz.func55 rfl Tryz.ntmps55 rfl (t := [(0, .agg [.i k, .i n, .i m, Qo ks])]) rfl fun E hE => ?_
  (refine wkU3 ?_;intros)
  exact e_2 (Tryz.results55) (Qb rfl) (Qb rfl) (Qd (by rw [hf]))
theorem simOk_all (k n m : Int) (ks : List Nd) (h : Zt (.mk k n m ks) = true) : ks.all Zn = true := by
 rw [Zt] at h
 have h0 : ks.length = 0 -> ks.all Zn = true := fun h => by rw [List.eq_nil_of_length_eq_zero h];rfl
 have hb : Wu n m ks.length 0 = true -> ks.all Zn = true := fun h => h0 (by unfold Wu QI at h;simp only [Bool.and_eq_true, Bool.or_eq_true, decide_eq_true_eq] at h;omega)
 repeat' split at h
 all_goals first|exact hb h|(simp only [Bool.and_eq_true] at h;exact h.2)|cases h
theorem simOk_small (k n m : Int) (ks : List Nd) (h : Zt (.mk k n m ks) = true) : WF n = true := by
 rw [Zt] at h
 have h0 : ∀ c : Int, Wu n m ks.length c = true -> WF n = true := fun c h => by unfold Wu at h;simp only [Bool.and_eq_true, decide_eq_true_eq] at h;simp [WF, h.1]
 repeat' split at h
 all_goals first|exact h0 _ h|(simp only [Bool.and_eq_true] at h;first|exact h.1.2|exact h.1.1.2|exact h0 _ h.1)|cases h
theorem ZX (a : List UInt8) : Wy [a] = a := Lib.join_one _ _
theorem wkU4 {X W0 W1 W2 : Prop} (w0 : W0 := by exact True.intro) (w1 : W1 := by exact True.intro) (w2 : W2 := by exact True.intro) (s : (Unit -> W0) -> (Unit -> W1) -> (Unit -> W2) -> Unit -> X := by (intro w0 w1 w2 _;(repeat' first|(refine Qz ?_;(first|refine Ws rfl ?_|refine WM rfl ?_|(refine QN ?_;(first|refine Z4 rfl rfl ?_|refine QA rfl ?_|refine Qc rfl rfl rfl ?_))|refine Qq rfl rfl (by first|assumption|omega|(simp;done)|(simp;omega)) ?_|(refine Qw ?_;(first|refine WX rfl rfl ?_|refine s_ad rfl rfl ?_))|(refine QK ?_;(first|refine WA rfl rfl (hdig) ?_|refine WA rfl rfl (hsm) ?_|refine WA rfl rfl (hbr) ?_|refine WA rfl rfl (hbr1) ?_|refine WA rfl rfl (hes) ?_|refine WA rfl rfl (hes2) ?_|refine WA rfl rfl (qa _ _ _ _ _) ?_))|(refine Q1 ?_;(first|refine ZO rfl rfl ?_|refine W9 rfl rfl ?_))|refine qK rfl ?_|refine Qe rfl rfl ?_|refine Zm rfl rfl rfl ?_|refine ZC rfl rfl (fun _ _ => ?_)))|(refine We ?_;(first|refine Wb ?_|refine Zg rfl ?_|refine qd rfl rfl rfl rfl ?_|refine qw rfl rfl rfl rfl ?_|refine WN rfl rfl (by omega) ?_|refine WD rfl rfl (by omega) ?_))|(refine Wc ?_;(first|refine Q7 ?_|refine Qm ?_|refine QM ?_|(refine WC ?_;first|refine Q9 (by rfl) (by kernel_rfl) (by kernel_rfl) ?_|refine Q8 (by kernel_rfl) (by kernel_rfl) ?_)|refine QV ?_|refine QD rfl ?_|refine QR rfl ?_|refine Qn rfl (by omega) ?_|refine Wi ?_))|(refine qM ?_;(first|refine x_gn rfl rfl rfl rfl ?_|refine x_op rfl (by (repeat' first|(refine Qz ?_;(first|refine Ws rfl ?_|refine WM rfl ?_|(refine QN ?_;(first|refine QA rfl ?_|refine Qc rfl rfl rfl ?_))|refine Qq rfl rfl (by first|assumption|omega|(simp;done)|(simp;omega)) ?_|(refine Qw ?_;(first|refine WX rfl rfl ?_|refine s_ad rfl rfl ?_))|(refine QK ?_;(first|refine s_max rfl rfl ?_|refine Qv rfl ?_|refine WA rfl rfl (hdig2) ?_|refine WA rfl rfl (hsm2) ?_|refine WA rfl rfl (hli) ?_))|(refine Q1 ?_;(first|refine ZO rfl rfl ?_|refine W9 rfl rfl ?_))|refine Qe rfl rfl ?_))|exact ⟨rfl, rfl⟩)) ?_|refine x_gy rfl rfl rfl rfl (by (repeat' first|(refine Qz ?_;(first|refine Ws rfl ?_|refine WM rfl ?_|(refine QN ?_;(first|refine QA rfl ?_|refine Qc rfl rfl rfl ?_))|refine Qq rfl rfl (by first|assumption|omega|(simp;done)|(simp;omega)) ?_|(refine Qw ?_;(first|refine WX rfl rfl ?_|refine s_ad rfl rfl ?_))|(refine QK ?_;(first|refine s_max rfl rfl ?_|refine Qv rfl ?_|refine WA rfl rfl (hdig2) ?_|refine WA rfl rfl (hsm2) ?_|refine WA rfl rfl (hli) ?_))|(refine Q1 ?_;(first|refine ZO rfl rfl ?_|refine W9 rfl rfl ?_))|refine Qe rfl rfl ?_))|exact ⟨rfl, rfl⟩)) ?_|refine qJ ?_)));(all_goals (repeat (rename_i x;(fail_if_success have : Unit := x);revert x)));(first|done|exact w0 ());(first|done|exact w1 ());(first|done|exact w2 ()))) (u : (W0 \/ True) /\ (W1 \/ True) /\ (W2 \/ True) := by (refine ⟨?_, ?_, ?_⟩ <;> first|exact Or.inl True.intro|exact Or.inr True.intro)) : X := s (fun _ => w0) (fun _ => w1) (fun _ => w2) ()
theorem rSim_c (t : Nd) (hok : okN t) (hsz : Qk t <= 1000000) : ∃ x, Go.Av.Pure Tryz.prog G 101 [.agg (Enc.enc t)] (.tup [Q2 x, .b (Zt t)]) /\ (Zt t = true -> x = simT t) := by
 obtain ⟨k, n, m, ks⟩ := t
 rw [okN] at hok
 rw [Qk] at hsz
 have hl1 := Wk ks
 have hes := rexprs_c (G := G) ks (by omega) fun x hx => rEx_c x (Wa hok.2 hx) (by have := QG hx;omega)
 have hcl := ZN exT ks (fun x hx => qS x (Wa hok.2 hx))
 have hxl : ∀ x ∈ ks, (exT x).length <= 60000000 := fun x hx => by have := qS x (Wa hok.2 hx);have := QG hx;omega
 have hsx := simOk_small k n m ks
 have hax := simOk_all k n m ks
 rw [Qr]
 by_cases hall : ks.all Zn = true
 case neg =>
  have hall2 : ks.all Zn = false := by rw [<- Bool.not_eq_true];exact hall
  rw [hall2] at hes
  have hf : Zt (.mk k n m ks) = false := by rw [<- Bool.not_eq_true];exact fun h => hall (hax h)
  refine ⟨[], fun B => ?_, fun h => by rw [hf] at h;cases h⟩
  refine Qa Tryz.func101 rfl Tryz.ntmps101 rfl (t := [(0, .agg [.i k, .i n, .i m, Qo ks])]) rfl fun E hE => ?_
  (refine wkU4 ?_;intros)
  all_goals exact e_2 (Tryz.results101) (Qb rfl) (Qb rfl) (Qd (by rw [hf]))
 rw [hall, if_pos rfl] at hes
 by_cases hs : WF n = true
 case neg =>
  have hs2 : WF n = false := by rw [<- Bool.not_eq_true];exact hs
  have hsm : Go.Av.Pure Tryz.prog G 92 [.i n] (.b false) := by have := ZK (G := G) n;rwa [hs2] at this
  have hf : Zt (.mk k n m ks) = false := by rw [<- Bool.not_eq_true];exact fun h => hs (hsx h)
  refine ⟨[], fun B => ?_, fun h => by rw [hf] at h;cases h⟩
  refine Qa Tryz.func101 rfl Tryz.ntmps101 rfl (t := [(0, .agg [.i k, .i n, .i m, Qo ks])]) rfl fun E hE => ?_
  (refine wkU4 ?_;intros)
  all_goals exact e_2 (Tryz.results101) (Qb rfl) (Qb rfl) (Qd (by rw [hf]))
 have hsm : Go.Av.Pure Tryz.prog G 92 [.i n] (.b true) := by have := ZK (G := G) n;rwa [hs] at this
 obtain ⟨hn0, hn9⟩ := qY hs
 have hdig : Go.Av.Pure Tryz.prog G 93 [.i n] (Q2 (Lib.itoa n)) := by
  rw [itoa_nat hn0]
  have := qW (G := G) n.toNat (by omega)
  rwa [show ((n.toNat : Nat) : Int) = n by omega] at this
 have hil := WP hok.1.2.1
 have hst : qm (ks.map fun x => Str.mk (exT x)) = ks.map exT := by unfold qm;rw [List.map_map];rfl
 have hli := r_list_c (G := G) (ks.map fun x => Str.mk (exT x)) (by rw [hst];omega) (by simp;omega)
 rw [hst] at hli
 clear hsx hax
 by_cases k16 : k = 16
 ·subst k16
  have hdig2 : Go.Av.Pure Tryz.prog G 93 [.i (max m 0)] (Q2 (Lib.decDigits m.toNat)) := by
   rw [show max m 0 = (m.toNat : Int) by omega];exact qW _ (by have := hok.1.2.2.2;omega)
  have hdl := digits_len m.toNat (by have := hok.1.2.2.2;omega)
  have hsm2 := ZK (G := G) m
  refine ⟨[118] ++ Lib.itoa n ++ [46] ++ Lib.decDigits m.toNat ++ [32, 61, 32] ++ Wy (ks.map exT), fun B => ?_, fun h => ?_⟩
  ·by_cases hm : WF m = true
   ·rw [hm] at hsm2
    refine Qa Tryz.func101 rfl Tryz.ntmps101 rfl (t := [(0, .agg [.i 16, .i n, .i m, Qo ks])]) rfl fun E hE => ?_
    (refine wkU4 ?_;intros)
    all_goals exact e_2 (Tryz.results101) (Qb rfl) (Qb rfl) (Qd (by rw [Zt];simp [Q3, WW, ZL, hall, hs, ZX, hm, *] <;> omega))
   ·have hm2 : WF m = false := by rw [<- Bool.not_eq_true];exact hm
    rw [hm2] at hsm2
    refine Qa Tryz.func101 rfl Tryz.ntmps101 rfl (t := [(0, .agg [.i 16, .i n, .i m, Qo ks])]) rfl fun E hE => ?_
    (refine wkU4 ?_;intros)
    all_goals exact e_2 (Tryz.results101) (Qb rfl) (Qb rfl) (Qd (by rw [Zt];simp [Q3, WW, ZL, hall, hs, ZX, hm2, *]))
  ·rw [Zt] at h
   rw [simT]
   simp at h ⊢
   rw [itoa_nat (qY h.1.2).1, if_pos h.1.1.1]
 by_cases k23 : k = 23
 ·subst k23
  refine ⟨[115, 112, 97, 119, 110, 32, 102] ++ Lib.itoa n ++ [40] ++ Wy (ks.map exT) ++ [41], fun B => ?_, fun h => ?_⟩
  ·refine Qa Tryz.func101 rfl Tryz.ntmps101 rfl (t := [(0, .agg [.i 23, .i n, .i m, Qo ks])]) rfl fun E hE => ?_
   (refine wkU4 ?_;intros)
   all_goals exact e_2 (Tryz.results101) (Qb rfl) (Qb rfl) (Qd (by rw [Zt];simp [Q3, WW, ZL, hall, hs, ZX, *]))
  ·rw [Zt] at h
   rw [simT]
   simp [ZL] at h ⊢
   exact h.1.1
 by_cases k25 : k = 25
 ·subst k25
  refine ⟨[115, 107, 105, 112], fun B => ?_, fun h => ?_⟩
  ·by_cases hn : n = 0
   all_goals
    refine Qa Tryz.func101 rfl Tryz.ntmps101 rfl (t := [(0, .agg [.i 25, .i n, .i m, Qo ks])]) rfl fun E hE => ?_
    (refine wkU4 ?_ ?_ <;> first|exact True.intro|intros)
    all_goals exact e_2 (Tryz.results101) (Qb rfl) (Qb rfl) (Qd (by rw [Zt];simp [Q3, WW, ZL, hall, hs, ZX, *]))
  ·rw [Zt] at h
   rw [simT]
   simp at h ⊢
   exact h
 by_cases k15 : k = 15
 ·subst k15
  by_cases hbp : bareR m ks.length 2 = true
  ·have hbr : Go.Av.Pure Tryz.prog G 97 [.agg [.i 15, .i n, .i m, Qo ks], .i 2] (.b true) := by have := qa (G := G) 15 n m ks 2;rwa [hbp] at this
   have h2 : ks.length = 2 := by simp [bareR] at hbp;omega
   match ks, h2 with
   | [a, b], _ =>
    have hal := hxl a (by simp)
    have hbl := hxl b (by simp)
    obtain ⟨ls, hls⟩ : ∃ ls, ls = [Str.mk (exT a), Str.mk (exT b)] := ⟨_, rfl⟩
    have hes2 : Go.Av.Pure Tryz.prog G 98 [Qo [a, b]] (.tup [Qo ls, .b true]) := by rw [hls];exact hes
    have hll : ls.length = 2 := by rw [hls];rfl
    have hz0 : 0 < ls.length := by omega
    have hz1 : 1 < ls.length := by omega
    have ha0 : ls[0].l = exT a := by subst hls;rfl
    have hb0 : ls[1].l = exT b := by subst hls;rfl
    have hla : ls[0].l.length <= 60000000 := by rw [ha0];exact hal
    have hlb : ls[1].l.length <= 60000000 := by rw [hb0];exact hbl
    have hbp3 : bareR m 2 2 = true := hbp
    clear hls hes hcl hxl hst hli
    refine ⟨[118] ++ Lib.itoa n ++ [91] ++ exT a ++ [93, 32, 61, 32] ++ exT b, fun B => ?_, fun h => ?_⟩
    ·refine Qa Tryz.func101 rfl Tryz.ntmps101 rfl (t := [(0, .agg [.i 15, .i n, .i m, Qo [a, b]])]) rfl fun E hE => ?_
     (refine wkU4 ?_;intros)
     all_goals exact e_2 (Tryz.results101) (Qb rfl) (Qb rfl) (Qd (by rw [Zt];have hall2 := hall;simp at hall2;simp [Q3, hs, *]))
    ·rw [simT]
     simp [Q3, hbp3]
  ·have hbp2 : bareR m ks.length 2 = false := by rw [<- Bool.not_eq_true];exact hbp
   have hbr : Go.Av.Pure Tryz.prog G 97 [.agg [.i 15, .i n, .i m, Qo ks], .i 2] (.b false) := by have := qa (G := G) 15 n m ks 2;rwa [hbp2] at this
   refine ⟨[], fun B => ?_, fun h => by rw [Zt] at h;simp [Q3, hbp2] at h⟩
   refine Qa Tryz.func101 rfl Tryz.ntmps101 rfl (t := [(0, .agg [.i 15, .i n, .i m, Qo ks])]) rfl fun E hE => ?_
   (refine wkU4 ?_;intros)
   all_goals exact e_2 (Tryz.results101) (Qb rfl) (Qb rfl) (Qd (by rw [Zt];simp [Q3, WW, ZL, hall, hs, ZX, *]))
 by_cases hbp : bareR m ks.length 1 = true
 case neg =>
  have hbp2 : bareR m ks.length 1 = false := by rw [<- Bool.not_eq_true];exact hbp
  have hbr : Go.Av.Pure Tryz.prog G 97 [.agg [.i k, .i n, .i m, Qo ks], .i 1] (.b false) := by have := qa (G := G) k n m ks 1;rwa [hbp2] at this
  have hf : Zt (.mk k n m ks) = false := by rw [Zt];simp [Q3, WW, *]
  refine ⟨[], fun B => ?_, fun h => by rw [hf] at h;cases h⟩
  refine Qa Tryz.func101 rfl Tryz.ntmps101 rfl (t := [(0, .agg [.i k, .i n, .i m, Qo ks])]) rfl fun E hE => ?_
  (refine wkU4 ?_;intros)
  all_goals exact e_2 (Tryz.results101) (Qb rfl) (Qb rfl) (Qd (by rw [hf]))
 have hbr : ∀ k, Go.Av.Pure Tryz.prog G 97 [.agg [.i k, .i n, .i m, Qo ks], .i 1] (.b true) := fun k => by have := qa (G := G) k n m ks 1;rwa [hbp] at this
 have h1 : ks.length = 1 := by simp [bareR] at hbp;omega
 match ks, h1 with
 | [a], _ =>
 have hal := hxl a (by simp)
 obtain ⟨ls, hls⟩ : ∃ ls, ls = [Str.mk (exT a)] := ⟨_, rfl⟩
 have hes2 : Go.Av.Pure Tryz.prog G 98 [Qo [a]] (.tup [Qo ls, .b true]) := by rw [hls];exact hes
 have hll : ls.length = 1 := by rw [hls];rfl
 have hz0 : 0 < ls.length := by omega
 have ha0 : ls[0].l = exT a := by subst hls;rfl
 have hla : ls[0].l.length <= 60000000 := by rw [ha0];exact hal
 have hall2 : Zn a = true := by simpa using hall
 have hbp3 : bareR m 1 1 = true := hbp
 have hbp4 : ∀ c, QI m [a].length c = decide (c < 0 \/ c = 1) := fun c => by
  have hm : m = 0 := by simp [bareR] at hbp3;exact hbp3
  unfold QI;subst hm;simp [eq_comm]
 have hp11 : QI m 1 1 = true := by have := hbp4 1;simpa using this
 clear hls hes hcl hxl hst hli hall hbp
 by_cases k14 : k = 14
 ·subst k14
  refine ⟨[118] ++ Lib.itoa n ++ [32, 61, 32] ++ exT a, fun B => ?_, fun h => ?_⟩
  ·have hbr1 := hbr 14
   refine Qa Tryz.func101 rfl Tryz.ntmps101 rfl (t := [(0, .agg [.i 14, .i n, .i m, Qo [a]])]) rfl fun E hE => ?_
   (refine wkU4 ?_;intros)
   all_goals exact e_2 (Tryz.results101) (Qb rfl) (Qb rfl) (Qd (by rw [Zt];simp [Wu, hp11, *]))
  ·rw [Zt] at h
   rw [simT]
   simp [Wu, hbp4, ZX] at h ⊢
   try simp [h]
 by_cases k22 : k = 22
 ·subst k22
  refine ⟨[115, 101, 110, 100, 32, 99] ++ Lib.itoa n ++ [32] ++ exT a, fun B => ?_, fun h => ?_⟩
  ·have hbr1 := hbr 22
   refine Qa Tryz.func101 rfl Tryz.ntmps101 rfl (t := [(0, .agg [.i 22, .i n, .i m, Qo [a]])]) rfl fun E hE => ?_
   (refine wkU4 ?_;intros)
   all_goals exact e_2 (Tryz.results101) (Qb rfl) (Qb rfl) (Qd (by rw [Zt];simp [Wu, hp11, *]))
  ·rw [Zt] at h
   rw [simT]
   simp [Wu, hbp4, ZX] at h ⊢
   try simp [h]
 by_cases k19 : k = 19
 ·subst k19
  refine ⟨[114, 101, 116, 117, 114, 110, 32] ++ exT a, fun B => ?_, fun h => ?_⟩
  ·have hbr1 := hbr 19
   refine Qa Tryz.func101 rfl Tryz.ntmps101 rfl (t := [(0, .agg [.i 19, .i n, .i m, Qo [a]])]) rfl fun E hE => ?_
   (refine wkU4 ?_;intros)
   all_goals exact e_2 (Tryz.results101) (Qb rfl) (Qb rfl) (Qd (by rw [Zt];simp [Wu, hp11, *]))
  ·rw [Zt] at h
   rw [simT]
   simp [Wu, hbp4, ZX] at h ⊢
   try simp [h]
 by_cases k20 : k = 20
 ·subst k20
  refine ⟨[116, 104, 114, 111, 119, 32] ++ exT a, fun B => ?_, fun h => ?_⟩
  ·have hbr1 := hbr 20
   refine Qa Tryz.func101 rfl Tryz.ntmps101 rfl (t := [(0, .agg [.i 20, .i n, .i m, Qo [a]])]) rfl fun E hE => ?_
   (refine wkU4 ?_;intros)
   all_goals exact e_2 (Tryz.results101) (Qb rfl) (Qb rfl) (Qd (by rw [Zt];simp [Wu, hp11, *]))
  ·rw [Zt] at h
   rw [simT]
   simp [Wu, hbp4, ZX] at h ⊢
   try simp [h]
 by_cases k24 : k = 24
 ·subst k24
  refine ⟨[111, 117, 116, 32] ++ exT a, fun B => ?_, fun h => ?_⟩
  ·have hbr1 := hbr 24
   refine Qa Tryz.func101 rfl Tryz.ntmps101 rfl (t := [(0, .agg [.i 24, .i n, .i m, Qo [a]])]) rfl fun E hE => ?_
   (refine wkU4 ?_;intros)
   all_goals exact e_2 (Tryz.results101) (Qb rfl) (Qb rfl) (Qd (by rw [Zt];simp [Wu, hp11, *]))
  ·rw [Zt] at h
   rw [simT]
   simp [Wu, hbp4, ZX] at h ⊢
   try simp [h]
 refine ⟨[], fun B => ?_, fun h => by rw [Zt] at h;simp [*] at h⟩
 have hbr1 := hbr k
 have hk16 : ¬ k = 16 := k16
 refine Qa Tryz.func101 rfl Tryz.ntmps101 rfl (t := [(0, .agg [.i k, .i n, .i m, Qo [a]])]) rfl fun E hE => ?_
 (refine wkU4 ?_;intros)
 all_goals exact e_2 (Tryz.results101) (Qb rfl) (Qb rfl) (Qd (by rw [Zt];simp [*]))
end Go.Proofs
end
section
namespace Go.Av
open Classical
section
variable {P : Program} {G : Nat -> DV}
theorem Own.view {f : FuncId} {args args' : List DV} {len es : Nat} {cs : List DV} (h : Own P G f args' len es cs) (hc : ∀ d ∈ cs, d.flat = true) {B : Nat} {σ : List ABlk} (hvw : View σ args args') : ACalls P G B f args σ (fun d' σ' => ∃ g, B < g /\ d' = .ref σ.length g 0 len es /\ σ' = σ ++ [.row g cs]) := fun X vs hS hσ hB hG hv => by
 subst hσ
 obtain ⟨k1, k2⟩ := hvw.get hS
 refine (h X.N (X.aside True) vs (hS.aside _) rfl (Nat.le_refl _) (fun g => ⟨(hG g).1, (hG g).2.mono (aside_le _)⟩) ⟨by rw [hv.1, k1], fun j e hj => (by
  have hlt : j < args.length := by rw [k1];exact (List.getElem?_eq_some_iff.1 hj).1
  exact k2 j _ e _ (List.getElem?_eq_getElem hlt) hj (hv.2 j _ (List.getElem?_eq_getElem hlt)))⟩).mono ?_
 rintro e w' ⟨v, he, Y, hw, hY, hE, d', hr, g, hg, rfl, hσ'⟩
 subst hw
 have hback := hS.back hE
 have hEb := WExt.back hS hE
 have hY0 : Y.σ[0]? = some (.row g cs) := by rw [hσ'];rfl
 have hlY : Y.live 0 g := Wt hY0
 have hgN : g <= Y.N := hY.gen 0 g hlY
 have hnew : ∀ b n, Y.ρ 0 = some (b, n) -> X.w.heap.size <= b := fun b n hb => by
  rcases Nat.lt_or_ge b X.w.heap.size with hlt|hge
  ·exact absurd ⟨0, g, n, hlY, hb⟩ (hE.old b hlt Z7).2
  ·exact hge
 let Z : AX := { w := Y.w, ρ := fun i => if i = X.σ.length then Y.ρ 0 else X.ρ i, σ := X.σ ++ [.row g cs], N := Y.N, hid := X.hid }
 have hlive : ∀ k g', Z.live k g' ↔ (k < X.σ.length /\ X.live k g') \/ (k = X.σ.length /\ g' = g) := fun k g' => by
  have := AX.push_live (X := X) (w' := Y.w) (ob := Y.ρ 0) (B := .row g cs) (k := k) (g := g')
  simp only [ABlk.gen?, Option.some.injEq] at this
  rw [show Z.live k g' ↔ (X.push Y.w (Y.ρ 0) (.row g cs)).live k g' from Iff.rfl, this]
  constructor <;> (rintro (h|⟨h1, h2⟩);exact .inl h;exact .inr ⟨h1, h2.symm⟩)
 have hρ1 : ∀ k, k < X.σ.length -> Z.ρ k = X.ρ k := fun k hk => by simp only [Z];rw [if_neg (by omega)]
 have hρ2 : Z.ρ X.σ.length = Y.ρ 0 := by simp only [Z, if_true]
 have hmut : ∀ b, Z.mut b -> X.mut b \/ X.w.heap.size <= b := fun b ⟨k, g', n, hl, hr⟩ => by
  rcases (hlive k g').1 hl with ⟨h1, h2⟩|⟨h1, _⟩
  ·rw [hρ1 k h1] at hr;exact .inl ⟨k, g', n, h2, hr⟩
  ·rw [h1, hρ2] at hr;exact .inr (hnew b n hr)
 have hEZ : WExt X Z := {
  hid := rfl, top := hE.top, os := hE.os, tape := hE.tape, output := hE.output, size := hE.size
  old := fun b hb hm => ⟨(hE.old b hb Z7).1, fun hz => by rcases hmut b hz with h|h;exact hm h;omega⟩
  rows := fun k g' hg' hl => by
   rcases (hlive k g').1 hl with ⟨h1, h2⟩|⟨h1, h2⟩
   ·exact ⟨h2, hρ1 k h1⟩
   ·omega
  shp := hE.shp }
 have hSZ : Sto Z := {
  inj := fun k k' g1 g1' b n n' hl hl' hr hr' => by
   rcases (hlive k g1).1 hl with ⟨h1, h2⟩|⟨h1, h2⟩ <;> rcases (hlive k' g1').1 hl' with ⟨h1', h2'⟩|⟨h1', h2'⟩
   ·rw [hρ1 k h1] at hr;rw [hρ1 k' h1'] at hr';exact hS.inj k k' g1 g1' b n n' h2 h2' hr hr'
   ·rw [hρ1 k h1] at hr;rw [h1', hρ2] at hr';have := hS.ρ_lt h2 hr;have := hnew b n' hr';omega
   ·rw [hρ1 k' h1'] at hr';rw [h1, hρ2] at hr;have := hS.ρ_lt h2' hr';have := hnew b n hr;omega
   ·rw [h1, h1']
  gen := fun k g' hl => by
   rcases (hlive k g').1 hl with ⟨h1, h2⟩|⟨h1, h2⟩
   ·exact Nat.le_trans (hS.gen k g' h2) hE.top
   ·rw [h2];exact hgN
  hid := fun b ⟨k, g', n, hl, hr⟩ hh => by
   rcases (hlive k g').1 hl with ⟨h1, h2⟩|⟨h1, h2⟩
   ·rw [hρ1 k h1] at hr;exact hS.hid b ⟨k, g', n, h2, hr⟩ hh
   ·rw [h1, hρ2] at hr;have := hnew b n hr;have := hS.hidlt b hh;omega
  hidlt := fun b hb => Nat.lt_of_lt_of_le (hS.hidlt b hb) hE.size
  holds := fun k B' hB' => by
   simp only [Z, List.getElem?_append] at hB'
   split at hB'
   ·rename_i hlt
    rw [hρ1 k hlt]
    cases hg' : B'.gen? with
    | none => cases B' <;> first|trivial|cases hg'
    | some g' => exact (hS.holds k B' hB').mono hEZ.le fun b n hb => (hE.old b (hS.ρ_lt ((AX.live_get hB').2 hg') hb) Z7).1
   ·rename_i hge
    have hkl : k = X.σ.length := by
     rcases Nat.lt_or_ge (k - X.σ.length) 1 with h'|h'
     ·omega
     ·rw [List.getElem?_eq_none (by simpa using h')] at hB';cases hB'
    subst hkl
    simp at hB'
    subst hB'
    rw [hρ2]
    have hh := hY.holds 0 _ hY0
    cases hρ0 : Y.ρ 0 with
    | none => rw [hρ0] at hh;exact hh
    | some x =>
     obtain ⟨b, n⟩ := x
     rw [hρ0] at hh
     obtain ⟨arr, T, fr, q1, q2, q3, q4, q5⟩ := hh
     exact ⟨arr, T, fr, q1, q2, q3, q4, fun j d hj => ⟨(q5 j d hj).1, (q5 j d hj).2.flat (hc d (List.mem_of_getElem? hj))⟩⟩ }
 have hinv := hr.ref_inv hY0
 refine ⟨v, he, Z, rfl, hSZ, hEZ, .ref X.σ.length g 0 len es, ?_, g, by omega, rfl, rfl⟩
 cases hr with|ref _ _ _ _ _ a l c _ _ =>
 refine .ref _ _ _ _ _ _ _ _ hgN fun ob hob => ?_
 rw [AX.row_mk ((hlive _ _).2 (.inr ⟨rfl, rfl⟩)), hρ2] at hob
 rw [<- Option.some.inj hob]
 exact hinv
variable {B : Nat} {f : Operand -> DV} {σ : List ABlk} {K : DV -> List ABlk -> Prop} {dst : Option Tmp} {type : TypeId} {pos : String} {after : Array Edge} {gd : Option (Nat × Bool)}
theorem s_call_vo {args : Array Operand} {ts : Array TypeId} {fid : FuncId} {ds ds' cs : List DV} {len es : Nat} [FnOk P fid] (hx : f (.func fid) = .fn (.func fid) [] []) (hds : reL (args.toList.map f) = some ds) (hv : View σ ds ds') (h : Own P G fid ds' len es cs) (hc : ∀ d ∈ cs, d.flat = true) (k : ∀ g, B < g -> K (.ref σ.length g 0 len es) (σ ++ [.row g cs])) :
  OpSem P G B ⟨dst, .call ⟨.value (.func fid), args, ts⟩, type, pos, after, gd⟩ f σ K := s_call hx hds ((h.view hc hv).mono fun _ _ ⟨g, hg, h1, h2⟩ => by rw [h1, h2];exact k g hg)
end
end Go.Av
end
section
namespace Go.Proofs
open Go.Av
variable {G : Nat -> DV}
attribute [local irreducible] OpSem WR Zc Zp ACalls ZS AClose RV
open Go.Bl
theorem encs_flat_str (l : List Str) : ∀ d ∈ Wf l, d.flat = true := fun d hd => by
 unfold Wf at hd
 obtain ⟨x, _, hx⟩ := List.mem_flatMap.1 hd
 rw [List.mem_singleton.1 hx];rfl
theorem wkU5 {X W0 W1 W2 : Prop} (w0 : W0 := by exact True.intro) (w1 : W1 := by exact True.intro) (w2 : W2 := by exact True.intro) (s : (Unit -> W0) -> (Unit -> W1) -> (Unit -> W2) -> Unit -> X := by (intro w0 w1 w2 _;(repeat' first|(refine Qz ?_;(first|refine Ws rfl ?_|refine WM rfl ?_|(refine QN ?_;(first|refine Z4 rfl rfl ?_|refine QA rfl ?_|refine Q0 rfl ?_|refine Qc rfl rfl rfl ?_))|refine Qq rfl rfl (by first|assumption|omega|(simp;done)|(simp;omega)) ?_|(refine Qw ?_;(first|refine Zw rfl rfl ?_|refine s_neq rfl rfl ?_|refine ZU rfl rfl (by omega) ?_|refine s_ad rfl rfl ?_))|(refine QK ?_;(first|refine s_call_vo rfl rfl (.same (.ref rfl (by rw [Qx];rfl) (Qy _) (.same .nil))) (lines_own _ _ _ (by omega)) (encs_flat_str _) (fun _ _ => ?_)|refine WA rfl rfl (hx) ?_|refine s_call_ot rfl rfl (ha) (by repeat' first|exact Enc.clo _|exact Zb|refine Ww ?_ ?_|exact Wj|exact WB _|exact WH (Qy _)|exact Qy _|refine qi ?_ ?_|refine Z3 ?_|refine W4 ?_|refine WS ?_) (by first|exact Qy _) (fun _ _ => ?_)|refine s_call_ot rfl rfl (hb) (by repeat' first|exact Enc.clo _|exact Zb|refine Ww ?_ ?_|exact Wj|exact WB _|exact WH (Qy _)|exact Qy _|refine qi ?_ ?_|refine Z3 ?_|refine W4 ?_|refine WS ?_) (by first|exact Qy _) (fun _ _ => ?_)|refine s_app (α := Str) rfl rfl rfl rfl rfl (srcOf_refOf rfl rfl) (by first|omega|(simp;omega)) (by first|omega|(simp;omega)) (fun _ => rfl) (fun _ _ => ?_)|refine Zy (z := Str.mk _) rfl rfl rfl rfl rfl rfl rfl (by first|omega|(simp;omega)) (by first|omega|(simp;omega)) (fun _ => rfl) (fun _ _ => ?_)|refine s_app_r rfl rfl rfl rfl rfl rfl rfl (by first|omega|(simp;omega)) (by first|omega|(simp;omega)) (fun _ => rfl) (fun _ _ => ?_)|refine Qv rfl ?_))|(refine Q1 ?_;(first|refine ZO rfl rfl ?_|refine W9 rfl rfl ?_))|(refine ZA ?_;(first|refine s_bslice_own (cs := Wf [Str.mk fl]) rfl rfl (by decide) rfl rfl (fun _ _ => ?_)|refine W5 rfl rfl (by decide) rfl ?_))|refine qK rfl ?_|refine Qe rfl rfl ?_|refine Zm rfl rfl rfl ?_|refine ZC rfl rfl (fun _ _ => ?_)))|(refine We ?_;(first|refine Wb ?_|refine Zg rfl ?_|refine qd rfl rfl rfl rfl ?_|refine qw rfl rfl rfl rfl ?_|refine WN rfl rfl (by omega) ?_|refine WD rfl rfl (by omega) ?_))|(refine Wc ?_;(first|refine Q7 ?_|refine Qm ?_|refine QM ?_|refine QV ?_|refine QD rfl ?_|refine QR rfl ?_|refine Qu rfl (by omega) ?_|refine Qn rfl (by omega) ?_|refine W8 rfl ?_|refine Wi ?_)));(all_goals (repeat (rename_i x;(fail_if_success have : Unit := x);revert x)));(first|done|exact w0 ());(first|done|exact w1 ());(first|done|exact w2 ()))) (u : (W0 \/ True) /\ (W1 \/ True) /\ (W2 \/ True) := by (refine ⟨?_, ?_, ?_⟩ <;> first|exact Or.inl True.intro|exact Or.inr True.intro)) : X := s (fun _ => w0) (fun _ => w1) (fun _ => w2) ()
theorem lines_own (fl b : List UInt8) (l : List Str) (hl : l.length <= 1000000000) : Own Tryz.prog G 95 [Q2 fl, Qo l, Q2 b] ([Str.mk fl] ++ l ++ [Str.mk b]).length 1 (Wf ([Str.mk fl] ++ l ++ [Str.mk b])) := fun B => by
 refine Qa Tryz.func95 rfl Tryz.ntmps95 rfl (t := [(0, Q2 fl), (1, Qo l), (2, Q2 b)]) rfl fun E hE => ?_
 (refine wkU5 ?_;intros)
 exact e_1 Tryz.results95 (Qb rfl) (c_ownedB hE rfl rfl rfl rfl)
def RsC (G : Nat -> DV) (t : Nd) : Prop := (qj t = true -> Go.Av.Pure Tryz.prog G 56 [.agg (Enc.enc t)] (.tup [Qo (strs (stL t)), .b true])) /\ (qj t = false -> ∃ x : List Str, Go.Av.Pure Tryz.prog G 56 [.agg (Enc.enc t)] (.tup [Qo x, .b false]))
def inLo (t : Nd) : List (List UInt8) := if inOk t = true then inL t else []
def RiC (G : Nat -> DV) (t : Nd) : Prop := OwnT Tryz.prog G 94 [.agg (Enc.enc t)] (inLo t).length 1 (Wf (strs (inLo t))) (.bool (inOk t))
theorem inside_own (k n m : Int) (ks : List Nd) (hok : okN (.mk k n m ks)) (hsz : Qk (.mk k n m ks) <= 1000000) (hst : ∀ x ∈ ks, RsC G x) : RiC G (.mk k n m ks) := fun B => by
 have hok2 := hok
 rw [okN] at hok
 rw [Qk] at hsz
 have hl1 := Wk ks
 have hln := (stL_len (.mk 13 0 0 ks)).2
 rw [inL, ind_len, Qk] at hln
 rw [Qr]
 unfold inLo
 by_cases hh : k = 13 /\ n = 0 /\ m = 0
 case neg =>
  have hf : inOk (.mk k n m ks) = false := by rw [inOk];simp [Wu, ZL];omega
  rw [hf]
  by_cases k13 : k = 13
  ·by_cases n0 : n = 0
   ·have m0 : ¬ m = 0 := by omega
    refine Qa Tryz.func94 rfl Tryz.ntmps94 rfl (t := [(0, .agg [.i k, .i n, .i m, Qo ks])]) rfl fun E hE => ?_
    (refine wkU5 ?_;intros)
    all_goals exact e_2 (Tryz.results94) (Qb rfl) (Qb rfl) (c_nil_fstB hE rfl rfl rfl rfl)
   ·refine Qa Tryz.func94 rfl Tryz.ntmps94 rfl (t := [(0, .agg [.i k, .i n, .i m, Qo ks])]) rfl fun E hE => ?_
    (refine wkU5 ?_;intros)
    all_goals exact e_2 (Tryz.results94) (Qb rfl) (Qb rfl) (c_nil_fstB hE rfl rfl rfl rfl)
  ·refine Qa Tryz.func94 rfl Tryz.ntmps94 rfl (t := [(0, .agg [.i k, .i n, .i m, Qo ks])]) rfl fun E hE => ?_
   (refine wkU5 ?_;intros)
   all_goals exact e_2 (Tryz.results94) (Qb rfl) (Qb rfl) (c_nil_fstB hE rfl rfl rfl rfl)
 obtain ⟨rfl, rfl, rfl⟩ := hh
 have hin : inOk (.mk 13 0 0 ks) = ks.all qj := by rw [inOk, stOks_eq];simp [Wu, ZL]
 rw [hin]
 have hsts : inL (.mk 13 0 0 ks) = ind (stsL ks) := by rw [inL]
 rw [hsts]
 clear hin hsts
 refine Qa Tryz.func94 rfl Tryz.ntmps94 rfl (t := [(0, .agg [.i 13, .i 0, .i 0, Qo ks])]) rfl fun E hE => ?_
 (refine wkU5 ?_;intros)
 rename_i gb hgb
 refine r_own 4 1 rfl fun gO hgO => ?_
 refine r_loopg (fun (i : Nat) g => ⟨[(1, .ptr 0 gb 0), (4, .ref 1 g 0 (strs (ind (stsL (ks.take i)))).length 1), (5, .i i)], [.row gb [.i 13, .i 0, .i 0, Qo ks], .row g (Wf (strs (ind (stsL (ks.take i)))))]⟩) (fun i => i <= ks.length /\ (ks.take i).all qj = true) (fun i => ks.length - i) 0 gO hgO ?_ (by simp) ?_
 ·exact zal rfl
 intro i g ⟨hil0, hall⟩ hg
 by_cases hil : i < ks.length
 ·have hmem := List.getElem_mem hil
  obtain ⟨hx1, hx2⟩ := hst _ hmem
  have hsm := QG hmem
  by_cases hk : qj ks[i] = true
  ·have hx := hx1 hk
   clear hx1 hx2 hst
   have hlx := (stL_line _ (Wa hok.2 hmem)).1
   have hcx := (stL_len ks[i]).1
   have hle : (stsL (ks.take i)).length + (stL ks[i]).length <= 3000000 := by
    have h1 := stsL_take hil
    have h2 : (stsL ks).length = (stsL (ks.take (i + 1))).length + (stsL (ks.drop (i + 1))).length := by rw [<- List.length_append, <- stsL_app, List.take_append_drop]
    rw [h1, List.length_append] at h2;omega
   have htk := stsL_take hil
   obtain ⟨ls, hls⟩ : ∃ ls, ls = strs (stL ks[i]) := ⟨_, rfl⟩
   rw [<- hls] at hx
   have hll : ls.length = (stL ks[i]).length := by rw [hls, Z9]
   obtain ⟨A, hA⟩ : ∃ A, A = stsL (ks.take i) := ⟨_, rfl⟩
   rw [<- hA] at hle htk ⊢
   have hget : ∀ (j : Nat) (h : j < ls.length), ls[j].l.length <= 100000000 := fun j h => by
    have e : ls[j].l = (stL ks[i])[j]'(by omega) := by subst hls;simp [strs]
    rw [e]
    have := hlx _ (List.getElem_mem (show j < (stL ks[i]).length by omega));omega
   have hnx : ∀ (j : Nat) (h : j < ls.length), strs (ind (A ++ (stL ks[i]).take (j + 1))) = strs (ind (A ++ (stL ks[i]).take j)) ++ [Str.mk ([32, 32] ++ ls[j].l)] := fun j h => by
    have e : ls[j].l = (stL ks[i])[j]'(by omega) := by subst hls;simp [strs]
    rw [e, List.take_succ_eq_append_getElem (show j < (stL ks[i]).length by omega), <- List.append_assoc, ind_app, strs_app];rfl
   have hlen : ∀ j, (strs (ind (A ++ (stL ks[i]).take j))).length <= 3000000 := fun j => by rw [Z9, ind_len, List.length_append, List.length_take];omega
   generalize stL ks[i] = sx at *
   (refine wkU5 ?_;intros)
   refine r_loopg (fun (j : Nat) g => ⟨[(1, .ptr 0 gb 0), (4, .ref 1 g 0 (strs (ind (A ++ sx.take j))).length 1), (5, .i i), (6, Qo ls), (8, .i j)], [.row gb [.i 13, .i 0, .i 0, Qo ks], .row g (Wf (strs (ind (A ++ sx.take j))))]⟩) (fun j => j <= ls.length) (fun j => ls.length - j) 0 g hg ?_ (by simp) ?_
   ·rw [List.take_zero, List.append_nil]
    exact zal rfl
   intro j g2 hj0 hg2
   by_cases hjl : j < ls.length
   ·have hlj := hget j hjl
    have hlA := hlen j
    (refine wkU5 ?_;intros)
    refine ⟨j + 1, _, by omega, by assumption, by omega, ?_⟩
    rw [hnx j hjl]
    exact zal rfl
   ·have hje : j = sx.length := by omega
    subst hje
    (refine wkU5 ?_;intros)
    refine ⟨i + 1, _, ⟨by omega, by rw [List.take_succ_eq_append_getElem hil, List.all_append, hall];simp [hk]⟩, by assumption, by omega, ?_⟩
    rw [htk, List.take_length]
    exact zal rfl
  ·have hk2 : qj ks[i] = false := by rw [<- Bool.not_eq_true];exact hk
   obtain ⟨x, hx⟩ := hx2 hk2
   have hna : ks.all qj = false := by
    rw [<- Bool.not_eq_true, List.all_eq_true]
    intro h;exact hk (h _ hmem)
   (refine wkU5 ?_;intros)
   exact e_2 (Tryz.results94) (Qb rfl) (Qb rfl) (c_nil_fstB hE (by rw [hna];rfl) (by rw [hna];rfl) rfl (by rw [hna]))
 ·have hie : i = ks.length := by omega
  subst hie
  rw [List.take_length] at *
  (refine wkU5 ?_;intros)
  exact e_2 (Tryz.results94) (Qb rfl) (Qb rfl) (c_own_fstB hE rfl (by rw [hall, if_pos rfl, Z9]) (by rw [hall, if_pos rfl]) rfl (by rw [hall]))
theorem two_c (f m : List UInt8) (a b : Nd) (ha : RiC G a) (hb : RiC G b) (hla : (inLo a).length <= 100000000) (hlb : (inLo b).length <= 100000000) : Go.Av.Pure Tryz.prog G 100 [Q2 f, .agg (Enc.enc a), Q2 m, .agg (Enc.enc b)] (.tup [Qo (strs (f :: (inLo a ++ m :: (inLo b ++ [sClose])))), .b (inOk a && inOk b)]) := fun B => by
 unfold RiC at ha hb
 have hca : (strs (inLo a)).length <= 100000000 := by rw [Z9];exact hla
 have hcb : (strs (inLo b)).length <= 100000000 := by rw [Z9];exact hlb
 have e1 := Z9 (inLo a)
 have e2 := Z9 (inLo b)
 rw [<- e1] at ha
 rw [<- e2] at hb
 cases hka : inOk a <;> rw [hka] at ha
 all_goals
  refine Qa Tryz.func100 rfl Tryz.ntmps100 rfl (t := [(0, Q2 f), (1, .agg (Enc.enc a)), (2, Q2 m), (3, .agg (Enc.enc b))]) rfl fun E hE => ?_
  (refine wkU5 ?_ ?_ <;> first|exact True.intro|intros)
  exact e_2 (Tryz.results100) (Qb rfl) (Qb rfl) (q7 rfl (by rw [Qx]) (Qd (by rw [show strs (f :: (inLo a ++ m :: (inLo b ++ [sClose]))) = [Str.mk f] ++ strs (inLo a) ++ [Str.mk m] ++ (strs (inLo b) ++ [Str.mk sClose]) by simp [strs]];first|rw [Bool.true_and];rfl|rw [Bool.false_and];rfl)))
def RsE (G : Nat -> DV) (t : Nd) : Prop := ∃ x : List Str, Go.Av.Pure Tryz.prog G 56 [.agg (Enc.enc t)] (.tup [Qo x, .b (qj t)]) /\ (qj t = true -> x = strs (stL t))
theorem RsE.to {t : Nd} (h : RsE G t) : RsC G t := by
 obtain ⟨x, h1, h2⟩ := h
 refine ⟨fun hk => ?_, fun hk => ⟨x, by rwa [hk] at h1⟩⟩
 rw [hk, h2 hk] at h1;exact h1
theorem inOk_of {k n m : Int} {ks : List Nd} (h : k = 13) : inOk (.mk k n m ks) = qj (.mk k n m ks) := by rw [inOk, qj, if_pos h];simp [h]
theorem inLo_len (t : Nd) (h : Qk t <= 1000000) : (inLo t).length <= 3000000 := by
 have := (stL_len t).2
 unfold inLo;split
 ·omega
 ·simp
theorem wkU6 {X W0 W1 W2 : Prop} (w0 : W0 := by exact True.intro) (w1 : W1 := by exact True.intro) (w2 : W2 := by exact True.intro) (s : (Unit -> W0) -> (Unit -> W1) -> (Unit -> W2) -> Unit -> X := by (intro w0 w1 w2 _;(repeat' first|(refine Qz ?_;(first|refine Ws rfl ?_|refine WM rfl ?_|(refine QN ?_;(first|refine Z4 rfl rfl ?_|refine Q0 rfl ?_|refine Qc rfl rfl rfl ?_))|refine Qq rfl rfl (by first|assumption|omega|(simp;done)|(simp;omega)) ?_|(refine Qw ?_;(first|refine WX rfl rfl ?_|refine s_neq rfl rfl ?_|refine s_ad rfl rfl ?_))|(refine QK ?_;(first|refine s_call_vo rfl rfl (.same (.ref rfl (by rw [Qx];rfl) (Qy _) (.same .nil))) (lines_own _ _ _ (by omega)) (encs_flat_str _) (fun _ _ => ?_)|refine WA rfl rfl (hsm) ?_|refine WA rfl rfl (hbr) ?_|refine WA rfl rfl (hx) ?_|refine WA rfl rfl (hsim) ?_|refine s_call_ot rfl rfl (hins) (by repeat' first|exact Enc.clo _|exact Zb|refine Ww ?_ ?_|exact Wj|exact WB _|exact WH (Qy _)|exact Qy _|refine qi ?_ ?_|refine Z3 ?_|refine W4 ?_|refine WS ?_) (by first|exact Qy _) (fun _ _ => ?_)|refine Qv rfl ?_))|(refine Q1 ?_;(first|refine ZO rfl rfl ?_|refine W9 rfl rfl ?_))|refine qK rfl ?_|refine Qe rfl rfl ?_|refine Zm rfl rfl rfl ?_|refine W5 rfl rfl (by decide) rfl ?_|refine ZC rfl rfl (fun _ _ => ?_)))|(refine We ?_;(first|refine Wb ?_|refine Zg rfl ?_|refine qd rfl rfl rfl rfl ?_|refine qw rfl rfl rfl rfl ?_|refine WN rfl rfl (by omega) ?_|refine WD rfl rfl (by omega) ?_))|(refine Wc ?_;(first|refine Q7 ?_|refine Qm ?_|(refine WC ?_;first|refine Q9 (by rfl) (by kernel_rfl) (by kernel_rfl) ?_|refine Q8 (by kernel_rfl) (by kernel_rfl) ?_)|refine QV ?_|refine QD rfl ?_|refine QR rfl ?_|refine Qu rfl (by omega) ?_|refine Qn rfl (by omega) ?_|refine Wi ?_))|(refine qM ?_;(first|refine x_op rfl (by (repeat' first|(refine Qz ?_;(first|refine Ws rfl ?_|refine WM rfl ?_|(refine QN ?_;(first|refine Q0 rfl ?_|refine Qc rfl rfl rfl ?_))|refine Qq rfl rfl (by first|assumption|omega|(simp;done)|(simp;omega)) ?_|refine s_ad rfl rfl ?_|(refine QK ?_;(first|refine WA rfl rfl (hdig) ?_|refine WA rfl rfl (htwo) ?_))|refine Qe rfl rfl ?_|refine Zm rfl rfl rfl ?_))|exact ⟨rfl, rfl⟩)) ?_|refine qJ ?_)));(all_goals (repeat (rename_i x;(fail_if_success have : Unit := x);revert x)));(first|done|exact w0 ());(first|done|exact w1 ());(first|done|exact w2 ()))) (u : (W0 \/ True) /\ (W1 \/ True) /\ (W2 \/ True) := by (refine ⟨?_, ?_, ?_⟩ <;> first|exact Or.inl True.intro|exact Or.inr True.intro)) : X := s (fun _ => w0) (fun _ => w1) (fun _ => w2) ()
theorem rSt_c (t : Nd) : okN t -> Qk t <= 1000000 -> RsC G t /\ RiC G t := by
 induction t using Nd.ind with
 | h k n m ks ih =>
 intro hok hsz
 have hok0 := hok
 have hsz0 := hsz
 rw [okN] at hok
 rw [Qk] at hsz
 have hl1 := Wk ks
 have hkid : ∀ x ∈ ks, RsC G x /\ RiC G x := fun x hx => ih x hx (Wa hok.2 hx) (by have := QG hx;omega)
 have hins := inside_own (G := G) k n m ks hok0 hsz0 fun x hx => (hkid x hx).1
 refine ⟨RsE.to ?_, hins⟩
 have hil := inLo_len _ hsz0
 have hxl : ∀ x ∈ ks, (exT x).length <= 60000000 := fun x hx => by have := qS x (Wa hok.2 hx);have := QG hx;omega
 have hll : ∀ x ∈ ks, (inLo x).length <= 3000000 := fun x hx => inLo_len x (by have := QG hx;omega)
 clear ih
 unfold RsE
 unfold RiC at hins
 rw [Qr] at hins ⊢
 by_cases k13 : k = 13
 ·subst k13
  rw [inOk_of rfl] at hins
  rw [<- Z9] at hins hil
  refine ⟨[Str.mk sOpen] ++ strs (inLo (.mk 13 n m ks)) ++ [Str.mk sClose], fun B => ?_, fun h => ?_⟩
  ·refine Qa Tryz.func56 rfl Tryz.ntmps56 rfl (t := [(0, .agg [.i 13, .i n, .i m, Qo ks])]) rfl fun E hE => ?_
   (refine wkU6 ?_;intros)
   exact e_2 (Tryz.results56) (Qb rfl) (Qb rfl) (q7 rfl (by rw [Qx];try rfl) (Qd rfl))
  ·rw [stL]
   unfold inLo
   rw [inOk_of rfl, h, inL]
   simp [strs]
 clear hins hil
 by_cases k17 : k = 17
 ·subst k17
  by_cases h0 : (ks.length : Int) = 0
  ·have h00 : ks.length = 0 := by omega
   have hf : qj (.mk 17 n m ks) = false := by rw [qj];simp [Wu, QI, h00]
   refine ⟨[], fun B => ?_, fun h => by rw [hf] at h;cases h⟩
   refine Qa Tryz.func56 rfl Tryz.ntmps56 rfl (t := [(0, .agg [.i 17, .i n, .i m, Qo ks])]) rfl fun E hE => ?_
   (refine wkU6 ?_;intros)
   all_goals exact e_2 (Tryz.results56) (Qb rfl) (Qb rfl) (Ze (fun L v h => ZB (fun v hv => Zj (es := 1) hv) h) (Qd (by rw [hf];rfl)))
  have hp0 : 0 < ks.length := by omega
  by_cases hn : n = 0
  case neg =>
   have hf : qj (.mk 17 n m ks) = false := by rw [qj];simp [Wu, hn]
   refine ⟨[], fun B => ?_, fun h => by rw [hf] at h;cases h⟩
   refine Qa Tryz.func56 rfl Tryz.ntmps56 rfl (t := [(0, .agg [.i 17, .i n, .i m, Qo ks])]) rfl fun E hE => ?_
   (refine wkU6 ?_;intros)
   all_goals exact e_2 (Tryz.results56) (Qb rfl) (Qb rfl) (Ze (fun L v h => ZB (fun v hv => Zj (es := 1) hv) h) (Qd (by rw [hf];rfl)))
  by_cases hm : m = 0
  case neg =>
   have hf : qj (.mk 17 n m ks) = false := by rw [qj];simp [Wu, QI, hm]
   refine ⟨[], fun B => ?_, fun h => by rw [hf] at h;cases h⟩
   refine Qa Tryz.func56 rfl Tryz.ntmps56 rfl (t := [(0, .agg [.i 17, .i n, .i m, Qo ks])]) rfl fun E hE => ?_
   (refine wkU6 ?_;intros)
   all_goals exact e_2 (Tryz.results56) (Qb rfl) (Qb rfl) (Ze (fun L v h => ZB (fun v hv => Zj (es := 1) hv) h) (Qd (by rw [hf];rfl)))
  subst hn;subst hm
  obtain ⟨tx, hx, htx⟩ := rEx_c (G := G) ks[0] (Wa hok.2 (List.getElem_mem hp0)) (by have := QG (List.getElem_mem hp0);omega)
  have hg0 : (ks.map Zn).getD 0 false = Zn ks[0] := by rw [List.getD_eq_getElem?_getD, List.getElem?_map, List.getElem?_eq_getElem hp0];rfl
  by_cases hk0 : Zn ks[0] = true
  case neg =>
   have hk2 : Zn ks[0] = false := by rw [<- Bool.not_eq_true];exact hk0
   have hf : qj (.mk 17 0 0 ks) = false := by rw [qj, hg0];simp [hk2]
   rw [hk2] at hx
   refine ⟨[], fun B => ?_, fun h => by rw [hf] at h;cases h⟩
   refine Qa Tryz.func56 rfl Tryz.ntmps56 rfl (t := [(0, .agg [.i 17, .i 0, .i 0, Qo ks])]) rfl fun E hE => ?_
   (refine wkU6 ?_;intros)
   all_goals exact e_2 (Tryz.results56) (Qb rfl) (Qb rfl) (Ze (fun L v h => ZB (fun v hv => Zj (es := 1) hv) h) (Qd (by rw [hf];rfl)))
  rw [hk0] at hx
  have hxe := htx hk0
  subst hxe
  have hxl0 := hxl _ (List.getElem_mem hp0)
  by_cases h3 : (ks.length : Int) = 3
  case neg =>
   have h30 : ¬ ks.length = 3 := by omega
   have hf : qj (.mk 17 0 0 ks) = false := by rw [qj];simp [Wu, QI, h3, h30]
   refine ⟨[], fun B => ?_, fun h => by rw [hf] at h;cases h⟩
   refine Qa Tryz.func56 rfl Tryz.ntmps56 rfl (t := [(0, .agg [.i 17, .i 0, .i 0, Qo ks])]) rfl fun E hE => ?_
   (refine wkU6 ?_;intros)
   all_goals exact e_2 (Tryz.results56) (Qb rfl) (Qb rfl) (Ze (fun L v h => ZB (fun v hv => Zj (es := 1) hv) h) (Qd (by rw [hf];rfl)))
  have h30 : ks.length = 3 := by omega
  match ks, h30 with
  | [c, a, b], _ =>
   have ha := (hkid a (by simp)).2
   have hb := (hkid b (by simp)).2
   have htwo := two_c (G := G) (sIf ++ exT c ++ sBr) sElse a b ha hb (by have := hll a (by simp);omega) (by have := hll b (by simp);omega)
   have hbb : Wu 0 0 [c, a, b].length 3 = true := rfl
   have hke : Zn c = true := hk0
   have hce : (exT c).length <= 60000000 := hxl0
   have hx2 : Go.Av.Pure Tryz.prog G 55 [.agg (Enc.enc c)] (.tup [Q2 (exT c), .b true]) := hx
   refine ⟨strs ((sIf ++ exT c ++ sBr) :: (inLo a ++ sElse :: (inLo b ++ [sClose]))), fun B => ?_, fun h => ?_⟩
   ·refine Qa Tryz.func56 rfl Tryz.ntmps56 rfl (t := [(0, .agg [.i 17, .i 0, .i 0, Qo [c, a, b]])]) rfl fun E hE => ?_
    (refine wkU6 ?_;intros)
    exact e_2 (Tryz.results56) (Qb rfl) (Qb rfl) (Qd (by rw [qj, ql, hbb];simp [hke, Qo]))
   ·rw [qj, ql] at h
    simp [hke] at h
    rw [stL, insL_eq]
    unfold inLo
    simp [h.1.2, h.2]
 by_cases k18 : k = 18
 ·subst k18
  by_cases h0 : (ks.length : Int) = 0
  ·have h00 : ks.length = 0 := by omega
   have hf : qj (.mk 18 n m ks) = false := by rw [qj];simp [Wu, QI, h00]
   refine ⟨[], fun B => ?_, fun h => by rw [hf] at h;cases h⟩
   refine Qa Tryz.func56 rfl Tryz.ntmps56 rfl (t := [(0, .agg [.i 18, .i n, .i m, Qo ks])]) rfl fun E hE => ?_
   (refine wkU6 ?_;intros)
   all_goals exact e_2 (Tryz.results56) (Qb rfl) (Qb rfl) (Ze (fun L v h => ZB (fun v hv => Zj (es := 1) hv) h) (Qd (by rw [hf];rfl)))
  have hp0 : 0 < ks.length := by omega
  by_cases hn : n = 0
  case neg =>
   have hf : qj (.mk 18 n m ks) = false := by rw [qj];simp [Wu, hn]
   refine ⟨[], fun B => ?_, fun h => by rw [hf] at h;cases h⟩
   refine Qa Tryz.func56 rfl Tryz.ntmps56 rfl (t := [(0, .agg [.i 18, .i n, .i m, Qo ks])]) rfl fun E hE => ?_
   (refine wkU6 ?_;intros)
   all_goals exact e_2 (Tryz.results56) (Qb rfl) (Qb rfl) (Ze (fun L v h => ZB (fun v hv => Zj (es := 1) hv) h) (Qd (by rw [hf];rfl)))
  by_cases hm : m = 0
  case neg =>
   have hf : qj (.mk 18 n m ks) = false := by rw [qj];simp [Wu, QI, hm]
   refine ⟨[], fun B => ?_, fun h => by rw [hf] at h;cases h⟩
   refine Qa Tryz.func56 rfl Tryz.ntmps56 rfl (t := [(0, .agg [.i 18, .i n, .i m, Qo ks])]) rfl fun E hE => ?_
   (refine wkU6 ?_;intros)
   all_goals exact e_2 (Tryz.results56) (Qb rfl) (Qb rfl) (Ze (fun L v h => ZB (fun v hv => Zj (es := 1) hv) h) (Qd (by rw [hf];rfl)))
  subst hn;subst hm
  obtain ⟨tx, hx, htx⟩ := rEx_c (G := G) ks[0] (Wa hok.2 (List.getElem_mem hp0)) (by have := QG (List.getElem_mem hp0);omega)
  have hg0 : (ks.map Zn).getD 0 false = Zn ks[0] := by rw [List.getD_eq_getElem?_getD, List.getElem?_map, List.getElem?_eq_getElem hp0];rfl
  by_cases hk0 : Zn ks[0] = true
  case neg =>
   have hk2 : Zn ks[0] = false := by rw [<- Bool.not_eq_true];exact hk0
   have hf : qj (.mk 18 0 0 ks) = false := by rw [qj, hg0];simp [hk2]
   rw [hk2] at hx
   refine ⟨[], fun B => ?_, fun h => by rw [hf] at h;cases h⟩
   refine Qa Tryz.func56 rfl Tryz.ntmps56 rfl (t := [(0, .agg [.i 18, .i 0, .i 0, Qo ks])]) rfl fun E hE => ?_
   (refine wkU6 ?_;intros)
   all_goals exact e_2 (Tryz.results56) (Qb rfl) (Qb rfl) (Ze (fun L v h => ZB (fun v hv => Zj (es := 1) hv) h) (Qd (by rw [hf];rfl)))
  rw [hk0] at hx
  have hxe := htx hk0
  subst hxe
  have hxl0 := hxl _ (List.getElem_mem hp0)
  by_cases h2 : (ks.length : Int) = 2
  case neg =>
   have h20 : ¬ ks.length = 2 := by omega
   have hf : qj (.mk 18 0 0 ks) = false := by rw [qj];simp [Wu, QI, h2, h20]
   refine ⟨[], fun B => ?_, fun h => by rw [hf] at h;cases h⟩
   refine Qa Tryz.func56 rfl Tryz.ntmps56 rfl (t := [(0, .agg [.i 18, .i 0, .i 0, Qo ks])]) rfl fun E hE => ?_
   (refine wkU6 ?_;intros)
   all_goals exact e_2 (Tryz.results56) (Qb rfl) (Qb rfl) (Ze (fun L v h => ZB (fun v hv => Zj (es := 1) hv) h) (Qd (by rw [hf];rfl)))
  have h20 : ks.length = 2 := by omega
  match ks, h20 with
  | [c, a], _ =>
   have hins := (hkid a (by simp)).2
   have hil := hll a (by simp)
   unfold RiC at hins
   rw [<- Z9] at hins hil
   have hbb : Wu 0 0 [c, a].length 2 = true := rfl
   have hke : Zn c = true := hk0
   have hce : (exT c).length <= 60000000 := hxl0
   have hx2 : Go.Av.Pure Tryz.prog G 55 [.agg (Enc.enc c)] (.tup [Q2 (exT c), .b true]) := hx
   refine ⟨[Str.mk (sWhile ++ exT c ++ sBr)] ++ strs (inLo a) ++ [Str.mk sClose], fun B => ?_, fun h => ?_⟩
   ·refine Qa Tryz.func56 rfl Tryz.ntmps56 rfl (t := [(0, .agg [.i 18, .i 0, .i 0, Qo [c, a]])]) rfl fun E hE => ?_
    (refine wkU6 ?_;intros)
    exact e_2 (Tryz.results56) (Qb rfl) (Qb rfl) (q7 rfl (by rw [Qx];try rfl) (Qd (by rw [qj, ql, hbb];simp [hke, Qo];try rfl)))
   ·rw [qj, ql] at h
    simp [hke] at h
    rw [stL, insL_eq]
    unfold inLo
    simp [h.2, strs]
 by_cases k21 : k = 21
 ·subst k21
  have hbr := qa (G := G) 21 n m ks 2
  have hsm := ZK (G := G) n
  by_cases hb : bareR m ks.length 2 = true
  case neg =>
   have hb2 : bareR m ks.length 2 = false := by rw [<- Bool.not_eq_true];exact hb
   have hf : qj (.mk 21 n m ks) = false := by rw [qj];simp [Q3, hb2]
   rw [hb2] at hbr
   refine ⟨[], fun B => ?_, fun h => by rw [hf] at h;cases h⟩
   refine Qa Tryz.func56 rfl Tryz.ntmps56 rfl (t := [(0, .agg [.i 21, .i n, .i m, Qo ks])]) rfl fun E hE => ?_
   (refine wkU6 ?_;intros)
   all_goals exact e_2 (Tryz.results56) (Qb rfl) (Qb rfl) (Ze (fun L v h => ZB (fun v hv => Zj (es := 1) hv) h) (Qd (by rw [hf];rfl)))
  rw [hb] at hbr
  by_cases hs : WF n = true
  case neg =>
   have hs2 : WF n = false := by rw [<- Bool.not_eq_true];exact hs
   have hf : qj (.mk 21 n m ks) = false := by rw [qj];simp [hs2]
   rw [hs2] at hsm
   refine ⟨[], fun B => ?_, fun h => by rw [hf] at h;cases h⟩
   refine Qa Tryz.func56 rfl Tryz.ntmps56 rfl (t := [(0, .agg [.i 21, .i n, .i m, Qo ks])]) rfl fun E hE => ?_
   (refine wkU6 ?_;intros)
   all_goals exact e_2 (Tryz.results56) (Qb rfl) (Qb rfl) (Ze (fun L v h => ZB (fun v hv => Zj (es := 1) hv) h) (Qd (by rw [hf];rfl)))
  rw [hs] at hsm
  obtain ⟨hn0, hn9⟩ := qY hs
  have hdig : Go.Av.Pure Tryz.prog G 93 [.i n] (Q2 (Lib.itoa n)) := by
   rw [itoa_nat hn0]
   have := qW (G := G) n.toNat (by omega)
   rwa [show ((n.toNat : Nat) : Int) = n by omega] at this
  have hdl := WP hok.1.2.1
  have h20 : ks.length = 2 := by simp [bareR] at hb;omega
  match ks, h20 with
  | [a, b], _ =>
   have ha := (hkid a (by simp)).2
   have hbk := (hkid b (by simp)).2
   have htwo := two_c (G := G) sTry (sCatch ++ Lib.itoa n ++ sBr) a b ha hbk (by have := hll a (by simp);omega) (by have := hll b (by simp);omega)
   have hb3 : bareR m 2 2 = true := hb
   refine ⟨strs (sTry :: (inLo a ++ (sCatch ++ Lib.itoa n ++ sBr) :: (inLo b ++ [sClose]))), fun B => ?_, fun h => ?_⟩
   ·refine Qa Tryz.func56 rfl Tryz.ntmps56 rfl (t := [(0, .agg [.i 21, .i n, .i m, Qo [a, b]])]) rfl fun E hE => ?_
    (refine wkU6 ?_;intros)
    exact e_2 (Tryz.results56) (Qb rfl) (Qb rfl) (Qd (by rw [qj, ql];simp [Q3, hb3, hs, Qo]))
   ·rw [qj, ql] at h
    simp [hs] at h
    rw [stL, insL_eq]
    unfold inLo
    simp [h.1.2, h.2]
 ·obtain ⟨x, hsim, hxe⟩ := rSim_c (G := G) (.mk k n m ks) hok0 hsz0
  rw [Qr] at hsim
  have hso : qj (.mk k n m ks) = Zt (.mk k n m ks) := by rw [qj, if_neg k13, if_neg k17, if_neg k18, if_neg k21]
  rw [hso]
  refine ⟨[Str.mk x], fun B => ?_, fun h => ?_⟩
  ·refine Qa Tryz.func56 rfl Tryz.ntmps56 rfl (t := [(0, .agg [.i k, .i n, .i m, Qo ks])]) rfl fun E hE => ?_
   (refine wkU6 ?_;intros)
   exact e_2 (Tryz.results56) (Qb rfl) (Qb rfl) (Qd rfl)
  ·rw [hxe h, stL, if_neg k13, if_neg k17, if_neg k18, if_neg k21];rfl
theorem line0 (s : List UInt8) : ZQ 0 s = s ++ [10] := by simp [ZQ, Lib.repeatL]
theorem joinN_take {l : List (List UInt8)} {j : Nat} (h : j < l.length) : ZZ 0 (l.take (j + 1)) = ZZ 0 (l.take j) ++ (l[j] ++ [10]) := by
 rw [List.take_succ_eq_append_getElem h, Z5]
 show ZZ 0 (l.take j) ++ (ZQ 0 l[j] ++ []) = _
 rw [line0, List.append_nil]
theorem joinN_take_le (l : List (List UInt8)) (j : Nat) : (ZZ 0 (l.take j)).length <= (ZZ 0 l).length := by
 have := Z5 0 (l.take j) (l.drop j)
 rw [List.take_append_drop] at this
 rw [this, List.length_append];omega
theorem wkU7 {X W0 W1 W2 : Prop} (w0 : W0 := by exact True.intro) (w1 : W1 := by exact True.intro) (w2 : W2 := by exact True.intro) (s : (Unit -> W0) -> (Unit -> W1) -> (Unit -> W2) -> Unit -> X := by (intro w0 w1 w2 _;(repeat' first|(refine Qz ?_;(first|refine Ws rfl ?_|refine WM rfl ?_|(refine QN ?_;(first|refine QA rfl ?_|refine Q0 rfl ?_|refine Qc rfl rfl rfl ?_))|refine Qq rfl rfl (by first|assumption|omega|(simp;done)|(simp;omega)) ?_|(refine Qw ?_;(first|refine Zw rfl rfl ?_|refine WX rfl rfl ?_|refine s_neq rfl rfl ?_|refine ZU rfl rfl (by omega) ?_|refine s_ad rfl rfl ?_|refine qC rfl rfl (by omega) ?_))|(refine QK ?_;(first|refine s_call_vo rfl rfl (.same (.ref rfl (by rw [Qx];rfl) (Qy _) (.same .nil))) (lines_own _ _ _ (by omega)) (encs_flat_str _) (fun _ _ => ?_)|refine s_call_v rfl rfl (View.ref rfl (by rw [Qx];rfl) (Qy _) View.nil) (r_list_c _ hJ hN) rfl ?_|refine WA rfl rfl (hdig) ?_|refine WA rfl rfl (hsm) ?_|refine WA rfl rfl (hx) ?_|refine s_call_ot rfl rfl (hins) (by repeat' first|exact Enc.clo _|exact Zb|refine Ww ?_ ?_|exact Wj|exact WB _|exact WH (Qy _)|exact Qy _|refine qi ?_ ?_|refine Z3 ?_|refine W4 ?_|refine WS ?_) (by first|exact Qy _) (fun _ _ => ?_)|refine Zy (z := Str.mk _) rfl rfl rfl rfl rfl rfl rfl (by first|omega|(simp;omega)) (by first|omega|(simp;omega)) (fun _ => rfl) (fun _ _ => ?_)|refine Qv rfl ?_))|(refine Q1 ?_;(first|refine ZO rfl rfl ?_|refine W9 rfl rfl ?_))|refine qK rfl ?_|refine Qe rfl rfl ?_|refine Zm rfl rfl rfl ?_|refine W5 rfl rfl (by decide) rfl ?_|refine ZC rfl rfl (fun _ _ => ?_)))|(refine We ?_;(first|refine Wb ?_|refine Zg rfl ?_|refine qd rfl rfl rfl rfl ?_|refine qw rfl rfl rfl rfl ?_|refine WN rfl rfl (by omega) ?_))|(refine Wc ?_;(first|refine Q7 ?_|refine Qm ?_|refine QM ?_|refine QV ?_|refine QD rfl ?_|refine QR rfl ?_|refine Qu rfl (by omega) ?_|refine Qn rfl (by omega) ?_|refine W8 rfl ?_|refine Wi ?_)));(all_goals (repeat (rename_i x;(fail_if_success have : Unit := x);revert x)));(first|done|exact w0 ());(first|done|exact w1 ());(first|done|exact w2 ()))) (u : (W0 \/ True) /\ (W1 \/ True) /\ (W2 \/ True) := by (refine ⟨?_, ?_, ?_⟩ <;> first|exact Or.inl True.intro|exact Or.inr True.intro)) : X := s (fun _ => w0) (fun _ => w1) (fun _ => w2) ()
theorem joined_c (l : List (List UInt8)) (hl : (ZZ 0 l).length <= 140737480000000) (hn : l.length <= 1000000000) : Go.Av.Pure Tryz.prog G 52 [Qo (strs l)] (Q2 (ZZ 0 l)) := fun B => by
 obtain ⟨ls, hls⟩ : ∃ ls, ls = strs l := ⟨_, rfl⟩
 rw [<- hls]
 have hll : ls.length = l.length := by rw [hls, Z9]
 refine Qa Tryz.func52 rfl Tryz.ntmps52 rfl (t := [(0, Qo ls)]) rfl fun E hE => ?_
 (refine wkU7 ?_;intros)
 refine WY (fun (j : Nat) => ⟨[(0, Qo ls), (3, Q2 (ZZ 0 (l.take j))), (4, .i j)], []⟩) (fun j => j <= ls.length) (fun j => ls.length - j) 0 ?_ (by omega) ?_
 ·exact zal rfl
 intro j hj
 by_cases hjl : j < ls.length
 ·have hjl2 : j < l.length := by omega
  have e : ls[j].l = l[j] := by subst hls;simp [strs]
  have hle := joinN_take_le l (j + 1)
  have htk := joinN_take hjl2
  rw [<- e] at htk
  rw [htk] at hle
  have hb : (ZZ 0 (l.take j)).length + ls[j].l.length + 1 <= 140737480000000 := by simp only [List.length_append, List.length_cons, List.length_nil] at hle;omega
  clear hle e
  (refine wkU7 ?_;intros)
  refine ⟨j + 1, by omega, by omega, ?_⟩
  rw [htk, <- List.append_assoc]
  exact zal rfl
 ·have hje : j = l.length := by omega
  subst hje
  (refine wkU7 ?_;intros)
  refine e_1 Tryz.results52 (Qb rfl) (Qd ?_)
  rw [List.take_length]
abbrev sFun : List UInt8 := [102, 117, 110, 32]
abbrev sPar : List UInt8 := [32, 40]
abbrev sEnd : List UInt8 := [41, 32, 123]
def lastN (ks : List Nd) : Nd := ks.getD (ks.length - 1) (.mk 0 0 0 [])
def funHd (n : Int) (ks : List Nd) : List UInt8 := sFun ++ Lib.itoa n ++ sPar ++ Wy ((ks.take (ks.length - 1)).map qz) ++ sEnd
def funL : Nd -> List (List UInt8)
 | .mk k n m ks => funHd n ks :: (inL (lastN ks) ++ [sClose])
theorem fun_lines (t : Nd) (h : ZF t = true) : funT t = ZZ 0 (funL t) := by
 obtain ⟨k, n, m, ks⟩ := t
 rw [ZF] at h
 simp only [Bool.and_eq_true] at h
 rw [funT, if_pos (by simp only [Bool.and_eq_true];exact h.1.1.1), (st_lines _ 0).2 h.2]
 show _ = ZZ 0 (funHd n ks :: (inL (lastN ks) ++ [sClose]))
 rw [qt, Z5]
 unfold funHd lastN
 congr 1
 try congr 1
 try simp [ZZ]
theorem funL_len (t : Nd) : (funL t).length <= 3 * Qk t := by
 obtain ⟨k, n, m, ks⟩ := t
 rw [funL, List.length_cons, List.length_append, List.length_singleton, Qk]
 rcases Nat.eq_zero_or_pos ks.length with h0|h0
 ·rw [List.eq_nil_of_length_eq_zero h0]
  have : (inL (lastN [])).length = 0 := rfl
  omega
 ·have h1 := (stL_len (lastN ks)).2
  have h2 := QG (last_mem h0)
  have h3 : Qk (lastN ks) <= Qs ks := h2
  omega
def RfE (G : Nat -> DV) (t : Nd) : Prop := ∃ x : List Str, Go.Av.Pure Tryz.prog G 53 [.agg (Enc.enc t)] (.tup [Qo x, .b (ZF t)]) /\ (ZF t = true -> x = strs (funL t))
theorem rFun_c (t : Nd) (hok : okN t) (hsz : Qk t <= 1000000) : RfE G t := by
 obtain ⟨k, n, m, ks⟩ := t
 rw [okN] at hok
 rw [Qk] at hsz
 have hl1 := Wk ks
 unfold RfE
 rw [Qr]
 have hsm := ZK (G := G) n
 by_cases k26 : k = 26
 case neg =>
  have hf : ZF (.mk k n m ks) = false := by rw [ZF];simp [k26]
  refine ⟨[], fun B => ?_, fun h => by rw [hf] at h;cases h⟩
  refine Qa Tryz.func53 rfl Tryz.ntmps53 rfl (t := [(0, .agg [.i k, .i n, .i m, Qo ks])]) rfl fun E hE => ?_
  (refine wkU7 ?_;intros)
  all_goals exact e_2 (Tryz.results53) (Qb rfl) (Qb rfl) (Ze (fun L v h => ZB (fun v hv => Zj (es := 1) hv) h) (Qd (by rw [hf];rfl)))
 subst k26
 by_cases hm : m = 0
 case neg =>
  have hf : ZF (.mk 26 n m ks) = false := by rw [ZF];simp [ZL, hm]
  refine ⟨[], fun B => ?_, fun h => by rw [hf] at h;cases h⟩
  refine Qa Tryz.func53 rfl Tryz.ntmps53 rfl (t := [(0, .agg [.i 26, .i n, .i m, Qo ks])]) rfl fun E hE => ?_
  (refine wkU7 ?_;intros)
  all_goals exact e_2 (Tryz.results53) (Qb rfl) (Qb rfl) (Ze (fun L v h => ZB (fun v hv => Zj (es := 1) hv) h) (Qd (by rw [hf];rfl)))
 subst hm
 by_cases hs : WF n = true
 case neg =>
  have hs2 : WF n = false := by rw [<- Bool.not_eq_true];exact hs
  have hf : ZF (.mk 26 n 0 ks) = false := by rw [ZF];simp [hs2]
  rw [hs2] at hsm
  refine ⟨[], fun B => ?_, fun h => by rw [hf] at h;cases h⟩
  refine Qa Tryz.func53 rfl Tryz.ntmps53 rfl (t := [(0, .agg [.i 26, .i n, .i 0, Qo ks])]) rfl fun E hE => ?_
  (refine wkU7 ?_;intros)
  all_goals exact e_2 (Tryz.results53) (Qb rfl) (Qb rfl) (Ze (fun L v h => ZB (fun v hv => Zj (es := 1) hv) h) (Qd (by rw [hf];rfl)))
 rw [hs] at hsm
 by_cases h0 : (ks.length : Int) = 0
 ·have h00 : ks.length = 0 := by omega
  have hf : ZF (.mk 26 n 0 ks) = false := by rw [ZF];simp [h00]
  refine ⟨[], fun B => ?_, fun h => by rw [hf] at h;cases h⟩
  refine Qa Tryz.func53 rfl Tryz.ntmps53 rfl (t := [(0, .agg [.i 26, .i n, .i 0, Qo ks])]) rfl fun E hE => ?_
  (refine wkU7 ?_;intros)
  all_goals exact e_2 (Tryz.results53) (Qb rfl) (Qb rfl) (Ze (fun L v h => ZB (fun v hv => Zj (es := 1) hv) h) (Qd (by rw [hf];rfl)))
 have hp0 : 0 < ks.length := by omega
 obtain ⟨hn0, hn9⟩ := qY hs
 have hdig : Go.Av.Pure Tryz.prog G 93 [.i n] (Q2 (Lib.itoa n)) := by
  rw [itoa_nat hn0]
  have := qW (G := G) n.toNat (by omega)
  rwa [show ((n.toNat : Nat) : Int) = n by omega] at this
 have hdl := WP hok.1.2.1
 obtain ⟨c, hc⟩ : ∃ c, c = ks.length - 1 := ⟨_, rfl⟩
 have hcl : c < ks.length := by omega
 have hlast : lastN ks = ks[c] := by
  unfold lastN
  rw [List.getD_eq_getElem?_getD, <- hc, List.getElem?_eq_getElem hcl];rfl
 have hins := (rSt_c (G := G) ks[c] (Wa hok.2 (List.getElem_mem hcl)) (by have := QG (List.getElem_mem hcl);omega)).2
 have hil := inLo_len ks[c] (by have := QG (List.getElem_mem hcl);omega)
 have hio : inLo ks[c] = inLo (lastN ks) := by rw [hlast]
 have hfo : ZF (.mk 26 n 0 ks) = ((ks.take c).all ZH && inOk ks[c]) := by
  rw [ZF]
  simp [hs, hp0, ZL]
  rw [<- hc]
  congr 1
  rw [List.getElem?_eq_getElem hcl];rfl
 have hfl : funL (.mk 26 n 0 ks) = (sFun ++ Lib.itoa n ++ sPar ++ Wy ((ks.take c).map qz) ++ sEnd) :: (inL ks[c] ++ [sClose]) := by
  rw [funL, hlast];unfold funHd;rw [<- hc]
 rw [hfo, hfl]
 unfold RiC at hins
 rw [<- Z9] at hins hil
 have hit : ∀ x ∈ ks, ∃ y, Go.Av.Pure Tryz.prog G 54 [.agg (Enc.enc x)] (.tup [Q2 y, .b (ZH x)]) /\ (ZH x = true -> y = qz x) := fun x hx => rTy_c x (Wa hok.2 hx) (by have := QG hx;omega)
 have hcm := Z6 qz (M := 30) ks c fun x hx => qT x (Wa hok.2 hx)
 have hst := Wp ks c
 have hst2 : qm ((ks.take c).map fun x => Str.mk (qz x)) = (ks.take c).map qz := by unfold qm;rw [List.map_map];rfl
 have hJ : (Wy (qm ((ks.take c).map fun x => Str.mk (qz x)))).length <= 140737488355328 := by rw [hst2];omega
 have hJ2 : (Wy (qm ((ks.take c).map fun x => Str.mk (qz x)))).length <= 30000000 := by rw [hst2];omega
 have hN : ((ks.take c).map fun x => Str.mk (qz x)).length <= 1000000000 := by simp;omega
 refine ⟨if (ks.take c).all ZH = true then [Str.mk (sFun ++ Lib.itoa n ++ sPar ++ Wy ((ks.take c).map qz) ++ sEnd)] ++ strs (inLo ks[c]) ++ [Str.mk sClose] else [], fun B => ?_, fun h => ?_⟩
 ·clear hio hfo hfl hlast
  refine Qa Tryz.func53 rfl Tryz.ntmps53 rfl (t := [(0, .agg [.i 26, .i n, .i 0, Qo ks])]) rfl fun E hE => ?_
  (refine wkU7 ?_;intros)
  rename_i gb hgb
  refine r_own 5 1 rfl fun gO hgO => ?_
  refine r_loopg (fun (i : Nat) g => ⟨[(1, .ptr 0 gb 0), (4, .i c), (5, .ref 1 g 0 ((ks.take i).map fun x => Str.mk (qz x)).length 1), (6, .i i)], [.row gb [.i 26, .i n, .i 0, Qo ks], .row g (Wf ((ks.take i).map fun x => Str.mk (qz x)))]⟩) (fun i => i <= c /\ (ks.take i).all ZH = true) (fun i => c - i) 0 gO hgO ?_ (by simp) ?_
  ·rw [show ((c : Nat) : Int) = (ks.length : Int) - 1 by omega]
   exact zal rfl
  intro i g ⟨hil0, hall⟩ hg
  by_cases hic : i < c
  ·have hil2 : i < ks.length := by omega
   obtain ⟨y, hx, hxe⟩ := hit _ (List.getElem_mem hil2)
   by_cases hk : ZH ks[i] = true
   ·have hye := hxe hk
    subst hye
    rw [hk] at hx
    have hb2 : ((ks.take (i + 1)).map fun x => Str.mk (qz x)) = ((ks.take i).map fun x => Str.mk (qz x)) ++ [Str.mk (qz ks[i])] := by rw [List.take_succ_eq_append_getElem hil2, List.map_append];rfl
    have hal : ((ks.take i).map fun x => Str.mk (qz x)).length <= 1048576 := by simp;omega
    (refine wkU7 ?_;intros)
    refine ⟨i + 1, _, ⟨by omega, by rw [List.take_succ_eq_append_getElem hil2, List.all_append, hall];simp [hk]⟩, by assumption, by omega, ?_⟩
    rw [hb2]
    exact zal rfl
   ·have hk2 : ZH ks[i] = false := by rw [<- Bool.not_eq_true];exact hk
    rw [hk2] at hx
    have hna : (ks.take c).all ZH = false := by
     rw [<- Bool.not_eq_true, List.all_eq_true]
     intro h
     refine hk (h _ ?_)
     exact List.mem_take_iff_getElem.2 ⟨i, by omega, rfl⟩
    (refine wkU7 ?_;intros)
    exact e_2 (Tryz.results53) (Qb rfl) (Qb rfl) (Ze (fun L v h => ZB (fun v hv => Zj (es := 1) hv) h) (Qd (by rw [hna];rfl)))
  ·have hie : i = c := by omega
   subst hie
   (refine wkU7 ?_;intros)
   exact e_2 (Tryz.results53) (Qb rfl) (Qb rfl) (q7 rfl (by rw [Qx];try rfl) (Qd (by rw [hall, if_pos rfl, hst2, Bool.true_and];rfl)))
 ·simp only [Bool.and_eq_true] at h
  rw [if_pos h.1]
  unfold inLo
  rw [if_pos h.2]
  simp [strs]
def progL : Nd -> List (List UInt8)
 | .mk k n m ks => ([112, 114, 111, 103, 114, 97, 109, 32] ++ Lib.itoa n) :: (ks.map funL).flatten
theorem funs_lines : ∀ (ks : List Nd), ks.all ZF = true -> (ks.map funT).flatten = ZZ 0 (ks.map funL).flatten
 | [], _ => by simp [ZZ]
 | x :: r, h => by
  simp only [List.all_cons, Bool.and_eq_true] at h
  rw [List.map_cons, List.map_cons, List.flatten_cons, List.flatten_cons, Z5, fun_lines x h.1, funs_lines r h.2]
theorem funsL_len : ∀ (ks : List Nd), ((ks.map funL).flatten).length <= 3 * Qs ks
 | [] => by simp
 | x :: r => by
  have h1 := funL_len x
  have h2 := funsL_len r
  rw [List.map_cons, List.flatten_cons, List.length_append, Qs];omega
theorem wkU8 {X W0 W1 W2 : Prop} (w0 : W0 := by exact True.intro) (w1 : W1 := by exact True.intro) (w2 : W2 := by exact True.intro) (s : (Unit -> W0) -> (Unit -> W1) -> (Unit -> W2) -> Unit -> X := by (intro w0 w1 w2 _;(repeat' first|(refine Qz ?_;(first|refine Ws rfl ?_|refine WM rfl ?_|(refine QN ?_;(first|refine Z4 rfl rfl ?_|refine Q0 rfl ?_|refine Qc rfl rfl rfl ?_))|refine Qq rfl rfl (by first|assumption|omega|(simp;done)|(simp;omega)) ?_|(refine Qw ?_;(first|refine Zw rfl rfl ?_|refine WX rfl rfl ?_|refine s_neq rfl rfl ?_|refine ZU rfl rfl (by omega) ?_|refine s_ad rfl rfl ?_))|(refine QK ?_;(first|refine Qv rfl ?_|refine s_app_r rfl rfl rfl rfl rfl rfl rfl (by first|omega|(simp;omega)) (by first|omega|(simp;omega)) (fun _ => rfl) (fun _ _ => ?_)|refine WA rfl rfl (hdig) ?_|refine WA rfl rfl (hsm) ?_|refine WA rfl rfl (hx) ?_|refine WA rfl rfl (hty) ?_|refine WA rfl rfl (hex) ?_|refine WA rfl rfl (hst) ?_|refine WA rfl rfl (hjn) ?_))|(refine Q1 ?_;(first|refine ZO rfl rfl ?_|refine W9 rfl rfl ?_))|refine s_bslice_own (cs := Wf [Str.mk ([112, 114, 111, 103, 114, 97, 109, 32] ++ Lib.itoa n)]) rfl rfl (by decide) rfl rfl (fun _ _ => ?_)|refine qK rfl ?_|refine Qe rfl rfl ?_|refine Zm rfl rfl rfl ?_|refine ZC rfl rfl (fun _ _ => ?_)))|(refine We ?_;(first|refine Wb ?_|refine Zg rfl ?_|refine qd rfl rfl rfl rfl ?_|refine qw rfl rfl rfl rfl ?_|refine WN rfl rfl (by omega) ?_))|(refine Wc ?_;(first|refine Q7 ?_|refine Qm ?_|refine QM ?_|refine QV ?_|refine QD rfl ?_|refine QR rfl ?_|refine Qu rfl (by omega) ?_|refine Qn rfl (by omega) ?_|refine W8 rfl ?_|refine Wi ?_)));(all_goals (repeat (rename_i x;(fail_if_success have : Unit := x);revert x)));(first|done|exact w0 ());(first|done|exact w1 ());(first|done|exact w2 ()))) (u : (W0 \/ True) /\ (W1 \/ True) /\ (W2 \/ True) := by (refine ⟨?_, ?_, ?_⟩ <;> first|exact Or.inl True.intro|exact Or.inr True.intro)) : X := s (fun _ => w0) (fun _ => w1) (fun _ => w2) ()
theorem rProg_c (n m : Int) (ks : List Nd) (hok : okN (.mk 27 n m ks)) (hsz : Qk (.mk 27 n m ks) <= 1000000) : ∃ x : List Str, Go.Av.Pure Tryz.prog G 51 [.agg [.i 27, .i n, .i m, Qo ks]] (.tup [Qo x, .b (prOk (.mk 27 n m ks))]) /\ (prOk (.mk 27 n m ks) = true -> x = strs (progL (.mk 27 n m ks))) := by
 rw [okN] at hok
 rw [Qk] at hsz
 have hl1 := Wk ks
 have hsm := ZK (G := G) n
 have hpo : prOk (.mk 27 n m ks) = (QI m ks.length (-1) && WF n && ks.all ZF) := by rw [prOk, if_pos rfl]
 by_cases hm : m = 0
 case neg =>
  have hf : prOk (.mk 27 n m ks) = false := by rw [hpo, ZL];simp [hm]
  refine ⟨[], fun B => ?_, fun h => by rw [hf] at h;cases h⟩
  refine Qa Tryz.func51 rfl Tryz.ntmps51 rfl (t := [(0, .agg [.i 27, .i n, .i m, Qo ks])]) rfl fun E hE => ?_
  (refine wkU8 ?_;intros)
  all_goals exact e_2 (Tryz.results51) (Qb rfl) (Qb rfl) (Ze (fun L v h => ZB (fun v hv => Zj (es := 1) hv) h) (Qd (by rw [hf];rfl)))
 subst hm
 by_cases hs : WF n = true
 case neg =>
  have hs2 : WF n = false := by rw [<- Bool.not_eq_true];exact hs
  have hf : prOk (.mk 27 n 0 ks) = false := by rw [hpo];simp [hs2]
  rw [hs2] at hsm
  refine ⟨[], fun B => ?_, fun h => by rw [hf] at h;cases h⟩
  refine Qa Tryz.func51 rfl Tryz.ntmps51 rfl (t := [(0, .agg [.i 27, .i n, .i 0, Qo ks])]) rfl fun E hE => ?_
  (refine wkU8 ?_;intros)
  all_goals exact e_2 (Tryz.results51) (Qb rfl) (Qb rfl) (Ze (fun L v h => ZB (fun v hv => Zj (es := 1) hv) h) (Qd (by rw [hf];rfl)))
 rw [hs] at hsm
 obtain ⟨hn0, hn9⟩ := qY hs
 have hdig : Go.Av.Pure Tryz.prog G 93 [.i n] (Q2 (Lib.itoa n)) := by
  rw [itoa_nat hn0]
  have := qW (G := G) n.toNat (by omega)
  rwa [show ((n.toNat : Nat) : Int) = n by omega] at this
 have hdl := WP hok.1.2.1
 rw [show prOk (.mk 27 n 0 ks) = ks.all ZF by rw [hpo, ZL, hs];simp]
 have hpl : progL (.mk 27 n 0 ks) = ([112, 114, 111, 103, 114, 97, 109, 32] ++ Lib.itoa n) :: (ks.map funL).flatten := by rw [progL]
 rw [hpl]
 refine ⟨if ks.all ZF = true then strs (([112, 114, 111, 103, 114, 97, 109, 32] ++ Lib.itoa n) :: (ks.map funL).flatten) else [], fun B => ?_, fun h => by rw [if_pos h]⟩
 have hfk : ∀ x ∈ ks, RfE G x := fun x hx => rFun_c x (Wa hok.2 hx) (by have := QG hx;omega)
 refine Qa Tryz.func51 rfl Tryz.ntmps51 rfl (t := [(0, .agg [.i 27, .i n, .i 0, Qo ks])]) rfl fun E hE => ?_
 (refine wkU8 ?_;intros)
 rename_i gb hgb gO hgO
 refine r_loopg (fun (i : Nat) g => ⟨[(1, .ptr 0 gb 0), (4, .ref 1 g 0 (strs (([112, 114, 111, 103, 114, 97, 109, 32] ++ Lib.itoa n) :: ((ks.take i).map funL).flatten)).length 1), (5, .i i)], [.row gb [.i 27, .i n, .i 0, Qo ks], .row g (Wf (strs (([112, 114, 111, 103, 114, 97, 109, 32] ++ Lib.itoa n) :: ((ks.take i).map funL).flatten)))]⟩) (fun i => i <= ks.length /\ (ks.take i).all ZF = true) (fun i => ks.length - i) 0 gO hgO ?_ (by simp) ?_
 ·exact zal rfl
 intro i g ⟨hil0, hall⟩ hg
 by_cases hil : i < ks.length
 ·obtain ⟨y, hx, hxe⟩ := hfk _ (List.getElem_mem hil)
  by_cases hk : ZF ks[i] = true
  ·have hye := hxe hk
   subst hye
   rw [hk] at hx
   have hb2 : strs (([112, 114, 111, 103, 114, 97, 109, 32] ++ Lib.itoa n) :: ((ks.take (i + 1)).map funL).flatten) = strs (([112, 114, 111, 103, 114, 97, 109, 32] ++ Lib.itoa n) :: ((ks.take i).map funL).flatten) ++ strs (funL ks[i]) := by rw [List.take_succ_eq_append_getElem hil, List.map_append, List.flatten_append, <- strs_app];simp
   have hfl := funsL_len (ks.take i)
   have hstl := Wp ks i
   have hal : (strs (([112, 114, 111, 103, 114, 97, 109, 32] ++ Lib.itoa n) :: ((ks.take i).map funL).flatten)).length <= 4000000 := by rw [Z9, List.length_cons];omega
   have hfx := funL_len ks[i]
   have hfm := QG (List.getElem_mem hil)
   have hfs : (strs (funL ks[i])).length <= 4000000 := by rw [Z9];omega
   generalize strs (([112, 114, 111, 103, 114, 97, 109, 32] ++ Lib.itoa n) :: ((ks.take i).map funL).flatten) = acc at *
   (refine wkU8 ?_;intros)
   refine ⟨i + 1, _, ⟨by omega, by rw [List.take_succ_eq_append_getElem hil, List.all_append, hall];simp [hk]⟩, by assumption, by omega, ?_⟩
   rw [hb2]
   exact zal rfl
  ·have hk2 : ZF ks[i] = false := by rw [<- Bool.not_eq_true];exact hk
   rw [hk2] at hx
   have hna : ks.all ZF = false := by
    rw [<- Bool.not_eq_true, List.all_eq_true]
    intro h;exact hk (h _ (List.getElem_mem hil))
   (refine wkU8 ?_;intros)
   exact e_2 (Tryz.results51) (Qb rfl) (Qb rfl) (Ze (fun L v h => ZB (fun v hv => Zj (es := 1) hv) h) (Qd (by rw [hna];rfl)))
 ·have hie : i = ks.length := by omega
  subst hie
  rw [List.take_length] at *
  (refine wkU8 ?_;intros)
  exact e_2 (Tryz.results51) (Qb rfl) (Qb rfl) (q7 rfl (by rw [Qx];try rfl) (Qd (by rw [hall, if_pos rfl];rfl)))
theorem typOk_kind (k n m : Int) (ks : List Nd) (h : ZH (.mk k n m ks) = true) : 0 <= k /\ k <= 3 := by
 rw [ZH] at h
 split at h
 ·omega
 split at h
 ·omega
 split at h
 ·omega
 ·cases h
theorem exOk_kind (k n m : Int) (ks : List Nd) (h : Zn (.mk k n m ks) = true) : 4 <= k /\ k <= 12 := by
 rw [Zn] at h
 repeat' split at h
 all_goals first|omega|cases h
theorem stOk_kind (k n m : Int) (ks : List Nd) (h : qj (.mk k n m ks) = true) : 13 <= k /\ k <= 25 := by
 by_cases hk : 13 <= k /\ k <= 25
 ·exact hk
 ·exfalso
  rw [qj, if_neg (by omega), if_neg (by omega), if_neg (by omega), if_neg (by omega), Zt, if_neg (by omega), if_neg (by omega), if_neg (by omega), if_neg (by omega), if_neg (by omega), if_neg (by omega), if_neg (by omega), if_neg (by omega), if_neg (by omega)] at h
  cases h
theorem r_print_c (t : Nd) (hok : okN t) (hsz : Qk t <= 1000000) : Go.Av.Pure Tryz.prog G 19 [.agg (Enc.enc t)] (Q2 (Zz t)) := fun B => by
 obtain ⟨ty, hty, htye⟩ := rTy_c (G := G) t hok hsz
 obtain ⟨ex, hex, hexe⟩ := rEx_c (G := G) t hok hsz
 obtain ⟨⟨hst1, hst2⟩, -⟩ := rSt_c (G := G) t hok hsz
 have hfx := rFun_c (G := G) t hok hsz
 have hstl := (st_lenX hok (i := 0) (by omega)).1
 have hst0 := (st_lines t 0).1
 have hsl := (stL_len t).1
 have hfl := funT_len t hok hsz
 have hfs := fun_lines t
 have hfl2 := funL_len t
 obtain ⟨k, n, m, ks⟩ := t
 unfold RfE at hfx
 rw [Qr] at *
 have hok2 := hok
 rw [okN] at hok2
 have hse : Qk (.mk k n m ks) = 1 + Qs ks := by rw [Qk]
 unfold Zz
 by_cases k27 : k = 27
 ·subst k27
  obtain ⟨x, hx, hxe⟩ := rProg_c (G := G) n m ks hok hsz
  by_cases hp : prOk (.mk 27 n m ks) = true
  ·have hp2 := hxe hp
   subst hp2
   rw [hp] at hx ⊢
   rw [prOk, if_pos rfl] at hp
   simp only [Bool.and_eq_true] at hp
   have ht : prT (.mk 27 n m ks) = ZZ 0 (progL (.mk 27 n m ks)) := by
    rw [prT, if_pos rfl, progL, qt, funs_lines ks hp.2]
   have hjl : (ZZ 0 (progL (.mk 27 n m ks))).length <= 140737480000000 := by
    rw [<- ht, prT, if_pos rfl, List.length_append, Wx]
    have := funs_len ks hok2.2 (by omega)
    have := WP hok2.1.2.1
    simp only [List.length_append, List.length_cons, List.length_nil];omega
   have hjn := joined_c (G := G) (progL (.mk 27 n m ks)) hjl (by rw [progL, List.length_cons];have := funsL_len ks;omega)
   rw [if_pos rfl, ht]
   refine Qa Tryz.func19 rfl Tryz.ntmps19 rfl (t := [(0, .agg [.i 27, .i n, .i m, Qo ks])]) rfl fun E hE => ?_
   (refine wkU8 ?_;intros)
   refine e_1 Tryz.results19 (Qb rfl) (Qd ?_)
   all_goals first|rfl|(simp;done)
  ·have hp2 : prOk (.mk 27 n m ks) = false := by rw [<- Bool.not_eq_true];exact hp
   rw [hp2] at hx ⊢
   refine Qa Tryz.func19 rfl Tryz.ntmps19 rfl (t := [(0, .agg [.i 27, .i n, .i m, Qo ks])]) rfl fun E hE => ?_
   (refine wkU8 ?_;intros)
   refine e_1 Tryz.results19 (Qb rfl) (Qd ?_)
   all_goals first|rfl|(simp;done)
 by_cases k26 : k = 26
 ·subst k26
  obtain ⟨x, hx, hxe⟩ := hfx
  rw [prOk, prT, if_neg k27, if_neg k27, if_pos rfl, if_pos rfl]
  by_cases hp : ZF (.mk 26 n m ks) = true
  ·have hp2 := hxe hp
   subst hp2
   rw [hp] at hx ⊢
   have hjn := joined_c (G := G) (funL (.mk 26 n m ks)) (by rw [<- hfs hp];omega) (by omega)
   rw [if_pos rfl, hfs hp]
   refine Qa Tryz.func19 rfl Tryz.ntmps19 rfl (t := [(0, .agg [.i 26, .i n, .i m, Qo ks])]) rfl fun E hE => ?_
   (refine wkU8 ?_;intros)
   refine e_1 Tryz.results19 (Qb rfl) (Qd ?_)
   all_goals first|rfl|(simp;done)
  ·have hp2 : ZF (.mk 26 n m ks) = false := by rw [<- Bool.not_eq_true];exact hp
   rw [hp2] at hx ⊢
   refine Qa Tryz.func19 rfl Tryz.ntmps19 rfl (t := [(0, .agg [.i 26, .i n, .i m, Qo ks])]) rfl fun E hE => ?_
   (refine wkU8 ?_;intros)
   refine e_1 Tryz.results19 (Qb rfl) (Qd ?_)
   all_goals first|rfl|(simp;done)
 have ety := typOk_kind k n m ks
 have eex := exOk_kind k n m ks
 have est := stOk_kind k n m ks
 rw [prOk, prT, if_neg k27, if_neg k27, if_neg k26, if_neg k26]
 by_cases ht : ZH (.mk k n m ks) = true
 ·have := ety ht
  rw [if_pos this, if_pos this, ht, if_pos rfl]
  rw [ht, htye ht] at hty
  refine Qa Tryz.func19 rfl Tryz.ntmps19 rfl (t := [(0, .agg [.i k, .i n, .i m, Qo ks])]) rfl fun E hE => ?_
  (refine wkU8 ?_;intros)
  refine e_1 Tryz.results19 (Qb rfl) (Qd ?_)
  all_goals first|rfl|(simp;done)
 have ht2 : ZH (.mk k n m ks) = false := by rw [<- Bool.not_eq_true];exact ht
 rw [ht2] at hty ⊢
 by_cases he : Zn (.mk k n m ks) = true
 ·have := eex he
  have n1 : ¬ (0 <= k /\ k <= 3) := by omega
  rw [if_neg n1, if_neg n1, if_pos this, if_pos this, he, if_pos rfl]
  rw [he, hexe he] at hex
  refine Qa Tryz.func19 rfl Tryz.ntmps19 rfl (t := [(0, .agg [.i k, .i n, .i m, Qo ks])]) rfl fun E hE => ?_
  (refine wkU8 ?_;intros)
  refine e_1 Tryz.results19 (Qb rfl) (Qd ?_)
  all_goals first|rfl|(simp;done)
 have he2 : Zn (.mk k n m ks) = false := by rw [<- Bool.not_eq_true];exact he
 rw [he2] at hex ⊢
 by_cases hs : qj (.mk k n m ks) = true
 ·have := est hs
  have hst := hst1 hs
  have n1 : ¬ (0 <= k /\ k <= 3) := by omega
  have n2 : ¬ (4 <= k /\ k <= 12) := by omega
  rw [if_neg n1, if_neg n1, if_neg n2, if_neg n2, hs, if_pos rfl, hst0 hs]
  have hjn := joined_c (G := G) (stL (.mk k n m ks)) (by rw [<- hst0 hs];omega) (by omega)
  refine Qa Tryz.func19 rfl Tryz.ntmps19 rfl (t := [(0, .agg [.i k, .i n, .i m, Qo ks])]) rfl fun E hE => ?_
  (refine wkU8 ?_;intros)
  refine e_1 Tryz.results19 (Qb rfl) (Qd ?_)
  all_goals first|rfl|(simp;done)
 ·have hs2 : qj (.mk k n m ks) = false := by rw [<- Bool.not_eq_true];exact hs
  obtain ⟨x, hst⟩ := hst2 hs2
  rw [hs2]
  refine Qa Tryz.func19 rfl Tryz.ntmps19 rfl (t := [(0, .agg [.i k, .i n, .i m, Qo ks])]) rfl fun E hE => ?_
  (refine wkU8 ?_;intros)
  refine e_1 Tryz.results19 (Qb rfl) (Qd ?_)
  all_goals first|rfl|(simp;done)
section
variable {P : Program} {G : Nat -> DV} {B : Nat} {f : Operand -> DV} {σ : List ABlk} {K : DV -> List ABlk -> Prop} {dst : Option Tmp} {type : TypeId} {pos : String} {after : Array Edge} {gd : Option (Nat × Bool)}
theorem zeros_u8 (n : Nat) : WE [.int .u8 0] n = Wf (List.replicate n (0 : UInt8)) := by
 induction n with
 | zero => rfl
 | succ n ih => rw [WE, ih, List.replicate_succ, Wf, Wf, List.flatMap_cons];rfl
theorem encs_u8s (l : List UInt8) : Wf l = u8s l := by
 induction l with
 | nil => rfl
 | cons b r ih => rw [show Wf (b :: r) = Enc.enc b ++ Wf r by unfold Wf;rw [List.flatMap_cons], ih];rfl
theorem s_make_u8 {t e : Nat} {g1 g2 : Bool} {z1 : Nat} {x y : Operand} {n : Nat} {k1 k2 : IntKind} {BL : List UInt8} [ht : TyI P t (.slice e) g1 z1] [he : TyI P e (.int .u8) g2 1] [hb : TyB P e 1] [hz : TyZ P e [.int .u8 0]] {c : Int} (hBL : BL = List.replicate n 0 /\ n <= 100000) (hx : f x = .sc (.int k1 c)) (hy : f y = .sc (.int k2 c)) (hc : c = (n : Int))
  (k : ∀ g, B < g -> K (.ref σ.length g 0 BL.length 1) (σ ++ [.row g (Wf BL)])) : OpSem P G B ⟨dst, .makeSlice t x y, type, pos, after, gd⟩ f σ K :=
 by
 subst hc
 exact s_make (zs := [.int .u8 0]) rfl hx hy (by omega) (by omega) (by omega) (by omega) fun g hg => by
  have h := k g hg
  rw [hBL.1, List.length_replicate] at h
  rw [Int.toNat_natCast, zeros_u8]
  exact h
theorem s_conv_enc {s d e : TypeId} {g1 g2 g3 : Bool} {z1 z2 z3 : Nat} {x : Operand} {l : List UInt8} [hs : TyI P s (.slice e) g1 z1] [he : TyI P e (.int .u8) g2 z2] [hd : TyI P d .string g3 z3] (hx : f x = Qo l) (h0 : 0 < l.length) (k : K (Q2 l) σ) :
  OpSem P G B ⟨dst, .convert s d x, type, pos, after, gd⟩ f σ K := s_conv_bsl (hx.trans (by unfold Qo;rw [encs_u8s];rfl)) h0 k
end
theorem wkXB {X W0 W1 W2 : Prop} (w0 : W0 := by exact True.intro) (w1 : W1 := by exact True.intro) (w2 : W2 := by exact True.intro) (s : (Unit -> W0) -> (Unit -> W1) -> (Unit -> W2) -> Unit -> X := by (intro w0 w1 w2 _;(repeat' first|(refine Qz ?_;(first|refine Ws rfl ?_|refine WM rfl ?_|(refine QN ?_;(first|refine Z4 rfl rfl ?_|refine QA rfl ?_))|(refine qp ?_;(first|refine s_idx_as (l := TX) rfl rfl hil hen ?_|refine s_idx_ref1 rfl rfl rfl (by omega) ?_))|(refine Qw ?_;(first|refine s_neq_asK rfl rfl hne ?_|refine Zw rfl rfl ?_|refine s_gtr rfl rfl ?_|refine WX rfl rfl ?_|refine ZU rfl rfl (by omega) ?_|refine s_ad rfl rfl ?_))|(refine QK ?_;(first|refine qk rfl rfl hsm (WS (Enc.clo _)) ?_|refine qk rfl rfl hpa (W4 (Ww (WS (Enc.clo _)) (Ww Wj Zb))) ?_|refine qk rfl rfl hpb (W4 (Ww (WS (Enc.clo _)) (Ww Wj Zb))) ?_|refine qk rfl rfl hq1 (W4 (Ww (WS (Enc.clo _)) (Ww Wj Zb))) ?_|refine qk rfl rfl hq2 (W4 (Ww (WS (Enc.clo _)) (Ww Wj Zb))) ?_|refine WA rfl rfl (hpr) ?_|refine WA rfl rfl (hc1) ?_|refine WA rfl rfl (hc2) ?_|refine WA rfl rfl (hs1) ?_|refine WA rfl rfl (hs2) ?_|refine WA rfl rfl (hsame) ?_|refine WA rfl rfl (hlv) ?_|refine Qv rfl ?_|refine s_len_ref rfl rfl ?_|refine Zx rfl ?_))|(refine Q1 ?_;(first|refine ZO rfl rfl ?_|refine W9 rfl rfl ?_))|(refine Wr ?_;(first|refine qh rfl rfl rfl rfl ?_|refine s_store_e1 (z := (32 : UInt8)) rfl rfl rfl rfl rfl (by assumption) rfl ?_))|refine W5 (cs := Wf ([s, t, u, r1, pA ++ r2, pB ++ r2 ++ [32, 125]].map Str.mk)) rfl rfl (by decide) rfl ?_|refine s_make_u8 hBL rfl rfl (by omega) (fun _ _ => ?_)|(refine g_convert ?_;(first|refine s_conv_enc (l := LL) rfl hL0 ?_|refine s_conv_enc (l := LL.drop 1) rfl hL1 ?_))|refine qK rfl ?_|refine Zm rfl rfl rfl ?_|(refine g_slice ?_;(first|refine s_sh rfl rfl ?_|refine s_slice_l rfl rfl (by omega) (by omega) ?_))|refine QU (fun _ _ => ?_)))|(refine We ?_;(first|refine Wb ?_|refine Zg rfl ?_|refine WI ?_|refine qd rfl rfl rfl rfl ?_))|(refine Wc ?_;(first|refine Q7 ?_|refine Qm ?_|refine QM ?_|refine QV ?_|refine QR rfl ?_|refine Qu rfl (by omega) ?_|refine Qn rfl (by omega) ?_|refine W8 rfl ?_|refine Wi ?_)));(all_goals (repeat (rename_i x;(fail_if_success have : Unit := x);revert x)));(first|done|exact w0 ());(first|done|exact w1 ());(first|done|exact w2 ()))) (u : (W0 \/ True) /\ (W1 \/ True) /\ (W2 \/ True) := by (refine ⟨?_, ?_, ?_⟩ <;> first|exact Or.inl True.intro|exact Or.inr True.intro)) : X := s (fun _ => w0) (fun _ => w1) (fun _ => w2) ()
theorem short_c (s : List UInt8) (n : Nat) (hn : n <= 1000) (hs : s.length <= 9223372036854775807) : Go.Av.Pure Tryz.prog G 22 [Q2 s, .i (n : Nat)] (Q2 (s.take n)) := fun B => by
 by_cases h : n < s.length
 ·refine Qa Tryz.func22 rfl Tryz.ntmps22 rfl (t := [(0, Q2 s), (1, .i (n : Nat))]) rfl fun E hE => ?_
  (refine wkXB ?_;intros)
  all_goals exact e_1 (Tryz.results22) (Qb rfl) (Qd rfl)
 ·have ht : s.take n = s := List.take_of_length_le (by omega)
  rw [ht]
  refine Qa Tryz.func22 rfl Tryz.ntmps22 rfl (t := [(0, Q2 s), (1, .i (n : Nat))]) rfl fun E hE => ?_
  (refine wkXB ?_;intros)
  all_goals exact e_1 (Tryz.results22) (Qb rfl) (Qd rfl)
def pA : List UInt8 := [112, 114, 111, 103, 114, 97, 109, 32, 49, 32, 102, 117, 110, 32, 48, 32, 40, 41, 32, 123, 32]
def pB : List UInt8 := [112, 114, 111, 103, 114, 97, 109, 32, 49, 32, 102, 117, 110, 32, 49, 32, 40, 105, 110, 116, 41, 32, 123, 32, 111, 117, 116, 32]
theorem parses_c (hG0 : G 0 = shapesT) (hG1 : G 1 = spaceT) (hG : G 6 = pow10T) (l : List Int) (at_ how by_ more : Int) (raw : List UInt8) (hl : OkI l) (h1 : i64 at_) (h2 : i64 how) (h3 : i64 by_) (h4 : i64 more) (h5 : raw.length <= 9223372036854775807) :
  Go.Av.Pure Tryz.prog G 4 [Qo l, .i at_, .i how, .i by_, .i more, Q2 raw] (.b true) := fun B => by
 obtain ⟨v, hv, _, hsm⟩ := sample_c (G := G) l hl
 obtain ⟨hok, hsz, hpk⟩ := valid_ok hv
 have hpr := r_print_c (G := G) v hok (by omega)
 have hpl := print_len2 v hok hsz
 obtain ⟨t, htl, hc1⟩ := changed_c (G := G) (Zz v) (by omega) at_ how by_ h1 h2 h3
 obtain ⟨u, hul, hc2⟩ := changed_c (G := G) t (by omega) by_ more at_ h3 h4 h1
 have hs1 := short_c (G := G) raw 100 (by omega) h5
 have hs2 := short_c (G := G) raw 60 (by omega) h5
 have hr1 : (raw.take 100).length <= 100 := by rw [List.length_take];omega
 have hr2 : (raw.take 60).length <= 60 := by rw [List.length_take];omega
 have hlv := lives_c (G := G) hG0 hG1 hG
 have hboth : ∀ e : List UInt8, e.length <= 100000000 -> Go.Av.Pure Tryz.prog G 23 [Q2 e] (.tup [.agg (Enc.enc (ZV zNd e).1), .i (ZV zNd e).2]) /\ Go.Av.Pure Tryz.prog G 24 [Q2 e] (.tup [.agg (Enc.enc (ZV zNd e).1), .i (ZV zNd e).2]) /\ Go.Av.Pure Tryz.prog G 25 [.agg (Enc.enc (ZV zNd e).1), .agg (Enc.enc (ZV zNd e).1)] (.b true) := fun e he => by
  have h := parse_c (G := G) hG0 hG1 e (by omega)
  rw [parse_z] at h
  exact ⟨h, r06Parse_c (G := G) (fun t ht => r05Valid_c t ht) e (by omega), r05Same_c _ (by have := parse_sz zNd e;omega)⟩
 clear hpk hok hsz hv
 generalize Zz v = s at *
 generalize raw.take 100 = r1 at *
 generalize raw.take 60 = r2 at *
 have hpa := trivial
 have hpb := trivial
 have hq1 := trivial
 have hq2 := trivial
 have hsame := trivial
 have hil := trivial
 have hen := trivial
 have hne := trivial
 have hL0 := trivial
 have hL1 := trivial
 have hBL := trivial
 refine Qa Tryz.func4 rfl Tryz.ntmps4 rfl (t := [(0, Qo l), (1, .i at_), (2, .i how), (3, .i by_), (4, .i more), (5, Q2 raw)]) rfl fun E0 hE0 => ?_
 (refine wkXB ?_;intros)
 have hall : ∀ x ∈ [s, t, u, r1, pA ++ r2, pB ++ r2 ++ [32, 125]].map Str.mk, x.l.length <= 100000000 := by
  have ha : pA.length = 21 := rfl
  have hb : pB.length = 28 := rfl
  intro x hx
  simp only [List.map_cons, List.map_nil, List.mem_cons, List.not_mem_nil, or_false] at hx
  rcases hx with rfl|rfl|rfl|rfl|rfl|rfl
  ·show s.length <= _;omega
  ·show t.length <= _;omega
  ·show u.length <= _;omega
  ·show r1.length <= _;omega
  ·show (pA ++ r2).length <= _;rw [List.length_append];omega
  ·show (pB ++ r2 ++ [32, 125]).length <= _;simp only [List.length_append, List.length_cons, List.length_nil];omega
 have hTl : ([s, t, u, r1, pA ++ r2, pB ++ r2 ++ [32, 125]].map Str.mk).length = 6 := rfl
 generalize [s, t, u, r1, pA ++ r2, pB ++ r2 ++ [32, 125]].map Str.mk = TX at *
 clear hpr hsm hc1 hc2 hs1 hs2 hr1 hr2 htl hul hpl h1 h2 h3 h4 h5 hl
 have hpr := trivial
 have hsm := trivial
 have hc1 := trivial
 have hc2 := trivial
 have hs1 := trivial
 have hs2 := trivial
 refine WY (fun i : Nat => ⟨[(15, Qo TX), (16, .i i)], []⟩) (fun i => i <= TX.length) (fun i => TX.length - i) 0 ?_ (by omega) ?_
 ·exact zal rfl
 intro i hi
 by_cases hil : i < TX.length
 ·have hel := hall _ (List.getElem_mem hil)
  have hen : Enc.enc TX[i] = [Q2 TX[i].l] := rfl
  obtain ⟨hpa, hpb, hsame⟩ := hboth TX[i].l hel
  clear hall hboth
  generalize ZV zNd TX[i].l = w at *
  obtain ⟨w, n⟩ := w
  dsimp only at *
  have hne : decide (n ≠ n) = false := by simp
  generalize TX[i].l = e at *
  (refine wkXB ?_;intros)
  refine ⟨i + 1, by omega, by omega, ?_⟩
  exact zal rfl
 ·clear hall
  obtain ⟨n0, hn0⟩ : ∃ n0 : Nat, n0 = 8193 := ⟨_, rfl⟩
  obtain ⟨BL, hBL⟩ : ∃ BL : List UInt8, BL = List.replicate n0 0 /\ n0 <= 100000 := ⟨_, rfl, by omega⟩
  obtain ⟨bl, hbl⟩ : ∃ bl : Nat -> List UInt8, bl = fun i => List.replicate i 32 ++ List.replicate (n0 - i) 0 := ⟨_, rfl⟩
  have hb0 : BL = bl 0 := by rw [hbl, hBL.1];rfl
  have hbn : ∀ i, i <= n0 -> (bl i).length = n0 := fun i hi => by rw [hbl];show (List.replicate i 32 ++ List.replicate (n0 - i) 0 : List UInt8).length = n0;rw [List.length_append, List.length_replicate, List.length_replicate];omega
  have hbs : ∀ i, i < n0 -> (bl i).set i 32 = bl (i + 1) := fun i hi => by
   rw [hbl]
   dsimp only
   rw [List.set_append_right _ _ (by simp), List.length_replicate, Nat.sub_self, show n0 - i = (n0 - (i + 1)) + 1 by omega, List.replicate_succ, List.set_cons_zero, List.replicate_succ', List.append_assoc]
   rfl
  have hbe : bl n0 = List.replicate n0 32 := by rw [hbl];show List.replicate n0 32 ++ List.replicate (n0 - n0) 0 = _;rw [Nat.sub_self, List.replicate_zero, List.append_nil]
  clear hbl
  have hBn : BL.length = n0 := by rw [hb0];exact hbn 0 (by omega)
  have hP1 := (hboth (List.replicate n0 32) (by rw [List.length_replicate];omega)).1
  have hP2 := (hboth (List.replicate (n0 - 1) 32) (by rw [List.length_replicate];omega)).1
  rw [parse_long _ _ (by rw [List.length_replicate];omega)] at hP1
  rw [parse_blank _ _ (by omega), show ((n0 - 1 : Nat) : Int) = 8192 by omega] at hP2
  have hLd : (List.replicate n0 (32 : UInt8)).drop 1 = List.replicate (n0 - 1) 32 := by rw [List.drop_replicate]
  rw [<- hLd] at hP2
  rw [<- hbe] at hP1 hP2
  clear hboth hbe hLd
  (refine wkXB ?_;intros)
  rename_i gl hgl
  clear hBL
  have hBL := trivial
  rw [hBn]
  refine WY (fun i : Nat => ⟨[(21, .ref 0 gl 0 n0 1), (22, .i i)], [.row gl (Wf (bl i))]⟩) (fun i => i <= n0) (fun i => n0 - i) 0 ?_ (by omega) ?_
  ·rw [hb0]
   exact zal rfl
  intro i hi
  have hbi := hbn i hi
  by_cases hi2 : i < n0
  ·have hbx : i < (bl i).length := by omega
   have hs := hbs i hi2
   clear hbs hbn
   (refine wkXB ?_;intros)
   refine ⟨i + 1, by omega, by omega, ?_⟩
   rw [hs]
   exact zal rfl
  ·obtain rfl : i = n0 := by omega
   generalize hLL : bl i = LL at *
   have hL0 : 0 < LL.length := by omega
   have hL1 : 0 < (LL.drop 1).length := by rw [List.length_drop];omega
   clear hbs hbn
   have hq1 := hP1
   have hq2 := hP2
   refine r_pub (es := Enc.es UInt8) 21 rfl rfl (by rw [Qx, hbi]) rfl ?_
   (refine wkXB ?_;intros)
   all_goals exact e_1 (Tryz.results4) (Qb rfl) (Qd rfl)
theorem parses_b (hG0 : G 0 = shapesT) (hG1 : G 1 = spaceT) (hG : G 6 = pow10T) (l : List Int) (at_ how by_ more : Int) (raw : ByteArray) (hl : OkI l) (h1 : i64 at_) (h2 : i64 how) (h3 : i64 by_) (h4 : i64 more) (h5 : raw.size <= 9223372036854775807) :
  Go.Av.Pure Tryz.prog G 4 [Qo l, .i at_, .i how, .i by_, .i more, .sc (.string raw)] (.b true) := by
 obtain ⟨⟨a⟩⟩ := raw
 exact parses_c hG0 hG1 hG l at_ how by_ more a hl h1 h2 h3 h4 h5
end Go.Proofs
end
