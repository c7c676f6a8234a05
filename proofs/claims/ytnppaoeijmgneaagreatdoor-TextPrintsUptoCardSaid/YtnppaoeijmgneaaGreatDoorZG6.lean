/-
  Part 6 of the proof: GW SR BK PA GT PC AvD4 SP U1 U2.
-/
import Derived.Test.YtnppaoeijmgneaaGreatDoorZG1
import Derived.Test.YtnppaoeijmgneaaGreatDoorZG2
import Derived.Test.YtnppaoeijmgneaaGreatDoorZG3
import Derived.Test.YtnppaoeijmgneaaGreatDoorZG4
import Derived.Test.YtnppaoeijmgneaaGreatDoorZG5
set_option linter.unusedSimpArgs false
set_option linter.unusedVariables false
set_option maxRecDepth 10000
set_option maxHeartbeats 4000000
section
namespace Go.Proofs
open Go.Av
variable {G : Nat -> DV}
attribute [local irreducible] OpSem W7 Zk ZC ACalls qg AClose RV
open Go.Bl
theorem mkLeafS (l : List Int) (hl : OkI l) (E2 E1 : GenF) (hE2x : ∀ a L, preE a L -> QE 4 3 1 4 (E2 a L).1 a L (E2 a L).2.1 (E2 a L).2.2 /\ CE Tryz.prog G 128 (fun p g => [.ptr p g 0, .i 2]) (Za l a L) (.agg (Enc.enc (E2 a L).1)) (Za l (E2 a L).2.1 (E2 a L).2.2))
  (hE1x : ∀ a L, preE a L -> QE 4 2 1 2 (E1 a L).1 a L (E1 a L).2.1 (E1 a L).2.2 /\ CE Tryz.prog G 128 (fun p g => [.ptr p g 0, .i 1]) (Za l a L) (.agg (Enc.enc (E1 a L).1)) (Za l (E1 a L).2.1 (E1 a L).2.2)) (dd a L x : Int) (h : preS a L)
  (hx : (dd <= 0 /\ atI l a 14 % 8 = x) \/ (0 < dd /\ L - 1 <= 0 /\ atI l a 14 % 8 = x) \/ (0 < dd /\ 0 < L - 1 /\ atI l a 14 = x)) (hx2 : 0 <= x /\ x <= 8) :
  ∃ t : Nd × Int × Int, QE 5 4 5 7 t.1 a L t.2.1 t.2.2 /\ CE Tryz.prog G 80 (fun p g => [.ptr p g 0, .i dd]) (Za l a L) (.agg (Enc.enc t.1)) (Za l t.2.1 t.2.2) := by
 obtain ⟨p1, p2, p3, p4⟩ := h
 have bx := Qk l a (most := 14) (by decide)
 have hsm2 := mkSome (G := G) l hl 2 (by decide) E2 hE2x
 have hsm1 := mkSome (G := G) l hl 1 (by decide) E1 hE1x
 have hrq2 := run_q (E := E2) (w := 4) (dep := 3) (c := 4) (by decide) fun a L h => (hE2x a L h).1
 have hrq1 := run_q (E := E1) (w := 4) (dep := 2) (c := 2) (by decide) fun a L h => (hE1x a L h).1
 have hxx : x = 0 \/ x = 1 \/ x = 2 \/ x = 3 \/ x = 4 \/ x = 5 \/ x = 6 \/ x = 7 \/ x = 8 := by omega
 rcases hx with hx|hx|hx
 ·rcases hxx with rfl|rfl|rfl|rfl|rfl|rfl|rfl|rfl|rfl
  ·have hS1 := hsm2 1 (by omega) (a + 1 + 1) (L - 1) ⟨by omega, by omega, by omega, by omega⟩ (by omega)
   have hq := hrq2 1 (a + 1 + 1) (L - 1) (by omega) ⟨by omega, by omega, by omega, by omega⟩ (by omega)
   have hln := Wr E2 1 (a + 1 + 1) (L - 1)
   obtain ⟨f1, d1, s1, w1, m1, u1⟩ := hq
   generalize Zw E2 1 (a + 1 + 1) (L - 1) = T at *
   obtain ⟨ks, b1, M1⟩ := T
   dsimp only at *
   have hdl := Q8 d1
   rw [show ((1 : Nat) : Int) = 1 from rfl, show ((2 : Nat) : Int) = 2 from rfl] at hS1
   have n6 := Qk l (a + 1) (most := 6) (by decide)
   clear hE2x hE1x hsm1 hsm2 hrq1 hrq2
   refine ⟨(.mk 14 (atI l (a + 1) 6) (0) ks, b1, M1), ?_, fun g B hg => ?_⟩
   ·refine ⟨QV ⟨5, 0, 5, 0, [4], 0, 0, 0⟩ rfl (by decide) (by decide) (by dsimp only;omega) (by dsimp only;omega) (by first|(simp;done)|(simp;omega)) (qN 1 hln (by decide) f1), ?_, ?_, ?_, ?_, ?_⟩
    ·rw [Qy];(try simp only [QD]);omega
    ·rw [Qe];(try simp only [Qo]);omega
    ·dsimp only;omega
    ·dsimp only;omega
    ·dsimp only;omega
   ·refine Qa Tryz.func80 rfl Tryz.ntmps80 rfl (t := [(0, .ptr 0 g 0), (1, .i dd)]) rfl fun E0 hE0 => ?_
    (repeat' first|(refine QH ?_;(first|refine Wu rfl ?_|refine WJ rfl ?_|refine Qc rfl rfl rfl ?_|(refine Qr ?_;(first|refine WE rfl rfl (by omega) ?_|refine WI rfl rfl ?_|refine Wg rfl rfl ?_|refine ZV rfl rfl (by first|omega|exact nn_shr (by omega)) (by omega) ?_))|(refine QC ?_;(first|refine Q9 0 (QR l hl _ _ _ (by omega) (by omega)) rfl rfl rfl rfl ?_|refine Q9 0 (hS1) rfl rfl rfl rfl ?_))|refine qb rfl rfl ?_|(refine QI ?_;(first|refine Zg rfl rfl rfl rfl ?_|refine QA rfl rfl rfl rfl (by rfl) (by rfl) (by rfl) ?_))|refine Qd rfl rfl ?_|refine Qq rfl rfl ?_|refine Qh rfl rfl ?_|refine Qw (fun _ _ => ?_)))|(refine QZ ?_;(first|refine QX ?_|refine WT rfl ?_|refine Wf ?_|refine qA rfl rfl rfl rfl ?_|refine WF rfl rfl (by omega) ?_))|(refine QY ?_;(first|refine QW ?_|refine Ql ?_|refine Qu ?_|refine QQ ?_|refine QO rfl ?_|refine Qm rfl (by omega) ?_|refine Q2 ?_)))
    refine e_1 (Tryz.results80) (Qf (size := 4) rfl rfl rfl rfl) ?_
    rw [Qp]
    exact ZM (by first|rfl|(simp [Qt, Q1];try rfl)) rfl
  ·have hS1 := hsm2 1 (by omega) (a + 1) (L - 1) ⟨by omega, by omega, by omega, by omega⟩ (by omega)
   have hq := hrq2 1 (a + 1) (L - 1) (by omega) ⟨by omega, by omega, by omega, by omega⟩ (by omega)
   have hln := Wr E2 1 (a + 1) (L - 1)
   obtain ⟨f1, d1, s1, w1, m1, u1⟩ := hq
   generalize Zw E2 1 (a + 1) (L - 1) = T at *
   obtain ⟨ks, b1, M1⟩ := T
   dsimp only at *
   have hdl := Q8 d1
   rw [show ((1 : Nat) : Int) = 1 from rfl, show ((2 : Nat) : Int) = 2 from rfl] at hS1
   clear hE2x hE1x hsm1 hsm2 hrq1 hrq2
   refine ⟨(.mk 19 (0) (0) ks, b1, M1), ?_, fun g B hg => ?_⟩
   ·refine ⟨QV ⟨5, 0, 0, 0, [4], 0, 0, 0⟩ rfl (by decide) (by decide) (by dsimp only;omega) (by dsimp only;omega) (by first|(simp;done)|(simp;omega)) (qN 1 hln (by decide) f1), ?_, ?_, ?_, ?_, ?_⟩
    ·rw [Qy];(try simp only [QD]);omega
    ·rw [Qe];(try simp only [Qo]);omega
    ·dsimp only;omega
    ·dsimp only;omega
    ·dsimp only;omega
   ·refine Qa Tryz.func80 rfl Tryz.ntmps80 rfl (t := [(0, .ptr 0 g 0), (1, .i dd)]) rfl fun E0 hE0 => ?_
    (repeat' first|(refine QH ?_;(first|refine Wu rfl ?_|refine WJ rfl ?_|refine Qc rfl rfl rfl ?_|(refine Qr ?_;(first|refine WE rfl rfl (by omega) ?_|refine WI rfl rfl ?_|refine Wg rfl rfl ?_|refine ZV rfl rfl (by first|omega|exact nn_shr (by omega)) (by omega) ?_))|(refine QC ?_;(first|refine Q9 0 (QR l hl _ _ _ (by omega) (by omega)) rfl rfl rfl rfl ?_|refine Q9 0 (hS1) rfl rfl rfl rfl ?_))|refine qb rfl rfl ?_|(refine QI ?_;(first|refine Zg rfl rfl rfl rfl ?_|refine QA rfl rfl rfl rfl (by rfl) (by rfl) (by rfl) ?_))|refine Qd rfl rfl ?_|refine Qq rfl rfl ?_|refine Qh rfl rfl ?_|refine Qw (fun _ _ => ?_)))|(refine QZ ?_;(first|refine QX ?_|refine WT rfl ?_|refine Wf ?_|refine qA rfl rfl rfl rfl ?_|refine WF rfl rfl (by omega) ?_))|(refine QY ?_;(first|refine QW ?_|refine Ql ?_|refine Qu ?_|refine QO rfl ?_|refine Qn rfl (by omega) ?_|refine Q2 ?_)))
    refine e_1 (Tryz.results80) (Qf (size := 4) rfl rfl rfl rfl) ?_
    rw [Qp]
    exact ZM (by first|rfl|(simp [Qt, Q1];try rfl)) rfl
  ·have hS1 := hsm1 1 (by omega) (a + 1) (L - 1) ⟨by omega, by omega, by omega, by omega⟩ (by omega)
   have hq := hrq1 1 (a + 1) (L - 1) (by omega) ⟨by omega, by omega, by omega, by omega⟩ (by omega)
   have hln := Wr E1 1 (a + 1) (L - 1)
   obtain ⟨f1, d1, s1, w1, m1, u1⟩ := hq
   generalize Zw E1 1 (a + 1) (L - 1) = T at *
   obtain ⟨ks, b1, M1⟩ := T
   dsimp only at *
   have hdl := Q8 d1
   rw [show ((1 : Nat) : Int) = 1 from rfl] at hS1
   clear hE2x hE1x hsm1 hsm2 hrq1 hrq2
   refine ⟨(.mk 20 (0) (0) ks, b1, M1), ?_, fun g B hg => ?_⟩
   ·refine ⟨QV ⟨5, 0, 0, 0, [4], 0, 0, 0⟩ rfl (by decide) (by decide) (by dsimp only;omega) (by dsimp only;omega) (by first|(simp;done)|(simp;omega)) (qN 1 hln (by decide) f1), ?_, ?_, ?_, ?_, ?_⟩
    ·rw [Qy];(try simp only [QD]);omega
    ·rw [Qe];(try simp only [Qo]);omega
    ·dsimp only;omega
    ·dsimp only;omega
    ·dsimp only;omega
   ·refine Qa Tryz.func80 rfl Tryz.ntmps80 rfl (t := [(0, .ptr 0 g 0), (1, .i dd)]) rfl fun E0 hE0 => ?_
    (repeat' first|(refine QH ?_;(first|refine Wu rfl ?_|refine WJ rfl ?_|refine Qc rfl rfl rfl ?_|(refine Qr ?_;(first|refine WE rfl rfl (by omega) ?_|refine WI rfl rfl ?_|refine Wg rfl rfl ?_|refine ZV rfl rfl (by first|omega|exact nn_shr (by omega)) (by omega) ?_))|(refine QC ?_;(first|refine Q9 0 (QR l hl _ _ _ (by omega) (by omega)) rfl rfl rfl rfl ?_|refine Q9 0 (hS1) rfl rfl rfl rfl ?_))|refine qb rfl rfl ?_|(refine QI ?_;(first|refine Zg rfl rfl rfl rfl ?_|refine QA rfl rfl rfl rfl (by rfl) (by rfl) (by rfl) ?_))|refine Qd rfl rfl ?_|refine Qq rfl rfl ?_|refine Qh rfl rfl ?_|refine Qw (fun _ _ => ?_)))|(refine QZ ?_;(first|refine QX ?_|refine WT rfl ?_|refine Wf ?_|refine qA rfl rfl rfl rfl ?_|refine WF rfl rfl (by omega) ?_))|(refine QY ?_;(first|refine QW ?_|refine Ql ?_|refine Qu ?_|refine QO rfl ?_|refine Qn rfl (by omega) ?_|refine Qm rfl (by omega) ?_|refine Q2 ?_)))
    refine e_1 (Tryz.results80) (Qf (size := 4) rfl rfl rfl rfl) ?_
    rw [Qp]
    exact ZM (by first|rfl|(simp [Qt, Q1];try rfl)) rfl
  ·have hS1 := hsm2 1 (by omega) (a + 1 + 1) (L - 1) ⟨by omega, by omega, by omega, by omega⟩ (by omega)
   have hq := hrq2 1 (a + 1 + 1) (L - 1) (by omega) ⟨by omega, by omega, by omega, by omega⟩ (by omega)
   have hln := Wr E2 1 (a + 1 + 1) (L - 1)
   obtain ⟨f1, d1, s1, w1, m1, u1⟩ := hq
   generalize Zw E2 1 (a + 1 + 1) (L - 1) = T at *
   obtain ⟨ks, b1, M1⟩ := T
   dsimp only at *
   have hdl := Q8 d1
   rw [show ((1 : Nat) : Int) = 1 from rfl, show ((2 : Nat) : Int) = 2 from rfl] at hS1
   have n3 := Qk l (a + 1) (most := 3) (by decide)
   clear hE2x hE1x hsm1 hsm2 hrq1 hrq2
   refine ⟨(.mk 22 (atI l (a + 1) 3) (0) ks, b1, M1), ?_, fun g B hg => ?_⟩
   ·refine ⟨QV ⟨5, 0, 2, 0, [4], 0, 0, 0⟩ rfl (by decide) (by decide) (by dsimp only;omega) (by dsimp only;omega) (by first|(simp;done)|(simp;omega)) (qN 1 hln (by decide) f1), ?_, ?_, ?_, ?_, ?_⟩
    ·rw [Qy];(try simp only [QD]);omega
    ·rw [Qe];(try simp only [Qo]);omega
    ·dsimp only;omega
    ·dsimp only;omega
    ·dsimp only;omega
   ·refine Qa Tryz.func80 rfl Tryz.ntmps80 rfl (t := [(0, .ptr 0 g 0), (1, .i dd)]) rfl fun E0 hE0 => ?_
    (repeat' first|(refine QH ?_;(first|refine Wu rfl ?_|refine WJ rfl ?_|refine Qc rfl rfl rfl ?_|(refine Qr ?_;(first|refine WE rfl rfl (by omega) ?_|refine WI rfl rfl ?_|refine Wg rfl rfl ?_|refine ZV rfl rfl (by first|omega|exact nn_shr (by omega)) (by omega) ?_))|(refine QC ?_;(first|refine Q9 0 (QR l hl _ _ _ (by omega) (by omega)) rfl rfl rfl rfl ?_|refine Q9 0 (hS1) rfl rfl rfl rfl ?_))|refine qb rfl rfl ?_|(refine QI ?_;(first|refine Zg rfl rfl rfl rfl ?_|refine QA rfl rfl rfl rfl (by rfl) (by rfl) (by rfl) ?_))|refine Qd rfl rfl ?_|refine Qq rfl rfl ?_|refine Qh rfl rfl ?_|refine Qw (fun _ _ => ?_)))|(refine QZ ?_;(first|refine QX ?_|refine WT rfl ?_|refine Wf ?_|refine qA rfl rfl rfl rfl ?_|refine WF rfl rfl (by omega) ?_))|(refine QY ?_;(first|refine QW ?_|refine Ql ?_|refine Qu ?_|refine QO rfl ?_|refine Qn rfl (by omega) ?_|refine Qm rfl (by omega) ?_|refine Q2 ?_)))
    refine e_1 (Tryz.results80) (Qf (size := 4) rfl rfl rfl rfl) ?_
    rw [Qp]
    exact ZM (by first|rfl|(simp [Qt, Q1];try rfl)) rfl
  ·have hS1 := hsm2 1 (by omega) (a + 1) (L - 1) ⟨by omega, by omega, by omega, by omega⟩ (by omega)
   have hq := hrq2 1 (a + 1) (L - 1) (by omega) ⟨by omega, by omega, by omega, by omega⟩ (by omega)
   have hln := Wr E2 1 (a + 1) (L - 1)
   obtain ⟨f1, d1, s1, w1, m1, u1⟩ := hq
   generalize Zw E2 1 (a + 1) (L - 1) = T at *
   obtain ⟨ks, b1, M1⟩ := T
   dsimp only at *
   have hdl := Q8 d1
   rw [show ((1 : Nat) : Int) = 1 from rfl, show ((2 : Nat) : Int) = 2 from rfl] at hS1
   clear hE2x hE1x hsm1 hsm2 hrq1 hrq2
   refine ⟨(.mk 24 (0) (0) ks, b1, M1), ?_, fun g B hg => ?_⟩
   ·refine ⟨QV ⟨5, 0, 0, 0, [4], 0, 0, 0⟩ rfl (by decide) (by decide) (by dsimp only;omega) (by dsimp only;omega) (by first|(simp;done)|(simp;omega)) (qN 1 hln (by decide) f1), ?_, ?_, ?_, ?_, ?_⟩
    ·rw [Qy];(try simp only [QD]);omega
    ·rw [Qe];(try simp only [Qo]);omega
    ·dsimp only;omega
    ·dsimp only;omega
    ·dsimp only;omega
   ·refine Qa Tryz.func80 rfl Tryz.ntmps80 rfl (t := [(0, .ptr 0 g 0), (1, .i dd)]) rfl fun E0 hE0 => ?_
    (repeat' first|(refine QH ?_;(first|refine Wu rfl ?_|refine WJ rfl ?_|refine Qc rfl rfl rfl ?_|(refine Qr ?_;(first|refine WE rfl rfl (by omega) ?_|refine WI rfl rfl ?_|refine Wg rfl rfl ?_|refine ZV rfl rfl (by first|omega|exact nn_shr (by omega)) (by omega) ?_))|(refine QC ?_;(first|refine Q9 0 (QR l hl _ _ _ (by omega) (by omega)) rfl rfl rfl rfl ?_|refine Q9 0 (hS1) rfl rfl rfl rfl ?_))|refine qb rfl rfl ?_|(refine QI ?_;(first|refine Zg rfl rfl rfl rfl ?_|refine QA rfl rfl rfl rfl (by rfl) (by rfl) (by rfl) ?_))|refine Qd rfl rfl ?_|refine Qq rfl rfl ?_|refine Qh rfl rfl ?_|refine Qw (fun _ _ => ?_)))|(refine QZ ?_;(first|refine QX ?_|refine WT rfl ?_|refine Wf ?_|refine qA rfl rfl rfl rfl ?_|refine WF rfl rfl (by omega) ?_))|(refine QY ?_;(first|refine QW ?_|refine Ql ?_|refine Qu ?_|refine QO rfl ?_|refine Qn rfl (by omega) ?_|refine Qm rfl (by omega) ?_|refine Q2 ?_)))
    refine e_1 (Tryz.results80) (Qf (size := 4) rfl rfl rfl rfl) ?_
    rw [Qp]
    exact ZM (by first|rfl|(simp [Qt, Q1];try rfl)) rfl
  ·have hS1 := hsm1 2 (by omega) (a + 1 + 1) (L - 1) ⟨by omega, by omega, by omega, by omega⟩ (by omega)
   have hq := hrq1 2 (a + 1 + 1) (L - 1) (by omega) ⟨by omega, by omega, by omega, by omega⟩ (by omega)
   have hln := Wr E1 2 (a + 1 + 1) (L - 1)
   obtain ⟨f1, d1, s1, w1, m1, u1⟩ := hq
   generalize Zw E1 2 (a + 1 + 1) (L - 1) = T at *
   obtain ⟨ks, b1, M1⟩ := T
   dsimp only at *
   have hdl := Q8 d1
   rw [show ((2 : Nat) : Int) = 2 from rfl, show ((1 : Nat) : Int) = 1 from rfl] at hS1
   have n6 := Qk l (a + 1) (most := 6) (by decide)
   clear hE2x hE1x hsm1 hsm2 hrq1 hrq2
   refine ⟨(.mk 15 (atI l (a + 1) 6) (0) ks, b1, M1), ?_, fun g B hg => ?_⟩
   ·refine ⟨QV ⟨5, 0, 5, 0, [4, 4], 0, 0, 0⟩ rfl (by decide) (by decide) (by dsimp only;omega) (by dsimp only;omega) (by first|(simp;done)|(simp;omega)) (qN 2 hln (by decide) f1), ?_, ?_, ?_, ?_, ?_⟩
    ·rw [Qy];(try simp only [QD]);omega
    ·rw [Qe];(try simp only [Qo]);omega
    ·dsimp only;omega
    ·dsimp only;omega
    ·dsimp only;omega
   ·refine Qa Tryz.func80 rfl Tryz.ntmps80 rfl (t := [(0, .ptr 0 g 0), (1, .i dd)]) rfl fun E0 hE0 => ?_
    (repeat' first|(refine QH ?_;(first|refine Wu rfl ?_|refine WJ rfl ?_|refine Qc rfl rfl rfl ?_|(refine Qr ?_;(first|refine WE rfl rfl (by omega) ?_|refine WI rfl rfl ?_|refine Wg rfl rfl ?_|refine ZV rfl rfl (by first|omega|exact nn_shr (by omega)) (by omega) ?_))|(refine QC ?_;(first|refine Q9 0 (QR l hl _ _ _ (by omega) (by omega)) rfl rfl rfl rfl ?_|refine Q9 0 (hS1) rfl rfl rfl rfl ?_))|refine qb rfl rfl ?_|(refine QI ?_;(first|refine Zg rfl rfl rfl rfl ?_|refine QA rfl rfl rfl rfl (by rfl) (by rfl) (by rfl) ?_))|refine Qd rfl rfl ?_|refine Qq rfl rfl ?_|refine Qh rfl rfl ?_|refine Qw (fun _ _ => ?_)))|(refine QZ ?_;(first|refine QX ?_|refine WT rfl ?_|refine Wf ?_|refine qA rfl rfl rfl rfl ?_|refine WF rfl rfl (by omega) ?_))|(refine QY ?_;(first|refine QW ?_|refine Ql ?_|refine Qu ?_|refine QO rfl ?_|refine Qn rfl (by omega) ?_|refine Qm rfl (by omega) ?_|refine Q2 ?_)))
    refine e_1 (Tryz.results80) (Qf (size := 4) rfl rfl rfl rfl) ?_
    rw [Qp]
    exact ZM (by first|rfl|(simp [Qt, Q1];try rfl)) rfl
  ·have hS1 := hsm2 1 (by omega) (a + 1 + 1 + 1) (L - 1) ⟨by omega, by omega, by omega, by omega⟩ (by omega)
   have hq := hrq2 1 (a + 1 + 1 + 1) (L - 1) (by omega) ⟨by omega, by omega, by omega, by omega⟩ (by omega)
   have hln := Wr E2 1 (a + 1 + 1 + 1) (L - 1)
   obtain ⟨f1, d1, s1, w1, m1, u1⟩ := hq
   generalize Zw E2 1 (a + 1 + 1 + 1) (L - 1) = T at *
   obtain ⟨ks, b1, M1⟩ := T
   dsimp only at *
   have hdl := Q8 d1
   rw [show ((1 : Nat) : Int) = 1 from rfl, show ((2 : Nat) : Int) = 2 from rfl] at hS1
   have n6 := Qk l (a + 1) (most := 6) (by decide)
   have m3 := Qk l (a + 1 + 1) (most := 3) (by decide)
   clear hE2x hE1x hsm1 hsm2 hrq1 hrq2
   refine ⟨(.mk 16 (atI l (a + 1) 6) (atI l (a + 1 + 1) 3) ks, b1, M1), ?_, fun g B hg => ?_⟩
   ·refine ⟨QV ⟨5, 0, 5, 2, [4], 0, 0, 0⟩ rfl (by decide) (by decide) (by dsimp only;omega) (by dsimp only;omega) (by first|(simp;done)|(simp;omega)) (qN 1 hln (by decide) f1), ?_, ?_, ?_, ?_, ?_⟩
    ·rw [Qy];(try simp only [QD]);omega
    ·rw [Qe];(try simp only [Qo]);omega
    ·dsimp only;omega
    ·dsimp only;omega
    ·dsimp only;omega
   ·refine Qa Tryz.func80 rfl Tryz.ntmps80 rfl (t := [(0, .ptr 0 g 0), (1, .i dd)]) rfl fun E0 hE0 => ?_
    (repeat' first|(refine QH ?_;(first|refine Wu rfl ?_|refine WJ rfl ?_|refine Qc rfl rfl rfl ?_|(refine Qr ?_;(first|refine WE rfl rfl (by omega) ?_|refine WI rfl rfl ?_|refine Wg rfl rfl ?_|refine ZV rfl rfl (by first|omega|exact nn_shr (by omega)) (by omega) ?_))|(refine QC ?_;(first|refine Q9 0 (QR l hl _ _ _ (by omega) (by omega)) rfl rfl rfl rfl ?_|refine Q9 0 (hS1) rfl rfl rfl rfl ?_))|refine qb rfl rfl ?_|(refine QI ?_;(first|refine Zg rfl rfl rfl rfl ?_|refine QA rfl rfl rfl rfl (by rfl) (by rfl) (by rfl) ?_))|refine Qd rfl rfl ?_|refine Qq rfl rfl ?_|refine Qh rfl rfl ?_|refine Qw (fun _ _ => ?_)))|(refine QZ ?_;(first|refine QX ?_|refine WT rfl ?_|refine Wf ?_|refine qA rfl rfl rfl rfl ?_|refine WF rfl rfl (by omega) ?_))|(refine QY ?_;(first|refine QW ?_|refine Ql ?_|refine Qu ?_|refine QO rfl ?_|refine Qn rfl (by omega) ?_|refine Qm rfl (by omega) ?_|refine Q2 ?_)))
    refine e_1 (Tryz.results80) (Qf (size := 4) rfl rfl rfl rfl) ?_
    rw [Qp]
    exact ZM (by first|rfl|(simp [Qt, Q1];try rfl)) rfl
  ·clear hE2x hE1x hsm1 hsm2 hrq1 hrq2
   refine ⟨(.mk 25 (0) (0) [], a + 1, L - 1), ?_, fun g B hg => ?_⟩
   ·refine ⟨QV ⟨5, 0, 0, 0, [], 0, 0, 0⟩ rfl (by decide) (by decide) (by dsimp only;omega) (by dsimp only;omega) (by first|(simp;done)|(simp;omega)) (qa), ?_, ?_, ?_, ?_, ?_⟩
    ·rw [Qy];(try simp only [QD]);omega
    ·rw [Qe];(try simp only [Qo]);omega
    ·dsimp only;omega
    ·dsimp only;omega
    ·dsimp only;omega
   ·refine Qa Tryz.func80 rfl Tryz.ntmps80 rfl (t := [(0, .ptr 0 g 0), (1, .i dd)]) rfl fun E0 hE0 => ?_
    (repeat' first|(refine QH ?_;(first|refine Wu rfl ?_|refine WJ rfl ?_|refine Qc rfl rfl rfl ?_|(refine Qr ?_;(first|refine WE rfl rfl (by omega) ?_|refine WI rfl rfl ?_|refine Wg rfl rfl ?_|refine ZV rfl rfl (by first|omega|exact nn_shr (by omega)) (by omega) ?_))|refine Q9 0 (QR l hl _ _ _ (by omega) (by omega)) rfl rfl rfl rfl ?_|refine qb rfl rfl ?_|(refine QI ?_;(first|refine Zg rfl rfl rfl rfl ?_|refine QA rfl rfl rfl rfl (by rfl) (by rfl) (by rfl) ?_))|refine Qd rfl rfl ?_|refine Qq rfl rfl ?_|refine Qh rfl rfl ?_|refine Qw (fun _ _ => ?_)))|(refine QZ ?_;(first|refine QX ?_|refine WT rfl ?_|refine Wf ?_|refine qA rfl rfl rfl rfl ?_|refine WF rfl rfl (by omega) ?_))|(refine QY ?_;(first|refine QW ?_|refine Ql ?_|refine Qu ?_|refine QO rfl ?_|refine Qn rfl (by omega) ?_|refine Qm rfl (by omega) ?_|refine Q2 ?_)))
    exact e_1 (Tryz.results80) (Qf (size := 4) rfl rfl rfl rfl) (Q5 (es := 4) (.node rfl rfl rfl) (by show _ = DV.agg (Enc.enc (Nd.mk _ _ _ []));rw [Qp];rfl) rfl)
  ·omega
 ·rcases hxx with rfl|rfl|rfl|rfl|rfl|rfl|rfl|rfl|rfl
  ·have hS1 := hsm2 1 (by omega) (a + 1 + 1) (L - 1) ⟨by omega, by omega, by omega, by omega⟩ (by omega)
   have hq := hrq2 1 (a + 1 + 1) (L - 1) (by omega) ⟨by omega, by omega, by omega, by omega⟩ (by omega)
   have hln := Wr E2 1 (a + 1 + 1) (L - 1)
   obtain ⟨f1, d1, s1, w1, m1, u1⟩ := hq
   generalize Zw E2 1 (a + 1 + 1) (L - 1) = T at *
   obtain ⟨ks, b1, M1⟩ := T
   dsimp only at *
   have hdl := Q8 d1
   rw [show ((1 : Nat) : Int) = 1 from rfl, show ((2 : Nat) : Int) = 2 from rfl] at hS1
   have n6 := Qk l (a + 1) (most := 6) (by decide)
   clear hE2x hE1x hsm1 hsm2 hrq1 hrq2
   refine ⟨(.mk 14 (atI l (a + 1) 6) (0) ks, b1, M1), ?_, fun g B hg => ?_⟩
   ·refine ⟨QV ⟨5, 0, 5, 0, [4], 0, 0, 0⟩ rfl (by decide) (by decide) (by dsimp only;omega) (by dsimp only;omega) (by first|(simp;done)|(simp;omega)) (qN 1 hln (by decide) f1), ?_, ?_, ?_, ?_, ?_⟩
    ·rw [Qy];(try simp only [QD]);omega
    ·rw [Qe];(try simp only [Qo]);omega
    ·dsimp only;omega
    ·dsimp only;omega
    ·dsimp only;omega
   ·refine Qa Tryz.func80 rfl Tryz.ntmps80 rfl (t := [(0, .ptr 0 g 0), (1, .i dd)]) rfl fun E0 hE0 => ?_
    (repeat' first|(refine QH ?_;(first|refine Wu rfl ?_|refine WJ rfl ?_|refine Qc rfl rfl rfl ?_|(refine Qr ?_;(first|refine WE rfl rfl (by omega) ?_|refine WI rfl rfl ?_|refine Wg rfl rfl ?_|refine ZV rfl rfl (by first|omega|exact nn_shr (by omega)) (by omega) ?_))|(refine QC ?_;(first|refine Q9 0 (QR l hl _ _ _ (by omega) (by omega)) rfl rfl rfl rfl ?_|refine Q9 0 (hS1) rfl rfl rfl rfl ?_))|refine Zf rfl rfl ?_|(refine QI ?_;(first|refine Zg rfl rfl rfl rfl ?_|refine QA rfl rfl rfl rfl (by rfl) (by rfl) (by rfl) ?_))|refine Qd rfl rfl ?_|refine Qq rfl rfl ?_|refine Qh rfl rfl ?_|refine Qw (fun _ _ => ?_)))|(refine QZ ?_;(first|refine QX ?_|refine WT rfl ?_|refine Wf ?_|refine Zx rfl rfl rfl rfl ?_|refine Q0 rfl rfl (by omega) ?_))|(refine QY ?_;(first|refine QW ?_|refine Ql ?_|refine Qu ?_|refine QQ ?_|refine Qn rfl (by omega) ?_|refine Qm rfl (by omega) ?_|refine Q2 ?_)))
    refine e_1 (Tryz.results80) (Qf (size := 4) rfl rfl rfl rfl) ?_
    rw [Qp]
    exact ZM (by first|rfl|(simp [Qt, Q1];try rfl)) rfl
  ·have hS1 := hsm2 1 (by omega) (a + 1) (L - 1) ⟨by omega, by omega, by omega, by omega⟩ (by omega)
   have hq := hrq2 1 (a + 1) (L - 1) (by omega) ⟨by omega, by omega, by omega, by omega⟩ (by omega)
   have hln := Wr E2 1 (a + 1) (L - 1)
   obtain ⟨f1, d1, s1, w1, m1, u1⟩ := hq
   generalize Zw E2 1 (a + 1) (L - 1) = T at *
   obtain ⟨ks, b1, M1⟩ := T
   dsimp only at *
   have hdl := Q8 d1
   rw [show ((1 : Nat) : Int) = 1 from rfl, show ((2 : Nat) : Int) = 2 from rfl] at hS1
   clear hE2x hE1x hsm1 hsm2 hrq1 hrq2
   refine ⟨(.mk 19 (0) (0) ks, b1, M1), ?_, fun g B hg => ?_⟩
   ·refine ⟨QV ⟨5, 0, 0, 0, [4], 0, 0, 0⟩ rfl (by decide) (by decide) (by dsimp only;omega) (by dsimp only;omega) (by first|(simp;done)|(simp;omega)) (qN 1 hln (by decide) f1), ?_, ?_, ?_, ?_, ?_⟩
    ·rw [Qy];(try simp only [QD]);omega
    ·rw [Qe];(try simp only [Qo]);omega
    ·dsimp only;omega
    ·dsimp only;omega
    ·dsimp only;omega
   ·refine Qa Tryz.func80 rfl Tryz.ntmps80 rfl (t := [(0, .ptr 0 g 0), (1, .i dd)]) rfl fun E0 hE0 => ?_
    (repeat' first|(refine QH ?_;(first|refine Wu rfl ?_|refine WJ rfl ?_|refine Qc rfl rfl rfl ?_|(refine Qr ?_;(first|refine WE rfl rfl (by omega) ?_|refine WI rfl rfl ?_|refine Wg rfl rfl ?_|refine ZV rfl rfl (by first|omega|exact nn_shr (by omega)) (by omega) ?_))|(refine QC ?_;(first|refine Q9 0 (QR l hl _ _ _ (by omega) (by omega)) rfl rfl rfl rfl ?_|refine Q9 0 (hS1) rfl rfl rfl rfl ?_))|refine Zf rfl rfl ?_|(refine QI ?_;(first|refine Zg rfl rfl rfl rfl ?_|refine QA rfl rfl rfl rfl (by rfl) (by rfl) (by rfl) ?_))|refine Qd rfl rfl ?_|refine Qq rfl rfl ?_|refine Qh rfl rfl ?_|refine Qw (fun _ _ => ?_)))|(refine QZ ?_;(first|refine QX ?_|refine WT rfl ?_|refine Wf ?_|refine Zx rfl rfl rfl rfl ?_|refine Q0 rfl rfl (by omega) ?_))|(refine QY ?_;(first|refine QW ?_|refine Ql ?_|refine Qu ?_|refine Qn rfl (by omega) ?_|refine Q2 ?_)))
    refine e_1 (Tryz.results80) (Qf (size := 4) rfl rfl rfl rfl) ?_
    rw [Qp]
    exact ZM (by first|rfl|(simp [Qt, Q1];try rfl)) rfl
  ·have hS1 := hsm1 1 (by omega) (a + 1) (L - 1) ⟨by omega, by omega, by omega, by omega⟩ (by omega)
   have hq := hrq1 1 (a + 1) (L - 1) (by omega) ⟨by omega, by omega, by omega, by omega⟩ (by omega)
   have hln := Wr E1 1 (a + 1) (L - 1)
   obtain ⟨f1, d1, s1, w1, m1, u1⟩ := hq
   generalize Zw E1 1 (a + 1) (L - 1) = T at *
   obtain ⟨ks, b1, M1⟩ := T
   dsimp only at *
   have hdl := Q8 d1
   rw [show ((1 : Nat) : Int) = 1 from rfl] at hS1
   clear hE2x hE1x hsm1 hsm2 hrq1 hrq2
   refine ⟨(.mk 20 (0) (0) ks, b1, M1), ?_, fun g B hg => ?_⟩
   ·refine ⟨QV ⟨5, 0, 0, 0, [4], 0, 0, 0⟩ rfl (by decide) (by decide) (by dsimp only;omega) (by dsimp only;omega) (by first|(simp;done)|(simp;omega)) (qN 1 hln (by decide) f1), ?_, ?_, ?_, ?_, ?_⟩
    ·rw [Qy];(try simp only [QD]);omega
    ·rw [Qe];(try simp only [Qo]);omega
    ·dsimp only;omega
    ·dsimp only;omega
    ·dsimp only;omega
   ·refine Qa Tryz.func80 rfl Tryz.ntmps80 rfl (t := [(0, .ptr 0 g 0), (1, .i dd)]) rfl fun E0 hE0 => ?_
    (repeat' first|(refine QH ?_;(first|refine Wu rfl ?_|refine WJ rfl ?_|refine Qc rfl rfl rfl ?_|(refine Qr ?_;(first|refine WE rfl rfl (by omega) ?_|refine WI rfl rfl ?_|refine Wg rfl rfl ?_|refine ZV rfl rfl (by first|omega|exact nn_shr (by omega)) (by omega) ?_))|(refine QC ?_;(first|refine Q9 0 (QR l hl _ _ _ (by omega) (by omega)) rfl rfl rfl rfl ?_|refine Q9 0 (hS1) rfl rfl rfl rfl ?_))|refine Zf rfl rfl ?_|(refine QI ?_;(first|refine Zg rfl rfl rfl rfl ?_|refine QA rfl rfl rfl rfl (by rfl) (by rfl) (by rfl) ?_))|refine Qd rfl rfl ?_|refine Qq rfl rfl ?_|refine Qh rfl rfl ?_|refine Qw (fun _ _ => ?_)))|(refine QZ ?_;(first|refine QX ?_|refine WT rfl ?_|refine Wf ?_|refine Zx rfl rfl rfl rfl ?_|refine Q0 rfl rfl (by omega) ?_))|(refine QY ?_;(first|refine QW ?_|refine Ql ?_|refine Qu ?_|refine Qn rfl (by omega) ?_|refine Qm rfl (by omega) ?_|refine Q2 ?_)))
    refine e_1 (Tryz.results80) (Qf (size := 4) rfl rfl rfl rfl) ?_
    rw [Qp]
    exact ZM (by first|rfl|(simp [Qt, Q1];try rfl)) rfl
  ·have hS1 := hsm2 1 (by omega) (a + 1 + 1) (L - 1) ⟨by omega, by omega, by omega, by omega⟩ (by omega)
   have hq := hrq2 1 (a + 1 + 1) (L - 1) (by omega) ⟨by omega, by omega, by omega, by omega⟩ (by omega)
   have hln := Wr E2 1 (a + 1 + 1) (L - 1)
   obtain ⟨f1, d1, s1, w1, m1, u1⟩ := hq
   generalize Zw E2 1 (a + 1 + 1) (L - 1) = T at *
   obtain ⟨ks, b1, M1⟩ := T
   dsimp only at *
   have hdl := Q8 d1
   rw [show ((1 : Nat) : Int) = 1 from rfl, show ((2 : Nat) : Int) = 2 from rfl] at hS1
   have n3 := Qk l (a + 1) (most := 3) (by decide)
   clear hE2x hE1x hsm1 hsm2 hrq1 hrq2
   refine ⟨(.mk 22 (atI l (a + 1) 3) (0) ks, b1, M1), ?_, fun g B hg => ?_⟩
   ·refine ⟨QV ⟨5, 0, 2, 0, [4], 0, 0, 0⟩ rfl (by decide) (by decide) (by dsimp only;omega) (by dsimp only;omega) (by first|(simp;done)|(simp;omega)) (qN 1 hln (by decide) f1), ?_, ?_, ?_, ?_, ?_⟩
    ·rw [Qy];(try simp only [QD]);omega
    ·rw [Qe];(try simp only [Qo]);omega
    ·dsimp only;omega
    ·dsimp only;omega
    ·dsimp only;omega
   ·refine Qa Tryz.func80 rfl Tryz.ntmps80 rfl (t := [(0, .ptr 0 g 0), (1, .i dd)]) rfl fun E0 hE0 => ?_
    (repeat' first|(refine QH ?_;(first|refine Wu rfl ?_|refine WJ rfl ?_|refine Qc rfl rfl rfl ?_|(refine Qr ?_;(first|refine WE rfl rfl (by omega) ?_|refine WI rfl rfl ?_|refine Wg rfl rfl ?_|refine ZV rfl rfl (by first|omega|exact nn_shr (by omega)) (by omega) ?_))|(refine QC ?_;(first|refine Q9 0 (QR l hl _ _ _ (by omega) (by omega)) rfl rfl rfl rfl ?_|refine Q9 0 (hS1) rfl rfl rfl rfl ?_))|refine Zf rfl rfl ?_|(refine QI ?_;(first|refine Zg rfl rfl rfl rfl ?_|refine QA rfl rfl rfl rfl (by rfl) (by rfl) (by rfl) ?_))|refine Qd rfl rfl ?_|refine Qq rfl rfl ?_|refine Qh rfl rfl ?_|refine Qw (fun _ _ => ?_)))|(refine QZ ?_;(first|refine QX ?_|refine WT rfl ?_|refine Wf ?_|refine Zx rfl rfl rfl rfl ?_|refine Q0 rfl rfl (by omega) ?_))|(refine QY ?_;(first|refine QW ?_|refine Ql ?_|refine Qu ?_|refine Qn rfl (by omega) ?_|refine Qm rfl (by omega) ?_|refine Q2 ?_)))
    refine e_1 (Tryz.results80) (Qf (size := 4) rfl rfl rfl rfl) ?_
    rw [Qp]
    exact ZM (by first|rfl|(simp [Qt, Q1];try rfl)) rfl
  ·have hS1 := hsm2 1 (by omega) (a + 1) (L - 1) ⟨by omega, by omega, by omega, by omega⟩ (by omega)
   have hq := hrq2 1 (a + 1) (L - 1) (by omega) ⟨by omega, by omega, by omega, by omega⟩ (by omega)
   have hln := Wr E2 1 (a + 1) (L - 1)
   obtain ⟨f1, d1, s1, w1, m1, u1⟩ := hq
   generalize Zw E2 1 (a + 1) (L - 1) = T at *
   obtain ⟨ks, b1, M1⟩ := T
   dsimp only at *
   have hdl := Q8 d1
   rw [show ((1 : Nat) : Int) = 1 from rfl, show ((2 : Nat) : Int) = 2 from rfl] at hS1
   clear hE2x hE1x hsm1 hsm2 hrq1 hrq2
   refine ⟨(.mk 24 (0) (0) ks, b1, M1), ?_, fun g B hg => ?_⟩
   ·refine ⟨QV ⟨5, 0, 0, 0, [4], 0, 0, 0⟩ rfl (by decide) (by decide) (by dsimp only;omega) (by dsimp only;omega) (by first|(simp;done)|(simp;omega)) (qN 1 hln (by decide) f1), ?_, ?_, ?_, ?_, ?_⟩
    ·rw [Qy];(try simp only [QD]);omega
    ·rw [Qe];(try simp only [Qo]);omega
    ·dsimp only;omega
    ·dsimp only;omega
    ·dsimp only;omega
   ·refine Qa Tryz.func80 rfl Tryz.ntmps80 rfl (t := [(0, .ptr 0 g 0), (1, .i dd)]) rfl fun E0 hE0 => ?_
    (repeat' first|(refine QH ?_;(first|refine Wu rfl ?_|refine WJ rfl ?_|refine Qc rfl rfl rfl ?_|(refine Qr ?_;(first|refine WE rfl rfl (by omega) ?_|refine WI rfl rfl ?_|refine Wg rfl rfl ?_|refine ZV rfl rfl (by first|omega|exact nn_shr (by omega)) (by omega) ?_))|(refine QC ?_;(first|refine Q9 0 (QR l hl _ _ _ (by omega) (by omega)) rfl rfl rfl rfl ?_|refine Q9 0 (hS1) rfl rfl rfl rfl ?_))|refine Zf rfl rfl ?_|(refine QI ?_;(first|refine Zg rfl rfl rfl rfl ?_|refine QA rfl rfl rfl rfl (by rfl) (by rfl) (by rfl) ?_))|refine Qd rfl rfl ?_|refine Qq rfl rfl ?_|refine Qh rfl rfl ?_|refine Qw (fun _ _ => ?_)))|(refine QZ ?_;(first|refine QX ?_|refine WT rfl ?_|refine Wf ?_|refine Zx rfl rfl rfl rfl ?_|refine Q0 rfl rfl (by omega) ?_))|(refine QY ?_;(first|refine QW ?_|refine Ql ?_|refine Qu ?_|refine Qn rfl (by omega) ?_|refine Qm rfl (by omega) ?_|refine Q2 ?_)))
    refine e_1 (Tryz.results80) (Qf (size := 4) rfl rfl rfl rfl) ?_
    rw [Qp]
    exact ZM (by first|rfl|(simp [Qt, Q1];try rfl)) rfl
  ·have hS1 := hsm1 2 (by omega) (a + 1 + 1) (L - 1) ⟨by omega, by omega, by omega, by omega⟩ (by omega)
   have hq := hrq1 2 (a + 1 + 1) (L - 1) (by omega) ⟨by omega, by omega, by omega, by omega⟩ (by omega)
   have hln := Wr E1 2 (a + 1 + 1) (L - 1)
   obtain ⟨f1, d1, s1, w1, m1, u1⟩ := hq
   generalize Zw E1 2 (a + 1 + 1) (L - 1) = T at *
   obtain ⟨ks, b1, M1⟩ := T
   dsimp only at *
   have hdl := Q8 d1
   rw [show ((2 : Nat) : Int) = 2 from rfl, show ((1 : Nat) : Int) = 1 from rfl] at hS1
   have n6 := Qk l (a + 1) (most := 6) (by decide)
   clear hE2x hE1x hsm1 hsm2 hrq1 hrq2
   refine ⟨(.mk 15 (atI l (a + 1) 6) (0) ks, b1, M1), ?_, fun g B hg => ?_⟩
   ·refine ⟨QV ⟨5, 0, 5, 0, [4, 4], 0, 0, 0⟩ rfl (by decide) (by decide) (by dsimp only;omega) (by dsimp only;omega) (by first|(simp;done)|(simp;omega)) (qN 2 hln (by decide) f1), ?_, ?_, ?_, ?_, ?_⟩
    ·rw [Qy];(try simp only [QD]);omega
    ·rw [Qe];(try simp only [Qo]);omega
    ·dsimp only;omega
    ·dsimp only;omega
    ·dsimp only;omega
   ·refine Qa Tryz.func80 rfl Tryz.ntmps80 rfl (t := [(0, .ptr 0 g 0), (1, .i dd)]) rfl fun E0 hE0 => ?_
    (repeat' first|(refine QH ?_;(first|refine Wu rfl ?_|refine WJ rfl ?_|refine Qc rfl rfl rfl ?_|(refine Qr ?_;(first|refine WE rfl rfl (by omega) ?_|refine WI rfl rfl ?_|refine Wg rfl rfl ?_|refine ZV rfl rfl (by first|omega|exact nn_shr (by omega)) (by omega) ?_))|(refine QC ?_;(first|refine Q9 0 (QR l hl _ _ _ (by omega) (by omega)) rfl rfl rfl rfl ?_|refine Q9 0 (hS1) rfl rfl rfl rfl ?_))|refine Zf rfl rfl ?_|(refine QI ?_;(first|refine Zg rfl rfl rfl rfl ?_|refine QA rfl rfl rfl rfl (by rfl) (by rfl) (by rfl) ?_))|refine Qd rfl rfl ?_|refine Qq rfl rfl ?_|refine Qh rfl rfl ?_|refine Qw (fun _ _ => ?_)))|(refine QZ ?_;(first|refine QX ?_|refine WT rfl ?_|refine Wf ?_|refine Zx rfl rfl rfl rfl ?_|refine Q0 rfl rfl (by omega) ?_))|(refine QY ?_;(first|refine QW ?_|refine Ql ?_|refine Qu ?_|refine Qn rfl (by omega) ?_|refine Qm rfl (by omega) ?_|refine Q2 ?_)))
    refine e_1 (Tryz.results80) (Qf (size := 4) rfl rfl rfl rfl) ?_
    rw [Qp]
    exact ZM (by first|rfl|(simp [Qt, Q1];try rfl)) rfl
  ·have hS1 := hsm2 1 (by omega) (a + 1 + 1 + 1) (L - 1) ⟨by omega, by omega, by omega, by omega⟩ (by omega)
   have hq := hrq2 1 (a + 1 + 1 + 1) (L - 1) (by omega) ⟨by omega, by omega, by omega, by omega⟩ (by omega)
   have hln := Wr E2 1 (a + 1 + 1 + 1) (L - 1)
   obtain ⟨f1, d1, s1, w1, m1, u1⟩ := hq
   generalize Zw E2 1 (a + 1 + 1 + 1) (L - 1) = T at *
   obtain ⟨ks, b1, M1⟩ := T
   dsimp only at *
   have hdl := Q8 d1
   rw [show ((1 : Nat) : Int) = 1 from rfl, show ((2 : Nat) : Int) = 2 from rfl] at hS1
   have n6 := Qk l (a + 1) (most := 6) (by decide)
   have m3 := Qk l (a + 1 + 1) (most := 3) (by decide)
   clear hE2x hE1x hsm1 hsm2 hrq1 hrq2
   refine ⟨(.mk 16 (atI l (a + 1) 6) (atI l (a + 1 + 1) 3) ks, b1, M1), ?_, fun g B hg => ?_⟩
   ·refine ⟨QV ⟨5, 0, 5, 2, [4], 0, 0, 0⟩ rfl (by decide) (by decide) (by dsimp only;omega) (by dsimp only;omega) (by first|(simp;done)|(simp;omega)) (qN 1 hln (by decide) f1), ?_, ?_, ?_, ?_, ?_⟩
    ·rw [Qy];(try simp only [QD]);omega
    ·rw [Qe];(try simp only [Qo]);omega
    ·dsimp only;omega
    ·dsimp only;omega
    ·dsimp only;omega
   ·refine Qa Tryz.func80 rfl Tryz.ntmps80 rfl (t := [(0, .ptr 0 g 0), (1, .i dd)]) rfl fun E0 hE0 => ?_
    (repeat' first|(refine QH ?_;(first|refine Wu rfl ?_|refine WJ rfl ?_|refine Qc rfl rfl rfl ?_|(refine Qr ?_;(first|refine WE rfl rfl (by omega) ?_|refine WI rfl rfl ?_|refine Wg rfl rfl ?_|refine ZV rfl rfl (by first|omega|exact nn_shr (by omega)) (by omega) ?_))|(refine QC ?_;(first|refine Q9 0 (QR l hl _ _ _ (by omega) (by omega)) rfl rfl rfl rfl ?_|refine Q9 0 (hS1) rfl rfl rfl rfl ?_))|refine Zf rfl rfl ?_|(refine QI ?_;(first|refine Zg rfl rfl rfl rfl ?_|refine QA rfl rfl rfl rfl (by rfl) (by rfl) (by rfl) ?_))|refine Qd rfl rfl ?_|refine Qq rfl rfl ?_|refine Qh rfl rfl ?_|refine Qw (fun _ _ => ?_)))|(refine QZ ?_;(first|refine QX ?_|refine WT rfl ?_|refine Wf ?_|refine Zx rfl rfl rfl rfl ?_|refine Q0 rfl rfl (by omega) ?_))|(refine QY ?_;(first|refine QW ?_|refine Ql ?_|refine Qu ?_|refine Qn rfl (by omega) ?_|refine Qm rfl (by omega) ?_|refine Q2 ?_)))
    refine e_1 (Tryz.results80) (Qf (size := 4) rfl rfl rfl rfl) ?_
    rw [Qp]
    exact ZM (by first|rfl|(simp [Qt, Q1];try rfl)) rfl
  ·clear hE2x hE1x hsm1 hsm2 hrq1 hrq2
   refine ⟨(.mk 25 (0) (0) [], a + 1, L - 1), ?_, fun g B hg => ?_⟩
   ·refine ⟨QV ⟨5, 0, 0, 0, [], 0, 0, 0⟩ rfl (by decide) (by decide) (by dsimp only;omega) (by dsimp only;omega) (by first|(simp;done)|(simp;omega)) (qa), ?_, ?_, ?_, ?_, ?_⟩
    ·rw [Qy];(try simp only [QD]);omega
    ·rw [Qe];(try simp only [Qo]);omega
    ·dsimp only;omega
    ·dsimp only;omega
    ·dsimp only;omega
   ·refine Qa Tryz.func80 rfl Tryz.ntmps80 rfl (t := [(0, .ptr 0 g 0), (1, .i dd)]) rfl fun E0 hE0 => ?_
    (repeat' first|(refine QH ?_;(first|refine Wu rfl ?_|refine WJ rfl ?_|refine Qc rfl rfl rfl ?_|(refine Qr ?_;(first|refine WE rfl rfl (by omega) ?_|refine WI rfl rfl ?_|refine Wg rfl rfl ?_|refine ZV rfl rfl (by first|omega|exact nn_shr (by omega)) (by omega) ?_))|refine Q9 0 (QR l hl _ _ _ (by omega) (by omega)) rfl rfl rfl rfl ?_|refine Zf rfl rfl ?_|(refine QI ?_;(first|refine Zg rfl rfl rfl rfl ?_|refine QA rfl rfl rfl rfl (by rfl) (by rfl) (by rfl) ?_))|refine Qd rfl rfl ?_|refine Qq rfl rfl ?_|refine Qh rfl rfl ?_|refine Qw (fun _ _ => ?_)))|(refine QZ ?_;(first|refine QX ?_|refine WT rfl ?_|refine Wf ?_|refine Zx rfl rfl rfl rfl ?_|refine Q0 rfl rfl (by omega) ?_))|(refine QY ?_;(first|refine QW ?_|refine Ql ?_|refine Qu ?_|refine Qn rfl (by omega) ?_|refine Qm rfl (by omega) ?_|refine Q2 ?_)))
    exact e_1 (Tryz.results80) (Qf (size := 4) rfl rfl rfl rfl) (Q5 (es := 4) (.node rfl rfl rfl) (by show _ = DV.agg (Enc.enc (Nd.mk _ _ _ []));rw [Qp];rfl) rfl)
  ·omega
 ·rcases hxx with rfl|rfl|rfl|rfl|rfl|rfl|rfl|rfl|rfl
  ·have hS1 := hsm2 1 (by omega) (a + 1 + 1) (L - 1) ⟨by omega, by omega, by omega, by omega⟩ (by omega)
   have hq := hrq2 1 (a + 1 + 1) (L - 1) (by omega) ⟨by omega, by omega, by omega, by omega⟩ (by omega)
   have hln := Wr E2 1 (a + 1 + 1) (L - 1)
   obtain ⟨f1, d1, s1, w1, m1, u1⟩ := hq
   generalize Zw E2 1 (a + 1 + 1) (L - 1) = T at *
   obtain ⟨ks, b1, M1⟩ := T
   dsimp only at *
   have hdl := Q8 d1
   rw [show ((1 : Nat) : Int) = 1 from rfl, show ((2 : Nat) : Int) = 2 from rfl] at hS1
   have n6 := Qk l (a + 1) (most := 6) (by decide)
   clear hE2x hE1x hsm1 hsm2 hrq1 hrq2
   refine ⟨(.mk 14 (atI l (a + 1) 6) (0) ks, b1, M1), ?_, fun g B hg => ?_⟩
   ·refine ⟨QV ⟨5, 0, 5, 0, [4], 0, 0, 0⟩ rfl (by decide) (by decide) (by dsimp only;omega) (by dsimp only;omega) (by first|(simp;done)|(simp;omega)) (qN 1 hln (by decide) f1), ?_, ?_, ?_, ?_, ?_⟩
    ·rw [Qy];(try simp only [QD]);omega
    ·rw [Qe];(try simp only [Qo]);omega
    ·dsimp only;omega
    ·dsimp only;omega
    ·dsimp only;omega
   ·refine Qa Tryz.func80 rfl Tryz.ntmps80 rfl (t := [(0, .ptr 0 g 0), (1, .i dd)]) rfl fun E0 hE0 => ?_
    (repeat' first|(refine QH ?_;(first|refine Wu rfl ?_|refine WJ rfl ?_|refine Qc rfl rfl rfl ?_|(refine Qr ?_;(first|refine WE rfl rfl (by omega) ?_|refine WI rfl rfl ?_|refine Wg rfl rfl ?_))|(refine QC ?_;(first|refine Q9 0 (QR l hl _ _ _ (by omega) (by omega)) rfl rfl rfl rfl ?_|refine Q9 0 (hS1) rfl rfl rfl rfl ?_))|refine Zf rfl rfl ?_|(refine QI ?_;(first|refine Zg rfl rfl rfl rfl ?_|refine QA rfl rfl rfl rfl (by rfl) (by rfl) (by rfl) ?_))|refine Qd rfl rfl ?_|refine Qq rfl rfl ?_|refine Qh rfl rfl ?_|refine Qw (fun _ _ => ?_)))|(refine QZ ?_;(first|refine QX ?_|refine WT rfl ?_|refine Wf ?_|refine Zx rfl rfl rfl rfl ?_|refine Q0 rfl rfl (by omega) ?_))|(refine QY ?_;(first|refine QW ?_|refine Ql ?_|refine Qu ?_|refine QQ ?_|refine Qm rfl (by omega) ?_|refine Q2 ?_)))
    refine e_1 (Tryz.results80) (Qf (size := 4) rfl rfl rfl rfl) ?_
    rw [Qp]
    exact ZM (by first|rfl|(simp [Qt, Q1];try rfl)) rfl
  ·have hS1 := hsm2 1 (by omega) (a + 1) (L - 1) ⟨by omega, by omega, by omega, by omega⟩ (by omega)
   have hq := hrq2 1 (a + 1) (L - 1) (by omega) ⟨by omega, by omega, by omega, by omega⟩ (by omega)
   have hln := Wr E2 1 (a + 1) (L - 1)
   obtain ⟨f1, d1, s1, w1, m1, u1⟩ := hq
   generalize Zw E2 1 (a + 1) (L - 1) = T at *
   obtain ⟨ks, b1, M1⟩ := T
   dsimp only at *
   have hdl := Q8 d1
   rw [show ((1 : Nat) : Int) = 1 from rfl, show ((2 : Nat) : Int) = 2 from rfl] at hS1
   clear hE2x hE1x hsm1 hsm2 hrq1 hrq2
   refine ⟨(.mk 19 (0) (0) ks, b1, M1), ?_, fun g B hg => ?_⟩
   ·refine ⟨QV ⟨5, 0, 0, 0, [4], 0, 0, 0⟩ rfl (by decide) (by decide) (by dsimp only;omega) (by dsimp only;omega) (by first|(simp;done)|(simp;omega)) (qN 1 hln (by decide) f1), ?_, ?_, ?_, ?_, ?_⟩
    ·rw [Qy];(try simp only [QD]);omega
    ·rw [Qe];(try simp only [Qo]);omega
    ·dsimp only;omega
    ·dsimp only;omega
    ·dsimp only;omega
   ·refine Qa Tryz.func80 rfl Tryz.ntmps80 rfl (t := [(0, .ptr 0 g 0), (1, .i dd)]) rfl fun E0 hE0 => ?_
    (repeat' first|(refine QH ?_;(first|refine Wu rfl ?_|refine WJ rfl ?_|refine Qc rfl rfl rfl ?_|(refine Qr ?_;(first|refine WE rfl rfl (by omega) ?_|refine WI rfl rfl ?_|refine Wg rfl rfl ?_))|(refine QC ?_;(first|refine Q9 0 (QR l hl _ _ _ (by omega) (by omega)) rfl rfl rfl rfl ?_|refine Q9 0 (hS1) rfl rfl rfl rfl ?_))|refine Zf rfl rfl ?_|(refine QI ?_;(first|refine Zg rfl rfl rfl rfl ?_|refine QA rfl rfl rfl rfl (by rfl) (by rfl) (by rfl) ?_))|refine Qd rfl rfl ?_|refine Qq rfl rfl ?_|refine Qh rfl rfl ?_|refine Qw (fun _ _ => ?_)))|(refine QZ ?_;(first|refine QX ?_|refine WT rfl ?_|refine Wf ?_|refine Zx rfl rfl rfl rfl ?_|refine Q0 rfl rfl (by omega) ?_))|(refine QY ?_;(first|refine QW ?_|refine Ql ?_|refine Qu ?_|refine QQ ?_|refine Qn rfl (by omega) ?_|refine Qm rfl (by omega) ?_|refine Q2 ?_)))
    refine e_1 (Tryz.results80) (Qf (size := 4) rfl rfl rfl rfl) ?_
    rw [Qp]
    exact ZM (by first|rfl|(simp [Qt, Q1];try rfl)) rfl
  ·have hS1 := hsm1 1 (by omega) (a + 1) (L - 1) ⟨by omega, by omega, by omega, by omega⟩ (by omega)
   have hq := hrq1 1 (a + 1) (L - 1) (by omega) ⟨by omega, by omega, by omega, by omega⟩ (by omega)
   have hln := Wr E1 1 (a + 1) (L - 1)
   obtain ⟨f1, d1, s1, w1, m1, u1⟩ := hq
   generalize Zw E1 1 (a + 1) (L - 1) = T at *
   obtain ⟨ks, b1, M1⟩ := T
   dsimp only at *
   have hdl := Q8 d1
   rw [show ((1 : Nat) : Int) = 1 from rfl] at hS1
   clear hE2x hE1x hsm1 hsm2 hrq1 hrq2
   refine ⟨(.mk 20 (0) (0) ks, b1, M1), ?_, fun g B hg => ?_⟩
   ·refine ⟨QV ⟨5, 0, 0, 0, [4], 0, 0, 0⟩ rfl (by decide) (by decide) (by dsimp only;omega) (by dsimp only;omega) (by first|(simp;done)|(simp;omega)) (qN 1 hln (by decide) f1), ?_, ?_, ?_, ?_, ?_⟩
    ·rw [Qy];(try simp only [QD]);omega
    ·rw [Qe];(try simp only [Qo]);omega
    ·dsimp only;omega
    ·dsimp only;omega
    ·dsimp only;omega
   ·refine Qa Tryz.func80 rfl Tryz.ntmps80 rfl (t := [(0, .ptr 0 g 0), (1, .i dd)]) rfl fun E0 hE0 => ?_
    (repeat' first|(refine QH ?_;(first|refine Wu rfl ?_|refine WJ rfl ?_|refine Qc rfl rfl rfl ?_|(refine Qr ?_;(first|refine WE rfl rfl (by omega) ?_|refine WI rfl rfl ?_|refine Wg rfl rfl ?_))|(refine QC ?_;(first|refine Q9 0 (QR l hl _ _ _ (by omega) (by omega)) rfl rfl rfl rfl ?_|refine Q9 0 (hS1) rfl rfl rfl rfl ?_))|refine Zf rfl rfl ?_|(refine QI ?_;(first|refine Zg rfl rfl rfl rfl ?_|refine QA rfl rfl rfl rfl (by rfl) (by rfl) (by rfl) ?_))|refine Qd rfl rfl ?_|refine Qq rfl rfl ?_|refine Qh rfl rfl ?_|refine Qw (fun _ _ => ?_)))|(refine QZ ?_;(first|refine QX ?_|refine WT rfl ?_|refine Wf ?_|refine Zx rfl rfl rfl rfl ?_|refine Q0 rfl rfl (by omega) ?_))|(refine QY ?_;(first|refine QW ?_|refine Ql ?_|refine Qu ?_|refine QQ ?_|refine Qn rfl (by omega) ?_|refine Qm rfl (by omega) ?_|refine Q2 ?_)))
    refine e_1 (Tryz.results80) (Qf (size := 4) rfl rfl rfl rfl) ?_
    rw [Qp]
    exact ZM (by first|rfl|(simp [Qt, Q1];try rfl)) rfl
  ·have hS1 := hsm2 1 (by omega) (a + 1 + 1) (L - 1) ⟨by omega, by omega, by omega, by omega⟩ (by omega)
   have hq := hrq2 1 (a + 1 + 1) (L - 1) (by omega) ⟨by omega, by omega, by omega, by omega⟩ (by omega)
   have hln := Wr E2 1 (a + 1 + 1) (L - 1)
   obtain ⟨f1, d1, s1, w1, m1, u1⟩ := hq
   generalize Zw E2 1 (a + 1 + 1) (L - 1) = T at *
   obtain ⟨ks, b1, M1⟩ := T
   dsimp only at *
   have hdl := Q8 d1
   rw [show ((1 : Nat) : Int) = 1 from rfl, show ((2 : Nat) : Int) = 2 from rfl] at hS1
   have n3 := Qk l (a + 1) (most := 3) (by decide)
   clear hE2x hE1x hsm1 hsm2 hrq1 hrq2
   refine ⟨(.mk 22 (atI l (a + 1) 3) (0) ks, b1, M1), ?_, fun g B hg => ?_⟩
   ·refine ⟨QV ⟨5, 0, 2, 0, [4], 0, 0, 0⟩ rfl (by decide) (by decide) (by dsimp only;omega) (by dsimp only;omega) (by first|(simp;done)|(simp;omega)) (qN 1 hln (by decide) f1), ?_, ?_, ?_, ?_, ?_⟩
    ·rw [Qy];(try simp only [QD]);omega
    ·rw [Qe];(try simp only [Qo]);omega
    ·dsimp only;omega
    ·dsimp only;omega
    ·dsimp only;omega
   ·refine Qa Tryz.func80 rfl Tryz.ntmps80 rfl (t := [(0, .ptr 0 g 0), (1, .i dd)]) rfl fun E0 hE0 => ?_
    (repeat' first|(refine QH ?_;(first|refine Wu rfl ?_|refine WJ rfl ?_|refine Qc rfl rfl rfl ?_|(refine Qr ?_;(first|refine WE rfl rfl (by omega) ?_|refine WI rfl rfl ?_|refine Wg rfl rfl ?_))|(refine QC ?_;(first|refine Q9 0 (QR l hl _ _ _ (by omega) (by omega)) rfl rfl rfl rfl ?_|refine Q9 0 (hS1) rfl rfl rfl rfl ?_))|refine Zf rfl rfl ?_|(refine QI ?_;(first|refine Zg rfl rfl rfl rfl ?_|refine QA rfl rfl rfl rfl (by rfl) (by rfl) (by rfl) ?_))|refine Qd rfl rfl ?_|refine Qq rfl rfl ?_|refine Qh rfl rfl ?_|refine Qw (fun _ _ => ?_)))|(refine QZ ?_;(first|refine QX ?_|refine WT rfl ?_|refine Wf ?_|refine Zx rfl rfl rfl rfl ?_|refine Q0 rfl rfl (by omega) ?_))|(refine QY ?_;(first|refine QW ?_|refine Ql ?_|refine Qu ?_|refine QQ ?_|refine Qn rfl (by omega) ?_|refine Qm rfl (by omega) ?_|refine Q2 ?_)))
    refine e_1 (Tryz.results80) (Qf (size := 4) rfl rfl rfl rfl) ?_
    rw [Qp]
    exact ZM (by first|rfl|(simp [Qt, Q1];try rfl)) rfl
  ·have hS1 := hsm2 1 (by omega) (a + 1) (L - 1) ⟨by omega, by omega, by omega, by omega⟩ (by omega)
   have hq := hrq2 1 (a + 1) (L - 1) (by omega) ⟨by omega, by omega, by omega, by omega⟩ (by omega)
   have hln := Wr E2 1 (a + 1) (L - 1)
   obtain ⟨f1, d1, s1, w1, m1, u1⟩ := hq
   generalize Zw E2 1 (a + 1) (L - 1) = T at *
   obtain ⟨ks, b1, M1⟩ := T
   dsimp only at *
   have hdl := Q8 d1
   rw [show ((1 : Nat) : Int) = 1 from rfl, show ((2 : Nat) : Int) = 2 from rfl] at hS1
   clear hE2x hE1x hsm1 hsm2 hrq1 hrq2
   refine ⟨(.mk 24 (0) (0) ks, b1, M1), ?_, fun g B hg => ?_⟩
   ·refine ⟨QV ⟨5, 0, 0, 0, [4], 0, 0, 0⟩ rfl (by decide) (by decide) (by dsimp only;omega) (by dsimp only;omega) (by first|(simp;done)|(simp;omega)) (qN 1 hln (by decide) f1), ?_, ?_, ?_, ?_, ?_⟩
    ·rw [Qy];(try simp only [QD]);omega
    ·rw [Qe];(try simp only [Qo]);omega
    ·dsimp only;omega
    ·dsimp only;omega
    ·dsimp only;omega
   ·refine Qa Tryz.func80 rfl Tryz.ntmps80 rfl (t := [(0, .ptr 0 g 0), (1, .i dd)]) rfl fun E0 hE0 => ?_
    (repeat' first|(refine QH ?_;(first|refine Wu rfl ?_|refine WJ rfl ?_|refine Qc rfl rfl rfl ?_|(refine Qr ?_;(first|refine WE rfl rfl (by omega) ?_|refine WI rfl rfl ?_|refine Wg rfl rfl ?_))|(refine QC ?_;(first|refine Q9 0 (QR l hl _ _ _ (by omega) (by omega)) rfl rfl rfl rfl ?_|refine Q9 0 (hS1) rfl rfl rfl rfl ?_))|refine Zf rfl rfl ?_|(refine QI ?_;(first|refine Zg rfl rfl rfl rfl ?_|refine QA rfl rfl rfl rfl (by rfl) (by rfl) (by rfl) ?_))|refine Qd rfl rfl ?_|refine Qq rfl rfl ?_|refine Qh rfl rfl ?_|refine Qw (fun _ _ => ?_)))|(refine QZ ?_;(first|refine QX ?_|refine WT rfl ?_|refine Wf ?_|refine Zx rfl rfl rfl rfl ?_|refine Q0 rfl rfl (by omega) ?_))|(refine QY ?_;(first|refine QW ?_|refine Ql ?_|refine Qu ?_|refine QQ ?_|refine Qn rfl (by omega) ?_|refine Qm rfl (by omega) ?_|refine Q2 ?_)))
    refine e_1 (Tryz.results80) (Qf (size := 4) rfl rfl rfl rfl) ?_
    rw [Qp]
    exact ZM (by first|rfl|(simp [Qt, Q1];try rfl)) rfl
  ·have hS1 := hsm1 2 (by omega) (a + 1 + 1) (L - 1) ⟨by omega, by omega, by omega, by omega⟩ (by omega)
   have hq := hrq1 2 (a + 1 + 1) (L - 1) (by omega) ⟨by omega, by omega, by omega, by omega⟩ (by omega)
   have hln := Wr E1 2 (a + 1 + 1) (L - 1)
   obtain ⟨f1, d1, s1, w1, m1, u1⟩ := hq
   generalize Zw E1 2 (a + 1 + 1) (L - 1) = T at *
   obtain ⟨ks, b1, M1⟩ := T
   dsimp only at *
   have hdl := Q8 d1
   rw [show ((2 : Nat) : Int) = 2 from rfl, show ((1 : Nat) : Int) = 1 from rfl] at hS1
   have n6 := Qk l (a + 1) (most := 6) (by decide)
   clear hE2x hE1x hsm1 hsm2 hrq1 hrq2
   refine ⟨(.mk 15 (atI l (a + 1) 6) (0) ks, b1, M1), ?_, fun g B hg => ?_⟩
   ·refine ⟨QV ⟨5, 0, 5, 0, [4, 4], 0, 0, 0⟩ rfl (by decide) (by decide) (by dsimp only;omega) (by dsimp only;omega) (by first|(simp;done)|(simp;omega)) (qN 2 hln (by decide) f1), ?_, ?_, ?_, ?_, ?_⟩
    ·rw [Qy];(try simp only [QD]);omega
    ·rw [Qe];(try simp only [Qo]);omega
    ·dsimp only;omega
    ·dsimp only;omega
    ·dsimp only;omega
   ·refine Qa Tryz.func80 rfl Tryz.ntmps80 rfl (t := [(0, .ptr 0 g 0), (1, .i dd)]) rfl fun E0 hE0 => ?_
    (repeat' first|(refine QH ?_;(first|refine Wu rfl ?_|refine WJ rfl ?_|refine Qc rfl rfl rfl ?_|(refine Qr ?_;(first|refine WE rfl rfl (by omega) ?_|refine WI rfl rfl ?_|refine Wg rfl rfl ?_))|(refine QC ?_;(first|refine Q9 0 (QR l hl _ _ _ (by omega) (by omega)) rfl rfl rfl rfl ?_|refine Q9 0 (hS1) rfl rfl rfl rfl ?_))|refine Zf rfl rfl ?_|(refine QI ?_;(first|refine Zg rfl rfl rfl rfl ?_|refine QA rfl rfl rfl rfl (by rfl) (by rfl) (by rfl) ?_))|refine Qd rfl rfl ?_|refine Qq rfl rfl ?_|refine Qh rfl rfl ?_|refine Qw (fun _ _ => ?_)))|(refine QZ ?_;(first|refine QX ?_|refine WT rfl ?_|refine Wf ?_|refine Zx rfl rfl rfl rfl ?_|refine Q0 rfl rfl (by omega) ?_))|(refine QY ?_;(first|refine QW ?_|refine Ql ?_|refine Qu ?_|refine QQ ?_|refine Qn rfl (by omega) ?_|refine Qm rfl (by omega) ?_|refine Q2 ?_)))
    refine e_1 (Tryz.results80) (Qf (size := 4) rfl rfl rfl rfl) ?_
    rw [Qp]
    exact ZM (by first|rfl|(simp [Qt, Q1];try rfl)) rfl
  ·have hS1 := hsm2 1 (by omega) (a + 1 + 1 + 1) (L - 1) ⟨by omega, by omega, by omega, by omega⟩ (by omega)
   have hq := hrq2 1 (a + 1 + 1 + 1) (L - 1) (by omega) ⟨by omega, by omega, by omega, by omega⟩ (by omega)
   have hln := Wr E2 1 (a + 1 + 1 + 1) (L - 1)
   obtain ⟨f1, d1, s1, w1, m1, u1⟩ := hq
   generalize Zw E2 1 (a + 1 + 1 + 1) (L - 1) = T at *
   obtain ⟨ks, b1, M1⟩ := T
   dsimp only at *
   have hdl := Q8 d1
   rw [show ((1 : Nat) : Int) = 1 from rfl, show ((2 : Nat) : Int) = 2 from rfl] at hS1
   have n6 := Qk l (a + 1) (most := 6) (by decide)
   have m3 := Qk l (a + 1 + 1) (most := 3) (by decide)
   clear hE2x hE1x hsm1 hsm2 hrq1 hrq2
   refine ⟨(.mk 16 (atI l (a + 1) 6) (atI l (a + 1 + 1) 3) ks, b1, M1), ?_, fun g B hg => ?_⟩
   ·refine ⟨QV ⟨5, 0, 5, 2, [4], 0, 0, 0⟩ rfl (by decide) (by decide) (by dsimp only;omega) (by dsimp only;omega) (by first|(simp;done)|(simp;omega)) (qN 1 hln (by decide) f1), ?_, ?_, ?_, ?_, ?_⟩
    ·rw [Qy];(try simp only [QD]);omega
    ·rw [Qe];(try simp only [Qo]);omega
    ·dsimp only;omega
    ·dsimp only;omega
    ·dsimp only;omega
   ·refine Qa Tryz.func80 rfl Tryz.ntmps80 rfl (t := [(0, .ptr 0 g 0), (1, .i dd)]) rfl fun E0 hE0 => ?_
    (repeat' first|(refine QH ?_;(first|refine Wu rfl ?_|refine WJ rfl ?_|refine Qc rfl rfl rfl ?_|(refine Qr ?_;(first|refine WE rfl rfl (by omega) ?_|refine WI rfl rfl ?_|refine Wg rfl rfl ?_))|(refine QC ?_;(first|refine Q9 0 (QR l hl _ _ _ (by omega) (by omega)) rfl rfl rfl rfl ?_|refine Q9 0 (hS1) rfl rfl rfl rfl ?_))|refine Zf rfl rfl ?_|(refine QI ?_;(first|refine Zg rfl rfl rfl rfl ?_|refine QA rfl rfl rfl rfl (by rfl) (by rfl) (by rfl) ?_))|refine Qd rfl rfl ?_|refine Qq rfl rfl ?_|refine Qh rfl rfl ?_|refine Qw (fun _ _ => ?_)))|(refine QZ ?_;(first|refine QX ?_|refine WT rfl ?_|refine Wf ?_|refine Zx rfl rfl rfl rfl ?_|refine Q0 rfl rfl (by omega) ?_))|(refine QY ?_;(first|refine QW ?_|refine Ql ?_|refine Qu ?_|refine QQ ?_|refine Qn rfl (by omega) ?_|refine Qm rfl (by omega) ?_|refine Q2 ?_)))
    refine e_1 (Tryz.results80) (Qf (size := 4) rfl rfl rfl rfl) ?_
    rw [Qp]
    exact ZM (by first|rfl|(simp [Qt, Q1];try rfl)) rfl
  ·clear hE2x hE1x hsm1 hsm2 hrq1 hrq2
   refine ⟨(.mk 25 (0) (0) [], a + 1, L - 1), ?_, fun g B hg => ?_⟩
   ·refine ⟨QV ⟨5, 0, 0, 0, [], 0, 0, 0⟩ rfl (by decide) (by decide) (by dsimp only;omega) (by dsimp only;omega) (by first|(simp;done)|(simp;omega)) (qa), ?_, ?_, ?_, ?_, ?_⟩
    ·rw [Qy];(try simp only [QD]);omega
    ·rw [Qe];(try simp only [Qo]);omega
    ·dsimp only;omega
    ·dsimp only;omega
    ·dsimp only;omega
   ·refine Qa Tryz.func80 rfl Tryz.ntmps80 rfl (t := [(0, .ptr 0 g 0), (1, .i dd)]) rfl fun E0 hE0 => ?_
    (repeat' first|(refine QH ?_;(first|refine Wu rfl ?_|refine WJ rfl ?_|refine Qc rfl rfl rfl ?_|(refine Qr ?_;(first|refine WE rfl rfl (by omega) ?_|refine WI rfl rfl ?_|refine Wg rfl rfl ?_))|refine Q9 0 (QR l hl _ _ _ (by omega) (by omega)) rfl rfl rfl rfl ?_|refine Zf rfl rfl ?_|(refine QI ?_;(first|refine Zg rfl rfl rfl rfl ?_|refine QA rfl rfl rfl rfl (by rfl) (by rfl) (by rfl) ?_))|refine Qd rfl rfl ?_|refine Qq rfl rfl ?_|refine Qh rfl rfl ?_|refine Qw (fun _ _ => ?_)))|(refine QZ ?_;(first|refine QX ?_|refine WT rfl ?_|refine Wf ?_|refine Zx rfl rfl rfl rfl ?_|refine Q0 rfl rfl (by omega) ?_))|(refine QY ?_;(first|refine QW ?_|refine Ql ?_|refine Qu ?_|refine QQ ?_|refine Qn rfl (by omega) ?_|refine Qm rfl (by omega) ?_|refine Q2 ?_)))
    exact e_1 (Tryz.results80) (Qf (size := 4) rfl rfl rfl rfl) (Q5 (es := 4) (.node rfl rfl rfl) (by show _ = DV.agg (Enc.enc (Nd.mk _ _ _ []));rw [Qp];rfl) rfl)
  ·have hb := Qk l (a + 1 + 1) (most := 4) (by decide)
   obtain ⟨N, hN⟩ : ∃ N : Nat, atI l (a + 1 + 1) 4 = (N : Int) := ⟨(atI l (a + 1 + 1) 4).toNat, by omega⟩
   have hnum := QR (G := G) l hl (a + 1 + 1) (L - 1) 4 (by omega) (by omega)
   rw [hN] at hnum
   have hS1 := hsm1 N (by omega) (a + 1 + 1 + 1) (L - 1) ⟨by omega, by omega, by omega, by omega⟩ (by omega)
   have hq := hrq1 N (a + 1 + 1 + 1) (L - 1) (by omega) ⟨by omega, by omega, by omega, by omega⟩ (by omega)
   have hln := Wr E1 N (a + 1 + 1 + 1) (L - 1)
   obtain ⟨f1, d1, s1, w1, m1, u1⟩ := hq
   generalize Zw E1 N (a + 1 + 1 + 1) (L - 1) = T at *
   obtain ⟨ks, b1, M1⟩ := T
   dsimp only at *
   have hdl := Q8 d1
   rw [show ((1 : Nat) : Int) = 1 from rfl] at hS1
   have n6 := Qk l (a + 1) (most := 6) (by decide)
   clear hE2x hE1x hsm1 hsm2 hrq1 hrq2
   refine ⟨(.mk 23 (atI l (a + 1) 6) (0) ks, b1, M1), ?_, fun g B hg => ?_⟩
   ·refine ⟨QV ⟨5, 0, 5, 0, [], 3, 0, 4⟩ rfl (by decide) (by decide) (by dsimp only;omega) (by dsimp only;omega) (by first|(simp;done)|(simp;omega)) (kidsA rfl f1), ?_, ?_, ?_, ?_, ?_⟩
    ·rw [Qy];(try simp only [QD]);omega
    ·rw [Qe];(try simp only [Qo]);omega
    ·dsimp only;omega
    ·dsimp only;omega
    ·dsimp only;omega
   ·refine Qa Tryz.func80 rfl Tryz.ntmps80 rfl (t := [(0, .ptr 0 g 0), (1, .i dd)]) rfl fun E0 hE0 => ?_
    (repeat' first|(refine QH ?_;(first|refine Wu rfl ?_|refine WJ rfl ?_|refine Qc rfl rfl rfl ?_|(refine Qr ?_;(first|refine WE rfl rfl (by omega) ?_|refine WI rfl rfl ?_|refine Wg rfl rfl ?_))|(refine QC ?_;(first|refine Q9 0 (hnum) rfl rfl rfl rfl ?_|refine Q9 0 (QR l hl _ _ _ (by omega) (by omega)) rfl rfl rfl rfl ?_|refine Q9 0 (hS1) rfl rfl rfl rfl ?_))|refine Zf rfl rfl ?_|(refine QI ?_;(first|refine Zg rfl rfl rfl rfl ?_|refine QA rfl rfl rfl rfl (by rfl) (by rfl) (by rfl) ?_))|refine Qd rfl rfl ?_|refine Qq rfl rfl ?_|refine Qh rfl rfl ?_|refine Qw (fun _ _ => ?_)))|(refine QZ ?_;(first|refine QX ?_|refine WT rfl ?_|refine Wf ?_|refine Zx rfl rfl rfl rfl ?_|refine Q0 rfl rfl (by omega) ?_))|(refine QY ?_;(first|refine QW ?_|refine Ql ?_|refine Qu ?_|refine QQ ?_|refine Qn rfl (by omega) ?_|refine Qm rfl (by omega) ?_|refine Q2 ?_)))
    refine e_1 (Tryz.results80) (Qf (size := 4) rfl rfl rfl rfl) ?_
    rw [Qp]
    exact ZM (by first|rfl|(simp [Qt, Q1];try rfl)) rfl
theorem mkLow (l : List Int) (hl : OkI l) (E2 E1 : GenF) (hE2x : ∀ a L, preE a L -> QE 4 3 1 4 (E2 a L).1 a L (E2 a L).2.1 (E2 a L).2.2 /\ CE Tryz.prog G 128 (fun p g => [.ptr p g 0, .i 2]) (Za l a L) (.agg (Enc.enc (E2 a L).1)) (Za l (E2 a L).2.1 (E2 a L).2.2))
  (hE1x : ∀ a L, preE a L -> QE 4 2 1 2 (E1 a L).1 a L (E1 a L).2.1 (E1 a L).2.2 /\ CE Tryz.prog G 128 (fun p g => [.ptr p g 0, .i 1]) (Za l a L) (.agg (Enc.enc (E1 a L).1)) (Za l (E1 a L).2.1 (E1 a L).2.2)) (e : Nat) (he : ((e : Nat) : Int) - 1 <= 0) : (∃ S : GenF, ∀ a L, preS a L -> QE 5 (2 * (e) + 4) 5 (7 + ((e : Nat) : Int)) (S a L).1 a L (S a L).2.1 (S a L).2.2 /\ CE Tryz.prog G 80 (fun p g => [.ptr p g 0, .i (((e : Nat) : Int) - 1)]) (Za l a L) (.agg (Enc.enc (S a L).1)) (Za l (S a L).2.1 (S a L).2.2)) := by
 refine Zt (pre := preS) (R := fun a L t => QE 5 (2 * e + 4) 5 (7 + (e : Nat)) t.1 a L t.2.1 t.2.2 /\ CE Tryz.prog G 80 (fun p g => [.ptr p g 0, .i (((e : Nat) : Int) - 1)]) (Za l a L) (.agg (Enc.enc t.1)) (Za l t.2.1 t.2.2)) fun a L h => ?_
 have bx := Qk l a (most := 14) (by decide)
 obtain ⟨t, hq, hc⟩ := mkLeafS l hl E2 E1 hE2x hE1x (((e : Nat) : Int) - 1) a L (atI l a 14 % 8) h (.inl ⟨he, rfl⟩) (by omega)
 have q1 := hq.low
 have q2 := hq.dep
 exact ⟨t, ⟨hq.fit, by omega, hq.size, by omega, hq.mono, hq.used⟩, hc⟩
theorem mkStep (l : List Int) (hl : OkI l) (E2 E1 : GenF) (hE2x : ∀ a L, preE a L -> QE 4 3 1 4 (E2 a L).1 a L (E2 a L).2.1 (E2 a L).2.2 /\ CE Tryz.prog G 128 (fun p g => [.ptr p g 0, .i 2]) (Za l a L) (.agg (Enc.enc (E2 a L).1)) (Za l (E2 a L).2.1 (E2 a L).2.2))
  (hE1x : ∀ a L, preE a L -> QE 4 2 1 2 (E1 a L).1 a L (E1 a L).2.1 (E1 a L).2.2 /\ CE Tryz.prog G 128 (fun p g => [.ptr p g 0, .i 1]) (Za l a L) (.agg (Enc.enc (E1 a L).1)) (Za l (E1 a L).2.1 (E1 a L).2.2)) (e : Nat) (he : e <= 6) (Bk0 Bk1 : GenF)
  (hBk0 : ∀ a L, preB a L -> QE 6 (2 * e + 5) 1 (7 + e) (Bk0 a L).1 a L (Bk0 a L).2.1 (Bk0 a L).2.2 /\ CE Tryz.prog G 39 (fun p g => [.ptr p g 0, .i (e : Nat)]) (Za l a L) (.agg (Enc.enc (Bk0 a L).1)) (Za l (Bk0 a L).2.1 (Bk0 a L).2.2))
  (hBk1 : ∀ a L, preB a L -> QE 6 (2 * (e + 1) + 5) 1 (7 + (e + 1 : Nat)) (Bk1 a L).1 a L (Bk1 a L).2.1 (Bk1 a L).2.2 /\ CE Tryz.prog G 39 (fun p g => [.ptr p g 0, .i (e + 1 : Nat)]) (Za l a L) (.agg (Enc.enc (Bk1 a L).1)) (Za l (Bk1 a L).2.1 (Bk1 a L).2.2)) : (∃ S : GenF, ∀ a L, preS a L -> QE 5 (2 * (e + 2) + 4) 5 (7 + ((e + 2 : Nat) : Int)) (S a L).1 a L (S a L).2.1 (S a L).2.2 /\ CE Tryz.prog G 80 (fun p g => [.ptr p g 0, .i (((e + 2 : Nat) : Int) - 1)]) (Za l a L) (.agg (Enc.enc (S a L).1)) (Za l (S a L).2.1 (S a L).2.2)) := by
 refine Zt (pre := preS) (R := fun a L t => QE 5 (2 * (e + 2) + 4) 5 (7 + (e + 2 : Nat)) t.1 a L t.2.1 t.2.2 /\ CE Tryz.prog G 80 (fun p g => [.ptr p g 0, .i (((e + 2 : Nat) : Int) - 1)]) (Za l a L) (.agg (Enc.enc t.1)) (Za l t.2.1 t.2.2)) fun a L h => ?_
 have bx := Qk l a (most := 14) (by decide)
 have lift : (∃ t : Nd × Int × Int, QE 5 4 5 7 t.1 a L t.2.1 t.2.2 /\ CE Tryz.prog G 80 (fun p g => [.ptr p g 0, .i (((e + 2 : Nat) : Int) - 1)]) (Za l a L) (.agg (Enc.enc t.1)) (Za l t.2.1 t.2.2)) -> ∃ t : Nd × Int × Int, QE 5 (2 * (e + 2) + 4) 5 (7 + (e + 2 : Nat)) t.1 a L t.2.1 t.2.2 /\ CE Tryz.prog G 80 (fun p g => [.ptr p g 0, .i (((e + 2 : Nat) : Int) - 1)]) (Za l a L) (.agg (Enc.enc t.1)) (Za l t.2.1 t.2.2) := fun ⟨t, hq, hc⟩ => by
  have q1 := hq.low
  have q2 := hq.dep
  exact ⟨t, ⟨hq.fit, by omega, hq.size, by omega, hq.mono, hq.used⟩, hc⟩
 by_cases hlf : L - 1 <= 0
 ·exact lift (mkLeafS l hl E2 E1 hE2x hE1x _ a L (atI l a 14 % 8) h (.inr (.inl ⟨by omega, hlf, rfl⟩)) (by omega))
 by_cases hx9 : atI l a 14 <= 8
 ·exact lift (mkLeafS l hl E2 E1 hE2x hE1x _ a L (atI l a 14) h (.inr (.inr ⟨by omega, by omega, rfl⟩)) (by omega))
 clear lift
 obtain ⟨p1, p2, p3, p4⟩ := h
 have hed : ((e + 2 : Nat) : Int) - 1 = (e + 1 : Nat) := by omega
 have hd1 : ((e + 1 : Nat) : Int) - 1 = (e : Nat) := by omega
 have hd0 : ¬ (((e + 1 : Nat) : Int) <= 0) := by omega
 rw [hed]
 have hxx : atI l a 14 = 9 \/ atI l a 14 = 10 \/ atI l a 14 = 11 \/ atI l a 14 = 12 \/ atI l a 14 = 13 := by omega
 generalize hdd : ((e + 1 : Nat) : Int) = dd at *
 rcases hxx with hx|hx|hx|hx|hx
 ·obtain ⟨hqv1, hE1⟩ := hE2x (a + 1) (L - 1) ⟨by omega, by omega, by omega, by omega⟩
  obtain ⟨fv1, dv1, sv1, wv1, mv1, uv1⟩ := hqv1
  generalize E2 (a + 1) (L - 1) = tv1 at *
  obtain ⟨v1, b1, M1⟩ := tv1
  dsimp only at *
  have spv1 := Qz v1
  obtain ⟨hqw1, hB1⟩ := hBk0 (b1) (M1) ⟨by omega, by omega, by omega, by omega⟩
  obtain ⟨fw1, dw1, sw1, ww1, mw1, uw1⟩ := hqw1
  generalize Bk0 (b1) (M1) = tw1 at *
  obtain ⟨w1, c1, K1⟩ := tw1
  dsimp only at *
  have spw1 := Qz w1
  obtain ⟨hqw2, hB2⟩ := hBk0 (c1) (K1) ⟨by omega, by omega, by omega, by omega⟩
  obtain ⟨fw2, dw2, sw2, ww2, mw2, uw2⟩ := hqw2
  generalize Bk0 (c1) (K1) = tw2 at *
  obtain ⟨w2, c2, K2⟩ := tw2
  dsimp only at *
  have spw2 := Qz w2
  clear hE2x hE1x hBk0 hBk1
  refine ⟨(.mk 17 (0) (0) [v1, w1, w2], c2, K2), ?_, fun g B hg => ?_⟩
  ·refine ⟨QV ⟨5, 0, 0, 0, [4, 6, 6], 0, 0, 0⟩ rfl (by decide) (by decide) (by dsimp only;omega) (by dsimp only;omega) (by first|(simp;done)|(simp;omega)) (kids3 fv1 fw1 fw2), ?_, ?_, ?_, ?_, ?_⟩
   ·rw [Qy];(try simp only [QD]);omega
   ·rw [Qe];(try simp only [Qo]);omega
   ·dsimp only;omega
   ·dsimp only;omega
   ·dsimp only;omega
  ·refine Qa Tryz.func80 rfl Tryz.ntmps80 rfl (t := [(0, .ptr 0 g 0), (1, .i dd)]) rfl fun E0 hE0 => ?_
   (repeat' first|(refine QH ?_;(first|refine Wu rfl ?_|refine WJ rfl ?_|refine Qc rfl rfl rfl ?_|(refine Qr ?_;(first|refine Zm rfl rfl hd1 ⟨by omega, by omega⟩ ?_|refine WE rfl rfl (by omega) ?_|refine WI rfl rfl ?_|refine Wg rfl rfl ?_))|(refine QC ?_;(first|refine Q9 0 (QR l hl _ _ _ (by omega) (by omega)) rfl rfl rfl rfl ?_|refine Q9 0 (hE1) rfl rfl rfl rfl ?_|refine Q9 0 (hB1) rfl rfl rfl rfl ?_|refine Q9 0 (hB2) rfl rfl rfl rfl ?_))|refine Zf rfl rfl ?_|(refine QI ?_;(first|refine Zg rfl rfl rfl rfl ?_|refine QA rfl rfl rfl rfl (by rfl) (by rfl) (by rfl) ?_))|refine s_bslice_three (x := v1) (y := w1) (z := w2) rfl rfl (by decide) ?_|refine Qd rfl rfl ?_|refine Qq rfl rfl ?_|refine Qh rfl rfl ?_|refine Qw (fun _ _ => ?_)))|(refine QZ ?_;(first|refine QX ?_|refine WT rfl ?_|refine Wf ?_|refine Zx rfl rfl rfl rfl ?_|refine Q0 rfl rfl (by omega) ?_))|(refine QY ?_;(first|refine QW ?_|refine Ql ?_|refine Qu ?_|refine QQ ?_|refine Qn rfl (by omega) ?_|refine Qm rfl (by omega) ?_|refine Q2 ?_)))
   refine e_1 (Tryz.results80) (Qf (size := 4) rfl rfl rfl rfl) ?_
   rw [Qp]
   exact ZM (by first|rfl|(simp [Qt, Q1];try rfl)) rfl
 ·obtain ⟨hqv1, hE1⟩ := hE2x (a + 1) (L - 1) ⟨by omega, by omega, by omega, by omega⟩
  obtain ⟨fv1, dv1, sv1, wv1, mv1, uv1⟩ := hqv1
  generalize E2 (a + 1) (L - 1) = tv1 at *
  obtain ⟨v1, b1, M1⟩ := tv1
  dsimp only at *
  have spv1 := Qz v1
  obtain ⟨hqw1, hB1⟩ := hBk0 (b1) (M1) ⟨by omega, by omega, by omega, by omega⟩
  obtain ⟨fw1, dw1, sw1, ww1, mw1, uw1⟩ := hqw1
  generalize Bk0 (b1) (M1) = tw1 at *
  obtain ⟨w1, c1, K1⟩ := tw1
  dsimp only at *
  have spw1 := Qz w1
  obtain ⟨hqw2, hB2⟩ := hBk0 (c1) (K1) ⟨by omega, by omega, by omega, by omega⟩
  obtain ⟨fw2, dw2, sw2, ww2, mw2, uw2⟩ := hqw2
  generalize Bk0 (c1) (K1) = tw2 at *
  obtain ⟨w2, c2, K2⟩ := tw2
  dsimp only at *
  have spw2 := Qz w2
  clear hE2x hE1x hBk0 hBk1
  refine ⟨(.mk 17 (0) (0) [v1, w1, w2], c2, K2), ?_, fun g B hg => ?_⟩
  ·refine ⟨QV ⟨5, 0, 0, 0, [4, 6, 6], 0, 0, 0⟩ rfl (by decide) (by decide) (by dsimp only;omega) (by dsimp only;omega) (by first|(simp;done)|(simp;omega)) (kids3 fv1 fw1 fw2), ?_, ?_, ?_, ?_, ?_⟩
   ·rw [Qy];(try simp only [QD]);omega
   ·rw [Qe];(try simp only [Qo]);omega
   ·dsimp only;omega
   ·dsimp only;omega
   ·dsimp only;omega
  ·refine Qa Tryz.func80 rfl Tryz.ntmps80 rfl (t := [(0, .ptr 0 g 0), (1, .i dd)]) rfl fun E0 hE0 => ?_
   (repeat' first|(refine QH ?_;(first|refine Wu rfl ?_|refine WJ rfl ?_|refine Qc rfl rfl rfl ?_|(refine Qr ?_;(first|refine Zm rfl rfl hd1 ⟨by omega, by omega⟩ ?_|refine WE rfl rfl (by omega) ?_|refine WI rfl rfl ?_|refine Wg rfl rfl ?_))|(refine QC ?_;(first|refine Q9 0 (QR l hl _ _ _ (by omega) (by omega)) rfl rfl rfl rfl ?_|refine Q9 0 (hE1) rfl rfl rfl rfl ?_|refine Q9 0 (hB1) rfl rfl rfl rfl ?_|refine Q9 0 (hB2) rfl rfl rfl rfl ?_))|refine Zf rfl rfl ?_|(refine QI ?_;(first|refine Zg rfl rfl rfl rfl ?_|refine QA rfl rfl rfl rfl (by rfl) (by rfl) (by rfl) ?_))|refine s_bslice_three (x := v1) (y := w1) (z := w2) rfl rfl (by decide) ?_|refine Qd rfl rfl ?_|refine Qq rfl rfl ?_|refine Qh rfl rfl ?_|refine Qw (fun _ _ => ?_)))|(refine QZ ?_;(first|refine QX ?_|refine WT rfl ?_|refine Wf ?_|refine Zx rfl rfl rfl rfl ?_|refine Q0 rfl rfl (by omega) ?_))|(refine QY ?_;(first|refine QW ?_|refine Ql ?_|refine Qu ?_|refine QQ ?_|refine Qn rfl (by omega) ?_|refine Qm rfl (by omega) ?_|refine Q2 ?_)))
   refine e_1 (Tryz.results80) (Qf (size := 4) rfl rfl rfl rfl) ?_
   rw [Qp]
   exact ZM (by first|rfl|(simp [Qt, Q1];try rfl)) rfl
 ·obtain ⟨hqv1, hE1⟩ := hE2x (a + 1) (L - 1) ⟨by omega, by omega, by omega, by omega⟩
  obtain ⟨fv1, dv1, sv1, wv1, mv1, uv1⟩ := hqv1
  generalize E2 (a + 1) (L - 1) = tv1 at *
  obtain ⟨v1, b1, M1⟩ := tv1
  dsimp only at *
  have spv1 := Qz v1
  obtain ⟨hqw1, hB1⟩ := hBk0 (b1) (M1) ⟨by omega, by omega, by omega, by omega⟩
  obtain ⟨fw1, dw1, sw1, ww1, mw1, uw1⟩ := hqw1
  generalize Bk0 (b1) (M1) = tw1 at *
  obtain ⟨w1, c1, K1⟩ := tw1
  dsimp only at *
  have spw1 := Qz w1
  clear hE2x hE1x hBk0 hBk1
  refine ⟨(.mk 18 (0) (0) [v1, w1], c1, K1), ?_, fun g B hg => ?_⟩
  ·refine ⟨QV ⟨5, 0, 0, 0, [4, 6], 0, 0, 0⟩ rfl (by decide) (by decide) (by dsimp only;omega) (by dsimp only;omega) (by first|(simp;done)|(simp;omega)) (kids2 fv1 fw1), ?_, ?_, ?_, ?_, ?_⟩
   ·rw [Qy];(try simp only [QD]);omega
   ·rw [Qe];(try simp only [Qo]);omega
   ·dsimp only;omega
   ·dsimp only;omega
   ·dsimp only;omega
  ·refine Qa Tryz.func80 rfl Tryz.ntmps80 rfl (t := [(0, .ptr 0 g 0), (1, .i dd)]) rfl fun E0 hE0 => ?_
   (repeat' first|(refine QH ?_;(first|refine Wu rfl ?_|refine WJ rfl ?_|refine Qc rfl rfl rfl ?_|(refine Qr ?_;(first|refine Zm rfl rfl hd1 ⟨by omega, by omega⟩ ?_|refine WE rfl rfl (by omega) ?_|refine WI rfl rfl ?_|refine Wg rfl rfl ?_))|(refine QC ?_;(first|refine Q9 0 (QR l hl _ _ _ (by omega) (by omega)) rfl rfl rfl rfl ?_|refine Q9 0 (hE1) rfl rfl rfl rfl ?_|refine Q9 0 (hB1) rfl rfl rfl rfl ?_))|refine Zf rfl rfl ?_|(refine QI ?_;(first|refine Zg rfl rfl rfl rfl ?_|refine QA rfl rfl rfl rfl (by rfl) (by rfl) (by rfl) ?_))|refine Zj (y := v1) (z := w1) rfl rfl (by decide) ?_|refine Qd rfl rfl ?_|refine Qq rfl rfl ?_|refine Qh rfl rfl ?_|refine Qw (fun _ _ => ?_)))|(refine QZ ?_;(first|refine QX ?_|refine WT rfl ?_|refine Wf ?_|refine Zx rfl rfl rfl rfl ?_|refine Q0 rfl rfl (by omega) ?_))|(refine QY ?_;(first|refine QW ?_|refine Ql ?_|refine Qu ?_|refine QQ ?_|refine Qn rfl (by omega) ?_|refine Qm rfl (by omega) ?_|refine Q2 ?_)))
   refine e_1 (Tryz.results80) (Qf (size := 4) rfl rfl rfl rfl) ?_
   rw [Qp]
   exact ZM (by first|rfl|(simp [Qt, Q1];try rfl)) rfl
 ·have n6 := Qk l (a + 1) (most := 6) (by decide)
  obtain ⟨hqw1, hB1⟩ := hBk0 (a + 1 + 1) (L - 1) ⟨by omega, by omega, by omega, by omega⟩
  obtain ⟨fw1, dw1, sw1, ww1, mw1, uw1⟩ := hqw1
  generalize Bk0 (a + 1 + 1) (L - 1) = tw1 at *
  obtain ⟨w1, c1, K1⟩ := tw1
  dsimp only at *
  have spw1 := Qz w1
  obtain ⟨hqw2, hB2⟩ := hBk0 (c1) (K1) ⟨by omega, by omega, by omega, by omega⟩
  obtain ⟨fw2, dw2, sw2, ww2, mw2, uw2⟩ := hqw2
  generalize Bk0 (c1) (K1) = tw2 at *
  obtain ⟨w2, c2, K2⟩ := tw2
  dsimp only at *
  have spw2 := Qz w2
  clear hE2x hE1x hBk0 hBk1
  refine ⟨(.mk 21 (atI l (a + 1) 6) (0) [w1, w2], c2, K2), ?_, fun g B hg => ?_⟩
  ·refine ⟨QV ⟨5, 0, 5, 0, [6, 6], 0, 0, 0⟩ rfl (by decide) (by decide) (by dsimp only;omega) (by dsimp only;omega) (by first|(simp;done)|(simp;omega)) (kids2 fw1 fw2), ?_, ?_, ?_, ?_, ?_⟩
   ·rw [Qy];(try simp only [QD]);omega
   ·rw [Qe];(try simp only [Qo]);omega
   ·dsimp only;omega
   ·dsimp only;omega
   ·dsimp only;omega
  ·refine Qa Tryz.func80 rfl Tryz.ntmps80 rfl (t := [(0, .ptr 0 g 0), (1, .i dd)]) rfl fun E0 hE0 => ?_
   (repeat' first|(refine QH ?_;(first|refine Wu rfl ?_|refine WJ rfl ?_|refine Qc rfl rfl rfl ?_|(refine Qr ?_;(first|refine Zm rfl rfl hd1 ⟨by omega, by omega⟩ ?_|refine WE rfl rfl (by omega) ?_|refine WI rfl rfl ?_|refine Wg rfl rfl ?_))|(refine QC ?_;(first|refine Q9 0 (QR l hl _ _ _ (by omega) (by omega)) rfl rfl rfl rfl ?_|refine Q9 0 (hB1) rfl rfl rfl rfl ?_|refine Q9 0 (hB2) rfl rfl rfl rfl ?_))|refine Zf rfl rfl ?_|(refine QI ?_;(first|refine Zg rfl rfl rfl rfl ?_|refine QA rfl rfl rfl rfl (by rfl) (by rfl) (by rfl) ?_))|refine Zj (y := w1) (z := w2) rfl rfl (by decide) ?_|refine Qd rfl rfl ?_|refine Qq rfl rfl ?_|refine Qh rfl rfl ?_|refine Qw (fun _ _ => ?_)))|(refine QZ ?_;(first|refine QX ?_|refine WT rfl ?_|refine Wf ?_|refine Zx rfl rfl rfl rfl ?_|refine Q0 rfl rfl (by omega) ?_))|(refine QY ?_;(first|refine QW ?_|refine Ql ?_|refine Qu ?_|refine QQ ?_|refine Qn rfl (by omega) ?_|refine Qm rfl (by omega) ?_|refine Q2 ?_)))
   refine e_1 (Tryz.results80) (Qf (size := 4) rfl rfl rfl rfl) ?_
   rw [Qp]
   exact ZM (by first|rfl|(simp [Qt, Q1];try rfl)) rfl
 ·obtain ⟨hqw1, hB1⟩ := hBk1 (a + 1) (L - 1) ⟨by omega, by omega, by omega, by omega⟩
  obtain ⟨fw1, dw1, sw1, ww1, mw1, uw1⟩ := hqw1
  generalize Bk1 (a + 1) (L - 1) = tw1 at *
  obtain ⟨w1, c1, K1⟩ := tw1
  dsimp only at *
  have spw1 := Qz w1
  clear hE2x hE1x hBk0 hBk1
  refine ⟨(w1, c1, K1), ⟨fit_block fw1, by dsimp only;omega, by dsimp only;omega, by dsimp only;omega, by dsimp only;omega, by dsimp only;omega⟩, fun g B hg => ?_⟩
  refine Qa Tryz.func80 rfl Tryz.ntmps80 rfl (t := [(0, .ptr 0 g 0), (1, .i dd)]) rfl fun E0 hE0 => ?_
  (repeat' first|(refine QH ?_;(first|refine Wu rfl ?_|refine WJ rfl ?_|refine Qc rfl rfl rfl ?_|(refine Qr ?_;(first|refine WE rfl rfl (by omega) ?_|refine WI rfl rfl ?_|refine Wg rfl rfl ?_))|(refine QC ?_;(first|refine Q9 0 (QR l hl _ _ _ (by omega) (by omega)) rfl rfl rfl rfl ?_|refine Q9 0 (hB1) rfl rfl rfl rfl ?_))|refine Zf rfl rfl ?_|(refine QI ?_;(first|refine Zg rfl rfl rfl rfl ?_|refine QA rfl rfl rfl rfl (by rfl) (by rfl) (by rfl) ?_))|refine Qd rfl rfl ?_|refine Qh rfl rfl ?_|refine Qw (fun _ _ => ?_)))|(refine QZ ?_;(first|refine QX ?_|refine WT rfl ?_|refine Wf ?_|refine Zx rfl rfl rfl rfl ?_|refine Q0 rfl rfl (by omega) ?_))|(refine QY ?_;(first|refine QW ?_|refine Ql ?_|refine Qu ?_|refine QQ ?_|refine Qn rfl (by omega) ?_|refine Qm rfl (by omega) ?_|refine Q2 ?_)))
  exact e_1 (Tryz.results80) (Qf (size := 4) rfl rfl (partD_nd0 _) (Enc.len _)) (ZM rfl rfl)
theorem mkStmt (l : List Int) (hl : OkI l) (e : Nat) (he : e <= 7) : (∃ S : GenF, ∀ a L, preS a L -> QE 5 (2 * (e) + 4) 5 (7 + ((e : Nat) : Int)) (S a L).1 a L (S a L).2.1 (S a L).2.2 /\ CE Tryz.prog G 80 (fun p g => [.ptr p g 0, .i (((e : Nat) : Int) - 1)]) (Za l a L) (.agg (Enc.enc (S a L).1)) (Za l (S a L).2.1 (S a L).2.2)) /\ (∃ S : GenF, ∀ a L, preS a L -> QE 5 (2 * (e + 1) + 4) 5 (7 + ((e + 1 : Nat) : Int)) (S a L).1 a L (S a L).2.1 (S a L).2.2 /\ CE Tryz.prog G 80 (fun p g => [.ptr p g 0, .i (((e + 1 : Nat) : Int) - 1)]) (Za l a L) (.agg (Enc.enc (S a L).1)) (Za l (S a L).2.1 (S a L).2.2)) := by
 obtain ⟨E2, hE2x⟩ := mkExpr (G := G) l hl 2 (by decide)
 obtain ⟨E1, hE1x⟩ := mkExpr (G := G) l hl 1 (by decide)
 induction e with
 | zero => exact ⟨mkLow l hl E2 E1 hE2x hE1x 0 (by decide), mkLow l hl E2 E1 hE2x hE1x 1 (by decide)⟩
 | succ e ih =>
  obtain ⟨h0, h1⟩ := ih (by omega)
  refine ⟨h1, ?_⟩
  obtain ⟨S0, hS0⟩ := h0
  obtain ⟨S1, hS1⟩ := h1
  obtain ⟨Bk0, hBk0⟩ := mkBlock (G := G) l hl e (by omega) S0 hS0
  obtain ⟨Bk1, hBk1⟩ := mkBlock (G := G) l hl (e + 1) (by omega) S1 hS1
  exact mkStep l hl E2 E1 hE2x hE1x e (by omega) Bk0 Bk1 hBk0 hBk1
section
variable {P : Program} {G : Nat -> DV} {B : Nat} {f : Operand -> DV} {σ : List ABlk} {K : DV -> List ABlk -> Prop} {dst : Option Tmp} {type : TypeId} {pos : String} {after : Array Edge} {gd : Option (Nat × Bool)}
theorem s_build_ndv {t : TypeId} {pl : List (Nat × Nat)} {zs : List Value} {ps : List (Nat × Operand)} {m : List (Nat × DV)} {k n mm : Int} {z : Nd} (hz0 : z = Nd.mk k n mm []) [ht : TyS P t pl] [hz : TyZ P t zs] (hp : qu f ps = some m) (hc : qF (pl[·]?) (zs.map .sc) m = some [.i k, .i n, .i mm, .sc (.slice none 0 0)]) (kk : K (.agg (Enc.enc z)) σ) :
  OpSem P G B ⟨dst, .build t ps.toArray, type, pos, after, gd⟩ f σ K := by subst hz0;exact s_build_nd hp hc kk
theorem s_geq_asR {t t' : TypeId} {x y : Operand} {a b : Int} {k1 : IntKind} {v : Bool} (hx : f x = .sc (.int k1 a)) (hy : f y = .sc (.int k1 b)) (hc : decide (b <= a) = v)
  (k : K (.sc (.bool v)) σ) : OpSem P G B ⟨dst, .binOp .geq t x y t', type, pos, after, gd⟩ f σ K := qL hx hy (by rw [hc];exact k)
theorem s_eql_asR {t t' : TypeId} {x y : Operand} {a b : Int} {k1 : IntKind} {v : Bool} (hx : f x = .sc (.int k1 a)) (hy : f y = .sc (.int k1 b)) (hc : decide (a = b) = v)
  (k : K (.sc (.bool v)) σ) : OpSem P G B ⟨dst, .binOp .eql t x y t', type, pos, after, gd⟩ f σ K := Wg hx hy (by rw [hc];exact k)
end
theorem wkSR {X W0 W1 W2 : Prop} (w0 : W0 := by exact True.intro) (w1 : W1 := by exact True.intro) (w2 : W2 := by exact True.intro) (s : (Unit -> W0) -> (Unit -> W1) -> (Unit -> W2) -> Unit -> X := by (intro w0 w1 w2 _;(repeat' first|(refine QH ?_;(first|refine Wu rfl ?_|refine WJ rfl ?_|(refine We ?_;(first|refine qj rfl rfl ?_|refine Qc rfl rfl rfl ?_))|(refine Qr ?_;(first|refine s_geq_asR rfl rfl hge ?_|refine s_eql_asR rfl rfl he1 ?_|refine s_eql_asR rfl rfl he2 ?_|refine Z4 rfl rfl (by omega) ?_|refine Zu rfl rfl ?_))|(refine QC ?_;(first|refine Zn (z := z0) rfl rfl rfl rfl rfl rfl rfl (by first|omega|(simp;omega)) (by first|omega|(simp;omega)) (fun _ => rfl) (fun _ _ => ?_)|refine Zn (z := zN) rfl rfl rfl rfl rfl rfl rfl (by first|omega|(simp;omega)) (by first|omega|(simp;omega)) (fun _ => rfl) (fun _ _ => ?_)|refine Zn (z := v1) rfl rfl rfl rfl rfl rfl rfl (by first|omega|(simp;omega)) (by first|omega|(simp;omega)) (fun _ => rfl) (fun _ _ => ?_)|refine Zn (z := fN) rfl rfl rfl rfl rfl rfl rfl (by first|omega|(simp;omega)) (by first|omega|(simp;omega)) (fun _ => rfl) (fun _ _ => ?_)|refine Q9 1 (hnumA) rfl rfl rfl rfl ?_|refine Q9 1 (hnumB) rfl rfl rfl rfl ?_|refine Q9 1 (hnumC) rfl rfl rfl rfl ?_|refine Q9 1 (hnumD) rfl rfl rfl rfl ?_|refine Q9 1 (hnumE) rfl rfl rfl rfl ?_|refine Q9 1 (hblk) rfl rfl rfl rfl ?_|refine Q9 1 (QR l hl _ _ _ (by omega) (by omega)) rfl rfl rfl rfl ?_))|(refine Wz ?_;(first|refine qb rfl rfl ?_|refine Zf rfl rfl ?_))|(refine QI ?_;(first|refine Zg rfl rfl rfl rfl ?_|refine QA rfl rfl rfl rfl (by rfl) (by rfl) (by rfl) ?_))|(refine g_build ?_;(first|refine s_build_ndv hz0 rfl rfl ?_|refine s_build_ndv hzC rfl rfl ?_|refine s_build_ndv hzA rfl rfl ?_|refine s_build_ndv hzB rfl rfl ?_|refine Qq rfl rfl ?_))|(refine Zd ?_;(first|refine Zj (y := zA) (z := zB) rfl rfl (by decide) ?_|refine QM (z := z0) rfl rfl (by decide) ?_|refine QM (z := zN) rfl (by rw [hze];rfl) (by decide) ?_|refine QM (z := fN) rfl (by rw [hfe];rfl) (by decide) ?_))|refine Qd rfl rfl ?_|refine Qw (fun _ _ => ?_)|refine Z3 rfl rfl (fun _ _ => ?_)))|(refine QZ ?_;(first|refine QX ?_|refine WT rfl ?_|refine Wf ?_|refine Zx rfl rfl rfl rfl ?_|refine qA rfl rfl rfl rfl ?_))|(refine QY ?_;(first|refine r_pubin_at 82 4 3 rfl rfl rfl rfl (by first|exact (Qx _).symm|rfl) rfl rfl ?_|refine QW ?_|refine Ql ?_|refine Qu ?_|(refine W8 ?_;first|(refine Qv ((fun g2 gp gg g7 p => .row g2 [.i 0, .i 0, .i 0, .nil] :: p :: .row gp [.i 27, .i n0, .i 0, .ref 3 gg 0 o.length 4] :: .row gg (Q1 o) :: .row g7 [.i 26, .i (m : Nat), .i 0, .nil] :: []) _ _ _ _) 6 [(0, true), (1, true), (2, true), (3, false), (4, true), (5, true)] (by rfl) (by rfl) (by kernel_rfl) (by decide +kernel) (by decide +kernel) ⟨_, rfl⟩ ?_)|(refine Qv (fun p => p) 100 [(0, true)] (by rfl) (by rfl) (by kernel_rfl) (by decide +kernel) (by decide +kernel) ⟨_, rfl⟩ ?_)|(refine Qv (fun p => .row g2 [.i 0, .i 0, .i 0, .nil] :: p.1 :: .row gp [.i 27, .i n0, .i 0, .ref 3 gg 0 o.length 4] :: .row gg (Q1 o) :: .row g7 [.i 26, .i (m : Nat), .i 0, .ref 5 gh 0 ks.length 4] :: p.2) 7 [(0, true), (1, true), (2, true), (3, false), (4, true), (5, false), (6, true), (7, false)] (by rfl) (by rfl) (by kernel_rfl) (by decide +kernel) (by decide +kernel) ⟨(_, _), rfl⟩ ?_)|refine WC (by rfl) (by kernel_rfl) (by kernel_rfl) ?_|refine WB (by kernel_rfl) (by kernel_rfl) ?_)|refine QQ ?_|refine QO rfl ?_|refine Wn rfl ?_|refine Qn rfl (by omega) ?_|refine Qm rfl (by omega) ?_|refine Zq rfl ?_|refine Q2 ?_))|(refine ZJ ?_;(first|refine qD ?_|refine i_z0 ?_|refine i_st rfl rfl (fun _ => (by (repeat' first|(refine QH ?_;(first|refine Wu rfl ?_|refine WJ rfl ?_|refine Qc rfl rfl rfl ?_|refine s_add_as rfl rfl hV ⟨by omega, by omega⟩ ?_|refine QM (z := v1) rfl rfl (by decide) ?_|refine Qd rfl rfl ?_))|exact ⟨rfl, rfl⟩))) ?_|refine i_ef rfl ?_))|refine And.intro (Exists.intro ((_, _)) rfl) ?_|refine And.intro (Exists.intro (_) rfl) ?_);(all_goals (repeat (rename_i x;(fail_if_success have : Unit := x);revert x)));(first|done|exact w0 ());(first|done|exact w1 ());(first|done|exact w2 ()))) (u : (W0 \/ True) /\ (W1 \/ True) /\ (W2 \/ True) := by (refine ⟨?_, ?_, ?_⟩ <;> first|exact Or.inl True.intro|exact Or.inr True.intro)) : X := s (fun _ => w0) (fun _ => w1) (fun _ => w2) ()
theorem program_c (l : List Int) (hl : OkI l) : ∃ v, validM v = true /\ (∃ n ks, v = .mk 27 n 0 ks) /\ Go.Av.Pure Tryz.prog G 11 [Qt l] (.agg (Enc.enc v)) := by
 obtain ⟨⟨S, hS⟩, _⟩ := mkStmt (G := G) l hl 4 (by decide)
 obtain ⟨Bk, hBk⟩ := mkBlock (G := G) l hl 4 (by decide) S hS
 have hB1 : ∀ a L, preB a L -> QE 6 13 1 11 (Bk a L).1 a L (Bk a L).2.1 (Bk a L).2.2 := fun a L h => (hBk a L h).1
 have hB2 : ∀ a L, preB a L -> CE Tryz.prog G 39 (fun p g => [.ptr p g 0, .i 4]) (Za l a L) (.agg (Enc.enc (Bk a L).1)) (Za l (Bk a L).2.1 (Bk a L).2.2) := fun a L h => (hBk a L h).2
 have hv := progV_ok l Bk hB1
 clear hBk hS
 refine ⟨progV l Bk, hv, ⟨_, _, rfl⟩, fun B => ?_⟩
 clear hv
 unfold progV
 have b4 := Qk l 0 (most := 4) (by decide)
 have b3 := Qk l 1 (most := 3) (by decide)
 have hn0 : atI l (0 + 1) 3 = atI l 1 3 := rfl
 obtain ⟨Nf, hNf⟩ : ∃ Nf : Nat, 1 + atI l 1 3 = (Nf : Int) := ⟨(1 + atI l 1 3).toNat, by omega⟩
 rw [hNf, show ((Nf : Int)).toNat = Nf by omega, Qp]
 generalize hT : Zw (mfunG l Bk) Nf 2 45 = T at *
 refine Qa Tryz.func11 rfl Tryz.ntmps11 rfl (t := [(0, Qt l)]) rfl fun E0 hE0 => ?_
 have hnumA := trivial
 have hnumB := trivial
 have hnumC := trivial
 have hnumD := trivial
 have hnumE := trivial
 have hblk := trivial
 have hfe := trivial
 have hze := trivial
 have hV := trivial
 have hge := trivial
 have he1 := trivial
 have he2 := trivial
 (refine wkSR ?_;intros)
 rename_i g2 hg2 gc hgc gp hgp
 refine r_ownin 2 3 4 rfl rfl (fun _ => rfl) (fun gk hgk => ?_)
 refine r_loop5 (fun (i : Nat) (o : List Nd) (a Lc : Int) (gg : Nat) => ⟨[(2, .ptr 0 g2 0), (3, .ptr 1 gc 0), (4, .ptr 2 gp 0), (5, .i (1 + atI l (0 + 1) 3)), (6, .i i)], [.row g2 [.i 0, .i 0, .i 0, .nil], .row gc (Za l a Lc), .row gp [.i 27, .i (atI l 0 4), .i 0, .ref 3 gg 0 o.length 4], .row gg (Q1 o)]⟩) (fun i o a Lc gg => i <= Nf /\ o.length <= i /\ E0.N < gg /\ o ++ (Zw (mfunG l Bk) (Nf - i) a Lc).1 = T.1 /\ 0 <= a /\ a + 400 * (Nf - i : Int) <= 100000 /\ -20 + (Nf - i : Int) <= Lc /\ Lc <= 45) (fun i _ _ _ _ => Nf - i) 0 [] 2 45 gk ?_ ⟨by omega, by simp, hgk, by rw [Nat.sub_zero, hT];rfl, by omega, by omega, by omega, by omega⟩ ?_
 ·exact zal rfl
 generalize hn00 : atI l 0 4 = n0 at *
 intro i o a Lc gg ⟨hi, hol, hgg, h1, m1, m2, m3, m4⟩
 by_cases hiN : i < Nf
 ·rw [show Nf - i = (Nf - (i + 1)) + 1 by omega, Zw] at h1
  obtain ⟨⟨_, _, u0, u1, u2, u3⟩, hpre⟩ := mfun_q l Bk hB1 a Lc ⟨m1, by omega⟩ ⟨by omega, m4⟩
  have hsz := Qz (Bk (mfunT l a).2 Lc).1
  have hbsz := (hB1 _ _ hpre).size
  have hblkS := hB2 _ _ hpre
  generalize hf : mfunG l Bk a Lc = F at *
  unfold mfunG at hf
  have c4 := Qk l a (most := 3) (by decide)
  have d4 := Qk l (a + 1) (most := 3) (by decide)
  obtain ⟨m, hm⟩ : ∃ m : Nat, atI l a 3 = (m : Int) := ⟨(atI l a 3).toNat, by omega⟩
  obtain ⟨V, hV⟩ : ∃ V : Nat, atI l a 3 + atI l (a + 1) 3 = (V : Int) := ⟨(atI l a 3 + atI l (a + 1) 3).toNat, by omega⟩
  have hm3 : (m : Int) < 3 := by omega
  have hV3 : (V : Int) < 5 := by omega
  have hko := runK_ok l (atI l a 3) (atI l a 3 + atI l (a + 1) 3).toNat 0 (a + 1 + 1)
  unfold mfunT at hf hblkS hsz hbsz
  rw [hV, show ((V : Int)).toNat = V by omega] at hf hblkS hko hsz hbsz
  rw [hm] at hf hblkS hV hko hsz hbsz
  have hnumA := QR (G := G) l hl a Lc 3 (by omega) (by decide)
  rw [hm] at hnumA
  generalize hT2 : runK l m V 0 (a + 1 + 1) = T2 at *
  obtain ⟨ks2, a2⟩ := T2
  dsimp only at *
  generalize hv1 : Bk a2 Lc = v at *
  obtain ⟨v1, b1, M1⟩ := v
  dsimp only at *
  clear hB2
  have hnumB := trivial
  have hnumC := trivial
  have hnumD := trivial
  have hnumE := trivial
  have hblk := trivial
  have hfe := trivial
  have hze := trivial
  (refine wkSR ?_;intros;rename_i g7 hg7)
  refine r_ownin 4 3 4 rfl rfl (fun _ => rfl) (fun gk2 hgk2 => ?_)
  refine r_loop5 (fun (k : Nat) (ks : List Nd) (b : Int) (_ : Unit) (gh : Nat) => ⟨[(2, .ptr 0 g2 0), (3, .ptr 1 gc 0), (4, .ptr 2 gp 0), (5, .i (1 + atI l (0 + 1) 3)), (6, .i i), (7, .ptr 4 g7 0), (8, .i V), (9, .i k)], [.row g2 [.i 0, .i 0, .i 0, .nil], .row gc (Za l b Lc), .row gp [.i 27, .i n0, .i 0, .ref 3 gg 0 o.length 4], .row gg (Q1 o), .row g7 [.i 26, .i (m : Nat), .i 0, .ref 5 gh 0 ks.length 4], .row gh (Q1 ks)]⟩) (fun k ks b _ gh => k <= V /\ ks.length = k /\ E0.N < gh /\ ks ++ (runK l m (V - k) k b).1 = ks2 /\ (runK l m (V - k) k b).2 = a2 /\ 0 <= b /\ b + 5 * (V - k : Int) <= 200000) (fun k _ _ _ _ => V - k) 0 [] (a + 1 + 1) () gk2 ?_ ⟨by omega, rfl, hgk2, by rw [Nat.sub_zero];show [] ++ (runK l m V 0 (a + 1 + 1)).1 = ks2;rw [hT2];rfl, by rw [Nat.sub_zero];show (runK l m V 0 (a + 1 + 1)).2 = a2;rw [hT2], by omega, by omega⟩ ?_
  ·exact zal rfl
  clear hnumA hV
  have hV := trivial
  intro k ks b _ gh ⟨hk, hkl, hgh, h3, h4, n1, n2⟩
  by_cases hkV : k < V
  ·rw [show V - k = (V - (k + 1)) + 1 by omega, runK] at h3 h4
   have bt := Qk l b (most := 2) (by decide)
   have bt1 := Qk l (b + 1) (most := 3) (by decide)
   have bt2 := Qk l (b + 1 + 1) (most := 4) (by decide)
   have hnumA := QR (G := G) l hl b Lc 2 (by omega) (by decide)
   clear hblkS
   by_cases hkm : k < m
   ·unfold mkKind at h3 h4
    rw [if_pos (by omega)] at h3 h4
    dsimp only at h3 h4
    have hge : decide ((m : Int) <= (k : Int)) = false := decide_eq_false (by omega)
    generalize hty : atI l b 2 = ty0 at *
    clear hnumA
    have hnumA := hty ▸ QR (G := G) l hl b Lc 2 (by omega) (by decide)
    obtain ⟨z0, hz0⟩ : ∃ z0, z0 = Nd.mk ty0 0 0 [] := ⟨_, rfl⟩
    rw [<- hz0] at h3
    (refine wkSR ?_;intros)
    refine ⟨k + 1, ks ++ [z0], b + 1, (), _, ⟨by omega, by simp;omega, by assumption, by rw [List.append_assoc];exact h3, h4, by omega, by omega⟩, by omega, ?_⟩
    exact zal rfl
   ·unfold mkKind at h3 h4
    rw [if_neg (by omega)] at h3 h4
    have hge : decide ((m : Int) <= (k : Int)) = true := decide_eq_true (by omega)
    have hnumB := QR (G := G) l hl (b + 1) Lc 3 (by omega) (by decide)
    by_cases hx1 : atI l (b + 1) 3 = 0
    ·rw [if_pos hx1] at h3 h4
     rw [hx1] at hnumB
     have he1 : decide ((0 : Int) = 0) = true := rfl
     have hnumC := QR (G := G) l hl (b + 1 + 1) Lc 4 (by omega) (by decide)
     dsimp only at h3 h4
     generalize hn4 : atI l (b + 1 + 1) 4 = n4 at *
     generalize hty : atI l b 2 = tyC at *
     obtain ⟨z0, hz0⟩ : ∃ z0, z0 = Nd.mk 2 (1 + n4) 0 [] := ⟨_, rfl⟩
     obtain ⟨zC, hzC⟩ : ∃ zC, zC = Nd.mk tyC 0 0 [] := ⟨_, rfl⟩
     rw [<- hz0] at h3
     (refine wkSR ?_;intros)
     refine ⟨k + 1, ks ++ [z0], b + 1 + 1 + 1, (), _, ⟨by omega, by simp;omega, by assumption, by rw [List.append_assoc];exact h3, h4, by omega, by omega⟩, by omega, ?_⟩
     exact zal rfl
    ·rw [if_neg hx1] at h3 h4
     have hnumC := QR (G := G) l hl (b + 1 + 1) Lc 3 (by omega) (by decide)
     have he1 : decide (atI l (b + 1) 3 = 0) = false := decide_eq_false hx1
     generalize atI l (b + 1) 3 = x1 at *
     by_cases hx2 : atI l (b + 1 + 1) 3 = 0
     ·rw [if_pos hx2] at h3 h4
      rw [hx2] at hnumC
      have he2 : decide ((0 : Int) = 0) = true := rfl
      have hnumD := QR (G := G) l hl (b + 1 + 1 + 1) Lc 2 (by omega) (by decide)
      have hnumE := QR (G := G) l hl (b + 1 + 1 + 1 + 1) Lc 2 (by omega) (by decide)
      dsimp only at h3 h4
      generalize hty : atI l b 2 = tyC at *
      generalize atI l (b + 1 + 1 + 1) 2 = tyA at *
      generalize atI l (b + 1 + 1 + 1 + 1) 2 = tyB at *
      obtain ⟨zA, hzA⟩ : ∃ zA, zA = Nd.mk tyA 0 0 [] := ⟨_, rfl⟩
      obtain ⟨zB, hzB⟩ : ∃ zB, zB = Nd.mk tyB 0 0 [] := ⟨_, rfl⟩
      obtain ⟨zC, hzC⟩ : ∃ zC, zC = Nd.mk tyC 0 0 [] := ⟨_, rfl⟩
      rw [<- hzA, <- hzB] at h3
      obtain ⟨zN, hzN⟩ : ∃ zN, zN = Nd.mk 3 0 0 [zA, zB] := ⟨_, rfl⟩
      have hze : Enc.enc zN = [.i 3, .i 0, .i 0, Qt [zA, zB]] := by rw [hzN, Qp]
      rw [<- hzN] at h3
      (refine wkSR ?_;intros)
      refine ⟨k + 1, ks ++ [zN], b + 1 + 1 + 1 + 1 + 1, (), _, ⟨by omega, by simp;omega, by assumption, by rw [List.append_assoc];exact h3, h4, by omega, by omega⟩, by omega, ?_⟩
      exact zal rfl
     ·rw [if_neg hx2] at h3 h4
      dsimp only at h3 h4
      have he2 : decide (atI l (b + 1 + 1) 3 = 0) = false := decide_eq_false hx2
      generalize atI l (b + 1 + 1) 3 = x2 at *
      generalize hty : atI l b 2 = ty0 at *
      obtain ⟨z0, hz0⟩ : ∃ z0, z0 = Nd.mk ty0 0 0 [] := ⟨_, rfl⟩
      rw [<- hz0] at h3
      (refine wkSR ?_;intros)
      refine ⟨k + 1, ks ++ [z0], b + 1 + 1 + 1, (), _, ⟨by omega, by simp;omega, by assumption, by rw [List.append_assoc];exact h3, h4, by omega, by omega⟩, by omega, ?_⟩
      exact zal rfl
  ·have hje : V - k = 0 := by omega
   rw [hje, runK] at h3 h4
   dsimp only at h3 h4
   rw [List.append_nil] at h3
   subst h3
   subst h4
   have hblk := hblkS
   obtain ⟨fN, hfN⟩ : ∃ fN, fN = Nd.mk 26 (m : Nat) 0 (ks ++ [v1]) := ⟨_, rfl⟩
   have hfe : Enc.enc fN = [.i 26, .i (m : Nat), .i 0, Qt (ks ++ [v1])] := by rw [hfN, Qp]
   rw [<- hfN] at hf
   subst hf
   dsimp only at *
   (refine wkSR ?_;intros)
   refine ⟨i + 1, o ++ [fN], b1, M1, _, ⟨by omega, by simp;omega, by assumption, by rw [List.append_assoc];exact h1, by omega, by omega, by omega, by omega⟩, by omega, ?_⟩
   exact zal rfl
 ·have hie : Nf - i = 0 := by omega
  rw [hie, Zw] at h1
  dsimp only at h1
  rw [List.append_nil] at h1
  rw [<- h1]
  clear hB2
  refine r_pubin 2 3 rfl rfl rfl (Qx _).symm rfl rfl ?_
  (refine wkSR ?_;intros)
  exact e_1 (Tryz.results11) (Qf (size := 4) rfl rfl rfl rfl) (Qi rfl)
section
variable {P : Program} {G : Nat -> DV} {B : Nat} {f : Operand -> DV} {σ : List ABlk} {K : DV -> List ABlk -> Prop} {dst : Option Tmp} {type : TypeId} {pos : String} {after : Array Edge} {gd : Option (Nat × Bool)}
theorem s_neq_strK {t t' : TypeId} {g1 : Bool} {z1 : Nat} {x y : Operand} {a b : List UInt8} {v : Bool} [ht : TyI P t .string g1 z1] (hx : f x = Ww a) (hy : f y = Ww b) (hc : decide (a ≠ b) = v) (k : K (.b v) σ) : OpSem P G B ⟨dst, .binOp .neq t x y t', type, pos, after, gd⟩ f σ K := s_neq_str hx hy (by rw [hc];exact k)
end
mutual
def WS : Nd -> List (List Int)
 | .mk _ _ _ ks => [] :: qd 0 ks
def qd : Nat -> List Nd -> List (List Int)
 | _, [] => []
 | i, x :: r => (WS x).map (fun p => (i : Int) :: p) ++ qd (i + 1) r
end
theorem pathsN_eq (k n m : Int) (ks : List Nd) : WS (.mk k n m ks) = [] :: qd 0 ks := by rw [WS]
theorem pathsL_snoc (x : Nd) : ∀ (i : Nat) (a : List Nd), qd i (a ++ [x]) = qd i a ++ (WS x).map fun p => ((i + a.length : Nat) : Int) :: p
 | i, [] => by simp [qd]
 | i, y :: r => by
  rw [List.cons_append, qd, qd, pathsL_snoc x (i + 1) r, List.append_assoc, show i + 1 + r.length = i + (y :: r).length by simp;omega]
theorem pathsL_take {ks : List Nd} {i : Nat} (h : i < ks.length) : qd 0 (ks.take (i + 1)) = qd 0 (ks.take i) ++ (WS ks[i]).map fun p => (i : Int) :: p := by
 rw [List.take_succ_eq_append_getElem h, pathsL_snoc, List.length_take, Nat.min_eq_left (by omega), Nat.zero_add]
mutual
theorem pathsN_len : ∀ t : Nd, (WS t).length = Qe t
 | .mk k n m ks => by
  have := pathsL_len 0 ks
  rw [pathsN_eq, Qe, List.length_cons];omega
theorem pathsL_len : ∀ (i : Nat) (ts : List Nd), (qd i ts).length = Qo ts
 | _, [] => rfl
 | i, x :: r => by
  have := pathsN_len x
  have := pathsL_len (i + 1) r
  rw [qd, Qo, List.length_append, List.length_map];omega
end
theorem mem_pathsL {p : List Int} : ∀ {i : Nat} {ks : List Nd}, p ∈ qd i ks -> ∃ (j : Nat) (h : j < ks.length) (q : List Int), p = ((i + j : Nat) : Int) :: q /\ q ∈ WS ks[j]
 | i, [], h => by rw [qd] at h;cases h
 | i, x :: r, h => by
  rw [qd, List.mem_append, List.mem_map] at h
  rcases h with ⟨q, hq, rfl⟩|h
  ·exact ⟨0, by simp, q, rfl, hq⟩
  ·obtain ⟨j, hj, q, rfl, hq⟩ := mem_pathsL h
   exact ⟨j + 1, by simpa using hj, q, by rw [show i + (j + 1) = i + 1 + j by omega], hq⟩
theorem paths_lens : ∀ (t : Nd), ∀ p ∈ WS t, p.length < Qe t := fun t => by
 induction t using Nd.ind with
 | h k n m ks ih =>
 intro p hp
 rw [pathsN_eq] at hp
 rw [Qe]
 rcases List.mem_cons.1 hp with rfl|hp
 ·show 0 < 1 + Qo ks;omega
 ·obtain ⟨j, hj, q, rfl, hq⟩ := mem_pathsL hp
  have h1 := ih _ (List.getElem_mem hj) q hq
  have h2 := QJ (List.getElem_mem hj)
  rw [List.length_cons];omega
theorem wkPA {X W0 W1 W2 : Prop} (w0 : W0 := by exact True.intro) (w1 : W1 := by exact True.intro) (w2 : W2 := by exact True.intro) (s : (Unit -> W0) -> (Unit -> W1) -> (Unit -> W2) -> Unit -> X := by (intro w0 w1 w2 _;(repeat' first|(refine QH ?_;(first|refine Wu rfl ?_|refine WJ rfl ?_|(refine We ?_;(first|refine qj rfl rfl ?_|refine Wc rfl ?_|refine Q6 rfl ?_|refine Qc rfl rfl rfl ?_))|refine QN rfl rfl (by first|assumption|omega|(simp;done)|(simp;omega)) ?_|(refine Qr ?_;(first|refine Zu rfl rfl ?_|refine Wg rfl rfl ?_|refine Z4 rfl rfl (by omega) ?_))|(refine QC ?_;(first|refine WW rfl rfl (hi1) ?_|refine Q3 rfl ?_|refine Zn rfl rfl rfl rfl rfl rfl rfl (by first|omega|(simp;omega)) (by first|omega|(simp;omega)) (fun _ => rfl) (fun _ _ => ?_)|refine s_app_r rfl rfl rfl rfl rfl rfl rfl (by first|omega|(simp;omega)) (by first|omega|(simp;omega)) (fun _ => rfl) (fun _ _ => ?_)))|refine Zg rfl rfl rfl rfl ?_|(refine Zd ?_;(first|refine s_bslice_own_sub (cs := [.nil]) (cs' := [Qt ([] : List Int)]) rfl rfl (by decide) rfl rfl rfl (sub_cons (.nil _) sub_nil) (fun _ _ => ?_)|refine qq (cs := Q1 [(_ : Int)]) rfl rfl (by decide) rfl rfl (fun _ _ => ?_)|refine s_bslice_pub rfl rfl (by first|rfl|exact (Qx _).symm) rfl ?_|refine Zc rfl rfl (by decide) rfl ?_))|refine Qd rfl rfl ?_|refine Qw (fun _ _ => ?_)|refine Z3 rfl rfl (fun _ _ => ?_)))|(refine QZ ?_;(first|refine QX ?_|refine WT rfl ?_|refine Wf ?_))|(refine QY ?_;(first|refine QW ?_|refine Ql ?_|refine Qu ?_|(refine W8 ?_;first|refine WC (by rfl) (by kernel_rfl) (by kernel_rfl) ?_|refine WB (by kernel_rfl) (by kernel_rfl) ?_)|refine QQ ?_|refine QO rfl ?_|refine Wn rfl ?_|refine Qn rfl (by omega) ?_|refine Qm rfl (by omega) ?_|refine Zq rfl ?_|refine Q2 ?_))|(refine g_lex ?_;(first|refine x_op rfl (by (repeat' first|(refine QH ?_;(first|refine Wu rfl ?_|(refine We ?_;(first|refine Wc rfl ?_|refine Q6 rfl ?_|refine Qc rfl rfl rfl ?_))|(refine W4 ?_;(first|refine s_idx_hd rfl rfl ?_|refine QN rfl rfl (by first|assumption|omega|(simp;done)|(simp;omega)) ?_))|(refine Qr ?_;(first|refine Zu rfl rfl ?_|refine qL rfl rfl ?_))|(refine QC ?_;(first|refine WR rfl rfl hat (WO (Q7 (Wo (Enc.clo _)) (Q7 Wa WU))) ?_|refine Q3 rfl ?_))|refine Zf rfl rfl ?_|refine Qd rfl rfl ?_|refine WM rfl rfl rfl ?_|refine s_slice_l rfl rfl (by omega) (by omega) ?_))|exact ⟨rfl, rfl⟩)) ?_|refine x_gy rfl rfl rfl rfl (by (repeat' first|(refine QH ?_;(first|refine Wu rfl ?_|(refine We ?_;(first|refine Wc rfl ?_|refine Q6 rfl ?_|refine Qc rfl rfl rfl ?_))|(refine W4 ?_;(first|refine s_idx_hd rfl rfl ?_|refine QN rfl rfl (by first|assumption|omega|(simp;done)|(simp;omega)) ?_))|(refine Qr ?_;(first|refine Zu rfl rfl ?_|refine qL rfl rfl ?_))|(refine QC ?_;(first|refine WR rfl rfl hat (WO (Q7 (Wo (Enc.clo _)) (Q7 Wa WU))) ?_|refine Q3 rfl ?_))|refine Zf rfl rfl ?_|refine Qd rfl rfl ?_|refine WM rfl rfl rfl ?_|refine s_slice_l rfl rfl (by omega) (by omega) ?_))|exact ⟨rfl, rfl⟩)) ?_|refine x_nil ?_)));(all_goals (repeat (rename_i x;(fail_if_success have : Unit := x);revert x)));(first|done|exact w0 ());(first|done|exact w1 ());(first|done|exact w2 ()))) (u : (W0 \/ True) /\ (W1 \/ True) /\ (W2 \/ True) := by (refine ⟨?_, ?_, ?_⟩ <;> first|exact Or.inl True.intro|exact Or.inr True.intro)) : X := s (fun _ => w0) (fun _ => w1) (fun _ => w2) ()
theorem paths_c (t : Nd) : Qe t <= 100000 -> Own Tryz.prog G 12 [.agg (Enc.enc t)] (WS t).length 1 (Q1 (WS t)) := by
 induction t using Nd.ind with
 | h k n m ks ih =>
 intro hsz B
 have hse : Qe (.mk k n m ks) = 1 + Qo ks := by rw [Qe]
 rw [hse] at hsz
 have hln := Wm ks
 have hi : ∀ x ∈ ks, Go.Av.Pure Tryz.prog G 12 [.agg (Enc.enc x)] (Qt (WS x)) := fun x hx => (ih x hx (by have := QJ hx;omega)).read
 clear ih
 rw [pathsN_eq, Qp]
 refine Qa Tryz.func12 rfl Tryz.ntmps12 rfl (t := [(0, .agg [.i k, .i n, .i m, Qt ks])]) rfl fun E hE => ?_
 (refine wkPA ?_;intros)
 rename_i g1 hg1 g3 hg3
 refine r_loopg (fun (i : Nat) g => ⟨[(1, .ptr 0 g1 0), (3, .ref 1 g 0 ([] :: qd 0 (ks.take i)).length 1), (4, .i i)], [.row g1 [.i k, .i n, .i m, Qt ks], .row g (Q1 ([] :: qd 0 (ks.take i)))]⟩) (fun i => i <= ks.length) (fun i => ks.length - i) 0 g3 hg3 ?_ (by omega) ?_
 ·exact zal rfl
 intro i g hi2 hg
 by_cases hil : i < ks.length
 ·have hi1 := hi _ (List.getElem_mem hil)
  have hpl := pathsN_len ks[i]
  have hsm := QJ (List.getElem_mem hil)
  have hst := pathsL_take hil
  have hl0 := pathsL_len 0 (ks.take i)
  have hl1 := Wk ks i
  have hlens : ∀ p ∈ WS ks[i], p.length <= 100000 := fun p hp => by have := paths_lens _ p hp;omega
  have hal : ([] :: qd 0 (ks.take i)).length <= 100001 := by rw [List.length_cons];omega
  have hst2 : ([] :: qd 0 (ks.take (i + 1))) = ([] :: qd 0 (ks.take i)) ++ (WS ks[i]).map fun p => (i : Int) :: p := by rw [hst];rfl
  have hpl2 : (WS ks[i]).length <= 100000 := by omega
  clear hi hst hpl hsm hl0 hl1
  generalize ([] :: qd 0 (ks.take i)) = acc at *
  generalize WS ks[i] = L at *
  (refine wkPA ?_;intros)
  refine r_loopg (fun (q : Nat) g => ⟨[(1, .ptr 0 g1 0), (3, .ref 1 g 0 (acc ++ (L.take q).map fun p => (i : Int) :: p).length 1), (4, .i i), (5, Qt L), (6, .i q)], [.row g1 [.i k, .i n, .i m, Qt ks], .row g (Q1 (acc ++ (L.take q).map fun p => (i : Int) :: p))]⟩) (fun q => q <= L.length) (fun q => L.length - q) 0 g hg ?_ (by omega) ?_
  ·rw [List.take_zero, List.map_nil, List.append_nil]
   exact zal rfl
  intro q gq hq hgq
  by_cases hql : q < L.length
  ·have hse : acc ++ (L.take (q + 1)).map (fun p => (i : Int) :: p) = (acc ++ (L.take q).map fun p => (i : Int) :: p) ++ [(i : Int) :: L[q]] := by
    rw [List.take_succ_eq_append_getElem hql, List.map_append, List.append_assoc];rfl
   have hlq := hlens _ (List.getElem_mem hql)
   have hcl : (acc ++ (L.take q).map fun p => (i : Int) :: p).length <= 300000 := by rw [List.length_append, List.length_map, List.length_take];omega
   clear hi1 hlens hst2
   generalize (acc ++ (L.take q).map fun p => (i : Int) :: p) = cur at *
   (refine wkPA ?_;intros)
   rename_i ga hga gb hgb gc hgc
   refine ⟨q + 1, gc, by omega, by omega, by omega, ?_⟩
   rw [hse]
   exact zal rfl
  ·have hq2 : q = L.length := by omega
   subst hq2
   rw [List.take_length]
   rw [<- hst2]
   clear hi1 hlens hst2
   (refine wkPA ?_;intros)
   refine ⟨i + 1, gq, by omega, by omega, by omega, ?_⟩
   exact zal rfl
 ·have hi3 : i = ks.length := by omega
  subst hi3
  rw [List.take_length]
  clear hi
  (refine wkPA ?_;intros)
  exact e_1 Tryz.results12 (Qb rfl) (c_ownedB hE rfl rfl rfl rfl)
theorem ZA {ds : List DV} {n : Nat} (h : ds.length = n) : partD ds 0 n = some ds := by
 unfold partD
 rw [List.drop_zero, <- h, List.take_length]
 exact Z6 _
def subN : List Int -> Nd -> Nd
 | [], t => t
 | i :: p, .mk _ _ _ ks => subN p (ks.getD i.toNat (.mk 0 0 0 []))
theorem r05At_c (p : List Int) : ∀ t : Nd, p ∈ WS t -> Qe t <= 100000 -> Go.Av.Pure Tryz.prog G 13 [.agg (Enc.enc t), Qt p] (.tup [.agg (Enc.enc (subN p t)), .b true]) /\ Qe (subN p t) <= Qe t := by
 induction p with
 | nil =>
  rintro ⟨k, n, m, ks⟩ _ _
  refine ⟨fun B => ?_, Nat.le_refl _⟩
  rw [show subN [] (.mk k n m ks) = .mk k n m ks from rfl, Qp]
  refine Qa Tryz.func13 rfl Tryz.ntmps13 rfl (t := [(0, .agg [.i k, .i n, .i m, Qt ks]), (1, Qt ([] : List Int))]) rfl fun E hE => ?_
  (refine wkPA ?_;intros)
  all_goals exact e_2 (Tryz.results13) (Qf (size := 4) rfl rfl rfl rfl) (Qb rfl) (Qi rfl)
 | cons a p ih =>
  rintro ⟨k, n, m, ks⟩ hp hsz
  have hln := Wm ks
  rw [pathsN_eq] at hp
  rw [Qe] at hsz ⊢
  rcases List.mem_cons.1 hp with h|hp
  ·cases h
  obtain ⟨j, hj, q, he, hq⟩ := mem_pathsL hp
  rw [Nat.zero_add] at he
  cases he
  have hsm := QJ (List.getElem_mem hj)
  obtain ⟨hat, hs2⟩ := ih ks[j] hq (by omega)
  have e : subN ((j : Int) :: p) (.mk k n m ks) = subN p ks[j] := by
   rw [subN, show ((j : Int)).toNat = j by omega, List.getD_eq_getElem?_getD, List.getElem?_eq_getElem hj];rfl
  rw [e]
  refine ⟨fun B => ?_, by omega⟩
  generalize subN p ks[j] = r at *
  have hplen : p.length < 100000 := by
   have := paths_lens (.mk k n m ks) ((j : Int) :: p) (by rw [pathsN_eq];exact List.mem_cons_of_mem _ hp)
   rw [Qe, List.length_cons] at this
   omega
  have hpp : ((j : Int) :: p).length = p.length + 1 := rfl
  clear ih hp hq
  rw [Qp]
  refine Qa Tryz.func13 rfl Tryz.ntmps13 rfl (t := [(0, .agg [.i k, .i n, .i m, Qt ks]), (1, Qt ((j : Int) :: p))]) rfl fun E hE => ?_
  (refine wkPA ?_;intros)
  all_goals exact e_2 (Tryz.results13) (Qf (size := 4) rfl rfl (ZA (Enc.len _)) (Enc.len _)) (Qb rfl) (Qi rfl)
def cT : Nat -> Nat
 | 0 => 1
 | e + 1 => 3 * cT e + 1
structure QT (c : Nat) (x : Nd) (a L a' L' : Int) : Prop where
 ok : okN x
 size : Qe x <= c
 low : a <= a'
 high : a' <= a + 4 * (c : Int)
 mono : L' <= L
 used : L - (c : Int) <= L'
abbrev preT (c : Nat) (a L : Int) : Prop := 0 <= a /\ a + 4 * (c : Int) <= 100000 /\ -100000 + (c : Int) <= L /\ L <= 100000
structure QTs (c : Nat) (ks : List Nd) (a L a' L' : Int) : Prop where
 ok : okL ks
 size : Qo ks <= c
 low : a <= a'
 high : a' <= a + 4 * (c : Int)
 mono : L' <= L
 used : L - (c : Int) <= L'
theorem run_t {S : GenF} {c : Nat} (hS : ∀ a L, preT c a L -> QT c (S a L).1 a L (S a L).2.1 (S a L).2.2) : ∀ (n : Nat) (a L : Int), preT (n * c) a L -> QTs (n * c) (runP S n a L).1 a L (runP S n a L).2.1 (runP S n a L).2.2
 | 0, a, L, p => by
  rw [runP]
  exact ⟨by rw [okL];trivial, by simp [Qo], by simp, by dsimp only;omega, by simp, by dsimp only;omega⟩
 | n + 1, a, L, p => by
  rw [Nat.succ_mul] at p ⊢
  obtain ⟨p1, p2, p3, p4⟩ := p
  rw [runP]
  by_cases h : 0 < L
  ·rw [if_pos h]
   obtain ⟨q1, q2, q3, q4, q5, q6⟩ := hS a L ⟨p1, by omega, by omega, p4⟩
   obtain ⟨r1, r2, r3, r4, r5, r6⟩ := run_t hS n (S a L).2.1 (S a L).2.2 ⟨by omega, by omega, by omega, by omega⟩
   refine ⟨by rw [okL];exact ⟨q1, r1⟩, by rw [Qo];omega, ?_, ?_, ?_, ?_⟩
   all_goals dsimp only;omega
  ·rw [if_neg h]
   exact ⟨by rw [okL];trivial, by simp [Qo], by simp, by dsimp only;omega, by simp, by dsimp only;omega⟩
theorem wkGT {X W0 W1 W2 : Prop} (w0 : W0 := by exact True.intro) (w1 : W1 := by exact True.intro) (w2 : W2 := by exact True.intro) (s : (Unit -> W0) -> (Unit -> W1) -> (Unit -> W2) -> Unit -> X := by (intro w0 w1 w2 _;(repeat' first|(refine QH ?_;(first|refine Wu rfl ?_|refine WJ rfl ?_|(refine We ?_;(first|refine qj rfl rfl ?_|refine Qc rfl rfl rfl ?_))|(refine Qr ?_;(first|refine WE rfl rfl (by omega) ?_|refine Zu rfl rfl ?_|refine s_gtr rfl rfl ?_|refine Z4 rfl rfl (by omega) ?_))|(refine QC ?_;(first|refine Zn (z := v1) rfl rfl rfl rfl rfl rfl rfl (by first|omega|(simp;omega)) (by first|omega|(simp;omega)) (fun _ => rfl) (fun _ _ => ?_)|refine Q9 0 (hnumA) rfl rfl rfl rfl ?_|refine Q9 0 (hnumB) rfl rfl rfl rfl ?_|refine Q9 0 (hnumC) rfl rfl rfl rfl ?_|refine Q9 0 (hnumD) rfl rfl rfl rfl ?_|refine Q9 0 (hE1) rfl rfl rfl rfl ?_|refine Q9 1 (hE1) rfl rfl rfl rfl ?_))|(refine Wz ?_;(first|refine qb rfl rfl ?_|refine Zf rfl rfl ?_))|(refine QI ?_;(first|refine Zg rfl rfl rfl rfl ?_|refine QA rfl rfl rfl rfl (by rfl) (by rfl) (by rfl) ?_))|refine Qd rfl rfl ?_|refine Qq rfl rfl ?_|refine Qh rfl rfl ?_|refine Qw (fun _ _ => ?_)|refine Z3 rfl rfl (fun _ _ => ?_)))|(refine QZ ?_;(first|refine QX ?_|refine WT rfl ?_|refine Wf ?_|refine Zx rfl rfl rfl rfl ?_|refine qA rfl rfl rfl rfl ?_|refine WF rfl rfl (by omega) ?_|refine Q0 rfl rfl (by omega) ?_))|(refine QY ?_;(first|refine QW ?_|refine Ql ?_|refine Qu ?_|(refine W8 ?_;first|(refine Qv (fun p => p) 100 [(0, true)] (by rfl) (by rfl) (by kernel_rfl) (by decide +kernel) (by decide +kernel) ⟨_, rfl⟩ ?_)|(refine Qv (fun p => p.1 :: .row g4 [.i 0, .i 0, .i 0, .nil] :: .row g5 [.i k0, .i n0, .i m0, .ref 3 gg 0 o.length 4] :: p.2) 9 [(0, true), (1, true), (2, true), (3, true), (4, true), (5, false), (6, true), (7, false), (8, true), (9, false)] (by rfl) (by rfl) (by kernel_rfl) (by decide +kernel) (by decide +kernel) ⟨(_, _), rfl⟩ ?_)|refine WC (by rfl) (by kernel_rfl) (by kernel_rfl) ?_|refine WB (by kernel_rfl) (by kernel_rfl) ?_)|refine QQ ?_|refine Wn rfl ?_|refine Qn rfl (by omega) ?_|refine Qm rfl (by omega) ?_|refine Zq rfl ?_|refine Q2 ?_))|(refine ZJ ?_;(first|refine qD ?_|refine i_z0 ?_|refine i_st rfl rfl (fun _ => (by (repeat' first|(refine QH ?_;(first|refine Wu rfl ?_|refine Qc rfl rfl rfl ?_|refine Zm rfl rfl hd1 ⟨by omega, by omega⟩ ?_|refine QM (z := v1) rfl rfl (by decide) ?_|refine Qd rfl rfl ?_))|exact ⟨rfl, rfl⟩))) ?_|refine i_ef rfl ?_))|refine And.intro (Exists.intro ((_, _)) rfl) ?_);(all_goals (repeat (rename_i x;(fail_if_success have : Unit := x);revert x)));(first|done|exact w0 ());(first|done|exact w1 ());(first|done|exact w2 ()))) (u : (W0 \/ True) /\ (W1 \/ True) /\ (W2 \/ True) := by (refine ⟨?_, ?_, ?_⟩ <;> first|exact Or.inl True.intro|exact Or.inr True.intro)) : X := s (fun _ => w0) (fun _ => w1) (fun _ => w2) ()
theorem mkTree (l : List Int) (hl : OkI l) : ∀ e : Nat, e <= 5 -> ∃ T : GenF, ∀ a L, preT (cT e) a L -> QT (cT e) (T a L).1 a L (T a L).2.1 (T a L).2.2 /\ CE Tryz.prog G 40 (fun p g => [.ptr p g 0, .i ((e : Int) + 1)]) (Za l a L) (.agg (Enc.enc (T a L).1)) (Za l (T a L).2.1 (T a L).2.2) := by
 intro e
 induction e with
 | zero =>
  intro he
  refine Zt (pre := preT (cT 0)) (R := fun a L t => QT (cT 0) t.1 a L t.2.1 t.2.2 /\ CE Tryz.prog G 40 (fun p g => [.ptr p g 0, .i ((0 : Nat) + 1)]) (Za l a L) (.agg (Enc.enc t.1)) (Za l t.2.1 t.2.2)) fun a L h => ?_
  obtain ⟨p1, p2, p3, p4⟩ := h
  have hc0 : cT 0 = 1 := rfl
  rw [hc0] at p2 p3
  have bA := Qk l a (most := 32) (by decide)
  have bB := Qk l (a + 1) (most := 19) (by decide)
  have bC := Qk l (a + 1 + 1) (most := 5) (by decide)
  have bD := Qk l (a + 1 + 1 + 1) (most := 4) (by decide)
  have hnumA := QR (G := G) l hl a (L - 1) 32 (by omega) (by omega)
  have hnumB := QR (G := G) l hl (a + 1) (L - 1) 19 (by omega) (by omega)
  have hnumC := QR (G := G) l hl (a + 1 + 1) (L - 1) 5 (by omega) (by omega)
  have hnumD := QR (G := G) l hl (a + 1 + 1 + 1) (L - 1) 4 (by omega) (by omega)
  generalize atI l a 32 = kA at *
  generalize atI l (a + 1) 19 = nB at *
  generalize atI l (a + 1 + 1) 5 = mC at *
  obtain ⟨N, hN⟩ : ∃ N : Nat, atI l (a + 1 + 1 + 1) 4 = (N : Int) := ⟨(atI l (a + 1 + 1 + 1) 4).toNat, by omega⟩
  rw [hN] at hnumD bD
  refine ⟨(.mk (kA - 1) (nB - 9) (mC - 1) [], a + 1 + 1 + 1 + 1, L - 1), ⟨?_, ?_, ?_, ?_, ?_, ?_⟩, fun g B hg => ?_⟩
  ·rw [okN];exact ⟨⟨⟨by omega, by omega⟩, ⟨by omega, by omega⟩, ⟨by omega, by omega⟩⟩, by rw [okL];trivial⟩
  ·rw [Qe, Qo];exact Nat.le_refl _
  ·dsimp only;omega
  ·rw [hc0];dsimp only;omega
  ·dsimp only;omega
  ·rw [hc0];dsimp only;omega
  have hE1 := trivial
  refine Qa Tryz.func40 rfl Tryz.ntmps40 rfl (t := [(0, .ptr 0 g 0), (1, .i ((0 : Nat) + 1))]) rfl fun E0 hE0 => ?_
  (refine wkGT ?_;intros)
  rename_i g4 hg4 g5 hg5
  refine ZZ (fun i : Nat => ⟨[(0, .ptr 0 g 0), (1, .i ((0 : Nat) + 1)), (4, .ptr 1 g4 0), (5, .ptr 2 g5 0), (6, .i N), (7, .i i)], [.row g (Za l (a + 1 + 1 + 1 + 1) (L - 1)), .row g4 [.i 0, .i 0, .i 0, .nil], .row g5 [.i (kA - 1), .i (nB - 9), .i (mC - 1), .nil]]⟩) (fun i => i <= N) (fun i => N - i) 0 ?_ (by omega) ?_
  ·exact zal rfl
  intro i hi
  by_cases hiN : i < N
  ·(refine wkGT ?_;intros)
   exact e_1 (Tryz.results40) (Qf (size := 4) rfl rfl rfl rfl) (Q5 (es := 4) (.node rfl rfl rfl) (by show _ = DV.agg (Enc.enc (Nd.mk _ _ _ []));rw [Qp];rfl) rfl)
  ·(refine wkGT ?_;intros)
   exact e_1 (Tryz.results40) (Qf (size := 4) rfl rfl rfl rfl) (Q5 (es := 4) (.node rfl rfl rfl) (by show _ = DV.agg (Enc.enc (Nd.mk _ _ _ []));rw [Qp];rfl) rfl)
 | succ e ih =>
  intro he
  obtain ⟨S, hS⟩ := ih (by omega)
  clear ih
  have hcs : cT (e + 1) = 3 * cT e + 1 := rfl
  refine Zt (pre := preT (cT (e + 1))) (R := fun a L t => QT (cT (e + 1)) t.1 a L t.2.1 t.2.2 /\ CE Tryz.prog G 40 (fun p g => [.ptr p g 0, .i (((e + 1 : Nat) : Int) + 1)]) (Za l a L) (.agg (Enc.enc t.1)) (Za l t.2.1 t.2.2)) fun a L h => ?_
  obtain ⟨p1, p2, p3, p4⟩ := h
  rw [hcs] at p2 p3 ⊢
  have bA := Qk l a (most := 32) (by decide)
  have bB := Qk l (a + 1) (most := 19) (by decide)
  have bC := Qk l (a + 1 + 1) (most := 5) (by decide)
  have bD := Qk l (a + 1 + 1 + 1) (most := 4) (by decide)
  have hnumA := QR (G := G) l hl a (L - 1) 32 (by omega) (by omega)
  have hnumB := QR (G := G) l hl (a + 1) (L - 1) 19 (by omega) (by omega)
  have hnumC := QR (G := G) l hl (a + 1 + 1) (L - 1) 5 (by omega) (by omega)
  have hnumD := QR (G := G) l hl (a + 1 + 1 + 1) (L - 1) 4 (by omega) (by omega)
  generalize hk0 : atI l a 32 = kA at *
  generalize hn0 : atI l (a + 1) 19 = nB at *
  generalize hm0 : atI l (a + 1 + 1) 5 = mC at *
  obtain ⟨N, hN⟩ : ∃ N : Nat, atI l (a + 1 + 1 + 1) 4 = (N : Int) := ⟨(atI l (a + 1 + 1 + 1) 4).toNat, by omega⟩
  rw [hN] at hnumD bD
  generalize hcc : cT e = c at *
  have hNc : N * c <= 3 * c := Nat.mul_le_mul (by omega) (Nat.le_refl _)
  have hq := run_t (S := S) (c := c) (fun a L h => (hS a L h).1) N (a + 1 + 1 + 1 + 1) (L - 1) ⟨by omega, by omega, by omega, by omega⟩
  have hln := runP_len S N (a + 1 + 1 + 1 + 1) (L - 1)
  refine ⟨(.mk (kA - 1) (nB - 9) (mC - 1) (runP S N (a + 1 + 1 + 1 + 1) (L - 1)).1, (runP S N (a + 1 + 1 + 1 + 1) (L - 1)).2), ?_, fun g B hg => ?_⟩
  ·obtain ⟨q1, q2, q3, q4, q5, q6⟩ := hq
   refine ⟨?_, ?_, ?_, ?_, ?_, ?_⟩
   ·rw [okN];exact ⟨⟨⟨by omega, by omega⟩, ⟨by omega, by omega⟩, ⟨by omega, by omega⟩⟩, q1⟩
   ·rw [Qe];(try dsimp only);omega
   ·(try dsimp only);omega
   ·(try dsimp only);omega
   ·(try dsimp only);omega
   ·(try dsimp only);omega
  clear hq
  generalize hT : runP S N (a + 1 + 1 + 1 + 1) (L - 1) = T at *
  obtain ⟨k0, hkk⟩ : ∃ k0, kA - 1 = k0 := ⟨_, rfl⟩
  obtain ⟨n0, hnn⟩ : ∃ n0, nB - 9 = n0 := ⟨_, rfl⟩
  obtain ⟨m0, hmm⟩ : ∃ m0, mC - 1 = m0 := ⟨_, rfl⟩
  have hE1 := trivial
  have hd1 := trivial
  refine Qa Tryz.func40 rfl Tryz.ntmps40 rfl (t := [(0, .ptr 0 g 0), (1, .i (((e + 1 : Nat) : Int) + 1))]) rfl fun E0 hE0 => ?_
  (refine wkGT ?_;intros)
  rename_i g4 hg4 g5 hg5
  rw [hkk, hnn, hmm]
  clear hnumA hnumB hnumC hnumD
  have hnumA := trivial
  have hnumB := trivial
  have hnumC := trivial
  have hnumD := trivial
  refine r_ownin 2 3 4 rfl rfl (fun _ => rfl) (fun gk hgk => ?_)
  refine r_loop5 (fun (i : Nat) (o : List Nd) (b M : Int) (gg : Nat) => ⟨[(0, .ptr 0 g 0), (1, .i (((e + 1 : Nat) : Int) + 1)), (4, .ptr 1 g4 0), (5, .ptr 2 g5 0), (6, .i N), (7, .i i)], [.row g (Za l b M), .row g4 [.i 0, .i 0, .i 0, .nil], .row g5 [.i k0, .i n0, .i m0, .ref 3 gg 0 o.length 4], .row gg (Q1 o)]⟩) (fun i o b M gg => i <= N /\ o.length <= i /\ E0.N < gg /\ o ++ (runP S (N - i) b M).1 = T.1 /\ (runP S (N - i) b M).2 = T.2 /\ preT ((N - i) * c) b M) (fun i o b M gg => N - i) 0 [] (a + 1 + 1 + 1 + 1) (L - 1) gk ?_ ⟨by omega, by simp, hgk, by rw [Nat.sub_zero, hT];rfl, by rw [Nat.sub_zero, hT], by rw [Nat.sub_zero];exact ⟨by omega, by omega, by omega, by omega⟩⟩ ?_
  ·exact zal rfl
  intro i o b M gg ⟨hi, hol, hgg, h1, h2, m⟩
  by_cases hiN : i < N
  ·rw [show N - i = (N - (i + 1)) + 1 by omega] at h1 h2 m
   rw [runP] at h1 h2
   rw [Nat.succ_mul] at m
   obtain ⟨m1, m2, m3, m4⟩ := m
   by_cases hM : 0 < M
   ·rw [if_pos hM] at h1 h2
    obtain ⟨⟨q1, q2, q3, q4, q5, q6⟩, hE1⟩ := hS b M ⟨m1, by omega, by omega, m4⟩
    have hd1 : (((e + 1 : Nat) : Int) + 1) - 1 = (e : Int) + 1 := by omega
    generalize S b M = t at *
    obtain ⟨v1, b1, M1⟩ := t
    dsimp only at *
    have hs := Qz v1
    clear hS
    (refine wkGT ?_;intros)
    refine ⟨i + 1, o ++ [v1], b1, M1, _, ⟨by omega, by simp;omega, by assumption, by rw [List.append_assoc];exact h1, h2, ⟨by omega, by omega, by omega, by omega⟩⟩, by omega, ?_⟩
    exact zal rfl
   ·rw [if_neg hM] at h1 h2
    dsimp only at h1 h2
    rw [List.append_nil] at h1
    rw [<- h1, <- h2]
    clear hS
    (refine wkGT ?_;intros)
    exact e_1 (Tryz.results40) (Qf (size := 4) rfl rfl rfl rfl) (W6 (D := fun d => .agg [.i k0, .i n0, .i m0, d]) (k := 2) (.node rfl rfl rfl) rfl (by rw [Qx];rfl) (by rw [Qp];rfl) rfl)
  ·have hie : N - i = 0 := by omega
   rw [hie, runP] at h1 h2
   dsimp only at h1 h2
   rw [List.append_nil] at h1
   rw [<- h1, <- h2]
   clear hS
   (refine wkGT ?_;intros)
   exact e_1 (Tryz.results40) (Qf (size := 4) rfl rfl rfl rfl) (W6 (D := fun d => .agg [.i k0, .i n0, .i m0, d]) (k := 2) (.node rfl rfl rfl) rfl (by rw [Qx];rfl) (by rw [Qp];rfl) rfl)
theorem tree_c (l : List Int) (hl : OkI l) : ∃ v, okN v /\ Qe v <= 364 /\ Go.Av.Pure Tryz.prog G 15 [Qt l] (.agg (Enc.enc v)) := by
 obtain ⟨T, hT⟩ := mkTree (G := G) l hl 5 (by omega)
 obtain ⟨⟨q1, q2, q3, q4, q5, q6⟩, hE1⟩ := hT 0 29 (by decide)
 refine ⟨_, q1, q2, fun B => ?_⟩
 generalize T 0 29 = t at *
 obtain ⟨v, b, M⟩ := t
 dsimp only at *
 have hnumA := trivial
 have hnumB := trivial
 have hnumC := trivial
 have hnumD := trivial
 have hd1 := trivial
 refine Qa Tryz.func15 rfl Tryz.ntmps15 rfl (t := [(0, Qt l)]) rfl fun E0 hE0 => ?_
 (refine wkGT ?_;intros)
 exact e_1 (Tryz.results15) (Qf (size := 4) rfl rfl (ZA (Enc.len _)) (Enc.len _)) (Qi rfl)
def setN : List Int -> Nd -> Nd -> Nd
 | [], _, x => x
 | i :: p, .mk k n m ks, x => .mk k n m (ks.set i.toNat (setN p (ks.getD i.toNat (.mk 0 0 0 [])) x))
theorem set_take {ks : List Nd} {j i : Nat} {z : Nd} (hi : i < ks.length) : (ks.set j z).take (i + 1) = (ks.set j z).take i ++ [if i = j then z else ks[i]] := by
 rw [List.take_succ_eq_append_getElem (by rw [List.length_set];exact hi), List.getElem_set]
 congr 2
 by_cases e : i = j
 ·rw [if_pos e, if_pos e.symm]
 ·rw [if_neg e, if_neg (fun h => e h.symm)]
theorem sizeL_set {z : Nd} : ∀ {ks : List Nd} {j : Nat} (h : j < ks.length), Qo (ks.set j z) + Qe ks[j] = Qo ks + Qe z
 | x :: r, 0, _ => by
  rw [List.set_cons_zero, Qo, Qo, List.getElem_cons_zero];omega
 | x :: r, j + 1, h => by
  have := sizeL_set (z := z) (ks := r) (j := j) (by simpa using h)
  rw [List.set_cons_succ, Qo, Qo, List.getElem_cons_succ];omega
theorem r05Set_c (x : Nd) (hx : Qe x <= 100000) (p : List Int) : ∀ t : Nd, p ∈ WS t -> Qe t <= 100000 -> Go.Av.Pure Tryz.prog G 41 [.agg (Enc.enc t), Qt p, .agg (Enc.enc x)] (.tup [.agg (Enc.enc (setN p t x)), .i 0]) /\ Qe (setN p t x) <= Qe t + Qe x := by
 induction p with
 | nil =>
  rintro ⟨k, n, m, ks⟩ _ _
  refine ⟨fun B => ?_, by rw [setN];omega⟩
  rw [setN, Qp k n m]
  refine Qa Tryz.func41 rfl Tryz.ntmps41 rfl (t := [(0, .agg [.i k, .i n, .i m, Qt ks]), (1, Qt ([] : List Int)), (2, .agg (Enc.enc x))]) rfl fun E hE => ?_
  (repeat' first|(refine QH ?_;(first|refine Wu rfl ?_|refine WJ rfl ?_|refine qj rfl rfl ?_|refine Wg rfl rfl ?_|refine Q3 rfl ?_|refine Zg rfl rfl rfl rfl ?_|refine Qw (fun _ _ => ?_)|refine Z3 rfl rfl (fun _ _ => ?_)))|(refine QZ ?_;(first|refine QX ?_|refine WT rfl ?_|refine Wf ?_))|(refine QY ?_;(first|refine QW ?_|refine Ql ?_|refine QO rfl ?_|refine Q2 ?_)))
  all_goals exact e_2 (Tryz.results41) (Qf (size := 4) rfl rfl (ZA (Enc.len _)) (Enc.len _)) (Qb rfl) (Qi rfl)
 | cons a p ih =>
  rintro ⟨k, n, m, ks⟩ hp hsz
  have hln := Wm ks
  have hplen : p.length < 100000 := by
   have := paths_lens _ _ hp
   rw [List.length_cons] at this
   omega
  rw [pathsN_eq] at hp
  rw [Qe] at hsz
  rcases List.mem_cons.1 hp with h|hp
  ·cases h
  obtain ⟨j, hj, q, he, hq⟩ := mem_pathsL hp
  rw [Nat.zero_add] at he
  cases he
  have hsm := QJ (List.getElem_mem hj)
  obtain ⟨hset, hs2⟩ := ih ks[j] hq (by omega)
  have e : setN ((j : Int) :: p) (.mk k n m ks) x = .mk k n m (ks.set j (setN p ks[j] x)) := by
   rw [setN, show ((j : Int)).toNat = j by omega, List.getD_eq_getElem?_getD, List.getElem?_eq_getElem hj];rfl
  rw [e]
  have hsl := sizeL_set (z := setN p ks[j] x) hj
  refine ⟨fun B => ?_, by rw [Qe, Qe];omega⟩
  generalize setN p ks[j] x = r at *
  have hpp : ((j : Int) :: p).length = p.length + 1 := rfl
  clear ih hp hq hs2 hsl hsm e
  rw [Qp k n m ks]
  refine Qa Tryz.func41 rfl Tryz.ntmps41 rfl (t := [(0, .agg [.i k, .i n, .i m, Qt ks]), (1, Qt ((j : Int) :: p)), (2, .agg (Enc.enc x))]) rfl fun E hE => ?_
  (repeat' first|(refine QH ?_;(first|refine Wu rfl ?_|refine WJ rfl ?_|refine qj rfl rfl ?_|(refine Qr ?_;(first|refine Wg rfl rfl ?_|refine s_neq rfl rfl ?_))|refine Q3 rfl ?_|(refine QI ?_;(first|refine Zg rfl rfl rfl rfl ?_|refine QA rfl rfl rfl rfl (by rfl) (by rfl) (by rfl) ?_))|refine Qd rfl rfl ?_|refine Qw (fun _ _ => ?_)|refine Z3 rfl rfl (fun _ _ => ?_)))|(refine QZ ?_;(first|refine QX ?_|refine WT rfl ?_|refine Wf ?_))|(refine QY ?_;(first|refine QW ?_|refine Ql ?_|refine Qu ?_|(refine W8 ?_;first|(rename_i g3 hg3 g5 hg5 g6 hg6;refine Qv (fun p => .row g3 [.i k, .i n, .i m, Qt ks] :: .row g5 (Enc.enc x) :: p) 17 [(0, true), (1, true), (2, true), (3, true), (4, true), (5, true), (6, true), (7, true), (8, true), (9, true), (10, true), (11, true), (12, true), (13, true), (14, false), (15, false), (16, true)] (by rfl) (by rfl) (by kernel_rfl) (by decide +kernel) (by decide +kernel) ⟨_, rfl⟩ ?_)|(refine Qv (fun p => .row g3 [.i k, .i n, .i m, Qt ks] :: .row g5 (Enc.enc x) :: p) 100 [(0, true)] (by rfl) (by rfl) (by kernel_rfl) (by decide +kernel) (by decide +kernel) ⟨_, rfl⟩ ?_)|(refine Qv (fun p => .row g3 [.i k, .i n, .i m, Qt ks] :: .row g5 (Enc.enc x) :: p.1 :: p.2.1 :: .row g10 [.i k, .i n, .i m, .ref 5 gc 0 cur.length 4] :: p.2.2) 10 [(0, true), (1, true), (2, true), (3, true), (4, true), (5, true), (6, true), (7, true), (8, false), (9, true), (10, false)] (by rfl) (by rfl) (by kernel_rfl) (by decide +kernel) (by decide +kernel) ⟨(_, _, _), rfl⟩ ?_)|refine WC (by rfl) (by kernel_rfl) (by kernel_rfl) ?_|refine WB (by kernel_rfl) (by kernel_rfl) ?_)|refine QQ ?_|refine Wn rfl ?_|refine Qm rfl (by omega) ?_))|(refine g_lex ?_;(first|refine x_op rfl (by (repeat' first|(refine QH ?_;(first|refine Wu rfl ?_|refine WJ rfl ?_|(refine We ?_;(first|refine qj rfl rfl ?_|refine Wc rfl ?_|refine Q6 rfl ?_|refine Qc rfl rfl rfl ?_))|(refine W4 ?_;(first|refine s_idx_hd rfl rfl ?_|refine QN rfl rfl (by first|assumption|omega|(simp;done)|(simp;omega)) ?_))|(refine Qr ?_;(first|refine Zu rfl rfl ?_|refine qL rfl rfl ?_))|(refine QC ?_;(first|refine WR rfl rfl hset (WO (Q7 (Wo (Enc.clo _)) (Q7 Wa WU))) ?_|refine Q3 rfl ?_))|refine Zf rfl rfl ?_|refine Qd rfl rfl ?_|refine WM rfl rfl rfl ?_|refine s_slice_l rfl rfl (by omega) (by omega) ?_))|exact ⟨rfl, rfl⟩)) ?_|refine x_gy rfl rfl rfl rfl (by (repeat' first|(refine QH ?_;(first|refine Wu rfl ?_|refine WJ rfl ?_|(refine We ?_;(first|refine qj rfl rfl ?_|refine Wc rfl ?_|refine Q6 rfl ?_|refine Qc rfl rfl rfl ?_))|(refine W4 ?_;(first|refine s_idx_hd rfl rfl ?_|refine QN rfl rfl (by first|assumption|omega|(simp;done)|(simp;omega)) ?_))|(refine Qr ?_;(first|refine Zu rfl rfl ?_|refine qL rfl rfl ?_))|(refine QC ?_;(first|refine WR rfl rfl hset (WO (Q7 (Wo (Enc.clo _)) (Q7 Wa WU))) ?_|refine Q3 rfl ?_))|refine Zf rfl rfl ?_|refine Qd rfl rfl ?_|refine WM rfl rfl rfl ?_|refine s_slice_l rfl rfl (by omega) (by omega) ?_))|exact ⟨rfl, rfl⟩)) ?_|refine x_nil ?_))|(refine ZJ ?_;(first|refine qD ?_|refine i_st rfl rfl (fun _ => (by (repeat' first|(refine QH ?_;(first|refine Wu rfl ?_|refine WJ rfl ?_|(refine We ?_;(first|refine qj rfl rfl ?_|refine Wc rfl ?_|refine Q6 rfl ?_|refine Qc rfl rfl rfl ?_))|(refine W4 ?_;(first|refine s_idx_hd rfl rfl ?_|refine QN rfl rfl (by first|assumption|omega|(simp;done)|(simp;omega)) ?_))|(refine Qr ?_;(first|refine Zu rfl rfl ?_|refine qL rfl rfl ?_))|(refine QC ?_;(first|refine WR rfl rfl hset (WO (Q7 (Wo (Enc.clo _)) (Q7 Wa WU))) ?_|refine Q3 rfl ?_))|refine Zf rfl rfl ?_|refine Qd rfl rfl ?_|refine WM rfl rfl rfl ?_|refine s_slice_l rfl rfl (by omega) (by omega) ?_))|exact ⟨rfl, rfl⟩))) ?_|refine i_ef rfl ?_|refine i_ef0 ?_))|refine And.intro (Exists.intro (_) rfl) ?_)
  rename_i g8 hg8 g10 hg10
  refine r_ownin 4 3 4 rfl rfl (fun _ => rfl) (fun gk hgk => ?_)
  refine r_loop2 (fun (i gc : Nat) => ⟨[(1, Qt ((j : Int) :: p)), (3, .ptr 0 g3 0), (8, .ptr 3 g8 0), (10, .ptr 4 g10 0), (11, .i i), (6, .ptr 2 g6 0), (7, .i 0)], [.row g3 [.i k, .i n, .i m, Qt ks], .row g5 (Enc.enc x), .row g6 [.i 0, .i 0, .i 0, .nil], .row g8 (Enc.enc r), .row g10 [.i k, .i n, .i m, .ref 5 gc 0 ((ks.set j r).take i).length 4], .row gc (Q1 ((ks.set j r).take i))]⟩) (fun i gc => i <= ks.length /\ E.N < gc) (fun i _ => ks.length - i) 0 gk ?_ ⟨by omega, hgk⟩ ?_
  ·exact zal rfl
  intro i gc ⟨hi, hgc⟩
  have hcl : ((ks.set j r).take i).length <= 100000 := by rw [List.length_take, List.length_set];omega
  by_cases hil : i < ks.length
  ·have hst := set_take (j := j) (z := r) hil
   generalize (ks.set j r).take i = cur at *
   by_cases e : i = j
   ·rw [if_pos e] at hst
    clear hset
    (repeat' first|(refine QH ?_;(first|refine Wu rfl ?_|refine WJ rfl ?_|(refine We ?_;(first|refine qj rfl rfl ?_|refine Wc rfl ?_|refine Qc rfl rfl rfl ?_))|refine s_idx_hd rfl rfl ?_|(refine Qr ?_;(first|refine Zu rfl rfl ?_|refine Wg rfl rfl ?_|refine Z4 rfl rfl (by omega) ?_))|(refine QC ?_;(first|refine Q3 rfl ?_|refine Zn rfl rfl rfl rfl rfl rfl rfl (by first|omega|(simp;omega)) (by first|omega|(simp;omega)) (fun _ => rfl) (fun _ _ => ?_)))|refine QA rfl rfl rfl rfl (by rfl) (by rfl) (by rfl) ?_|refine QM rfl rfl (by decide) ?_|refine Qd rfl rfl ?_))|(refine QZ ?_;(first|refine QX ?_|refine WT rfl ?_|refine Wf ?_))|(refine QY ?_;(first|refine QW ?_|refine Ql ?_|refine Qu ?_|refine QQ ?_|refine Qn rfl (by omega) ?_)))
    rename_i ga hga
    refine ⟨i + 1, ga, ⟨by omega, by omega⟩, by omega, ?_⟩
    rw [hst]
    exact zal rfl
   ·rw [if_neg e] at hst
    clear hset
    (repeat' first|(refine QH ?_;(first|refine Wu rfl ?_|refine WJ rfl ?_|(refine We ?_;(first|refine Wc rfl ?_|refine Qc rfl rfl rfl ?_))|refine s_idx_hd rfl rfl ?_|(refine Qr ?_;(first|refine Zu rfl rfl ?_|refine Wg rfl rfl ?_|refine Z4 rfl rfl (by omega) ?_))|(refine QC ?_;(first|refine Q3 rfl ?_|refine Zn rfl rfl rfl rfl rfl rfl rfl (by first|omega|(simp;omega)) (by first|omega|(simp;omega)) (fun _ => rfl) (fun _ _ => ?_)))|refine QA rfl rfl rfl rfl (by rfl) (by rfl) (by rfl) ?_|refine Qd rfl rfl ?_))|(refine QZ ?_;(first|refine QX ?_|refine WT rfl ?_))|(refine QY ?_;(first|refine QW ?_|refine Ql ?_|refine Qu ?_|(refine W8 ?_;first|(rename_i g3 hg3 g5 hg5 g6 hg6;refine Qv (fun p => .row g3 [.i k, .i n, .i m, Qt ks] :: .row g5 (Enc.enc x) :: p) 17 [(0, true), (1, true), (2, true), (3, true), (4, true), (5, true), (6, true), (7, true), (8, true), (9, true), (10, true), (11, true), (12, true), (13, true), (14, false), (15, false), (16, true)] (by rfl) (by rfl) (by kernel_rfl) (by decide +kernel) (by decide +kernel) ⟨_, rfl⟩ ?_)|(refine Qv (fun p => .row g3 [.i k, .i n, .i m, Qt ks] :: .row g5 (Enc.enc x) :: p) 100 [(0, true)] (by rfl) (by rfl) (by kernel_rfl) (by decide +kernel) (by decide +kernel) ⟨_, rfl⟩ ?_)|(refine Qv (fun p => .row g3 [.i k, .i n, .i m, Qt ks] :: .row g5 (Enc.enc x) :: p.1 :: p.2.1 :: .row g10 [.i k, .i n, .i m, .ref 5 gc 0 cur.length 4] :: p.2.2) 10 [(0, true), (1, true), (2, true), (3, true), (4, true), (5, true), (6, true), (7, true), (8, false), (9, true), (10, false)] (by rfl) (by rfl) (by kernel_rfl) (by decide +kernel) (by decide +kernel) ⟨(_, _, _), rfl⟩ ?_)|refine WC (by rfl) (by kernel_rfl) (by kernel_rfl) ?_|refine WB (by kernel_rfl) (by kernel_rfl) ?_)|refine QQ ?_|refine Qn rfl (by omega) ?_|refine Qm rfl (by omega) ?_))|(refine ZJ ?_;(first|refine qD ?_|refine i_z0 ?_|refine i_st rfl rfl (fun _ => (by (repeat' first|(refine QH ?_;(first|refine Wu rfl ?_|(refine We ?_;(first|refine Q6 rfl ?_|refine Qc rfl rfl rfl ?_))|refine QN rfl rfl (by first|assumption|omega|(simp;done)|(simp;omega)) ?_|refine QM rfl rfl (by decide) ?_|refine Qd rfl rfl ?_))|exact ⟨rfl, rfl⟩))) ?_|refine i_ef rfl ?_))|refine And.intro (Exists.intro ((_, _, _)) rfl) ?_)
    rename_i ga hga
    refine ⟨i + 1, ga, ⟨by omega, by omega⟩, by omega, ?_⟩
    rw [hst]
    exact zal rfl
  ·have hi3 : i = ks.length := by omega
   subst hi3
   have htk : (ks.set j r).take ks.length = ks.set j r := List.take_of_length_le (by rw [List.length_set];exact Nat.le_refl _)
   rw [htk]
   have c1 := Qx (ks.set j r)
   have hX : DV.tup [.agg (Enc.enc (Nd.mk k n m (ks.set j r))), .i 0] = .tup [.agg [.i k, .i n, .i m, Qt (ks.set j r)], .i 0] := by rw [Qp]
   rw [hX]
   generalize ks.set j r = cur at *
   clear hset htk
   refine r_pubin 4 3 rfl rfl rfl c1.symm rfl rfl ?_
   (repeat' first|(refine QH ?_;(first|refine Wu rfl ?_|refine WJ rfl ?_|(refine We ?_;(first|refine qj rfl rfl ?_|refine Qc rfl rfl rfl ?_))|refine Zu rfl rfl ?_|refine Q3 rfl ?_|refine Zg rfl rfl rfl rfl ?_|refine Qd rfl rfl ?_))|(refine QZ ?_;(first|refine QX ?_|refine WT rfl ?_|refine Wf ?_))|(refine QY ?_;(first|refine QW ?_|refine Ql ?_|refine Qm rfl (by omega) ?_|refine Zq rfl ?_|refine Q2 ?_)))
   all_goals exact e_2 (Tryz.results41) (Qf (size := 4) rfl rfl rfl rfl) (Qb rfl) (Qi rfl)
end Go.Proofs
end
section
namespace Go.Av
open Classical
section
variable {P : Program} {G : Nat -> DV}
theorem s_pubin {f : Operand -> DV} {σ σ1 σ' : List ABlk} {B : Nat} {o : Oper} {K : DV -> List ABlk -> Prop} (m j : Nat) {gm k g len es : Nat} {cs ds : List DV} (hm : σ[m]? = some (.row gm cs)) (hj : cs[j]? = some (.ref k g 0 len es)) (hk : σ[k]? = some (.row g ds)) (hl : len * es = ds.length)
  (hσ1 : setA σ k .gone = some σ1) (hσ' : setA σ1 m (.row gm (cs.set j (.sl es ds))) = some σ') (kk : OpSem P G B o f σ' K) (hne : m ≠ k := by decide) : OpSem P G B o f σ K := fun X ρ hS hσ hB hG hf => by
 subst hσ
 have hE := ZN (X := X) k
 obtain ⟨X2, k1, k2, k3, k4⟩ := Sto.rowcell hS (sto_gone hS k) hE rfl (d' := .sl es ds) hm (by show (X.σ.set k .gone)[m]? = _;rw [List.getElem?_set, if_neg (Ne.symm hne)];exact hm) rfl hj rfl (fun v hv => pub_rep hS hk hl hv)
 have hE2 := hE.trans k4
 have hs := kk X2 ρ k3 (by rw [k2, Z2 hσ', Z2 hσ1]) (Nat.le_trans hB hE2.top) (hG.ext hE2) fun x hx => (hf x hx).ext hE2
 rw [k1] at hs
 show OPost P X K ((execOp ρ o).run P X.w)
 generalize (execOp ρ o).run P X.w = r at *
 cases r with
 | ok nx w' =>
  cases nx <;> simp only [OPost] at hs ⊢
  case value v => exact hs.ext hE2
  case skip => exact hs.ext hE2
  case enter f args => exact ⟨hs.1.trans k1, hs.2.mono fun e w'' ⟨v, he, hp⟩ => ⟨v, he, hp.ext hE2⟩⟩
 | halt _ _ => exact hs.elim
variable {f : Operand -> DV} {σ : List ABlk} {B : Nat} {K : DV -> List ABlk -> Prop} {dst : Option Tmp} {type : TypeId} {pos : String} {after : Array Edge} {gd : Option (Nat × Bool)} {α : Type} [Enc α]
open Go.Bl in
theorem s_build_ndz {t : TypeId} {pl : List (Nat × Nat)} {zs : List Value} {ps : List (Nat × Operand)} {m : List (Nat × DV)} {k n mm : Int} {z : Nd} (hz0 : z = Nd.mk k n mm []) [ht : TyS P t pl] [hz : TyZ P t zs] (hp : qu f ps = some m) (hc : qF (pl[·]?) (zs.map .sc) m = some [.i k, .i n, .i mm, .sc (.slice none 0 0)]) (kk : K (.agg (Enc.enc z)) σ) :
  OpSem P G B ⟨dst, .build t ps.toArray, type, pos, after, gd⟩ f σ K := by subst hz0;exact s_build_nd hp hc kk
theorem s_app_cut {t t' e : TypeId} {d : TypeDesc} {g1 g2 : Bool} {z1 bytes m g len2 off es : Nat} {zs : List Value} {x y : Operand} {ks : List α} {i : Nat} [ht : TyI P t (.slice e) g1 z1] [ht' : SrcTy P t'] [he : TyI P e d g2 es] [hb : TyB P e bytes] [hz : TyZ P e zs]
  {σ' : Nat -> List ABlk} (hzl : zs.length = es) (hes : es = Enc.es α) (hi : i < ks.length) (hx : f x = .ref m g 0 i es) (hm : σ[m]? = some (.row g (Q1 ks))) (hy : f y = .ref m g off len2 es) (ho : off = (i + 1) * es) (hl2 : len2 = ks.length - (i + 1)) (hby : ks.length * bytes <= 140737488355328) (hsm : ks.length <= 9223372036854775807)
  (hσ' : ∀ g', setA σ m (.row g' (Q1 (ks.take i ++ ks.drop (i + 1)))) = some (σ' g')) (k : ∀ g', B < g' -> K (.ref m g' 0 (ks.take i ++ ks.drop (i + 1)).length es) (σ' g')) : OpSem P G B ⟨dst, .call ⟨.builtin .append, #[x, y], #[t, t']⟩, type, pos, after, gd⟩ f σ K := by
 subst hes ho hl2
 have hlen : (Q1 ks).length = ks.length * Enc.es α := Qx ks
 have hmul : i * Enc.es α <= ks.length * Enc.es α := Nat.mul_le_mul_right _ (by omega)
 have hoff : (i + 1) * Enc.es α + (ks.length - (i + 1)) * Enc.es α = ks.length * Enc.es α := by rw [<- Nat.add_mul];congr 1;omega
 have e1 : (Q1 ks).take (i * Enc.es α) = Q1 (ks.take i) := encs_take ks i
 have e2 : ((Q1 ks).drop ((i + 1) * Enc.es α)).take ((ks.length - (i + 1)) * Enc.es α) = Q1 (ks.drop (i + 1)) := by
  rw [encs_drop ks (i + 1)]
  have : (Q1 (ks.drop (i + 1))).length = (ks.length - (i + 1)) * Enc.es α := by rw [Qx, List.length_drop]
  rw [<- this, List.take_length]
 refine s_append hzl hx hm (by omega) hy (srcOf_ref hm (by omega)) ?_ ?_ fun g' hg' => ?_
 ·exact Nat.le_trans (Nat.mul_le_mul_right _ (by omega)) hby
 ·omega
 ·rw [e1, e2, <- encs_append, <- Z2 (hσ' g')]
  have hll : (ks.take i ++ ks.drop (i + 1)).length = i + (ks.length - (i + 1)) := by rw [List.length_append, List.length_take, List.length_drop];omega
  have := k g' hg'
  rwa [hll] at this
end
end Go.Av
end
section
namespace Go.Proofs
open Go.Av
variable {G : Nat -> DV}
attribute [local irreducible] OpSem W7 Zk ZC ACalls qg AClose RV
open Go.Bl
theorem i64_0 : i64 0 := by unfold i64;omega
theorem okN_zero : okN (.mk 0 0 0 []) := by rw [okN];exact ⟨⟨i64_0, i64_0, i64_0⟩, trivial⟩
theorem ok_getD {ks : List Nd} (h : okL ks) (i : Nat) : okN (ks.getD i (.mk 0 0 0 [])) := by
 by_cases hi : i < ks.length
 ·rw [List.getD_eq_getElem?_getD, List.getElem?_eq_getElem hi]
  exact Q4 h (List.getElem_mem hi)
 ·rw [List.getD_eq_getElem?_getD, List.getElem?_eq_none (by omega)]
  exact okN_zero
theorem ok_sub (p : List Int) : ∀ t : Nd, okN t -> okN (subN p t) := by
 induction p with
 | nil => intro t h;rw [subN];exact h
 | cons i p ih =>
  rintro ⟨k, n, m, ks⟩ h
  rw [subN]
  rw [okN] at h
  exact ih _ (ok_getD h.2 _)
theorem ok_set (p : List Int) : ∀ t x : Nd, okN t -> okN x -> okN (setN p t x) := by
 induction p with
 | nil => intro t x h hx;rw [setN];exact hx
 | cons i p ih =>
  rintro ⟨k, n, m, ks⟩ x h hx
  rw [setN]
  rw [okN] at h ⊢
  refine ⟨h.1, okL_of fun y hy => ?_⟩
  obtain ⟨j, hj, rfl⟩ := List.getElem_of_mem hy
  rw [List.getElem_set]
  split
  ·exact ih _ _ (ok_getD h.2 _) hx
  ·exact Q4 h.2 (List.getElem_mem _)
theorem okL_app {a b : List Nd} (ha : okL a) (hb : okL b) : okL (a ++ b) := okL_of fun x hx => (List.mem_append.1 hx).elim (Q4 ha) (Q4 hb)
def nsT (b : Int) : List Int := [-9, -8, -1, 0, 1, 2, 3, 4, 5, 6, 7, 8, 13, 14, b]
def nsU (b : Int) : List Int := [-1, 0, 1, 2, 3, b]
theorem nsT_ok {b : Int} (h : i64 b) : ∀ x ∈ nsT b, i64 x := by
 intro x hx
 unfold nsT at hx
 simp only [List.mem_cons, List.not_mem_nil, or_false] at hx
 rcases hx with rfl|rfl|rfl|rfl|rfl|rfl|rfl|rfl|rfl|rfl|rfl|rfl|rfl|rfl|rfl
 all_goals first|exact h|(unfold i64;omega)
theorem nsU_ok {b : Int} (h : i64 b) : ∀ x ∈ nsU b, i64 x := by
 intro x hx
 unfold nsU at hx
 simp only [List.mem_cons, List.not_mem_nil, or_false] at hx
 rcases hx with rfl|rfl|rfl|rfl|rfl|rfl
 all_goals first|exact h|(unfold i64;omega)
theorem wkSP {X W0 W1 W2 : Prop} (w0 : W0 := by exact True.intro) (w1 : W1 := by exact True.intro) (w2 : W2 := by exact True.intro) (s : (Unit -> W0) -> (Unit -> W1) -> (Unit -> W2) -> Unit -> X := by (intro w0 w1 w2 _;(repeat' first|(refine QH ?_;(first|refine Wu rfl ?_|refine WJ rfl ?_|(refine We ?_;(first|refine s_pubin (o := ⟨some 111, _, _, _, _, _⟩) 2 3 rfl rfl rfl (Qx _).symm rfl rfl ?_ (by first|decide|simp)|refine qj rfl rfl ?_|refine Wc rfl ?_|refine Qc rfl rfl rfl ?_))|(refine W4 ?_;(first|refine QN (l := nsT by_) rfl rfl hjl ?_|refine QN (l := nsU by_) rfl rfl hjl ?_|refine QN rfl rfl (by first|assumption|omega|(simp;done)|(simp;omega)) ?_))|(refine Qr ?_;(first|refine s_gtr rfl rfl ?_|refine Wg rfl rfl ?_|refine WE rfl rfl (by omega) ?_))|(refine QC ?_;(first|refine s_app_cut (ks := ks) rfl rfl hic rfl rfl rfl (by first|omega|simp) (by first|rfl|omega) (by omega) (by omega) (fun _ => rfl) (fun _ _ => ?_)|refine Zn (z := z0) rfl rfl rfl rfl rfl rfl rfl (by first|omega|(simp;omega)) (by first|omega|(simp;omega)) (fun _ => rfl) (fun _ _ => ?_)|refine s_app_z rfl rfl rfl rfl rfl (by first|omega|(simp;omega)) (by first|omega|(simp;omega)) (fun _ => rfl) (fun _ _ => ?_)|refine WR rfl rfl hset (WO (Q7 (Wo (Enc.clo _)) (Q7 Wa WU))) ?_|refine WW rfl rfl (hps) ?_|refine WW rfl rfl (hat) ?_|refine WW rfl rfl (hpa) ?_|refine WW rfl rfl (hph) ?_|refine WW rfl rfl (hpb) ?_|refine Q3 rfl ?_|refine s_len_ref rfl rfl ?_))|(refine QI ?_;(first|refine Zg rfl rfl rfl rfl ?_|refine QA rfl rfl rfl rfl (by rfl) (by rfl) (by rfl) ?_))|(refine Zd ?_;(first|refine Zc (cs := Q1 (nsT by_)) rfl rfl (by decide) rfl ?_|refine Zc (cs := Q1 (nsU by_)) rfl rfl (by decide) rfl ?_|refine s_bslice_none rfl (fun _ _ => ?_)))|refine Qd rfl rfl ?_|refine WM rfl rfl rfl ?_|refine Qw (fun _ _ => ?_)|refine Z3 rfl rfl (fun _ _ => ?_)))|(refine QZ ?_;(first|refine QX ?_|refine WT rfl ?_|refine Wf ?_))|(refine QY ?_;(first|refine QW ?_|refine Ql ?_|refine Qu ?_|(refine W8 ?_;first|(refine Qv ((fun g4 p => .row g4 (Enc.enc t) :: p) _) 13 [(0, true), (1, true), (2, true), (3, true), (4, true), (5, true), (6, true), (7, true), (8, true), (9, true), (10, true), (11, true), (12, false)] (by rfl) (by rfl) (by kernel_rfl) (by decide +kernel) (by decide +kernel) ⟨_, rfl⟩ ?_)|(refine Qv (fun p => p) 100 [(0, true)] (by rfl) (by rfl) (by kernel_rfl) (by decide +kernel) (by decide +kernel) ⟨_, rfl⟩ ?_)|refine WC (by rfl) (by kernel_rfl) (by kernel_rfl) ?_|refine WB (by kernel_rfl) (by kernel_rfl) ?_)|refine QQ ?_|refine QO rfl ?_|refine Wn rfl ?_|refine Qn rfl (by omega) ?_|refine Qm rfl (by omega) ?_|refine Q2 ?_))|(refine g_lex ?_;(first|refine x_op rfl (by (repeat' first|(refine QH ?_;(first|refine Wu rfl ?_|(refine We ?_;(first|refine qj rfl rfl ?_|refine Wc rfl ?_|refine Qc rfl rfl rfl ?_))|refine QN rfl rfl (by first|assumption|omega|(simp;done)|(simp;omega)) ?_|refine s_add_as rfl rfl hsum ⟨by omega, by omega⟩ ?_|(refine QC ?_;(first|refine WR rfl rfl hat2 (WO (Q7 (Wo (Enc.clo _)) (Q7 Wa WU))) ?_|refine WW rfl rfl (hpb) ?_|refine Q3 rfl ?_))|refine QM (z := z0) rfl rfl (by decide) ?_|refine s_build_ndz hz0 rfl rfl ?_|refine Qd rfl rfl ?_|refine WM rfl rfl rfl ?_|(refine g_slice ?_;(first|refine s_slice_rh rfl rfl rfl (by omega) ?_|refine s_slice_rl rfl rfl rfl (by omega) ?_))))|exact ⟨rfl, rfl⟩)) ?_|refine x_nil ?_))|(refine ZJ ?_;(first|refine qD ?_|refine i_st rfl rfl (fun _ => (by (repeat' first|(refine QH ?_;(first|refine Wu rfl ?_|(refine We ?_;(first|refine qj rfl rfl ?_|refine Wc rfl ?_|refine Qc rfl rfl rfl ?_))|refine QN rfl rfl (by first|assumption|omega|(simp;done)|(simp;omega)) ?_|refine s_add_as rfl rfl hsum ⟨by omega, by omega⟩ ?_|(refine QC ?_;(first|refine WR rfl rfl hat2 (WO (Q7 (Wo (Enc.clo _)) (Q7 Wa WU))) ?_|refine WW rfl rfl (hpb) ?_|refine Q3 rfl ?_))|refine QM (z := z0) rfl rfl (by decide) ?_|refine s_build_ndz hz0 rfl rfl ?_|refine Qd rfl rfl ?_|refine WM rfl rfl rfl ?_|(refine g_slice ?_;(first|refine s_slice_rh rfl rfl rfl (by omega) ?_|refine s_slice_rl rfl rfl rfl (by omega) ?_))))|exact ⟨rfl, rfl⟩))) ?_|refine i_ef0 ?_))|refine And.intro (Exists.intro (_) rfl) ?_);(all_goals (repeat (rename_i x;(fail_if_success have : Unit := x);revert x)));(first|done|exact w0 ());(first|done|exact w1 ());(first|done|exact w2 ()))) (u : (W0 \/ True) /\ (W1 \/ True) /\ (W2 \/ True) := by (refine ⟨?_, ?_, ?_⟩ <;> first|exact Or.inl True.intro|exact Or.inr True.intro)) : X := s (fun _ => w0) (fun _ => w1) (fun _ => w2) ()
theorem spoilt_c (t : Nd) (hok : okN t) (hs : Qe t <= 1000) (at_ how by_ : Int) (h1 : i64 at_) (h2 : i64 how) (h3 : i64 by_) :
  ∃ v, okN v /\ Qe v <= 2 * Qe t + 1 /\ Go.Av.Pure Tryz.prog G 16 [.agg (Enc.enc t), .i at_, .i how, .i by_] (.agg (Enc.enc v)) := by
 have hps := (paths_c (G := G) t (by omega)).read
 have hpl := pathsN_len t
 have hsp := Qz t
 have hpa := qJ (G := G) at_ (WS t).length h1 (by omega)
 have hpab := ZL at_ (most := (WS t).length) (by omega)
 have hph := qJ (G := G) how 6 h2 (by omega)
 have hphb := ZL how (most := 6) (by omega)
 obtain ⟨ia, hia⟩ : ∃ ia : Nat, arnd at_ (WS t).length = (ia : Int) := ⟨(arnd at_ (WS t).length).toNat, by omega⟩
 rw [hia] at hpa hpab
 have hil : ia < (WS t).length := by omega
 have hpm : (WS t)[ia] ∈ WS t := List.getElem_mem hil
 obtain ⟨hat, hsx⟩ := r05At_c (G := G) _ t hpm (by omega)
 have hokx := ok_sub (WS t)[ia] t hok
 have hats : ∀ i (h : i < (WS t).length), Go.Av.Pure Tryz.prog G 13 [.agg (Enc.enc t), Qt (WS t)[i]] (.tup [.agg (Enc.enc (subN (WS t)[i] t)), .b true]) /\ Qe (subN (WS t)[i] t) <= Qe t /\ okN (subN (WS t)[i] t) := fun i h => ⟨(r05At_c (G := G) _ t (List.getElem_mem h) (by omega)).1, (r05At_c (G := G) _ t (List.getElem_mem h) (by omega)).2, ok_sub _ t hok⟩
 have hsets : ∀ y : Nd, Qe y <= Qe t + 1 -> okN y -> ∃ v, okN v /\ Qe v <= 2 * Qe t + 1 /\ Go.Av.Pure Tryz.prog G 41 [.agg (Enc.enc t), Qt (WS t)[ia], .agg (Enc.enc y)] (.tup [.agg (Enc.enc v), .i 0]) := fun y hy hoy =>
  ⟨setN (WS t)[ia] t y, ok_set _ t y hok hoy, by have := (r05Set_c (G := G) y (by omega) _ t hpm (by omega)).2;omega, (r05Set_c (G := G) y (by omega) _ t hpm (by omega)).1⟩
 generalize subN (WS t)[ia] t = x at *
 obtain ⟨k, n, m, ks⟩ := x
 rw [Qp] at hat
 rw [okN] at hokx
 rw [Qe] at hsx
 have hkl := Wm ks
 generalize WS t = Ps at *
 generalize arnd how 6 = h at *
 clear hia hpm hok
 have hpb := trivial
 have hat2 := trivial
 have hset := trivial
 have hz0 := trivial
 have hsum := trivial
 have hic := trivial
 have hcase : h = 0 \/ h = 1 \/ h = 2 \/ h = 3 \/ h = 4 \/ h = 5 := by omega
 rcases hcase with rfl|rfl|rfl|rfl|rfl|rfl
 ·have hpb := qJ (G := G) by_ 32 h3 (by omega)
  have hbb := ZL by_ (most := 32) (by omega)
  generalize arnd by_ 32 = b at *
  obtain ⟨v, v1, v2, hset⟩ := hsets (.mk (b - 1) n m ks) (by rw [Qe];omega) (by rw [okN];exact ⟨⟨⟨by omega, by omega⟩, hokx.1.2⟩, hokx.2⟩)
  rw [Qp (b - 1)] at hset
  refine ⟨v, v1, v2, fun B => ?_⟩
  clear hats hsets
  refine Qa Tryz.func16 rfl Tryz.ntmps16 rfl (t := [(0, .agg (Enc.enc t)), (1, .i at_), (2, .i how), (3, .i by_)]) rfl fun E hE => ?_
  (refine wkSP ?_;intros)
  exact e_1 (Tryz.results16) (Qf (size := 4) rfl rfl (ZA (Enc.len _)) (Enc.len _)) (Qi rfl)
 ·have hpb := qJ (G := G) by_ 15 h3 (by omega)
  have hbb := ZL by_ (most := 15) (by omega)
  obtain ⟨b, hb⟩ : ∃ b : Nat, arnd by_ 15 = (b : Int) := ⟨(arnd by_ 15).toNat, by omega⟩
  rw [hb] at hpb hbb
  have hjl : b < (nsT by_).length := by show b < 15;omega
  have hbo := nsT_ok h3 _ (List.getElem_mem hjl)
  obtain ⟨v, v1, v2, hset⟩ := hsets (.mk k (nsT by_)[b] m ks) (by rw [Qe];omega) (by rw [okN];exact ⟨⟨hokx.1.1, hbo, hokx.1.2.2⟩, hokx.2⟩)
  rw [Qp k] at hset
  refine ⟨v, v1, v2, fun B => ?_⟩
  clear hats hsets
  refine Qa Tryz.func16 rfl Tryz.ntmps16 rfl (t := [(0, .agg (Enc.enc t)), (1, .i at_), (2, .i how), (3, .i by_)]) rfl fun E hE => ?_
  (refine wkSP ?_;intros)
  exact e_1 (Tryz.results16) (Qf (size := 4) rfl rfl (ZA (Enc.len _)) (Enc.len _)) (Qi rfl)
 ·have hpb := qJ (G := G) by_ 6 h3 (by omega)
  have hbb := ZL by_ (most := 6) (by omega)
  obtain ⟨b, hb⟩ : ∃ b : Nat, arnd by_ 6 = (b : Int) := ⟨(arnd by_ 6).toNat, by omega⟩
  rw [hb] at hpb hbb
  have hjl : b < (nsU by_).length := by show b < 6;omega
  have hbo := nsU_ok h3 _ (List.getElem_mem hjl)
  obtain ⟨v, v1, v2, hset⟩ := hsets (.mk k n (nsU by_)[b] ks) (by rw [Qe];omega) (by rw [okN];exact ⟨⟨hokx.1.1, hokx.1.2.1, hbo⟩, hokx.2⟩)
  rw [Qp k] at hset
  refine ⟨v, v1, v2, fun B => ?_⟩
  clear hats hsets
  refine Qa Tryz.func16 rfl Tryz.ntmps16 rfl (t := [(0, .agg (Enc.enc t)), (1, .i at_), (2, .i how), (3, .i by_)]) rfl fun E hE => ?_
  (refine wkSP ?_;intros)
  exact e_1 (Tryz.results16) (Qf (size := 4) rfl rfl (ZA (Enc.len _)) (Enc.len _)) (Qi rfl)
 ·by_cases hk0 : 0 < ks.length
  ·have hpb := qJ (G := G) by_ ks.length h3 (by omega)
   have hbb := ZL by_ (most := ks.length) (by omega)
   obtain ⟨b, hb⟩ : ∃ b : Nat, arnd by_ ks.length = (b : Int) := ⟨(arnd by_ ks.length).toNat, by omega⟩
   rw [hb] at hpb hbb
   have hic : b < ks.length := by omega
   have hsum : (b : Int) + 1 = ((b + 1 : Nat) : Int) := by omega
   have hcl : (ks.take b ++ ks.drop (b + 1)).length <= ks.length := by rw [List.length_append, List.length_take, List.length_drop];omega
   obtain ⟨v, v1, v2, hset⟩ := hsets (.mk k n m (ks.take b ++ ks.drop (b + 1))) (by
    have q1 := ZG (ks.take b) (ks.drop b)
    rw [List.take_append_drop] at q1
    have q2 := ZG (ks.take b) (ks.drop (b + 1))
    rw [List.drop_eq_getElem_cons hic, Qo] at q1
    rw [Qe];omega) (by rw [okN];exact ⟨hokx.1, okL_app (okL_of fun x hx => Q4 hokx.2 (List.mem_of_mem_take hx)) (okL_of fun x hx => Q4 hokx.2 (List.mem_of_mem_drop hx))⟩)
   rw [Qp k] at hset
   refine ⟨v, v1, v2, fun B => ?_⟩
   clear hats hsets
   refine Qa Tryz.func16 rfl Tryz.ntmps16 rfl (t := [(0, .agg (Enc.enc t)), (1, .i at_), (2, .i how), (3, .i by_)]) rfl fun E hE => ?_
   (refine wkSP ?_;intros)
   exact e_1 (Tryz.results16) (Qf (size := 4) rfl rfl (ZA (Enc.len _)) (Enc.len _)) (Qi rfl)
  ·obtain ⟨v, v1, v2, hset⟩ := hsets (.mk k n m ks) (by rw [Qe];omega) (by rw [okN];exact hokx)
   rw [Qp k] at hset
   refine ⟨v, v1, v2, fun B => ?_⟩
   clear hats hsets
   refine Qa Tryz.func16 rfl Tryz.ntmps16 rfl (t := [(0, .agg (Enc.enc t)), (1, .i at_), (2, .i how), (3, .i by_)]) rfl fun E hE => ?_
   (refine wkSP ?_;intros)
   exact e_1 (Tryz.results16) (Qf (size := 4) rfl rfl (ZA (Enc.len _)) (Enc.len _)) (Qi rfl)
 ·have hpb := qJ (G := G) by_ 30 h3 (by omega)
  have hbb := ZL by_ (most := 30) (by omega)
  generalize arnd by_ 30 = b at *
  obtain ⟨z0, hz0⟩ : ∃ z0, z0 = Nd.mk b 0 0 [] := ⟨_, rfl⟩
  have hz1 : okN z0 := by rw [hz0, okN];exact ⟨⟨⟨by omega, by omega⟩, i64_0, i64_0⟩, trivial⟩
  have hz2 : Qe z0 = 1 := by rw [hz0, Qe, Qo]
  obtain ⟨v, v1, v2, hset⟩ := hsets (.mk k n m (ks ++ [z0])) (by rw [Qe, ZG, Qo, Qo, hz2];omega) (by rw [okN];exact ⟨hokx.1, okL_app hokx.2 ⟨hz1, trivial⟩⟩)
  rw [Qp k] at hset
  refine ⟨v, v1, v2, fun B => ?_⟩
  clear hats hsets
  refine Qa Tryz.func16 rfl Tryz.ntmps16 rfl (t := [(0, .agg (Enc.enc t)), (1, .i at_), (2, .i how), (3, .i by_)]) rfl fun E hE => ?_
  (refine wkSP ?_;intros)
  exact e_1 (Tryz.results16) (Qf (size := 4) rfl rfl (ZA (Enc.len _)) (Enc.len _)) (Qi rfl)
 ·have hpb := qJ (G := G) by_ Ps.length h3 (by omega)
  have hbb := ZL by_ (most := Ps.length) (by omega)
  obtain ⟨b, hb⟩ : ∃ b : Nat, arnd by_ Ps.length = (b : Int) := ⟨(arnd by_ Ps.length).toNat, by omega⟩
  rw [hb] at hpb hbb
  have hjl : b < Ps.length := by omega
  obtain ⟨hat2, hs2, hok2⟩ := hats b hjl
  generalize subN Ps[b] t = z at *
  obtain ⟨v, v1, v2, hset⟩ := hsets z (by omega) hok2
  refine ⟨v, v1, v2, fun B => ?_⟩
  clear hats hsets
  refine Qa Tryz.func16 rfl Tryz.ntmps16 rfl (t := [(0, .agg (Enc.enc t)), (1, .i at_), (2, .i how), (3, .i by_)]) rfl fun E hE => ?_
  (refine wkSP ?_;intros)
  exact e_1 (Tryz.results16) (Qf (size := 4) rfl rfl (ZA (Enc.len _)) (Enc.len _)) (Qi rfl)
theorem decDigits_step {n : Nat} (h : ¬ n < 10) : Lib.decDigits n = Lib.decDigits (n / 10) ++ [UInt8.ofNat (48 + n % 10)] := by rw [Lib.decDigits, dif_neg h]
theorem digits_len (n : Nat) (h : n <= 9223372036854775807) : (Lib.decDigits n).length <= 21 := by
 have h1 := WZ (n := (n : Int)) ⟨by omega, by omega⟩
 unfold Lib.itoa at h1
 rw [if_neg (by omega)] at h1
 exact h1
theorem wkU1 {X W0 W1 W2 : Prop} (w0 : W0 := by exact True.intro) (w1 : W1 := by exact True.intro) (w2 : W2 := by exact True.intro) (s : (Unit -> W0) -> (Unit -> W1) -> (Unit -> W2) -> Unit -> X := by (intro w0 w1 w2 _;(repeat' first|(refine QH ?_;(first|refine Wu rfl ?_|refine WJ rfl ?_|(refine We ?_;(first|refine Wc rfl ?_|refine Qc rfl rfl rfl ?_))|refine QN rfl rfl (by first|assumption|omega|(simp;done)|(simp;omega)) ?_|(refine Qr ?_;(first|refine Zu rfl rfl ?_|refine WI rfl rfl ?_|refine s_gtr rfl rfl ?_|refine qL rfl rfl ?_|refine Wg rfl rfl ?_|refine Z4 rfl rfl (by omega) ?_|refine s_ad rfl rfl ?_))|refine Q3 rfl ?_|(refine Wz ?_;(first|refine qb rfl rfl ?_|refine Zf rfl rfl ?_))|(refine g_convert ?_;(first|refine s_conv_u8 rfl hw ?_|refine s_conv_bsl1 rfl ?_))|(refine Zd ?_;(first|refine s_bslice_e [Str.mk [43], Str.mk [45], Str.mk [42], Str.mk [47], Str.mk [37], Str.mk [38], Str.mk [124], Str.mk [94], Str.mk [60, 60], Str.mk [62, 62], Str.mk [60], Str.mk [61, 61], Str.mk [38, 38], Str.mk [124, 124]] rfl rfl (by decide) rfl ?_|refine Zc rfl rfl (by decide) rfl ?_))|refine Qd rfl rfl ?_|refine Z3 rfl rfl (fun _ _ => ?_)))|(refine QZ ?_;(first|refine QX ?_|refine WT rfl ?_|refine Zx rfl rfl rfl rfl ?_|refine qA rfl rfl rfl rfl ?_|refine WF rfl rfl (by omega) ?_|refine Q0 rfl rfl (by omega) ?_))|(refine QY ?_;(first|refine QW ?_|refine Ql ?_|refine Qu ?_|(refine W8 ?_;first|refine WC (by rfl) (by kernel_rfl) (by kernel_rfl) ?_|refine WB (by kernel_rfl) (by kernel_rfl) ?_)|refine QQ ?_|refine Wn rfl ?_|refine Qn rfl (by omega) ?_|refine Qm rfl (by omega) ?_|refine Zq rfl ?_|refine Q2 ?_))|(refine g_lex ?_;(first|refine x_op rfl (by (repeat' first|(refine QH ?_;(first|refine Wu rfl ?_|refine WJ rfl ?_|(refine Qr ?_;(first|refine Z4 rfl rfl (by omega) ?_|refine s_ad rfl rfl ?_|refine s_quo rfl rfl (by omega) (by omega) (by omega) ?_|refine ZV rfl rfl (by first|omega|exact nn_shr (by omega)) (by omega) ?_))|refine WW rfl rfl (hr) ?_|(refine g_convert ?_;(first|refine s_conv_u8 rfl hw ?_|refine s_conv_bsl1 rfl ?_))|refine Zc rfl rfl (by decide) rfl ?_))|exact ⟨rfl, rfl⟩)) ?_|refine x_nil ?_)));(all_goals (repeat (rename_i x;(fail_if_success have : Unit := x);revert x)));(first|done|exact w0 ());(first|done|exact w1 ());(first|done|exact w2 ()))) (u : (W0 \/ True) /\ (W1 \/ True) /\ (W2 \/ True) := by (refine ⟨?_, ?_, ?_⟩ <;> first|exact Or.inl True.intro|exact Or.inr True.intro)) : X := s (fun _ => w0) (fun _ => w1) (fun _ => w2) ()
theorem qI : ∀ (n : Nat), n <= 9223372036854775807 -> Go.Av.Pure Tryz.prog G 93 [.i n] (Ww (Lib.decDigits n)) := by
 intro n
 induction n using Nat.strongRecOn with
 | ind n ih =>
 intro hn B
 by_cases h : n < 10
 ·have hw : IntKind.u8.wrap (48 + (n : Int)) = ((UInt8.ofNat (48 + n)).toNat : Int) := by rw [<- wrap_u8 (48 + n) (by omega)];congr 1
  refine Qa Tryz.func93 rfl Tryz.ntmps93 rfl (t := [(0, .i n)]) rfl fun E hE => ?_
  (refine wkU1 ?_;intros)
  refine e_1 Tryz.results93 (Qb rfl) (Qi ?_)
  rw [Lib.decDigits_one h]
 ·have hr := ih (n / 10) (by omega) (by omega)
  have hl := digits_len (n / 10) (by omega)
  rw [show ((n / 10 : Nat) : Int) = (n : Int) / 10 by omega] at hr
  have hw : IntKind.u8.wrap (48 + (n : Int) % 10) = ((UInt8.ofNat (48 + n % 10)).toNat : Int) := by rw [<- wrap_u8 (48 + n % 10) (by omega)];congr 1
  refine Qa Tryz.func93 rfl Tryz.ntmps93 rfl (t := [(0, .i n)]) rfl fun E hE => ?_
  (refine wkU1 ?_;intros)
  refine e_1 Tryz.results93 (Qb rfl) (Qi ?_)
  rw [decDigits_step h]
theorem ZH (n : Int) : Go.Av.Pure Tryz.prog G 92 [.i n] (.b (WH n)) := fun B => by
 unfold WH
 by_cases h : 0 <= n
 ·refine Qa Tryz.func92 rfl Tryz.ntmps92 rfl (t := [(0, .i n)]) rfl fun E hE => ?_
  (refine wkU1 ?_;intros)
  refine e_1 Tryz.results92 (Qb rfl) (Qi ?_)
  simp [h]
 ·refine Qa Tryz.func92 rfl Tryz.ntmps92 rfl (t := [(0, .i n)]) rfl fun E hE => ?_
  (refine wkU1 ?_;intros)
  refine e_1 Tryz.results92 (Qb rfl) (Qi ?_)
  simp [h]
def bareR (m : Int) (len : Nat) (kids : Int) : Bool := decide (m = 0) && decide ((len : Int) = kids)
theorem Z9 (k n m : Int) (ks : List Nd) (kids : Int) : Go.Av.Pure Tryz.prog G 97 [.agg [.i k, .i n, .i m, Qt ks], .i kids] (.b (bareR m ks.length kids)) := fun B => by
 unfold bareR
 by_cases h : m = 0
 ·refine Qa Tryz.func97 rfl Tryz.ntmps97 rfl (t := [(0, .agg [.i k, .i n, .i m, Qt ks]), (1, .i kids)]) rfl fun E hE => ?_
  (refine wkU1 ?_;intros)
  refine e_1 Tryz.results97 (Qb rfl) (Qi ?_)
  simp [h]
 ·refine Qa Tryz.func97 rfl Tryz.ntmps97 rfl (t := [(0, .agg [.i k, .i n, .i m, Qt ks]), (1, .i kids)]) rfl fun E hE => ?_
  (refine wkU1 ?_;intros)
  refine e_1 Tryz.results97 (Qb rfl) (Qi ?_)
  simp [h]
theorem r_ops_c : Go.Av.Pure Tryz.prog G 99 [] (Qt (opTexts.map Str.mk)) := fun B => by
 refine Qa Tryz.func99 rfl Tryz.ntmps99 rfl (t := []) rfl fun E hE => ?_
 (refine wkU1 ?_;intros)
 refine e_1 Tryz.results99 (Qb rfl) (Qi ?_)
 rfl
def qm (ls : List Str) : List (List UInt8) := ls.map (·.l)
theorem commas_snoc (a : List (List UInt8)) (x : List UInt8) : Wv (a ++ [x]) = if a = [] then x else Wv a ++ comma ++ x := by
 cases a with
 | nil => exact Lib.join_one _ _
 | cons y r =>
  rw [if_neg (by simp)]
  show Lib.join (y :: (r ++ [x])) comma = Lib.join (y :: r) comma ++ comma ++ x
  rw [Lib.join_cons, Lib.join_cons]
  simp [Lib.joinTail]
theorem commas_take_le (ls : List Str) (i : Nat) : (Wv (qm (ls.take i))).length <= (Wv (qm ls)).length := by
 have key : ∀ (a b : List (List UInt8)), (Wv a).length <= (Wv (a ++ b)).length := by
  intro a b
  cases a with
  | nil => simp [Wv, Lib.join_nil]
  | cons x r =>
   show (Lib.join (x :: r) comma).length <= (Lib.join (x :: (r ++ b)) comma).length
   rw [Lib.join_cons, Lib.join_cons]
   simp [Lib.joinTail]
 have := key (qm (ls.take i)) (qm (ls.drop i))
 unfold qm at this ⊢
 rwa [<- List.map_append, List.take_append_drop] at this
theorem r_list_c (ls : List Str) (hlen : (Wv (qm ls)).length <= 140737488355328) (hn : ls.length <= 1000000000) : Go.Av.Pure Tryz.prog G 96 [Qt ls] (Ww (Wv (qm ls))) := fun B => by
 refine Qa Tryz.func96 rfl Tryz.ntmps96 rfl (t := [(0, Qt ls)]) rfl fun E hE => ?_
 (refine wkU1 ?_;intros)
 refine ZZ (fun (i : Nat) => ⟨[(0, Qt ls), (3, Ww (Wv (qm (ls.take i)))), (4, .i i)], []⟩) (fun i => i <= ls.length) (fun i => ls.length - i) 0 ?_ (by omega) ?_
 ·exact zal rfl
 intro i hi
 have hle := commas_take_le ls i
 by_cases hil : i < ls.length
 ·have hle2 := commas_take_le ls (i + 1)
  have hsn : Wv (qm (ls.take (i + 1))) = if qm (ls.take i) = [] then ls[i].l else Wv (qm (ls.take i)) ++ comma ++ ls[i].l := by
   rw [<- commas_snoc];unfold qm;rw [List.take_succ_eq_append_getElem hil, List.map_append];rfl
  by_cases h0 : i = 0
  ·subst h0
   have hll : ls[0].l.length <= 140737488355328 := by
    rw [hsn, if_pos (by simp [qm])] at hle2;omega
   (refine wkU1 ?_;intros)
   refine ⟨1, by omega, by omega, ?_⟩
   rw [hsn, if_pos (by simp [qm])]
   exact zal rfl
  ·have hne : qm (ls.take i) ≠ [] := by
    intro h
    have h2 : (qm (ls.take i)).length = i := by unfold qm;rw [List.length_map, List.length_take];omega
    rw [h] at h2;exact h0 h2.symm
   rw [if_neg hne] at hsn
   have hll : (Wv (qm (ls.take i))).length + 2 + ls[i].l.length <= 140737488355328 := by
    rw [hsn] at hle2
    simp only [List.length_append, show comma.length = 2 from rfl] at hle2
    omega
   (refine wkU1 ?_;intros)
   refine ⟨i + 1, by omega, by omega, ?_⟩
   rw [hsn]
   exact zal rfl
 ·have hie : i = ls.length := by omega
  subst hie
  (refine wkU1 ?_;intros)
  refine e_1 Tryz.results96 (Qb rfl) (Qi ?_)
  rw [List.take_length]
theorem Wb (m : Int) (l : Nat) (c : Int) (h : 0 <= c) : QK m l c = bareR m l c := by unfold QK bareR;rw [decide_eq_false (show ¬ c < 0 by omega)];simp
theorem WX (n m : Int) (l : Nat) (c : Int) (h : 0 <= c) : Wq n m l c = (decide (n = 0) && bareR m l c) := by unfold Wq;rw [Wb _ _ _ h]
theorem itoa_nat {n : Int} (h : 0 <= n) : Lib.itoa n = Lib.decDigits n.toNat := by unfold Lib.itoa;rw [if_neg (by omega)]
theorem qK {n : Int} (h : WH n = true) : 0 <= n /\ n <= 999 := by simpa [WH] using h
theorem wkU2 {X W0 W1 W2 : Prop} (w0 : W0 := by exact True.intro) (w1 : W1 := by exact True.intro) (w2 : W2 := by exact True.intro) (s : (Unit -> W0) -> (Unit -> W1) -> (Unit -> W2) -> Unit -> X := by (intro w0 w1 w2 _;(repeat' first|(refine QH ?_;(first|refine Wu rfl ?_|refine WJ rfl ?_|(refine We ?_;(first|refine Q6 rfl ?_|refine Qc rfl rfl rfl ?_))|refine QN rfl rfl (by first|assumption|omega|(simp;done)|(simp;omega)) ?_|(refine Qr ?_;(first|refine Zu rfl rfl ?_|refine Wg rfl rfl ?_|refine s_neq rfl rfl ?_|refine Z4 rfl rfl (by omega) ?_|refine s_ad rfl rfl ?_))|(refine QC ?_;(first|refine s_call_v rfl rfl (View.ref rfl (by rw [Qx];rfl) (QB _) View.nil) (r_list_c _ hJ hN) rfl ?_|refine WW rfl rfl (hx) ?_|refine Zn (z := Str.mk _) rfl rfl rfl rfl rfl rfl rfl (by first|omega|(simp;omega)) (by first|omega|(simp;omega)) (fun _ => rfl) (fun _ _ => ?_)|refine Q3 rfl ?_))|(refine Wz ?_;(first|refine qb rfl rfl ?_|refine Zf rfl rfl ?_))|refine Zc rfl rfl (by decide) rfl ?_|refine s_not rfl ?_|refine Qd rfl rfl ?_|refine WM rfl rfl rfl ?_|refine Z3 rfl rfl (fun _ _ => ?_)))|(refine QZ ?_;(first|refine QX ?_|refine WT rfl ?_|refine Zx rfl rfl rfl rfl ?_|refine qA rfl rfl rfl rfl ?_|refine WF rfl rfl (by omega) ?_|refine Q0 rfl rfl (by omega) ?_))|(refine QY ?_;(first|refine QW ?_|refine Ql ?_|refine Qu ?_|(refine W8 ?_;first|refine WC (by rfl) (by kernel_rfl) (by kernel_rfl) ?_|refine WB (by kernel_rfl) (by kernel_rfl) ?_)|refine QQ ?_|refine QO rfl ?_|refine Wn rfl ?_|refine Qn rfl (by omega) ?_|refine Qm rfl (by omega) ?_|refine Zq rfl ?_|refine Q2 ?_))|(refine g_lex ?_;(first|refine x_gn rfl rfl rfl rfl ?_|refine x_op rfl (by (repeat' first|(refine QH ?_;(first|refine Wu rfl ?_|refine WJ rfl ?_|(refine We ?_;(first|refine qj rfl rfl ?_|refine Wc rfl ?_|refine Qc rfl rfl rfl ?_))|refine QN rfl rfl (by first|assumption|omega|(simp;done)|(simp;omega)) ?_|(refine Qr ?_;(first|refine Wg rfl rfl ?_|refine s_ad rfl rfl ?_))|(refine QC ?_;(first|refine s_max rfl rfl ?_|refine WW rfl rfl (hdig) ?_|refine WW rfl rfl (ZH _) ?_|refine WW rfl rfl (Z9 _ _ _ _ _) ?_))|(refine Wz ?_;(first|refine qb rfl rfl ?_|refine Zf rfl rfl ?_))|refine s_bslice_e [Str.mk [105, 110, 116], Str.mk [98, 111, 111, 108]] rfl rfl (by decide) rfl ?_|refine Qd rfl rfl ?_))|exact ⟨rfl, rfl⟩)) ?_|refine x_gy rfl rfl rfl rfl (by (repeat' first|(refine QH ?_;(first|refine Wu rfl ?_|refine WJ rfl ?_|(refine We ?_;(first|refine qj rfl rfl ?_|refine Wc rfl ?_|refine Qc rfl rfl rfl ?_))|refine QN rfl rfl (by first|assumption|omega|(simp;done)|(simp;omega)) ?_|(refine Qr ?_;(first|refine Wg rfl rfl ?_|refine s_ad rfl rfl ?_))|(refine QC ?_;(first|refine s_max rfl rfl ?_|refine WW rfl rfl (hdig) ?_|refine WW rfl rfl (ZH _) ?_|refine WW rfl rfl (Z9 _ _ _ _ _) ?_))|(refine Wz ?_;(first|refine qb rfl rfl ?_|refine Zf rfl rfl ?_))|refine s_bslice_e [Str.mk [105, 110, 116], Str.mk [98, 111, 111, 108]] rfl rfl (by decide) rfl ?_|refine Qd rfl rfl ?_))|exact ⟨rfl, rfl⟩)) ?_|refine x_nil ?_|refine x_sp_t rfl rfl (by omega) ?_|refine x_sp_f rfl rfl (by omega) ?_|refine x_sp rfl rfl (fun _ => ?_) (fun _ => ?_))));(all_goals (repeat (rename_i x;(fail_if_success have : Unit := x);revert x)));(first|done|exact w0 ());(first|done|exact w1 ());(first|done|exact w2 ()))) (u : (W0 \/ True) /\ (W1 \/ True) /\ (W2 \/ True) := by (refine ⟨?_, ?_, ?_⟩ <;> first|exact Or.inl True.intro|exact Or.inr True.intro)) : X := s (fun _ => w0) (fun _ => w1) (fun _ => w2) ()
theorem rTy_c (t : Nd) : okN t -> Qe t <= 1000000 -> ∃ x, Go.Av.Pure Tryz.prog G 54 [.agg (Enc.enc t)] (.tup [Ww x, .b (ZD t)]) /\ (ZD t = true -> x = qz t) := by
 induction t using Nd.ind with
 | h k n m ks ih =>
 intro hok hsz
 rw [okN] at hok
 rw [Qe] at hsz
 have hl1 := Wm ks
 have hi : ∀ x ∈ ks, ∃ y, Go.Av.Pure Tryz.prog G 54 [.agg (Enc.enc x)] (.tup [Ww y, .b (ZD x)]) /\ (ZD x = true -> y = qz x) := fun x hx => ih x hx (Q4 hok.2 hx) (by have := QJ hx;omega)
 clear ih
 rw [qz, ZD, typTs_eq, typOks_eq, Qp]
 by_cases k2 : k = 2
 ·subst k2
  have hdig : Go.Av.Pure Tryz.prog G 93 [.i (max n 0)] (Ww (Lib.decDigits n.toNat)) := by
   rw [show max n 0 = (n.toNat : Int) by omega];exact qI _ (by have := hok.1.2.1.2;omega)
  have hdl := digits_len n.toNat (by have := hok.1.2.1.2;omega)
  rw [Wb _ _ _ (by decide)]
  refine ⟨[97, 114, 114, 32] ++ Lib.decDigits n.toNat, fun B => ?_, ?_⟩
  ·refine Qa Tryz.func54 rfl Tryz.ntmps54 rfl (t := [(0, .agg [.i 2, .i n, .i m, Qt ks])]) rfl fun E hE => ?_
   (refine wkU2 ?_ ?_ <;> first|exact True.intro|intros)
   all_goals exact e_2 Tryz.results54 (Qb rfl) (Qb rfl) (Qi (by simp [*]))
  ·intro h
   simp at h
   rw [itoa_nat (qK h.2).1];simp
 by_cases k0 : k = 0
 ·subst k0
  rw [WX _ _ _ _ (by decide)]
  refine ⟨[105, 110, 116], fun B => ?_, by simp⟩
  by_cases hn : n = 0
  all_goals
   refine Qa Tryz.func54 rfl Tryz.ntmps54 rfl (t := [(0, .agg [.i 0, .i n, .i m, Qt ks])]) rfl fun E hE => ?_
   (refine wkU2 ?_ ?_ <;> first|exact True.intro|intros)
   all_goals exact e_2 Tryz.results54 (Qb rfl) (Qb rfl) (Qi (by simp [*]))
 by_cases k1 : k = 1
 ·subst k1
  rw [WX _ _ _ _ (by decide)]
  refine ⟨[98, 111, 111, 108], fun B => ?_, by simp⟩
  by_cases hn : n = 0
  all_goals
   refine Qa Tryz.func54 rfl Tryz.ntmps54 rfl (t := [(0, .agg [.i 1, .i n, .i m, Qt ks])]) rfl fun E hE => ?_
   (refine wkU2 ?_ ?_ <;> first|exact True.intro|intros)
   all_goals exact e_2 Tryz.results54 (Qb rfl) (Qb rfl) (Qi (by simp [*]))
 by_cases k3 : k = 3
 ·subst k3
  by_cases hc : ks.length = 0 \/ n ≠ 0 \/ m ≠ 0
  ·refine ⟨[], fun B => ?_, fun h => ?_⟩
   ·by_cases h0 : (ks.length : Int) = 0
    ·have h00 : ks.length = 0 := by omega
     refine Qa Tryz.func54 rfl Tryz.ntmps54 rfl (t := [(0, .agg [.i 3, .i n, .i m, Qt ks])]) rfl fun E hE => ?_
     (refine wkU2 ?_;intros)
     all_goals exact e_2 Tryz.results54 (Qb rfl) (Qb rfl) (Qi (by simp [*]))
    by_cases hn : n = 0
    ·have hm : m ≠ 0 := by omega
     refine Qa Tryz.func54 rfl Tryz.ntmps54 rfl (t := [(0, .agg [.i 3, .i n, .i m, Qt ks])]) rfl fun E hE => ?_
     (refine wkU2 ?_;intros)
     all_goals exact e_2 (Tryz.results54) (Qb rfl) (Qb rfl) (Qi (by simp [Wq, QK, *]))
    ·refine Qa Tryz.func54 rfl Tryz.ntmps54 rfl (t := [(0, .agg [.i 3, .i n, .i m, Qt ks])]) rfl fun E hE => ?_
     (refine wkU2 ?_;intros)
     all_goals exact e_2 (Tryz.results54) (Qb rfl) (Qb rfl) (Qi (by simp [Wq, QK, *]))
   ·simp [Wq, QK] at h;omega
  ·have hlen : ¬ ks.length = 0 := fun h => hc (.inl h)
   have hn : n = 0 := Classical.byContradiction fun h => hc (.inr (.inl h))
   have hm : m = 0 := Classical.byContradiction fun h => hc (.inr (.inr h))
   have hlz : ¬ (ks.length : Int) = 0 := by omega
   have hlp : 0 < ks.length := by omega
   have hcl := ZK qz ks fun x hx => typT_len x (Q4 hok.2 hx)
   subst hn;subst hm
   refine ⟨if ks.all ZD = true then [114, 101, 99, 32, 40] ++ Wv (ks.map qz) ++ [41] else [], fun B => ?_, fun h => ?_⟩
   ·refine Qa Tryz.func54 rfl Tryz.ntmps54 rfl (t := [(0, .agg [.i 3, .i 0, .i 0, Qt ks])]) rfl fun E hE => ?_
    (refine wkU2 ?_;intros)
    rename_i gb hgb
    refine r_own 4 1 rfl fun gO hgO => ?_
    refine r_loopg (fun (i : Nat) g => ⟨[(1, .ptr 0 gb 0), (4, .ref 1 g 0 ((ks.take i).map fun x => Str.mk (qz x)).length 1), (5, .i i)], [.row gb [.i 3, .i 0, .i 0, Qt ks], .row g (Q1 ((ks.take i).map fun x => Str.mk (qz x)))]⟩) (fun i => i <= ks.length /\ (ks.take i).all ZD = true) (fun i => ks.length - i) 0 gO hgO ?_ (by simp) ?_
    ·exact zal rfl
    intro i g ⟨hil0, hall⟩ hg
    by_cases hil : i < ks.length
    ·obtain ⟨y, hx, hxe⟩ := hi _ (List.getElem_mem hil)
     by_cases hk : ZD ks[i] = true
     ·have hye := hxe hk
      subst hye
      rw [hk] at hx
      have hb2 : ((ks.take (i + 1)).map fun x => Str.mk (qz x)) = ((ks.take i).map fun x => Str.mk (qz x)) ++ [Str.mk (qz ks[i])] := by rw [List.take_succ_eq_append_getElem hil, List.map_append];rfl
      have hal : ((ks.take i).map fun x => Str.mk (qz x)).length <= 1048576 := by simp;omega
      (refine wkU2 ?_;intros)
      refine ⟨i + 1, _, ⟨by omega, by rw [List.take_succ_eq_append_getElem hil, List.all_append, hall];simp [hk]⟩, by assumption, by omega, ?_⟩
      rw [hb2]
      exact zal rfl
     ·have hk2 : ZD ks[i] = false := by rw [<- Bool.not_eq_true];exact hk
      rw [hk2] at hx
      have hna : ks.all ZD = false := by
       rw [<- Bool.not_eq_true, List.all_eq_true]
       intro h;exact hk (h _ (List.getElem_mem hil))
      (refine wkU2 ?_;intros)
      exact e_2 (Tryz.results54) (Qb rfl) (Qb rfl) (Qi (by simp [hna]))
    ·have hie : i = ks.length := by omega
     subst hie
     rw [List.take_length] at *
     have hJ : (Wv (qm (ks.map fun x => Str.mk (qz x)))).length <= 140737488355328 := by unfold qm;rw [List.map_map];show (Wv (ks.map qz)).length <= _;omega
     have hN : (ks.map fun x => Str.mk (qz x)).length <= 1000000000 := by simp;omega
     have hst : qm (ks.map fun x => Str.mk (qz x)) = ks.map qz := by unfold qm;rw [List.map_map];rfl
     have hcl2 : (Wv (qm (ks.map fun x => Str.mk (qz x)))).length <= 30 * Qo ks := by rw [hst];exact hcl
     (refine wkU2 ?_;intros)
     exact e_2 (Tryz.results54) (Qb rfl) (Qb rfl) (Qi (by rw [hst];simp [hall, Wq, QK, hlp]))
   ·have ha : ks.all ZD = true := by simp at h;rw [List.all_eq_true];exact h.2
    rw [if_pos ha];simp
 ·refine ⟨[], fun B => ?_, by simp [k0, k1, k2, k3]⟩
  refine Qa Tryz.func54 rfl Tryz.ntmps54 rfl (t := [(0, .agg [.i k, .i n, .i m, Qt ks])]) rfl fun E hE => ?_
  (refine wkU2 ?_;intros)
  all_goals exact e_2 Tryz.results54 (Qb rfl) (Qb rfl) (Qi (by simp [*]))
end Go.Proofs
end
