/-
  Part 5 of the proof: GB AvB3 GC GD AvD3 SA SB SS S3 S4 BW CH GX SQ GZ.
-/
import Derived.Test.YtnppaoeijmgneaaGreatDoorZG1
import Derived.Test.YtnppaoeijmgneaaGreatDoorZG2
import Derived.Test.YtnppaoeijmgneaaGreatDoorZG3
import Derived.Test.YtnppaoeijmgneaaGreatDoorZG4
set_option linter.unusedSimpArgs false
set_option linter.unusedVariables false
set_option maxRecDepth 10000
set_option maxHeartbeats 4000000
section
namespace Go.Proofs
open Go.Av
variable {G : Nat -> DV}
attribute [local irreducible] OpSem W7 Zk ZC ACalls qg AClose RV
open Go.Bl
def preE (a L : Int) : Prop := 0 <= a /\ a + 4 * L <= 1000000000 /\ -100 <= L /\ L <= 500
structure QE (w : Int) (dep : Nat) (c1 c : Int) (v : Nd) (a L a' L' : Int) : Prop where
 fit : Wi v w = true
 dep : Qy v <= dep
 size : L' + (Qe v : Int) <= L
 low : L - c1 <= L' \/ -c <= L'
 mono : a <= a'
 used : a' + 4 * L' <= a + 4 * L
structure QL (w : Int) (dep : Nat) (n c : Int) (ks : List Nd) (a L a' L' : Int) : Prop where
 fit : ∀ x ∈ ks, Wi x w = true
 dep : ∀ x ∈ ks, Qy x <= dep
 size : L' + (Qo ks : Int) <= L
 low : L - n <= L' \/ -(c + n - 1) <= L'
 mono : a <= a'
 used : a' + 4 * L' <= a + 4 * L
theorem run_q {E : GenF} {w : Int} {dep : Nat} {c : Int} (hc : 0 <= c /\ c <= 40) (hE : ∀ a L, preE a L -> QE w dep 1 c (E a L).1 a L (E a L).2.1 (E a L).2.2) : ∀ (n : Nat) (a L : Int), n <= 10 -> preE a L -> -50 <= L - n -> QL w dep n c (Zw E n a L).1 a L (Zw E n a L).2.1 (Zw E n a L).2.2
 | 0, a, L, _, h, _ => by
  rw [Zw]
  exact ⟨fun x hx => (by cases hx), fun x hx => (by cases hx), by simp [Qo], .inl (by simp), by simp, by simp⟩
 | n + 1, a, L, hn, h, h50 => by
  have h1 := hE a L h
  obtain ⟨p1, p2, p3, p4⟩ := h
  have hs := Qz (E a L).1
  have q1 := h1.low
  have q2 := h1.mono
  have q3 := h1.used
  have q4 := h1.size
  have ih := run_q hc hE n (E a L).2.1 (E a L).2.2 (by omega) ⟨by omega, by omega, by omega, by omega⟩ (by omega)
  have r1 := ih.low
  have r2 := ih.mono
  have r3 := ih.used
  have r4 := ih.size
  rw [Zw]
  generalize Zw E n (E a L).2.1 (E a L).2.2 = R at *
  generalize E a L = e at *
  refine ⟨fun x hx => ?_, fun x hx => ?_, ?_, ?_, ?_, ?_⟩
  ·rcases List.mem_cons.1 hx with rfl|hx
   ·exact h1.fit
   ·exact ih.fit x hx
  ·rcases List.mem_cons.1 hx with rfl|hx
   ·exact h1.dep
   ·exact ih.dep x hx
  ·rw [Qo];dsimp only;omega
  ·dsimp only;omega
  ·dsimp only;omega
  ·dsimp only;omega
theorem wkGB {X W0 W1 W2 : Prop} (w0 : W0 := by exact True.intro) (w1 : W1 := by exact True.intro) (w2 : W2 := by exact True.intro) (s : (Unit -> W0) -> (Unit -> W1) -> (Unit -> W2) -> Unit -> X := by (intro w0 w1 w2 _;(repeat' first|(refine QH ?_;(first|refine Wu rfl ?_|refine WJ rfl ?_|refine Qc rfl rfl rfl ?_|(refine Qr ?_;(first|refine Zm rfl rfl hd1 ⟨by omega, by omega⟩ ?_|refine WE rfl rfl (by omega) ?_|refine Zu rfl rfl ?_|refine WI rfl rfl ?_|refine Wg rfl rfl ?_|refine Z4 rfl rfl (by omega) ?_|refine ZV rfl rfl (by first|omega|exact nn_shr (by omega)) (by omega) ?_))|(refine QC ?_;(first|refine Zn (z := v1) rfl rfl rfl rfl rfl rfl rfl (by first|omega|(simp;omega)) (by first|omega|(simp;omega)) (fun _ => rfl) (fun _ _ => ?_)|refine Q9 0 (hnum) rfl rfl rfl rfl ?_|refine Q9 0 (Zi l hl _ _ _ (by omega) (by omega)) rfl rfl rfl rfl ?_|refine Q9 0 (hE1) rfl rfl rfl rfl ?_|refine Q9 0 (hE2) rfl rfl rfl rfl ?_|refine Q9 0 (hS1) rfl rfl rfl rfl ?_))|(refine Wz ?_;(first|refine qb rfl rfl ?_|refine Zf rfl rfl ?_))|(refine QI ?_;(first|refine Zg rfl rfl rfl rfl ?_|refine QA rfl rfl rfl rfl (by rfl) (by rfl) (by rfl) ?_))|(refine Zd ?_;(first|refine Zj (y := v1) (z := v2) rfl rfl (by decide) ?_|refine QM (z := v1) rfl rfl (by decide) ?_))|refine Qd rfl rfl ?_|refine Qq rfl rfl ?_|refine Qh rfl rfl ?_|refine Qw (fun _ _ => ?_)))|(refine QZ ?_;(first|refine QX ?_|refine WT rfl ?_|refine Wf ?_|refine Zx rfl rfl rfl rfl ?_|refine qA rfl rfl rfl rfl ?_|refine WF rfl rfl (by omega) ?_|refine Q0 rfl rfl (by omega) ?_))|(refine QY ?_;(first|refine QW ?_|refine Ql ?_|refine Qu ?_|refine QQ ?_|refine QO rfl ?_|refine Qn rfl (by omega) ?_|refine Qm rfl (by omega) ?_|refine Zq rfl ?_|refine Q2 ?_)));(all_goals (repeat (rename_i x;(fail_if_success have : Unit := x);revert x)));(first|done|exact w0 ());(first|done|exact w1 ());(first|done|exact w2 ()))) (u : (W0 \/ True) /\ (W1 \/ True) /\ (W2 \/ True) := by (refine ⟨?_, ?_, ?_⟩ <;> first|exact Or.inl True.intro|exact Or.inr True.intro)) : X := s (fun _ => w0) (fun _ => w1) (fun _ => w2) ()
theorem chLeaf (l : List Int) (hl : OkI l) (dd a L : Int) (h : preE a L) (hd : dd <= 0 \/ (0 < dd /\ L - 1 <= 0)) (hd2 : -10 <= dd /\ dd <= 10) :
  ∃ t : Nd × Int × Int, QE 4 1 1 0 t.1 a L t.2.1 t.2.2 /\ CE Tryz.prog G 125 (fun p g => [.ptr p g 0, .i dd]) (Za l a L) (.agg (Enc.enc t.1)) (Za l t.2.1 t.2.2) := by
 obtain ⟨p1, p2, p3, p4⟩ := h
 have bx := Qk l a (most := 12) (by decide)
 have b16 := Qk l (a + 1) (most := 16) (by decide)
 have b2 := Qk l (a + 1) (most := 2) (by decide)
 have b6 := Qk l (a + 1) (most := 6) (by decide)
 have b3 := Qk l (a + 1) (most := 3) (by decide)
 have b14 := Qk l (a + 1) (most := 14) (by decide)
 have b32 := Qk l (a + 1 + 1) (most := 3) (by decide)
 have b4 := Qk l (a + 1 + 1) (most := 4) (by decide)
 have hx : atI l a 12 % 4 = 0 \/ atI l a 12 % 4 = 1 \/ atI l a 12 % 4 = 2 \/ atI l a 12 % 4 = 3 := by omega
 rcases hd with hd|hd
 ·rcases hx with hx|hx|hx|hx
  ·refine ⟨((.mk 4 (atI l (a + 1) 16 - 8) (0) []), a + 1 + 1, L - 1), ?_, fun g B hg => ?_⟩
   ·refine ⟨QV ⟨4, -8, 7, 0, [], 0, 0, 0⟩ rfl (by decide) (by decide) (by dsimp only;omega) (by dsimp only;omega) (by first|(simp;done)|(simp;omega)) (qa), ?_, ?_, ?_, ?_, ?_⟩
    ·rw [Qy];(try simp only [QD, W5, Zb]);omega
    ·rw [Qe];(try simp only [Qo]);omega
    ·dsimp only;omega
    ·dsimp only;omega
    ·dsimp only;omega
   ·refine Qa Tryz.func125 rfl Tryz.ntmps125 rfl (t := [(0, .ptr 0 g 0), (1, .i dd)]) rfl fun E0 hE0 => ?_
    (refine wkGB ?_;intros)
    exact e_1 (Tryz.results125) (Qf (size := 4) rfl rfl rfl rfl) (Q5 (es := 4) (.node rfl rfl rfl) (by show _ = DV.agg (Enc.enc (Nd.mk _ _ _ []));rw [Qp];rfl) rfl)
  ·refine ⟨((.mk 5 (atI l (a + 1) 2) (0) []), a + 1 + 1, L - 1), ?_, fun g B hg => ?_⟩
   ·refine ⟨QV ⟨4, 0, 1, 0, [], 0, 0, 0⟩ rfl (by decide) (by decide) (by dsimp only;omega) (by dsimp only;omega) (by first|(simp;done)|(simp;omega)) (qa), ?_, ?_, ?_, ?_, ?_⟩
    ·rw [Qy];(try simp only [QD, W5, Zb]);omega
    ·rw [Qe];(try simp only [Qo]);omega
    ·dsimp only;omega
    ·dsimp only;omega
    ·dsimp only;omega
   ·refine Qa Tryz.func125 rfl Tryz.ntmps125 rfl (t := [(0, .ptr 0 g 0), (1, .i dd)]) rfl fun E0 hE0 => ?_
    (refine wkGB ?_;intros)
    exact e_1 (Tryz.results125) (Qf (size := 4) rfl rfl rfl rfl) (Q5 (es := 4) (.node rfl rfl rfl) (by show _ = DV.agg (Enc.enc (Nd.mk _ _ _ []));rw [Qp];rfl) rfl)
  ·refine ⟨((.mk 6 (atI l (a + 1) 6) (0) []), a + 1 + 1, L - 1), ?_, fun g B hg => ?_⟩
   ·refine ⟨QV ⟨4, 0, 5, 0, [], 0, 0, 0⟩ rfl (by decide) (by decide) (by dsimp only;omega) (by dsimp only;omega) (by first|(simp;done)|(simp;omega)) (qa), ?_, ?_, ?_, ?_, ?_⟩
    ·rw [Qy];(try simp only [QD, W5, Zb]);omega
    ·rw [Qe];(try simp only [Qo]);omega
    ·dsimp only;omega
    ·dsimp only;omega
    ·dsimp only;omega
   ·refine Qa Tryz.func125 rfl Tryz.ntmps125 rfl (t := [(0, .ptr 0 g 0), (1, .i dd)]) rfl fun E0 hE0 => ?_
    (refine wkGB ?_;intros)
    exact e_1 (Tryz.results125) (Qf (size := 4) rfl rfl rfl rfl) (Q5 (es := 4) (.node rfl rfl rfl) (by show _ = DV.agg (Enc.enc (Nd.mk _ _ _ []));rw [Qp];rfl) rfl)
  ·refine ⟨((.mk 12 (atI l (a + 1) 3) (0) []), a + 1 + 1, L - 1), ?_, fun g B hg => ?_⟩
   ·refine ⟨QV ⟨4, 0, 2, 0, [], 0, 0, 0⟩ rfl (by decide) (by decide) (by dsimp only;omega) (by dsimp only;omega) (by first|(simp;done)|(simp;omega)) (qa), ?_, ?_, ?_, ?_, ?_⟩
    ·rw [Qy];(try simp only [QD, W5, Zb]);omega
    ·rw [Qe];(try simp only [Qo]);omega
    ·dsimp only;omega
    ·dsimp only;omega
    ·dsimp only;omega
   ·refine Qa Tryz.func125 rfl Tryz.ntmps125 rfl (t := [(0, .ptr 0 g 0), (1, .i dd)]) rfl fun E0 hE0 => ?_
    (refine wkGB ?_;intros)
    exact e_1 (Tryz.results125) (Qf (size := 4) rfl rfl rfl rfl) (Q5 (es := 4) (.node rfl rfl rfl) (by show _ = DV.agg (Enc.enc (Nd.mk _ _ _ []));rw [Qp];rfl) rfl)
 ·rcases hx with hx|hx|hx|hx
  ·refine ⟨((.mk 4 (atI l (a + 1) 16 - 8) (0) []), a + 1 + 1, L - 1), ?_, fun g B hg => ?_⟩
   ·refine ⟨QV ⟨4, -8, 7, 0, [], 0, 0, 0⟩ rfl (by decide) (by decide) (by dsimp only;omega) (by dsimp only;omega) (by first|(simp;done)|(simp;omega)) (qa), ?_, ?_, ?_, ?_, ?_⟩
    ·rw [Qy];(try simp only [QD, W5, Zb]);omega
    ·rw [Qe];(try simp only [Qo]);omega
    ·dsimp only;omega
    ·dsimp only;omega
    ·dsimp only;omega
   ·refine Qa Tryz.func125 rfl Tryz.ntmps125 rfl (t := [(0, .ptr 0 g 0), (1, .i dd)]) rfl fun E0 hE0 => ?_
    (refine wkGB ?_;intros)
    exact e_1 (Tryz.results125) (Qf (size := 4) rfl rfl rfl rfl) (Q5 (es := 4) (.node rfl rfl rfl) (by show _ = DV.agg (Enc.enc (Nd.mk _ _ _ []));rw [Qp];rfl) rfl)
  ·refine ⟨((.mk 5 (atI l (a + 1) 2) (0) []), a + 1 + 1, L - 1), ?_, fun g B hg => ?_⟩
   ·refine ⟨QV ⟨4, 0, 1, 0, [], 0, 0, 0⟩ rfl (by decide) (by decide) (by dsimp only;omega) (by dsimp only;omega) (by first|(simp;done)|(simp;omega)) (qa), ?_, ?_, ?_, ?_, ?_⟩
    ·rw [Qy];(try simp only [QD, W5, Zb]);omega
    ·rw [Qe];(try simp only [Qo]);omega
    ·dsimp only;omega
    ·dsimp only;omega
    ·dsimp only;omega
   ·refine Qa Tryz.func125 rfl Tryz.ntmps125 rfl (t := [(0, .ptr 0 g 0), (1, .i dd)]) rfl fun E0 hE0 => ?_
    (refine wkGB ?_;intros)
    exact e_1 (Tryz.results125) (Qf (size := 4) rfl rfl rfl rfl) (Q5 (es := 4) (.node rfl rfl rfl) (by show _ = DV.agg (Enc.enc (Nd.mk _ _ _ []));rw [Qp];rfl) rfl)
  ·refine ⟨((.mk 6 (atI l (a + 1) 6) (0) []), a + 1 + 1, L - 1), ?_, fun g B hg => ?_⟩
   ·refine ⟨QV ⟨4, 0, 5, 0, [], 0, 0, 0⟩ rfl (by decide) (by decide) (by dsimp only;omega) (by dsimp only;omega) (by first|(simp;done)|(simp;omega)) (qa), ?_, ?_, ?_, ?_, ?_⟩
    ·rw [Qy];(try simp only [QD, W5, Zb]);omega
    ·rw [Qe];(try simp only [Qo]);omega
    ·dsimp only;omega
    ·dsimp only;omega
    ·dsimp only;omega
   ·refine Qa Tryz.func125 rfl Tryz.ntmps125 rfl (t := [(0, .ptr 0 g 0), (1, .i dd)]) rfl fun E0 hE0 => ?_
    (refine wkGB ?_;intros)
    exact e_1 (Tryz.results125) (Qf (size := 4) rfl rfl rfl rfl) (Q5 (es := 4) (.node rfl rfl rfl) (by show _ = DV.agg (Enc.enc (Nd.mk _ _ _ []));rw [Qp];rfl) rfl)
  ·refine ⟨((.mk 12 (atI l (a + 1) 3) (0) []), a + 1 + 1, L - 1), ?_, fun g B hg => ?_⟩
   ·refine ⟨QV ⟨4, 0, 2, 0, [], 0, 0, 0⟩ rfl (by decide) (by decide) (by dsimp only;omega) (by dsimp only;omega) (by first|(simp;done)|(simp;omega)) (qa), ?_, ?_, ?_, ?_, ?_⟩
    ·rw [Qy];(try simp only [QD, W5, Zb]);omega
    ·rw [Qe];(try simp only [Qo]);omega
    ·dsimp only;omega
    ·dsimp only;omega
    ·dsimp only;omega
   ·refine Qa Tryz.func125 rfl Tryz.ntmps125 rfl (t := [(0, .ptr 0 g 0), (1, .i dd)]) rfl fun E0 hE0 => ?_
    (refine wkGB ?_;intros)
    exact e_1 (Tryz.results125) (Qf (size := 4) rfl rfl rfl rfl) (Q5 (es := 4) (.node rfl rfl rfl) (by show _ = DV.agg (Enc.enc (Nd.mk _ _ _ []));rw [Qp];rfl) rfl)
theorem chSome (l : List Int) (hl : OkI l) (d : Nat) (hd : d <= 10) (E : GenF) (hE : ∀ a L, preE a L -> QE 4 (d + 1) 1 (2 * d) (E a L).1 a L (E a L).2.1 (E a L).2.2 /\ CE Tryz.prog G 125 (fun p g => [.ptr p g 0, .i d]) (Za l a L) (.agg (Enc.enc (E a L).1)) (Za l (E a L).2.1 (E a L).2.2)) (a L : Int) (h : preE (a + 1) L) (ha : 0 <= a) (h50 : -40 <= L) :
  CE Tryz.prog G 126 (fun p g => [.ptr p g 0, .i 3, .i ((d : Int) + 1)]) (Za l a L) (Qt (Zw E (atI l a 4).toNat (a + 1) L).1) (Za l (Zw E (atI l a 4).toNat (a + 1) L).2.1 (Zw E (atI l a 4).toNat (a + 1) L).2.2) := fun g B hg => by
 have b4 := Qk l a (most := 4) (by decide)
 obtain ⟨p1, p2, p3, p4⟩ := h
 obtain ⟨N, hN⟩ : ∃ N : Nat, atI l a 4 = (N : Int) := ⟨(atI l a 4).toNat, by omega⟩
 have hnum := Zi (G := G) l hl a L 4 (by omega) (by omega)
 rw [hN] at hnum b4 ⊢
 rw [show ((N : Int)).toNat = N by omega]
 generalize hT : Zw E N (a + 1) L = T at *
 refine Qa Tryz.func126 rfl Tryz.ntmps126 rfl (t := [(0, .ptr 0 g 0), (1, .i 3), (2, .i ((d : Int) + 1))]) rfl fun E0 hE1 => ?_
 (refine wkGB ?_;intros)
 refine r_own 7 4 rfl fun gk hgk => ?_
 refine r_loop5 (fun (i : Nat) (o : List Nd) (b M : Int) (gg : Nat) => ⟨[(0, .ptr 0 g 0), (2, .i ((d : Int) + 1)), (7, .ref 1 gg 0 o.length 4), (8, .i N), (9, .i i)], [.row g (Za l b M), .row gg (Q1 o)]⟩) (fun i o b M gg => i <= N /\ o.length = i /\ E0.N < gg /\ o ++ (Zw E (N - i) b M).1 = T.1 /\ (Zw E (N - i) b M).2 = T.2 /\ preE b M /\ -50 <= M - ((N : Int) - i)) (fun i _ _ _ _ => N - i) 0 [] (a + 1) L gk ?_ ⟨by omega, rfl, hgk, by rw [Nat.sub_zero, hT];rfl, by rw [Nat.sub_zero, hT], ⟨p1, p2, p3, p4⟩, by omega⟩ ?_
 ·exact zal rfl
 intro i o b M gg ⟨hi, hol, hgg, h1, h2, hp, h50⟩
 by_cases hiN : i < N
 ·obtain ⟨hq, hE1⟩ := hE b M hp
  rw [show N - i = (N - (i + 1)) + 1 by omega, Zw] at h1 h2
  have q1 := hq.low
  have q2 := hq.mono
  have q3 := hq.used
  have q4 := hq.size
  obtain ⟨p1, p2, p3, p4⟩ := hp
  have hd1 : (d : Int) + 1 - 1 = (d : Int) := by omega
  generalize E b M = e at *
  obtain ⟨v1, b1, M1⟩ := e
  dsimp only at *
  have hs := Qz v1
  clear hE
  (refine wkGB ?_;intros)
  refine ⟨i + 1, o ++ [v1], b1, M1, _, ⟨by omega, by simp [hol], by assumption, by rw [List.append_assoc];exact h1, h2, ⟨by omega, by omega, by omega, by omega⟩, by omega⟩, by omega, ?_⟩
  exact zal rfl
 ·have hie : N - i = 0 := by omega
  rw [hie, Zw] at h1 h2
  dsimp only at h1 h2
  rw [List.append_nil] at h1
  rw [<- h1, <- h2]
  clear hE
  (refine wkGB ?_;intros)
  exact e_1 (Tryz.results126) (Qb rfl) (W6 (D := fun d => d) (k := 0) .id rfl (by rw [Qx];rfl) rfl rfl)
theorem chExpr (l : List Int) (hl : OkI l) : ∀ (d : Nat), d <= 10 -> ∃ E : GenF, ∀ a L, preE a L -> QE 4 (d + 1) 1 (2 * d) (E a L).1 a L (E a L).2.1 (E a L).2.2 /\ CE Tryz.prog G 125 (fun p g => [.ptr p g 0, .i d]) (Za l a L) (.agg (Enc.enc (E a L).1)) (Za l (E a L).2.1 (E a L).2.2) := by
 intro d
 induction d with
 | zero =>
  intro _
  refine Zt (pre := preE) (R := fun a L t => QE 4 (0 + 1) 1 (2 * (0 : Nat)) t.1 a L t.2.1 t.2.2 /\ CE Tryz.prog G 125 (fun p g => [.ptr p g 0, .i (0 : Nat)]) (Za l a L) (.agg (Enc.enc t.1)) (Za l t.2.1 t.2.2)) fun a L h => ?_
  obtain ⟨t, hq, hc⟩ := chLeaf (G := G) l hl 0 a L h (.inl (by decide)) (by decide)
  exact ⟨t, hq, hc⟩
 | succ d ih =>
 intro hd10
 obtain ⟨E, hE⟩ := ih (by omega)
 refine Zt (pre := preE) (R := fun a L t => QE 4 (d + 1 + 1) 1 (2 * (d + 1 : Nat)) t.1 a L t.2.1 t.2.2 /\ CE Tryz.prog G 125 (fun p g => [.ptr p g 0, .i (d + 1 : Nat)]) (Za l a L) (.agg (Enc.enc t.1)) (Za l t.2.1 t.2.2)) fun a L h => ?_
 by_cases hlf : L - 1 <= 0
 ·obtain ⟨t, hq, hc⟩ := chLeaf (G := G) l hl ((d + 1 : Nat) : Int) a L h (.inr ⟨by omega, hlf⟩) (by omega)
  have q1 := hq.low
  have q2 := hq.dep
  exact ⟨t, ⟨hq.fit, by omega, hq.size, by omega, hq.mono, hq.used⟩, hc⟩
 obtain ⟨p1, p2, p3, p4⟩ := h
 have hd1 : ((d + 1 : Nat) : Int) - 1 = (d : Int) := by omega
 have hsm := chSome (G := G) l hl d (by omega) E hE
 have hrq := run_q (E := E) (w := 4) (dep := d + 1) (c := 2 * d) (by omega) fun a L h => (hE a L h).1
 have bx := Qk l a (most := 12) (by decide)
 have b16 := Qk l (a + 1) (most := 16) (by decide)
 have b2 := Qk l (a + 1) (most := 2) (by decide)
 have b6 := Qk l (a + 1) (most := 6) (by decide)
 have b3 := Qk l (a + 1) (most := 3) (by decide)
 have b14 := Qk l (a + 1) (most := 14) (by decide)
 have b32 := Qk l (a + 1 + 1) (most := 3) (by decide)
 have b4 := Qk l (a + 1 + 1) (most := 4) (by decide)
 generalize hdd : ((d + 1 : Nat) : Int) = dd at *
 have hx : atI l a 12 = 0 \/ atI l a 12 = 1 \/ atI l a 12 = 2 \/ atI l a 12 = 3 \/ atI l a 12 = 4 \/ atI l a 12 = 5 \/ atI l a 12 = 6 \/ atI l a 12 = 7 \/ 8 <= atI l a 12 := by omega
 rcases hx with hx|hx|hx|hx|hx|hx|hx|hx|hx
 ·clear hE hrq hsm
  refine ⟨((.mk 4 (atI l (a + 1) 16 - 8) (0) []), a + 1 + 1, L - 1), ?_, fun g B hg => ?_⟩
  ·refine ⟨QV ⟨4, -8, 7, 0, [], 0, 0, 0⟩ rfl (by decide) (by decide) (by dsimp only;omega) (by dsimp only;omega) (by first|(simp;done)|(simp;omega)) (qa), ?_, ?_, ?_, ?_, ?_⟩
   ·rw [Qy];(try simp only [QD, W5, Zb]);omega
   ·rw [Qe];(try simp only [Qo]);omega
   ·dsimp only;omega
   ·dsimp only;omega
   ·dsimp only;omega
  ·refine Qa Tryz.func125 rfl Tryz.ntmps125 rfl (t := [(0, .ptr 0 g 0), (1, .i dd)]) rfl fun E0 hE0 => ?_
   (refine wkGB ?_;intros)
   exact e_1 (Tryz.results125) (Qf (size := 4) rfl rfl rfl rfl) (Q5 (es := 4) (.node rfl rfl rfl) (by show _ = DV.agg (Enc.enc (Nd.mk _ _ _ []));rw [Qp];rfl) rfl)
 ·clear hE hrq hsm
  refine ⟨((.mk 5 (atI l (a + 1) 2) (0) []), a + 1 + 1, L - 1), ?_, fun g B hg => ?_⟩
  ·refine ⟨QV ⟨4, 0, 1, 0, [], 0, 0, 0⟩ rfl (by decide) (by decide) (by dsimp only;omega) (by dsimp only;omega) (by first|(simp;done)|(simp;omega)) (qa), ?_, ?_, ?_, ?_, ?_⟩
   ·rw [Qy];(try simp only [QD, W5, Zb]);omega
   ·rw [Qe];(try simp only [Qo]);omega
   ·dsimp only;omega
   ·dsimp only;omega
   ·dsimp only;omega
  ·refine Qa Tryz.func125 rfl Tryz.ntmps125 rfl (t := [(0, .ptr 0 g 0), (1, .i dd)]) rfl fun E0 hE0 => ?_
   (refine wkGB ?_;intros)
   exact e_1 (Tryz.results125) (Qf (size := 4) rfl rfl rfl rfl) (Q5 (es := 4) (.node rfl rfl rfl) (by show _ = DV.agg (Enc.enc (Nd.mk _ _ _ []));rw [Qp];rfl) rfl)
 ·clear hE hrq hsm
  refine ⟨((.mk 6 (atI l (a + 1) 6) (0) []), a + 1 + 1, L - 1), ?_, fun g B hg => ?_⟩
  ·refine ⟨QV ⟨4, 0, 5, 0, [], 0, 0, 0⟩ rfl (by decide) (by decide) (by dsimp only;omega) (by dsimp only;omega) (by first|(simp;done)|(simp;omega)) (qa), ?_, ?_, ?_, ?_, ?_⟩
   ·rw [Qy];(try simp only [QD, W5, Zb]);omega
   ·rw [Qe];(try simp only [Qo]);omega
   ·dsimp only;omega
   ·dsimp only;omega
   ·dsimp only;omega
  ·refine Qa Tryz.func125 rfl Tryz.ntmps125 rfl (t := [(0, .ptr 0 g 0), (1, .i dd)]) rfl fun E0 hE0 => ?_
   (refine wkGB ?_;intros)
   exact e_1 (Tryz.results125) (Qf (size := 4) rfl rfl rfl rfl) (Q5 (es := 4) (.node rfl rfl rfl) (by show _ = DV.agg (Enc.enc (Nd.mk _ _ _ []));rw [Qp];rfl) rfl)
 ·clear hE hrq hsm
  refine ⟨((.mk 12 (atI l (a + 1) 3) (0) []), a + 1 + 1, L - 1), ?_, fun g B hg => ?_⟩
  ·refine ⟨QV ⟨4, 0, 2, 0, [], 0, 0, 0⟩ rfl (by decide) (by decide) (by dsimp only;omega) (by dsimp only;omega) (by first|(simp;done)|(simp;omega)) (qa), ?_, ?_, ?_, ?_, ?_⟩
   ·rw [Qy];(try simp only [QD, W5, Zb]);omega
   ·rw [Qe];(try simp only [Qo]);omega
   ·dsimp only;omega
   ·dsimp only;omega
   ·dsimp only;omega
  ·refine Qa Tryz.func125 rfl Tryz.ntmps125 rfl (t := [(0, .ptr 0 g 0), (1, .i dd)]) rfl fun E0 hE0 => ?_
   (refine wkGB ?_;intros)
   exact e_1 (Tryz.results125) (Qf (size := 4) rfl rfl rfl rfl) (Q5 (es := 4) (.node rfl rfl rfl) (by show _ = DV.agg (Enc.enc (Nd.mk _ _ _ []));rw [Qp];rfl) rfl)
 ·clear hrq hsm
  obtain ⟨hq1, hE1⟩ := hE (a + 1 + 1) (L - 1) ⟨by omega, by omega, by omega, by omega⟩
  obtain ⟨f1, d1, s1, w1, m1, u1⟩ := hq1
  generalize E (a + 1 + 1) (L - 1) = e1 at *
  obtain ⟨v1, b1, M1⟩ := e1
  dsimp only at *
  have sp1 := Qz v1
  clear hE
  refine ⟨((.mk 7 (atI l (a + 1) 6) (0) [v1]), b1, M1), ?_, fun g B hg => ?_⟩
  ·refine ⟨QV ⟨4, 0, 5, 0, [4], 0, 0, 0⟩ rfl (by decide) (by decide) (by dsimp only;omega) (by dsimp only;omega) (by first|(simp;done)|(simp;omega)) (kids1 f1), ?_, ?_, ?_, ?_, ?_⟩
   ·rw [Qy];(try simp only [QD, W5, Zb]);omega
   ·rw [Qe];(try simp only [Qo]);omega
   ·dsimp only;omega
   ·dsimp only;omega
   ·dsimp only;omega
  ·refine Qa Tryz.func125 rfl Tryz.ntmps125 rfl (t := [(0, .ptr 0 g 0), (1, .i dd)]) rfl fun E0 hE0 => ?_
   (refine wkGB ?_;intros)
   refine e_1 (Tryz.results125) (Qf (size := 4) rfl rfl rfl rfl) ?_
   rw [Qp]
   exact ZM (by first|rfl|(simp [Qt, Q1];try rfl)) rfl
 ·clear hE hrq hsm
  refine ⟨((.mk 8 (atI l (a + 1) 6) (atI l (a + 1 + 1) 3) []), a + 1 + 1 + 1, L - 1), ?_, fun g B hg => ?_⟩
  ·refine ⟨QV ⟨4, 0, 5, 2, [], 0, 0, 0⟩ rfl (by decide) (by decide) (by dsimp only;omega) (by dsimp only;omega) (by first|(simp;done)|(simp;omega)) (qa), ?_, ?_, ?_, ?_, ?_⟩
   ·rw [Qy];(try simp only [QD, W5, Zb]);omega
   ·rw [Qe];(try simp only [Qo]);omega
   ·dsimp only;omega
   ·dsimp only;omega
   ·dsimp only;omega
  ·refine Qa Tryz.func125 rfl Tryz.ntmps125 rfl (t := [(0, .ptr 0 g 0), (1, .i dd)]) rfl fun E0 hE0 => ?_
   (refine wkGB ?_;intros)
   exact e_1 (Tryz.results125) (Qf (size := 4) rfl rfl rfl rfl) (Q5 (es := 4) (.node rfl rfl rfl) (by show _ = DV.agg (Enc.enc (Nd.mk _ _ _ []));rw [Qp];rfl) rfl)
 ·clear hrq hsm
  obtain ⟨hq1, hE1⟩ := hE (a + 1) (L - 1) ⟨by omega, by omega, by omega, by omega⟩
  obtain ⟨f1, d1, s1, w1, m1, u1⟩ := hq1
  generalize E (a + 1) (L - 1) = e1 at *
  obtain ⟨v1, b1, M1⟩ := e1
  dsimp only at *
  have sp1 := Qz v1
  clear hE
  refine ⟨((.mk 10 (0) (0) [v1]), b1, M1), ?_, fun g B hg => ?_⟩
  ·refine ⟨QV ⟨4, 0, 0, 0, [4], 0, 0, 0⟩ rfl (by decide) (by decide) (by dsimp only;omega) (by dsimp only;omega) (by first|(simp;done)|(simp;omega)) (kids1 f1), ?_, ?_, ?_, ?_, ?_⟩
   ·rw [Qy];(try simp only [QD, W5, Zb]);omega
   ·rw [Qe];(try simp only [Qo]);omega
   ·dsimp only;omega
   ·dsimp only;omega
   ·dsimp only;omega
  ·refine Qa Tryz.func125 rfl Tryz.ntmps125 rfl (t := [(0, .ptr 0 g 0), (1, .i dd)]) rfl fun E0 hE0 => ?_
   (refine wkGB ?_;intros)
   refine e_1 (Tryz.results125) (Qf (size := 4) rfl rfl rfl rfl) ?_
   rw [Qp]
   exact ZM (by first|rfl|(simp [Qt, Q1];try rfl)) rfl
 ·have hS1 := hsm (a + 1 + 1) (L - 1) ⟨by omega, by omega, by omega, by omega⟩ (by omega) (by omega)
  have hb := Qk l (a + 1 + 1) (most := 4) (by decide)
  obtain ⟨N, hN⟩ : ∃ N : Nat, atI l (a + 1 + 1) 4 = (N : Int) := ⟨(atI l (a + 1 + 1) 4).toNat, by omega⟩
  rw [hN, show ((N : Int)).toNat = N by omega] at hS1
  have hq := hrq N (a + 1 + 1 + 1) (L - 1) (by omega) ⟨by omega, by omega, by omega, by omega⟩ (by omega)
  have hln := Wr E N (a + 1 + 1 + 1) (L - 1)
  obtain ⟨f1, d1, s1, w1, m1, u1⟩ := hq
  generalize Zw E N (a + 1 + 1 + 1) (L - 1) = T at *
  obtain ⟨ks, b1, M1⟩ := T
  dsimp only at *
  have hdl := Q8 d1
  rw [show (d : Int) + 1 = dd by omega] at hS1
  clear hE hrq hsm
  refine ⟨((.mk 11 (atI l (a + 1) 6) (0) ks), b1, M1), ?_, fun g B hg => ?_⟩
  ·refine ⟨QV ⟨4, 0, 5, 0, [], 3, 0, 4⟩ rfl (by decide) (by decide) (by dsimp only;omega) (by dsimp only;omega) (by first|(simp;done)|(simp;omega)) (kidsA rfl f1), ?_, ?_, ?_, ?_, ?_⟩
   ·rw [Qy];(try simp only [QD, W5, Zb]);omega
   ·rw [Qe];(try simp only [Qo]);omega
   ·dsimp only;omega
   ·dsimp only;omega
   ·dsimp only;omega
  ·refine Qa Tryz.func125 rfl Tryz.ntmps125 rfl (t := [(0, .ptr 0 g 0), (1, .i dd)]) rfl fun E0 hE0 => ?_
   (refine wkGB ?_;intros)
   refine e_1 (Tryz.results125) (Qf (size := 4) rfl rfl rfl rfl) ?_
   rw [Qp]
   exact ZM (by first|rfl|(simp [Qt, Q1];try rfl)) rfl
 ·clear hrq hsm
  obtain ⟨hq1, hE1⟩ := hE (a + 1 + 1) (L - 1) ⟨by omega, by omega, by omega, by omega⟩
  obtain ⟨f1, d1, s1, w1, m1, u1⟩ := hq1
  generalize E (a + 1 + 1) (L - 1) = e1 at *
  obtain ⟨v1, b1, M1⟩ := e1
  dsimp only at *
  have sp1 := Qz v1
  obtain ⟨hq2, hE2⟩ := hE (b1) (M1) ⟨by omega, by omega, by omega, by omega⟩
  obtain ⟨f2, d2, s2, w2, m2, u2⟩ := hq2
  generalize E (b1) (M1) = e2 at *
  obtain ⟨v2, b2, M2⟩ := e2
  dsimp only at *
  have sp2 := Qz v2
  clear hE
  refine ⟨((.mk 9 (atI l (a + 1) 14) (0) [v1, v2]), b2, M2), ?_, fun g B hg => ?_⟩
  ·refine ⟨QV ⟨4, 0, 13, 0, [4, 4], 0, 0, 0⟩ rfl (by decide) (by decide) (by dsimp only;omega) (by dsimp only;omega) (by first|(simp;done)|(simp;omega)) (kids2 f1 f2), ?_, ?_, ?_, ?_, ?_⟩
   ·rw [Qy];(try simp only [QD, W5, Zb]);omega
   ·rw [Qe];(try simp only [Qo]);omega
   ·dsimp only;omega
   ·dsimp only;omega
   ·dsimp only;omega
  ·refine Qa Tryz.func125 rfl Tryz.ntmps125 rfl (t := [(0, .ptr 0 g 0), (1, .i dd)]) rfl fun E0 hE0 => ?_
   (refine wkGB ?_;intros)
   refine e_1 (Tryz.results125) (Qf (size := 4) rfl rfl rfl rfl) ?_
   rw [Qp]
   exact ZM (by first|rfl|(simp [Qt, Q1];try rfl)) rfl
end Go.Proofs
end
section
namespace Go.Av
open Classical
theorem spliceD_mid : ∀ (l1 l rest : List DV) (d : DV) (ds : List DV), l.length = (d :: ds).length -> Zl (l1 ++ (l ++ rest)) l1.length (d :: ds) = some (l1 ++ ((d :: ds) ++ rest))
 | [], l, rest, d, ds, h => spliceD_pre l (d :: ds) rest h
 | x :: r, l, rest, d, ds, h => by
  have ih := spliceD_mid r l rest d ds h
  show (match Zl (r ++ (l ++ rest)) r.length (d :: ds) with|some r' => some (x :: r')|none => none) = _
  rw [ih];rfl
theorem fill_three {zs : List Value} {cs ds es : List DV} {n : Nat} (h1 : zs.length = n) (h2 : cs.length = n) (h3 : ds.length = n) (h4 : es.length = n) (h0 : 0 < n) : qF (fun i => some (i * n, n)) (WA zs 3) [(0, .agg cs), (1, .agg ds), (2, .agg es)] = some (cs ++ (ds ++ es)) := by
 have hz : WA zs 3 = WA zs 1 ++ (WA zs 1 ++ WA zs 1) := by simp [WA, List.replicate]
 have hz1 : (WA zs 1).length = n := by rw [qB, h1];omega
 cases cs with
 | nil => simp at h2;omega
 | cons e r =>
 cases ds with
 | nil => simp at h3;omega
 | cons e2 r2 =>
 cases es with
 | nil => simp at h4;omega
 | cons e3 r3 =>
  have hb : Nat.beq (e :: r).length n = true := by rw [h2];exact Nat.beq_refl n
  have hb2 : Nat.beq (e2 :: r2).length n = true := by rw [h3];exact Nat.beq_refl n
  have hb3 : Nat.beq (e3 :: r3).length n = true := by rw [h4];exact Nat.beq_refl n
  have s1 : Zl (WA zs 1 ++ (WA zs 1 ++ WA zs 1)) 0 (e :: r) = some ((e :: r) ++ (WA zs 1 ++ WA zs 1)) := spliceD_pre (WA zs 1) (e :: r) _ (by rw [hz1, h2])
  have s2 : Zl ((e :: r) ++ (WA zs 1 ++ WA zs 1)) n (e2 :: r2) = some ((e :: r) ++ ((e2 :: r2) ++ WA zs 1)) := by
   have := spliceD_mid (e :: r) (WA zs 1) (WA zs 1) e2 r2 (by rw [hz1, h3])
   rwa [h2] at this
  have s3 : Zl ((e :: r) ++ ((e2 :: r2) ++ WA zs 1)) (2 * n) (e3 :: r3) = some ((e :: r) ++ ((e2 :: r2) ++ (e3 :: r3))) := by
   have := spliceD_at ((e :: r) ++ (e2 :: r2)) (WA zs 1) e3 r3 (by rw [hz1, h4])
   rw [List.append_assoc, List.append_assoc, List.length_append, h2, h3, show n + n = 2 * n by omega] at this
   exact this
  rw [hz]
  simp only [qF, dcells, hb, hb2, hb3, Nat.zero_mul, Nat.one_mul, s1, s2, s3]
  exact Z6 _
theorem s_bslice_three {P : Program} {G : Nat -> DV} {B : Nat} {f : Operand -> DV} {σ : List ABlk} {K : DV -> List ABlk -> Prop} {dst : Option Tmp} {type : TypeId} {pos : String} {after : Array Edge} {gd : Option (Nat × Bool)} {α : Type} [Enc α] {x y z : α} {t e : Nat} {g1 g2 : Bool} {z1 : Nat} {td : TypeDesc} {zs : List Value} {ps : List (Nat × Operand)} [ht : TyI P t (.slice e) g1 z1] [he : TyI P e td g2 (Enc.es α)] [hz : TyZ P e zs] (hzl : zs.length = Enc.es α) (hp : qu f ps = some [(0, .agg (Enc.enc x)), (1, .agg (Enc.enc y)), (2, .agg (Enc.enc z))]) (hn : 3 * Enc.es α <= 16777216)
  (k : K (Qt [x, y, z]) σ) : OpSem P G B ⟨dst, .buildSlice t 3 ps.toArray, type, pos, after, gd⟩ f σ K := by
 refine Zc hzl hp hn (fill_three hzl (Enc.len x) (Enc.len y) (Enc.len z) Enc.pos) ?_
 have e1 : Qt [x, y, z] = .sl (Enc.es α) (Enc.enc x ++ (Enc.enc y ++ Enc.enc z)) := by simp [Qt, Q1]
 rwa [<- e1]
end Go.Av
end
section
namespace Go.Proofs
open Go.Av
variable {G : Nat -> DV}
attribute [local irreducible] OpSem W7 Zk ZC ACalls qg AClose RV
open Go.Bl
def preS (a L : Int) : Prop := 0 <= a /\ a + 4 * L <= 1000000000 /\ 1 <= L /\ L <= 500
def preB (a L : Int) : Prop := 0 <= a /\ a + 4 * L <= 1000000000 /\ -50 <= L /\ L <= 500
structure QP (dep : Nat) (c : Int) (ks : List Nd) (a L a' L' : Int) : Prop where
 fit : ∀ x ∈ ks, Wi x 5 = true
 dep : ∀ x ∈ ks, Qy x <= dep
 size : L' + (Qo ks : Int) <= L
 low : L <= L' \/ -c <= L'
 mono : a <= a'
 used : a' + 4 * L' <= a + 4 * L
theorem run_p {S : GenF} {dep : Nat} {c : Int} (hc : 4 <= c /\ c <= 40) (hS : ∀ a L, preS a L -> QE 5 dep 5 c (S a L).1 a L (S a L).2.1 (S a L).2.2) : ∀ (n : Nat) (a L : Int), 0 <= a -> a + 4 * L <= 1000000000 -> L <= 500 -> QP dep c (runP S n a L).1 a L (runP S n a L).2.1 (runP S n a L).2.2
 | 0, a, L, _, _, _ => by
  rw [runP]
  exact ⟨fun x hx => (by cases hx), fun x hx => (by cases hx), by simp [Qo], .inl (by simp), by simp, by simp⟩
 | n + 1, a, L, p1, p2, p3 => by
  rw [runP]
  by_cases hL : 0 < L
  ·rw [if_pos hL]
   have h1 := hS a L ⟨p1, p2, by omega, p3⟩
   have hs := Qz (S a L).1
   have q1 := h1.low
   have q2 := h1.mono
   have q3 := h1.used
   have q4 := h1.size
   have ih := run_p hc hS n (S a L).2.1 (S a L).2.2 (by omega) (by omega) (by omega)
   have r1 := ih.low
   have r2 := ih.mono
   have r3 := ih.used
   have r4 := ih.size
   generalize runP S n (S a L).2.1 (S a L).2.2 = R at *
   generalize S a L = e at *
   refine ⟨fun x hx => ?_, fun x hx => ?_, ?_, ?_, ?_, ?_⟩
   ·rcases List.mem_cons.1 hx with rfl|hx
    ·exact h1.fit
    ·exact ih.fit x hx
   ·rcases List.mem_cons.1 hx with rfl|hx
    ·exact h1.dep
    ·exact ih.dep x hx
   ·rw [Qo];dsimp only;omega
   ·dsimp only;omega
   ·dsimp only;omega
   ·dsimp only;omega
  ·rw [if_neg hL]
   exact ⟨fun x hx => (by cases hx), fun x hx => (by cases hx), by simp [Qo], .inl (by simp), by simp, by simp⟩
theorem partD_nd0 (v : Nd) : partD (Enc.enc v) 0 4 = some (Enc.enc v) := by cases v;rw [Qp];rfl
theorem wkGC {X W0 W1 W2 : Prop} (w0 : W0 := by exact True.intro) (w1 : W1 := by exact True.intro) (w2 : W2 := by exact True.intro) (s : (Unit -> W0) -> (Unit -> W1) -> (Unit -> W2) -> Unit -> X := by (intro w0 w1 w2 _;(repeat' first|(refine QH ?_;(first|refine Wu rfl ?_|refine WJ rfl ?_|(refine We ?_;(first|refine qj rfl rfl ?_|refine Qc rfl rfl rfl ?_))|(refine Qr ?_;(first|refine WE rfl rfl (by omega) ?_|refine Zu rfl rfl ?_|refine s_gtr rfl rfl ?_|refine Z4 rfl rfl (by omega) ?_))|(refine QC ?_;(first|refine Zn (z := v1) rfl rfl rfl rfl rfl rfl rfl (by first|omega|(simp;omega)) (by first|omega|(simp;omega)) (fun _ => rfl) (fun _ _ => ?_)|refine Q9 0 (hnum) rfl rfl rfl rfl ?_|refine Q9 0 (hE1) rfl rfl rfl rfl ?_))|(refine Wz ?_;(first|refine qb rfl rfl ?_|refine Zf rfl rfl ?_))|(refine QI ?_;(first|refine Zg rfl rfl rfl rfl ?_|refine QA rfl rfl rfl rfl (by rfl) (by rfl) (by rfl) ?_))|refine Qd rfl rfl ?_|refine Qq rfl rfl ?_|refine Qh rfl rfl ?_|refine Qw (fun _ _ => ?_)))|(refine QZ ?_;(first|refine QX ?_|refine WT rfl ?_|refine Wf ?_|refine Zx rfl rfl rfl rfl ?_|refine qA rfl rfl rfl rfl ?_|refine WF rfl rfl (by omega) ?_|refine Q0 rfl rfl (by omega) ?_))|(refine QY ?_;(first|refine QW ?_|refine Ql ?_|refine Qu ?_|(refine W8 ?_;first|(refine Qv ((fun g4 ge p => p :: .row g4 [.i 0, .i 0, .i 0, .nil] :: .row ge (Enc.enc v1) :: []) _ _) 6 [(0, true), (1, true), (2, true), (3, false), (4, true), (5, true), (6, false)] (by rfl) (by rfl) (by kernel_rfl) (by decide +kernel) (by decide +kernel) ⟨_, rfl⟩ ?_)|(refine Qv ((fun g4 ge p => p :: .row g4 [.i 0, .i 0, .i 0, .nil] :: .row ge (Enc.enc v1) :: []) _ _) 9 [(0, true), (1, true), (2, true), (4, true), (5, true), (3, false), (6, false), (7, true), (8, true), (9, false)] (by rfl) (by rfl) (by kernel_rfl) (by decide +kernel) (by decide +kernel) ⟨_, rfl⟩ ?_)|(refine Qv ((fun g4 ge p => p :: .row g4 [.i 0, .i 0, .i 0, .nil] :: .row ge (Enc.enc v1) :: []) _ _) 7 [(0, true), (2, true), (4, true), (5, true), (1, false), (3, false), (6, true), (7, false)] (by rfl) (by rfl) (by kernel_rfl) (by decide +kernel) (by decide +kernel) ⟨_, rfl⟩ ?_)|(refine Qv ((fun g4 ge p => p :: .row g4 [.i 0, .i 0, .i 0, .nil] :: .row ge (Enc.enc v1) :: []) _ _) 7 [(0, true), (2, true), (3, true), (1, false), (4, false), (5, true), (6, true), (7, false)] (by rfl) (by rfl) (by kernel_rfl) (by decide +kernel) (by decide +kernel) ⟨_, rfl⟩ ?_)|(refine Qv ((fun g4 ge p => p :: .row g4 [.i 0, .i 0, .i 0, .nil] :: .row ge (Enc.enc v1) :: []) _ _) 5 [(0, true), (2, true), (3, true), (1, false), (4, true), (5, false)] (by rfl) (by rfl) (by kernel_rfl) (by decide +kernel) (by decide +kernel) ⟨_, rfl⟩ ?_)|(refine Qv (fun p => p) 100 [(0, true)] (by rfl) (by rfl) (by kernel_rfl) (by decide +kernel) (by decide +kernel) ⟨_, rfl⟩ ?_)|(refine Qv (fun p => p.1 :: .row g4 [.i 0, .i 0, .i 0, .nil] :: .row g5 [.i 13, .i 0, .i 0, .ref 3 gg 0 o.length 4] :: p.2) 9 [(0, true), (1, true), (2, true), (3, true), (4, true), (5, false), (6, true), (7, false), (8, true), (9, false)] (by rfl) (by rfl) (by kernel_rfl) (by decide +kernel) (by decide +kernel) ⟨(_, _), rfl⟩ ?_)|refine WC (by rfl) (by kernel_rfl) (by kernel_rfl) ?_|refine WB (by kernel_rfl) (by kernel_rfl) ?_)|refine QQ ?_|refine Wn rfl ?_|refine Qn rfl (by omega) ?_|refine Qm rfl (by omega) ?_|refine Zq rfl ?_|refine Q2 ?_))|(refine ZJ ?_;(first|refine qD ?_|refine i_z0 ?_|refine i_st rfl rfl (fun _ => (by (repeat' first|(refine QH ?_;(first|refine Wu rfl ?_|refine Qc rfl rfl rfl ?_|refine Zm rfl rfl hd1 ⟨by omega, by omega⟩ ?_|refine QM (z := v1) rfl rfl (by decide) ?_|refine Qd rfl rfl ?_))|exact ⟨rfl, rfl⟩))) ?_|refine i_ef rfl ?_))|refine And.intro (Exists.intro ((_, _)) rfl) ?_);(all_goals (repeat (rename_i x;(fail_if_success have : Unit := x);revert x)));(first|done|exact w0 ());(first|done|exact w1 ());(first|done|exact w2 ()))) (u : (W0 \/ True) /\ (W1 \/ True) /\ (W2 \/ True) := by (refine ⟨?_, ?_, ?_⟩ <;> first|exact Or.inl True.intro|exact Or.inr True.intro)) : X := s (fun _ => w0) (fun _ => w1) (fun _ => w2) ()
theorem chBlock (l : List Int) (hl : OkI l) (e : Nat) (he : e <= 8) (S : GenF) (hS : ∀ a L, preS a L -> QE 5 (2 * e + 4) 5 (7 + e) (S a L).1 a L (S a L).2.1 (S a L).2.2 /\ CE Tryz.prog G 79 (fun p g => [.ptr p g 0, .i ((e : Int) - 1)]) (Za l a L) (.agg (Enc.enc (S a L).1)) (Za l (S a L).2.1 (S a L).2.2)) :
  ∃ Bk : GenF, ∀ a L, preB a L -> QE 6 (2 * e + 5) 1 (7 + e) (Bk a L).1 a L (Bk a L).2.1 (Bk a L).2.2 /\ CE Tryz.prog G 37 (fun p g => [.ptr p g 0, .i (e : Nat)]) (Za l a L) (.agg (Enc.enc (Bk a L).1)) (Za l (Bk a L).2.1 (Bk a L).2.2) := by
 refine Zt (pre := preB) (R := fun a L t => QE 6 (2 * e + 5) 1 (7 + e) t.1 a L t.2.1 t.2.2 /\ CE Tryz.prog G 37 (fun p g => [.ptr p g 0, .i (e : Nat)]) (Za l a L) (.agg (Enc.enc t.1)) (Za l t.2.1 t.2.2)) fun a L h => ?_
 obtain ⟨p1, p2, p3, p4⟩ := h
 have b4 := Qk l a (most := 4) (by decide)
 obtain ⟨N, hN⟩ : ∃ N : Nat, atI l a 4 = (N : Int) := ⟨(atI l a 4).toNat, by omega⟩
 have hq := run_p (S := S) (dep := 2 * e + 4) (c := 7 + e) (by omega) (fun a L h => (hS a L h).1) N (a + 1) (L - 1) (by omega) (by omega) (by omega)
 have hln := runP_len S N (a + 1) (L - 1)
 refine ⟨(.mk 13 0 0 (runP S N (a + 1) (L - 1)).1, (runP S N (a + 1) (L - 1)).2), ?_, fun g B hg => ?_⟩
 ·have q1 := hq.low
  have q2 := hq.mono
  have q3 := hq.used
  have q4 := hq.size
  have q5 := Q8 hq.dep
  refine ⟨QV ⟨6, 0, 0, 0, [], 8, 0, 5⟩ rfl (by decide) (by decide) (by decide) (by decide) (by dsimp only;simp;omega) (kidsA rfl hq.fit), ?_, ?_, ?_, ?_, ?_⟩
  ·rw [Qy];omega
  ·rw [Qe];dsimp only;omega
  ·dsimp only;omega
  ·dsimp only;omega
  ·dsimp only;omega
 clear hq
 have hnum := Zi (G := G) l hl a (L - 1) 4 (by omega) (by omega)
 rw [hN] at hnum b4
 generalize hT : runP S N (a + 1) (L - 1) = T at *
 refine Qa Tryz.func37 rfl Tryz.ntmps37 rfl (t := [(0, .ptr 0 g 0), (1, .i (e : Nat))]) rfl fun E0 hE0 => ?_
 (refine wkGC ?_;intros)
 rename_i g4 hg4 g5 hg5
 refine r_ownin 2 3 4 rfl rfl (fun _ => rfl) (fun gk hgk => ?_)
 refine r_loop5 (fun (i : Nat) (o : List Nd) (b M : Int) (gg : Nat) => ⟨[(0, .ptr 0 g 0), (1, .i (e : Nat)), (4, .ptr 1 g4 0), (5, .ptr 2 g5 0), (6, .i N), (7, .i i)], [.row g (Za l b M), .row g4 [.i 0, .i 0, .i 0, .nil], .row g5 [.i 13, .i 0, .i 0, .ref 3 gg 0 o.length 4], .row gg (Q1 o)]⟩) (fun i o b M gg => i <= N /\ o.length <= i /\ E0.N < gg /\ o ++ (runP S (N - i) b M).1 = T.1 /\ (runP S (N - i) b M).2 = T.2 /\ 0 <= b /\ b + 4 * M <= 1000000000 /\ M <= 500 /\ -100 <= M) (fun i _ _ _ _ => N - i) 0 [] (a + 1) (L - 1) gk ?_ ⟨by omega, by simp, hgk, by rw [Nat.sub_zero, hT];rfl, by rw [Nat.sub_zero, hT], by omega, by omega, by omega, by omega⟩ ?_
 ·exact zal rfl
 intro i o b M gg ⟨hi, hol, hgg, h1, h2, m1, m2, m3, m4⟩
 by_cases hiN : i < N
 ·rw [show N - i = (N - (i + 1)) + 1 by omega, runP] at h1 h2
  by_cases hM : 0 < M
  ·rw [if_pos hM] at h1 h2
   obtain ⟨hq, hE1⟩ := hS b M ⟨m1, m2, by omega, m3⟩
   have q1 := hq.low
   have q2 := hq.mono
   have q3 := hq.used
   have q4 := hq.size
   have hd1 : ((e : Nat) : Int) - 1 = (e : Int) - 1 := rfl
   generalize S b M = t at *
   obtain ⟨v1, b1, M1⟩ := t
   dsimp only at *
   have hs := Qz v1
   clear hS
   (refine wkGC ?_;intros)
   refine ⟨i + 1, o ++ [v1], b1, M1, _, ⟨by omega, by simp;omega, by assumption, by rw [List.append_assoc];exact h1, h2, by omega, by omega, by omega, by omega⟩, by omega, ?_⟩
   exact zal rfl
  ·rw [if_neg hM] at h1 h2
   dsimp only at h1 h2
   rw [List.append_nil] at h1
   rw [<- h1, <- h2]
   clear hS
   (refine wkGC ?_;intros)
   exact e_1 (Tryz.results37) (Qf (size := 4) rfl rfl rfl rfl) (W6 (D := fun d => .agg [.i 13, .i 0, .i 0, d]) (k := 2) (.node rfl rfl rfl) rfl (by rw [Qx];rfl) (by rw [Qp];rfl) rfl)
 ·have hie : N - i = 0 := by omega
  rw [hie, runP] at h1 h2
  dsimp only at h1 h2
  rw [List.append_nil] at h1
  rw [<- h1, <- h2]
  clear hS
  (refine wkGC ?_;intros)
  exact e_1 (Tryz.results37) (Qf (size := 4) rfl rfl rfl rfl) (W6 (D := fun d => .agg [.i 13, .i 0, .i 0, d]) (k := 2) (.node rfl rfl rfl) rfl (by rw [Qx];rfl) (by rw [Qp];rfl) rfl)
theorem chLeafS (l : List Int) (hl : OkI l) (E2 E1 : GenF) (hE2x : ∀ a L, preE a L -> QE 4 3 1 4 (E2 a L).1 a L (E2 a L).2.1 (E2 a L).2.2 /\ CE Tryz.prog G 125 (fun p g => [.ptr p g 0, .i 2]) (Za l a L) (.agg (Enc.enc (E2 a L).1)) (Za l (E2 a L).2.1 (E2 a L).2.2))
  (hE1x : ∀ a L, preE a L -> QE 4 2 1 2 (E1 a L).1 a L (E1 a L).2.1 (E1 a L).2.2 /\ CE Tryz.prog G 125 (fun p g => [.ptr p g 0, .i 1]) (Za l a L) (.agg (Enc.enc (E1 a L).1)) (Za l (E1 a L).2.1 (E1 a L).2.2)) (dd a L x : Int) (h : preS a L)
  (hx : (dd <= 0 /\ atI l a 14 % 10 = x) \/ (0 < dd /\ L - 1 <= 0 /\ atI l a 14 % 10 = x) \/ (0 < dd /\ 0 < L - 1 /\ atI l a 14 = x)) (hx2 : 0 <= x /\ x <= 9) :
  ∃ t : Nd × Int × Int, QE 5 4 5 7 t.1 a L t.2.1 t.2.2 /\ CE Tryz.prog G 79 (fun p g => [.ptr p g 0, .i dd]) (Za l a L) (.agg (Enc.enc t.1)) (Za l t.2.1 t.2.2) := by
 obtain ⟨p1, p2, p3, p4⟩ := h
 have bx := Qk l a (most := 14) (by decide)
 have hsm := chSome (G := G) l hl 1 (by decide) E1 hE1x
 have hrq := run_q (E := E1) (w := 4) (dep := 2) (c := 2) (by decide) fun a L h => (hE1x a L h).1
 have hxx : x = 0 \/ x = 1 \/ x = 2 \/ x = 3 \/ x = 4 \/ x = 5 \/ x = 6 \/ x = 7 \/ x = 8 \/ x = 9 := by omega
 rcases hx with hx|hx|hx
 all_goals
  rcases hxx with rfl|rfl|rfl|rfl|rfl|rfl|rfl|rfl|rfl|rfl
  ·obtain ⟨hqv1, hE1⟩ := hE2x (a + 1) (L - 1) ⟨by omega, by omega, by omega, by omega⟩
   obtain ⟨fv1, dv1, sv1, wv1, mv1, uv1⟩ := hqv1
   generalize E2 (a + 1) (L - 1) = tv1 at *
   obtain ⟨v1, b1, M1⟩ := tv1
   dsimp only at *
   have spv1 := Qz v1
   have n6 := Qk l (b1) (most := 6) (by decide)
   clear hE2x hE1x hsm hrq
   refine ⟨(.mk 14 (atI l b1 6) (0) [v1], b1 + 1, M1), ?_, fun g B hg => ?_⟩
   ·refine ⟨QV ⟨5, 0, 5, 0, [4], 0, 0, 0⟩ rfl (by decide) (by decide) (by dsimp only;omega) (by dsimp only;omega) (by first|(simp;done)|(simp;omega)) (kids1 fv1), ?_, ?_, ?_, ?_, ?_⟩
    ·rw [Qy];(try simp only [QD]);omega
    ·rw [Qe];(try simp only [Qo]);omega
    ·dsimp only;omega
    ·dsimp only;omega
    ·dsimp only;omega
   ·refine Qa Tryz.func79 rfl Tryz.ntmps79 rfl (t := [(0, .ptr 0 g 0), (1, .i dd)]) rfl fun E0 hE0 => ?_
    (repeat' first|(refine QH ?_;(first|refine Wu rfl ?_|refine WJ rfl ?_|refine Qc rfl rfl rfl ?_|(refine Qr ?_;(first|refine WE rfl rfl (by omega) ?_|refine WI rfl rfl ?_|refine Wg rfl rfl ?_|refine ZV rfl rfl (by first|omega|exact nn_shr (by omega)) (by omega) ?_))|(refine QC ?_;(first|refine Q9 0 (Zi l hl _ _ _ (by omega) (by omega)) rfl rfl rfl rfl ?_|refine Q9 0 (hE1) rfl rfl rfl rfl ?_))|(refine Wz ?_;(first|refine qb rfl rfl ?_|refine Zf rfl rfl ?_))|(refine QI ?_;(first|refine Zg rfl rfl rfl rfl ?_|refine QA rfl rfl rfl rfl (by rfl) (by rfl) (by rfl) ?_))|refine Qd rfl rfl ?_|refine Qh rfl rfl ?_|refine Qw (fun _ _ => ?_)))|(refine QZ ?_;(first|refine QX ?_|refine WT rfl ?_|refine Wf ?_|refine Zx rfl rfl rfl rfl ?_|refine qA rfl rfl rfl rfl ?_|refine WF rfl rfl (by omega) ?_|refine Q0 rfl rfl (by omega) ?_))|(refine QY ?_;(first|refine QW ?_|refine Ql ?_|refine Qu ?_|(refine W8 ?_;first|(rename_i g4 hg4 ge hge;refine Qv (fun p => p :: .row g4 [.i 0, .i 0, .i 0, .nil] :: .row ge (Enc.enc v1) :: []) 6 [(0, true), (1, true), (2, true), (3, false), (4, true), (5, true), (6, false)] (by rfl) (by rfl) (by kernel_rfl) (by decide +kernel) (by decide +kernel) ⟨_, rfl⟩ ?_)|(rename_i g4 hg4 ge hge;refine Qv (fun p => p :: .row g4 [.i 0, .i 0, .i 0, .nil] :: .row ge (Enc.enc v1) :: []) 9 [(0, true), (1, true), (2, true), (4, true), (5, true), (3, false), (6, false), (7, true), (8, true), (9, false)] (by rfl) (by rfl) (by kernel_rfl) (by decide +kernel) (by decide +kernel) ⟨_, rfl⟩ ?_)|(rename_i g4 hg4 ge hge;refine Qv (fun p => p :: .row g4 [.i 0, .i 0, .i 0, .nil] :: .row ge (Enc.enc v1) :: []) 7 [(0, true), (2, true), (4, true), (5, true), (1, false), (3, false), (6, true), (7, false)] (by rfl) (by rfl) (by kernel_rfl) (by decide +kernel) (by decide +kernel) ⟨_, rfl⟩ ?_)|(rename_i g4 hg4 ge hge;refine Qv (fun p => p :: .row g4 [.i 0, .i 0, .i 0, .nil] :: .row ge (Enc.enc v1) :: []) 7 [(0, true), (2, true), (3, true), (1, false), (4, false), (5, true), (6, true), (7, false)] (by rfl) (by rfl) (by kernel_rfl) (by decide +kernel) (by decide +kernel) ⟨_, rfl⟩ ?_)|(rename_i g4 hg4 ge hge;refine Qv (fun p => p :: .row g4 [.i 0, .i 0, .i 0, .nil] :: .row ge (Enc.enc v1) :: []) 5 [(0, true), (2, true), (3, true), (1, false), (4, true), (5, false)] (by rfl) (by rfl) (by kernel_rfl) (by decide +kernel) (by decide +kernel) ⟨_, rfl⟩ ?_)|(refine Qv (fun p => p) 100 [(0, true)] (by rfl) (by rfl) (by kernel_rfl) (by decide +kernel) (by decide +kernel) ⟨_, rfl⟩ ?_)|(refine Qv (fun p => p.1 :: .row g4 [.i 0, .i 0, .i 0, .nil] :: .row g5 [.i 13, .i 0, .i 0, .ref 3 gg 0 o.length 4] :: p.2) 9 [(0, true), (1, true), (2, true), (3, true), (4, true), (5, false), (6, true), (7, false), (8, true), (9, false)] (by rfl) (by rfl) (by kernel_rfl) (by decide +kernel) (by decide +kernel) ⟨(_, _), rfl⟩ ?_)|refine WC (by rfl) (by kernel_rfl) (by kernel_rfl) ?_|refine WB (by kernel_rfl) (by kernel_rfl) ?_)|refine QQ ?_|refine QO rfl ?_|refine Qn rfl (by omega) ?_|refine Qm rfl (by omega) ?_|refine Q2 ?_))|(refine ZJ ?_;(first|refine qD ?_|refine i_z0 ?_|refine i_st rfl rfl (fun _ => (by (repeat' first|(refine QH ?_;(first|refine Wu rfl ?_|refine qj rfl rfl ?_|refine QM (z := v1) rfl rfl (by decide) ?_|refine Qq rfl rfl ?_))|exact ⟨rfl, rfl⟩))) ?_|refine i_ef rfl ?_))|refine And.intro (Exists.intro (_) rfl) ?_)
    refine e_1 (Tryz.results79) (Qf (size := 4) rfl rfl rfl rfl) ?_
    rw [Qp]
    exact ZM (by first|rfl|(simp [Qt, Q1];try rfl)) rfl
  ·obtain ⟨hqv1, hE1⟩ := hE2x (a + 1) (L - 1) ⟨by omega, by omega, by omega, by omega⟩
   obtain ⟨fv1, dv1, sv1, wv1, mv1, uv1⟩ := hqv1
   generalize E2 (a + 1) (L - 1) = tv1 at *
   obtain ⟨v1, b1, M1⟩ := tv1
   dsimp only at *
   have spv1 := Qz v1
   have n6 := Qk l (b1) (most := 6) (by decide)
   clear hE2x hE1x hsm hrq
   refine ⟨(.mk 14 (atI l b1 6) (0) [v1], b1 + 1, M1), ?_, fun g B hg => ?_⟩
   ·refine ⟨QV ⟨5, 0, 5, 0, [4], 0, 0, 0⟩ rfl (by decide) (by decide) (by dsimp only;omega) (by dsimp only;omega) (by first|(simp;done)|(simp;omega)) (kids1 fv1), ?_, ?_, ?_, ?_, ?_⟩
    ·rw [Qy];(try simp only [QD]);omega
    ·rw [Qe];(try simp only [Qo]);omega
    ·dsimp only;omega
    ·dsimp only;omega
    ·dsimp only;omega
   ·refine Qa Tryz.func79 rfl Tryz.ntmps79 rfl (t := [(0, .ptr 0 g 0), (1, .i dd)]) rfl fun E0 hE0 => ?_
    (repeat' first|(refine QH ?_;(first|refine Wu rfl ?_|refine WJ rfl ?_|refine Qc rfl rfl rfl ?_|(refine Qr ?_;(first|refine WE rfl rfl (by omega) ?_|refine WI rfl rfl ?_|refine Wg rfl rfl ?_|refine ZV rfl rfl (by first|omega|exact nn_shr (by omega)) (by omega) ?_))|(refine QC ?_;(first|refine Q9 0 (Zi l hl _ _ _ (by omega) (by omega)) rfl rfl rfl rfl ?_|refine Q9 0 (hE1) rfl rfl rfl rfl ?_))|(refine Wz ?_;(first|refine qb rfl rfl ?_|refine Zf rfl rfl ?_))|(refine QI ?_;(first|refine Zg rfl rfl rfl rfl ?_|refine QA rfl rfl rfl rfl (by rfl) (by rfl) (by rfl) ?_))|refine Qd rfl rfl ?_|refine Qh rfl rfl ?_|refine Qw (fun _ _ => ?_)))|(refine QZ ?_;(first|refine QX ?_|refine WT rfl ?_|refine Wf ?_|refine Zx rfl rfl rfl rfl ?_|refine qA rfl rfl rfl rfl ?_|refine WF rfl rfl (by omega) ?_|refine Q0 rfl rfl (by omega) ?_))|(refine QY ?_;(first|refine QW ?_|refine Ql ?_|refine Qu ?_|(refine W8 ?_;first|(rename_i g4 hg4 ge hge;refine Qv (fun p => p :: .row g4 [.i 0, .i 0, .i 0, .nil] :: .row ge (Enc.enc v1) :: []) 6 [(0, true), (1, true), (2, true), (3, false), (4, true), (5, true), (6, false)] (by rfl) (by rfl) (by kernel_rfl) (by decide +kernel) (by decide +kernel) ⟨_, rfl⟩ ?_)|(rename_i g4 hg4 ge hge;refine Qv (fun p => p :: .row g4 [.i 0, .i 0, .i 0, .nil] :: .row ge (Enc.enc v1) :: []) 9 [(0, true), (1, true), (2, true), (4, true), (5, true), (3, false), (6, false), (7, true), (8, true), (9, false)] (by rfl) (by rfl) (by kernel_rfl) (by decide +kernel) (by decide +kernel) ⟨_, rfl⟩ ?_)|(rename_i g4 hg4 ge hge;refine Qv (fun p => p :: .row g4 [.i 0, .i 0, .i 0, .nil] :: .row ge (Enc.enc v1) :: []) 7 [(0, true), (2, true), (4, true), (5, true), (1, false), (3, false), (6, true), (7, false)] (by rfl) (by rfl) (by kernel_rfl) (by decide +kernel) (by decide +kernel) ⟨_, rfl⟩ ?_)|(rename_i g4 hg4 ge hge;refine Qv (fun p => p :: .row g4 [.i 0, .i 0, .i 0, .nil] :: .row ge (Enc.enc v1) :: []) 7 [(0, true), (2, true), (3, true), (1, false), (4, false), (5, true), (6, true), (7, false)] (by rfl) (by rfl) (by kernel_rfl) (by decide +kernel) (by decide +kernel) ⟨_, rfl⟩ ?_)|(rename_i g4 hg4 ge hge;refine Qv (fun p => p :: .row g4 [.i 0, .i 0, .i 0, .nil] :: .row ge (Enc.enc v1) :: []) 5 [(0, true), (2, true), (3, true), (1, false), (4, true), (5, false)] (by rfl) (by rfl) (by kernel_rfl) (by decide +kernel) (by decide +kernel) ⟨_, rfl⟩ ?_)|(refine Qv (fun p => p) 100 [(0, true)] (by rfl) (by rfl) (by kernel_rfl) (by decide +kernel) (by decide +kernel) ⟨_, rfl⟩ ?_)|(refine Qv (fun p => p.1 :: .row g4 [.i 0, .i 0, .i 0, .nil] :: .row g5 [.i 13, .i 0, .i 0, .ref 3 gg 0 o.length 4] :: p.2) 9 [(0, true), (1, true), (2, true), (3, true), (4, true), (5, false), (6, true), (7, false), (8, true), (9, false)] (by rfl) (by rfl) (by kernel_rfl) (by decide +kernel) (by decide +kernel) ⟨(_, _), rfl⟩ ?_)|refine WC (by rfl) (by kernel_rfl) (by kernel_rfl) ?_|refine WB (by kernel_rfl) (by kernel_rfl) ?_)|refine QQ ?_|refine QO rfl ?_|refine Qn rfl (by omega) ?_|refine Qm rfl (by omega) ?_|refine Q2 ?_))|(refine ZJ ?_;(first|refine qD ?_|refine i_z0 ?_|refine i_st rfl rfl (fun _ => (by (repeat' first|(refine QH ?_;(first|refine Wu rfl ?_|refine qj rfl rfl ?_|refine QM (z := v1) rfl rfl (by decide) ?_|refine Qq rfl rfl ?_))|exact ⟨rfl, rfl⟩))) ?_|refine i_ef rfl ?_))|refine And.intro (Exists.intro (_) rfl) ?_)
    refine e_1 (Tryz.results79) (Qf (size := 4) rfl rfl rfl rfl) ?_
    rw [Qp]
    exact ZM (by first|rfl|(simp [Qt, Q1];try rfl)) rfl
  ·obtain ⟨hqv1, hE1⟩ := hE2x (a + 1) (L - 1) ⟨by omega, by omega, by omega, by omega⟩
   obtain ⟨fv1, dv1, sv1, wv1, mv1, uv1⟩ := hqv1
   generalize E2 (a + 1) (L - 1) = tv1 at *
   obtain ⟨v1, b1, M1⟩ := tv1
   dsimp only at *
   have spv1 := Qz v1
   obtain ⟨hqv2, hE2⟩ := hE2x (b1 + 1) (M1) ⟨by omega, by omega, by omega, by omega⟩
   obtain ⟨fv2, dv2, sv2, wv2, mv2, uv2⟩ := hqv2
   generalize E2 (b1 + 1) (M1) = tv2 at *
   obtain ⟨v2, b2, M2⟩ := tv2
   dsimp only at *
   have spv2 := Qz v2
   have n6 := Qk l (b1) (most := 6) (by decide)
   clear hE2x hE1x hsm hrq
   refine ⟨(.mk 15 (atI l b1 6) (0) [v1, v2], b2, M2), ?_, fun g B hg => ?_⟩
   ·refine ⟨QV ⟨5, 0, 5, 0, [4, 4], 0, 0, 0⟩ rfl (by decide) (by decide) (by dsimp only;omega) (by dsimp only;omega) (by first|(simp;done)|(simp;omega)) (kids2 fv1 fv2), ?_, ?_, ?_, ?_, ?_⟩
    ·rw [Qy];(try simp only [QD]);omega
    ·rw [Qe];(try simp only [Qo]);omega
    ·dsimp only;omega
    ·dsimp only;omega
    ·dsimp only;omega
   ·refine Qa Tryz.func79 rfl Tryz.ntmps79 rfl (t := [(0, .ptr 0 g 0), (1, .i dd)]) rfl fun E0 hE0 => ?_
    (repeat' first|(refine QH ?_;(first|refine Wu rfl ?_|refine WJ rfl ?_|refine Qc rfl rfl rfl ?_|(refine Qr ?_;(first|refine WE rfl rfl (by omega) ?_|refine WI rfl rfl ?_|refine Wg rfl rfl ?_|refine ZV rfl rfl (by first|omega|exact nn_shr (by omega)) (by omega) ?_))|(refine QC ?_;(first|refine Q9 0 (Zi l hl _ _ _ (by omega) (by omega)) rfl rfl rfl rfl ?_|refine Q9 0 (hE1) rfl rfl rfl rfl ?_|refine Q9 0 (hE2) rfl rfl rfl rfl ?_))|(refine Wz ?_;(first|refine qb rfl rfl ?_|refine Zf rfl rfl ?_))|(refine QI ?_;(first|refine Zg rfl rfl rfl rfl ?_|refine QA rfl rfl rfl rfl (by rfl) (by rfl) (by rfl) ?_))|refine Qd rfl rfl ?_|refine Qh rfl rfl ?_|refine Qw (fun _ _ => ?_)))|(refine QZ ?_;(first|refine QX ?_|refine WT rfl ?_|refine Wf ?_|refine Zx rfl rfl rfl rfl ?_|refine qA rfl rfl rfl rfl ?_|refine WF rfl rfl (by omega) ?_|refine Q0 rfl rfl (by omega) ?_))|(refine QY ?_;(first|refine QW ?_|refine Ql ?_|refine Qu ?_|(refine W8 ?_;first|(rename_i g4 hg4 ge hge;refine Qv (fun p => p :: .row g4 [.i 0, .i 0, .i 0, .nil] :: .row ge (Enc.enc v1) :: []) 6 [(0, true), (1, true), (2, true), (3, false), (4, true), (5, true), (6, false)] (by rfl) (by rfl) (by kernel_rfl) (by decide +kernel) (by decide +kernel) ⟨_, rfl⟩ ?_)|(rename_i g4 hg4 ge hge;refine Qv (fun p => p :: .row g4 [.i 0, .i 0, .i 0, .nil] :: .row ge (Enc.enc v1) :: []) 9 [(0, true), (1, true), (2, true), (4, true), (5, true), (3, false), (6, false), (7, true), (8, true), (9, false)] (by rfl) (by rfl) (by kernel_rfl) (by decide +kernel) (by decide +kernel) ⟨_, rfl⟩ ?_)|(rename_i g4 hg4 ge hge;refine Qv (fun p => p :: .row g4 [.i 0, .i 0, .i 0, .nil] :: .row ge (Enc.enc v1) :: []) 7 [(0, true), (2, true), (4, true), (5, true), (1, false), (3, false), (6, true), (7, false)] (by rfl) (by rfl) (by kernel_rfl) (by decide +kernel) (by decide +kernel) ⟨_, rfl⟩ ?_)|(rename_i g4 hg4 ge hge;refine Qv (fun p => p :: .row g4 [.i 0, .i 0, .i 0, .nil] :: .row ge (Enc.enc v1) :: []) 7 [(0, true), (2, true), (3, true), (1, false), (4, false), (5, true), (6, true), (7, false)] (by rfl) (by rfl) (by kernel_rfl) (by decide +kernel) (by decide +kernel) ⟨_, rfl⟩ ?_)|(rename_i g4 hg4 ge hge;refine Qv (fun p => p :: .row g4 [.i 0, .i 0, .i 0, .nil] :: .row ge (Enc.enc v1) :: []) 5 [(0, true), (2, true), (3, true), (1, false), (4, true), (5, false)] (by rfl) (by rfl) (by kernel_rfl) (by decide +kernel) (by decide +kernel) ⟨_, rfl⟩ ?_)|(refine Qv (fun p => p) 100 [(0, true)] (by rfl) (by rfl) (by kernel_rfl) (by decide +kernel) (by decide +kernel) ⟨_, rfl⟩ ?_)|(refine Qv (fun p => p.1 :: .row g4 [.i 0, .i 0, .i 0, .nil] :: .row g5 [.i 13, .i 0, .i 0, .ref 3 gg 0 o.length 4] :: p.2) 9 [(0, true), (1, true), (2, true), (3, true), (4, true), (5, false), (6, true), (7, false), (8, true), (9, false)] (by rfl) (by rfl) (by kernel_rfl) (by decide +kernel) (by decide +kernel) ⟨(_, _), rfl⟩ ?_)|refine WC (by rfl) (by kernel_rfl) (by kernel_rfl) ?_|refine WB (by kernel_rfl) (by kernel_rfl) ?_)|refine QQ ?_|refine QO rfl ?_|refine Qn rfl (by omega) ?_|refine Qm rfl (by omega) ?_|refine Q2 ?_))|(refine ZJ ?_;(first|refine qD ?_|refine i_z0 ?_|refine i_st rfl rfl (fun _ => (by (repeat' first|(refine QH ?_;(first|refine Wu rfl ?_|refine qj rfl rfl ?_|refine Zj (y := v1) (z := v2) rfl rfl (by decide) ?_|refine Qq rfl rfl ?_))|exact ⟨rfl, rfl⟩))) ?_|refine i_ef rfl ?_))|refine And.intro (Exists.intro (_) rfl) ?_)
    refine e_1 (Tryz.results79) (Qf (size := 4) rfl rfl rfl rfl) ?_
    rw [Qp]
    exact ZM (by first|rfl|(simp [Qt, Q1];try rfl)) rfl
  ·obtain ⟨hqv1, hE1⟩ := hE2x (a + 1) (L - 1) ⟨by omega, by omega, by omega, by omega⟩
   obtain ⟨fv1, dv1, sv1, wv1, mv1, uv1⟩ := hqv1
   generalize E2 (a + 1) (L - 1) = tv1 at *
   obtain ⟨v1, b1, M1⟩ := tv1
   dsimp only at *
   have spv1 := Qz v1
   have n6 := Qk l (b1) (most := 6) (by decide)
   have n3 := Qk l (b1 + 1) (most := 3) (by decide)
   clear hE2x hE1x hsm hrq
   refine ⟨(.mk 16 (atI l b1 6) (atI l (b1 + 1) 3) [v1], b1 + 1 + 1, M1), ?_, fun g B hg => ?_⟩
   ·refine ⟨QV ⟨5, 0, 5, 2, [4], 0, 0, 0⟩ rfl (by decide) (by decide) (by dsimp only;omega) (by dsimp only;omega) (by first|(simp;done)|(simp;omega)) (kids1 fv1), ?_, ?_, ?_, ?_, ?_⟩
    ·rw [Qy];(try simp only [QD]);omega
    ·rw [Qe];(try simp only [Qo]);omega
    ·dsimp only;omega
    ·dsimp only;omega
    ·dsimp only;omega
   ·refine Qa Tryz.func79 rfl Tryz.ntmps79 rfl (t := [(0, .ptr 0 g 0), (1, .i dd)]) rfl fun E0 hE0 => ?_
    (repeat' first|(refine QH ?_;(first|refine Wu rfl ?_|refine WJ rfl ?_|refine Qc rfl rfl rfl ?_|(refine Qr ?_;(first|refine WE rfl rfl (by omega) ?_|refine WI rfl rfl ?_|refine Wg rfl rfl ?_|refine ZV rfl rfl (by first|omega|exact nn_shr (by omega)) (by omega) ?_))|(refine QC ?_;(first|refine Q9 0 (Zi l hl _ _ _ (by omega) (by omega)) rfl rfl rfl rfl ?_|refine Q9 0 (hE1) rfl rfl rfl rfl ?_))|(refine Wz ?_;(first|refine qb rfl rfl ?_|refine Zf rfl rfl ?_))|(refine QI ?_;(first|refine Zg rfl rfl rfl rfl ?_|refine QA rfl rfl rfl rfl (by rfl) (by rfl) (by rfl) ?_))|refine Qd rfl rfl ?_|refine Qh rfl rfl ?_|refine Qw (fun _ _ => ?_)))|(refine QZ ?_;(first|refine QX ?_|refine WT rfl ?_|refine Wf ?_|refine Zx rfl rfl rfl rfl ?_|refine qA rfl rfl rfl rfl ?_|refine WF rfl rfl (by omega) ?_|refine Q0 rfl rfl (by omega) ?_))|(refine QY ?_;(first|refine QW ?_|refine Ql ?_|refine Qu ?_|(refine W8 ?_;first|(rename_i g4 hg4 ge hge;refine Qv (fun p => p :: .row g4 [.i 0, .i 0, .i 0, .nil] :: .row ge (Enc.enc v1) :: []) 6 [(0, true), (1, true), (2, true), (3, false), (4, true), (5, true), (6, false)] (by rfl) (by rfl) (by kernel_rfl) (by decide +kernel) (by decide +kernel) ⟨_, rfl⟩ ?_)|(rename_i g4 hg4 ge hge;refine Qv (fun p => p :: .row g4 [.i 0, .i 0, .i 0, .nil] :: .row ge (Enc.enc v1) :: []) 9 [(0, true), (1, true), (2, true), (4, true), (5, true), (3, false), (6, false), (7, true), (8, true), (9, false)] (by rfl) (by rfl) (by kernel_rfl) (by decide +kernel) (by decide +kernel) ⟨_, rfl⟩ ?_)|(rename_i g4 hg4 ge hge;refine Qv (fun p => p :: .row g4 [.i 0, .i 0, .i 0, .nil] :: .row ge (Enc.enc v1) :: []) 7 [(0, true), (2, true), (4, true), (5, true), (1, false), (3, false), (6, true), (7, false)] (by rfl) (by rfl) (by kernel_rfl) (by decide +kernel) (by decide +kernel) ⟨_, rfl⟩ ?_)|(rename_i g4 hg4 ge hge;refine Qv (fun p => p :: .row g4 [.i 0, .i 0, .i 0, .nil] :: .row ge (Enc.enc v1) :: []) 7 [(0, true), (2, true), (3, true), (1, false), (4, false), (5, true), (6, true), (7, false)] (by rfl) (by rfl) (by kernel_rfl) (by decide +kernel) (by decide +kernel) ⟨_, rfl⟩ ?_)|(rename_i g4 hg4 ge hge;refine Qv (fun p => p :: .row g4 [.i 0, .i 0, .i 0, .nil] :: .row ge (Enc.enc v1) :: []) 5 [(0, true), (2, true), (3, true), (1, false), (4, true), (5, false)] (by rfl) (by rfl) (by kernel_rfl) (by decide +kernel) (by decide +kernel) ⟨_, rfl⟩ ?_)|(refine Qv (fun p => p) 100 [(0, true)] (by rfl) (by rfl) (by kernel_rfl) (by decide +kernel) (by decide +kernel) ⟨_, rfl⟩ ?_)|(refine Qv (fun p => p.1 :: .row g4 [.i 0, .i 0, .i 0, .nil] :: .row g5 [.i 13, .i 0, .i 0, .ref 3 gg 0 o.length 4] :: p.2) 9 [(0, true), (1, true), (2, true), (3, true), (4, true), (5, false), (6, true), (7, false), (8, true), (9, false)] (by rfl) (by rfl) (by kernel_rfl) (by decide +kernel) (by decide +kernel) ⟨(_, _), rfl⟩ ?_)|refine WC (by rfl) (by kernel_rfl) (by kernel_rfl) ?_|refine WB (by kernel_rfl) (by kernel_rfl) ?_)|refine QQ ?_|refine QO rfl ?_|refine Qn rfl (by omega) ?_|refine Qm rfl (by omega) ?_|refine Q2 ?_))|(refine ZJ ?_;(first|refine qD ?_|refine i_z0 ?_|refine i_st rfl rfl (fun _ => (by (repeat' first|(refine QH ?_;(first|refine Wu rfl ?_|refine qj rfl rfl ?_|refine QM (z := v1) rfl rfl (by decide) ?_|refine Qq rfl rfl ?_))|exact ⟨rfl, rfl⟩))) ?_|refine i_ef rfl ?_))|refine And.intro (Exists.intro (_) rfl) ?_)
    refine e_1 (Tryz.results79) (Qf (size := 4) rfl rfl rfl rfl) ?_
    rw [Qp]
    exact ZM (by first|rfl|(simp [Qt, Q1];try rfl)) rfl
  ·obtain ⟨hqv1, hE1⟩ := hE2x (a + 1) (L - 1) ⟨by omega, by omega, by omega, by omega⟩
   obtain ⟨fv1, dv1, sv1, wv1, mv1, uv1⟩ := hqv1
   generalize E2 (a + 1) (L - 1) = tv1 at *
   obtain ⟨v1, b1, M1⟩ := tv1
   dsimp only at *
   have spv1 := Qz v1
   clear hE2x hE1x hsm hrq
   refine ⟨(.mk 19 (0) (0) [v1], b1, M1), ?_, fun g B hg => ?_⟩
   ·refine ⟨QV ⟨5, 0, 0, 0, [4], 0, 0, 0⟩ rfl (by decide) (by decide) (by dsimp only;omega) (by dsimp only;omega) (by first|(simp;done)|(simp;omega)) (kids1 fv1), ?_, ?_, ?_, ?_, ?_⟩
    ·rw [Qy];(try simp only [QD]);omega
    ·rw [Qe];(try simp only [Qo]);omega
    ·dsimp only;omega
    ·dsimp only;omega
    ·dsimp only;omega
   ·refine Qa Tryz.func79 rfl Tryz.ntmps79 rfl (t := [(0, .ptr 0 g 0), (1, .i dd)]) rfl fun E0 hE0 => ?_
    (repeat' first|(refine QH ?_;(first|refine Wu rfl ?_|refine WJ rfl ?_|(refine We ?_;(first|refine qj rfl rfl ?_|refine Qc rfl rfl rfl ?_))|(refine Qr ?_;(first|refine WE rfl rfl (by omega) ?_|refine WI rfl rfl ?_|refine Wg rfl rfl ?_|refine ZV rfl rfl (by first|omega|exact nn_shr (by omega)) (by omega) ?_))|(refine QC ?_;(first|refine Q9 0 (Zi l hl _ _ _ (by omega) (by omega)) rfl rfl rfl rfl ?_|refine Q9 0 (hE1) rfl rfl rfl rfl ?_))|(refine Wz ?_;(first|refine qb rfl rfl ?_|refine Zf rfl rfl ?_))|(refine QI ?_;(first|refine Zg rfl rfl rfl rfl ?_|refine QA rfl rfl rfl rfl (by rfl) (by rfl) (by rfl) ?_))|refine QM (z := v1) rfl rfl (by decide) ?_|refine Qd rfl rfl ?_|refine Qq rfl rfl ?_|refine Qh rfl rfl ?_|refine Qw (fun _ _ => ?_)))|(refine QZ ?_;(first|refine QX ?_|refine WT rfl ?_|refine Wf ?_|refine Zx rfl rfl rfl rfl ?_|refine qA rfl rfl rfl rfl ?_|refine WF rfl rfl (by omega) ?_|refine Q0 rfl rfl (by omega) ?_))|(refine QY ?_;(first|refine QW ?_|refine Ql ?_|refine Qu ?_|refine QQ ?_|refine QO rfl ?_|refine Qn rfl (by omega) ?_|refine Qm rfl (by omega) ?_|refine Q2 ?_)))
    refine e_1 (Tryz.results79) (Qf (size := 4) rfl rfl rfl rfl) ?_
    rw [Qp]
    exact ZM (by first|rfl|(simp [Qt, Q1];try rfl)) rfl
  ·obtain ⟨hqv1, hE1⟩ := hE2x (a + 1) (L - 1) ⟨by omega, by omega, by omega, by omega⟩
   obtain ⟨fv1, dv1, sv1, wv1, mv1, uv1⟩ := hqv1
   generalize E2 (a + 1) (L - 1) = tv1 at *
   obtain ⟨v1, b1, M1⟩ := tv1
   dsimp only at *
   have spv1 := Qz v1
   clear hE2x hE1x hsm hrq
   refine ⟨(.mk 20 (0) (0) [v1], b1, M1), ?_, fun g B hg => ?_⟩
   ·refine ⟨QV ⟨5, 0, 0, 0, [4], 0, 0, 0⟩ rfl (by decide) (by decide) (by dsimp only;omega) (by dsimp only;omega) (by first|(simp;done)|(simp;omega)) (kids1 fv1), ?_, ?_, ?_, ?_, ?_⟩
    ·rw [Qy];(try simp only [QD]);omega
    ·rw [Qe];(try simp only [Qo]);omega
    ·dsimp only;omega
    ·dsimp only;omega
    ·dsimp only;omega
   ·refine Qa Tryz.func79 rfl Tryz.ntmps79 rfl (t := [(0, .ptr 0 g 0), (1, .i dd)]) rfl fun E0 hE0 => ?_
    (repeat' first|(refine QH ?_;(first|refine Wu rfl ?_|refine WJ rfl ?_|(refine We ?_;(first|refine qj rfl rfl ?_|refine Qc rfl rfl rfl ?_))|(refine Qr ?_;(first|refine WE rfl rfl (by omega) ?_|refine WI rfl rfl ?_|refine Wg rfl rfl ?_|refine ZV rfl rfl (by first|omega|exact nn_shr (by omega)) (by omega) ?_))|(refine QC ?_;(first|refine Q9 0 (Zi l hl _ _ _ (by omega) (by omega)) rfl rfl rfl rfl ?_|refine Q9 0 (hE1) rfl rfl rfl rfl ?_))|(refine Wz ?_;(first|refine qb rfl rfl ?_|refine Zf rfl rfl ?_))|(refine QI ?_;(first|refine Zg rfl rfl rfl rfl ?_|refine QA rfl rfl rfl rfl (by rfl) (by rfl) (by rfl) ?_))|refine QM (z := v1) rfl rfl (by decide) ?_|refine Qd rfl rfl ?_|refine Qq rfl rfl ?_|refine Qh rfl rfl ?_|refine Qw (fun _ _ => ?_)))|(refine QZ ?_;(first|refine QX ?_|refine WT rfl ?_|refine Wf ?_|refine Zx rfl rfl rfl rfl ?_|refine qA rfl rfl rfl rfl ?_|refine WF rfl rfl (by omega) ?_|refine Q0 rfl rfl (by omega) ?_))|(refine QY ?_;(first|refine QW ?_|refine Ql ?_|refine Qu ?_|refine QQ ?_|refine QO rfl ?_|refine Qn rfl (by omega) ?_|refine Qm rfl (by omega) ?_|refine Q2 ?_)))
    refine e_1 (Tryz.results79) (Qf (size := 4) rfl rfl rfl rfl) ?_
    rw [Qp]
    exact ZM (by first|rfl|(simp [Qt, Q1];try rfl)) rfl
  ·obtain ⟨hqv1, hE1⟩ := hE2x (a + 1) (L - 1) ⟨by omega, by omega, by omega, by omega⟩
   obtain ⟨fv1, dv1, sv1, wv1, mv1, uv1⟩ := hqv1
   generalize E2 (a + 1) (L - 1) = tv1 at *
   obtain ⟨v1, b1, M1⟩ := tv1
   dsimp only at *
   have spv1 := Qz v1
   have n3 := Qk l (b1) (most := 3) (by decide)
   clear hE2x hE1x hsm hrq
   refine ⟨(.mk 22 (atI l b1 3) (0) [v1], b1 + 1, M1), ?_, fun g B hg => ?_⟩
   ·refine ⟨QV ⟨5, 0, 2, 0, [4], 0, 0, 0⟩ rfl (by decide) (by decide) (by dsimp only;omega) (by dsimp only;omega) (by first|(simp;done)|(simp;omega)) (kids1 fv1), ?_, ?_, ?_, ?_, ?_⟩
    ·rw [Qy];(try simp only [QD]);omega
    ·rw [Qe];(try simp only [Qo]);omega
    ·dsimp only;omega
    ·dsimp only;omega
    ·dsimp only;omega
   ·refine Qa Tryz.func79 rfl Tryz.ntmps79 rfl (t := [(0, .ptr 0 g 0), (1, .i dd)]) rfl fun E0 hE0 => ?_
    (repeat' first|(refine QH ?_;(first|refine Wu rfl ?_|refine WJ rfl ?_|refine Qc rfl rfl rfl ?_|(refine Qr ?_;(first|refine WE rfl rfl (by omega) ?_|refine WI rfl rfl ?_|refine Wg rfl rfl ?_|refine ZV rfl rfl (by first|omega|exact nn_shr (by omega)) (by omega) ?_))|(refine QC ?_;(first|refine Q9 0 (Zi l hl _ _ _ (by omega) (by omega)) rfl rfl rfl rfl ?_|refine Q9 0 (hE1) rfl rfl rfl rfl ?_))|(refine Wz ?_;(first|refine qb rfl rfl ?_|refine Zf rfl rfl ?_))|(refine QI ?_;(first|refine Zg rfl rfl rfl rfl ?_|refine QA rfl rfl rfl rfl (by rfl) (by rfl) (by rfl) ?_))|refine Qd rfl rfl ?_|refine Qh rfl rfl ?_|refine Qw (fun _ _ => ?_)))|(refine QZ ?_;(first|refine QX ?_|refine WT rfl ?_|refine Wf ?_|refine Zx rfl rfl rfl rfl ?_|refine qA rfl rfl rfl rfl ?_|refine WF rfl rfl (by omega) ?_|refine Q0 rfl rfl (by omega) ?_))|(refine QY ?_;(first|refine QW ?_|refine Ql ?_|refine Qu ?_|(refine W8 ?_;first|(rename_i g4 hg4 ge hge;refine Qv (fun p => p :: .row g4 [.i 0, .i 0, .i 0, .nil] :: .row ge (Enc.enc v1) :: []) 6 [(0, true), (1, true), (2, true), (3, false), (4, true), (5, true), (6, false)] (by rfl) (by rfl) (by kernel_rfl) (by decide +kernel) (by decide +kernel) ⟨_, rfl⟩ ?_)|(rename_i g4 hg4 ge hge;refine Qv (fun p => p :: .row g4 [.i 0, .i 0, .i 0, .nil] :: .row ge (Enc.enc v1) :: []) 9 [(0, true), (1, true), (2, true), (4, true), (5, true), (3, false), (6, false), (7, true), (8, true), (9, false)] (by rfl) (by rfl) (by kernel_rfl) (by decide +kernel) (by decide +kernel) ⟨_, rfl⟩ ?_)|(rename_i g4 hg4 ge hge;refine Qv (fun p => p :: .row g4 [.i 0, .i 0, .i 0, .nil] :: .row ge (Enc.enc v1) :: []) 7 [(0, true), (2, true), (4, true), (5, true), (1, false), (3, false), (6, true), (7, false)] (by rfl) (by rfl) (by kernel_rfl) (by decide +kernel) (by decide +kernel) ⟨_, rfl⟩ ?_)|(rename_i g4 hg4 ge hge;refine Qv (fun p => p :: .row g4 [.i 0, .i 0, .i 0, .nil] :: .row ge (Enc.enc v1) :: []) 7 [(0, true), (2, true), (3, true), (1, false), (4, false), (5, true), (6, true), (7, false)] (by rfl) (by rfl) (by kernel_rfl) (by decide +kernel) (by decide +kernel) ⟨_, rfl⟩ ?_)|(rename_i g4 hg4 ge hge;refine Qv (fun p => p :: .row g4 [.i 0, .i 0, .i 0, .nil] :: .row ge (Enc.enc v1) :: []) 5 [(0, true), (2, true), (3, true), (1, false), (4, true), (5, false)] (by rfl) (by rfl) (by kernel_rfl) (by decide +kernel) (by decide +kernel) ⟨_, rfl⟩ ?_)|(refine Qv (fun p => p) 100 [(0, true)] (by rfl) (by rfl) (by kernel_rfl) (by decide +kernel) (by decide +kernel) ⟨_, rfl⟩ ?_)|(refine Qv (fun p => p.1 :: .row g4 [.i 0, .i 0, .i 0, .nil] :: .row g5 [.i 13, .i 0, .i 0, .ref 3 gg 0 o.length 4] :: p.2) 9 [(0, true), (1, true), (2, true), (3, true), (4, true), (5, false), (6, true), (7, false), (8, true), (9, false)] (by rfl) (by rfl) (by kernel_rfl) (by decide +kernel) (by decide +kernel) ⟨(_, _), rfl⟩ ?_)|refine WC (by rfl) (by kernel_rfl) (by kernel_rfl) ?_|refine WB (by kernel_rfl) (by kernel_rfl) ?_)|refine QQ ?_|refine QO rfl ?_|refine Qn rfl (by omega) ?_|refine Qm rfl (by omega) ?_|refine Q2 ?_))|(refine ZJ ?_;(first|refine qD ?_|refine i_z0 ?_|refine i_st rfl rfl (fun _ => (by (repeat' first|(refine QH ?_;(first|refine Wu rfl ?_|refine qj rfl rfl ?_|refine QM (z := v1) rfl rfl (by decide) ?_|refine Qq rfl rfl ?_))|exact ⟨rfl, rfl⟩))) ?_|refine i_ef rfl ?_))|refine And.intro (Exists.intro (_) rfl) ?_)
    refine e_1 (Tryz.results79) (Qf (size := 4) rfl rfl rfl rfl) ?_
    rw [Qp]
    exact ZM (by first|rfl|(simp [Qt, Q1];try rfl)) rfl
  ·obtain ⟨hqv1, hE1⟩ := hE2x (a + 1) (L - 1) ⟨by omega, by omega, by omega, by omega⟩
   obtain ⟨fv1, dv1, sv1, wv1, mv1, uv1⟩ := hqv1
   generalize E2 (a + 1) (L - 1) = tv1 at *
   obtain ⟨v1, b1, M1⟩ := tv1
   dsimp only at *
   have spv1 := Qz v1
   have hS1 := hsm (b1 + 1) M1 ⟨by omega, by omega, by omega, by omega⟩ (by omega) (by omega)
   have hb := Qk l (b1 + 1) (most := 4) (by decide)
   obtain ⟨N, hN⟩ : ∃ N : Nat, atI l (b1 + 1) 4 = (N : Int) := ⟨(atI l (b1 + 1) 4).toNat, by omega⟩
   rw [hN, show ((N : Int)).toNat = N by omega, show ((1 : Nat) : Int) + 1 = 2 from rfl] at hS1
   have hq := hrq N (b1 + 1 + 1) M1 (by omega) ⟨by omega, by omega, by omega, by omega⟩ (by omega)
   have hln := Wr E1 N (b1 + 1 + 1) M1
   obtain ⟨f2, d2, s2, w2, m2, u2⟩ := hq
   generalize Zw E1 N (b1 + 1 + 1) M1 = T at *
   obtain ⟨ks, b2, M2⟩ := T
   dsimp only at *
   have hdl := Q8 d2
   have n6 := Qk l (b1) (most := 6) (by decide)
   clear hE2x hE1x hsm hrq
   refine ⟨(.mk 23 (atI l b1 6) (0) ks, b2, M2), ?_, fun g B hg => ?_⟩
   ·refine ⟨QV ⟨5, 0, 5, 0, [], 3, 0, 4⟩ rfl (by decide) (by decide) (by dsimp only;omega) (by dsimp only;omega) (by first|(simp;done)|(simp;omega)) (kidsA rfl f2), ?_, ?_, ?_, ?_, ?_⟩
    ·rw [Qy];(try simp only [QD]);omega
    ·rw [Qe];(try simp only [Qo]);omega
    ·dsimp only;omega
    ·dsimp only;omega
    ·dsimp only;omega
   ·refine Qa Tryz.func79 rfl Tryz.ntmps79 rfl (t := [(0, .ptr 0 g 0), (1, .i dd)]) rfl fun E0 hE0 => ?_
    (repeat' first|(refine QH ?_;(first|refine Wu rfl ?_|refine WJ rfl ?_|refine Qc rfl rfl rfl ?_|(refine Qr ?_;(first|refine WE rfl rfl (by omega) ?_|refine WI rfl rfl ?_|refine Wg rfl rfl ?_|refine ZV rfl rfl (by first|omega|exact nn_shr (by omega)) (by omega) ?_))|(refine QC ?_;(first|refine Q9 0 (Zi l hl _ _ _ (by omega) (by omega)) rfl rfl rfl rfl ?_|refine Q9 0 (hE1) rfl rfl rfl rfl ?_|refine Q9 0 (hS1) rfl rfl rfl rfl ?_))|(refine Wz ?_;(first|refine qb rfl rfl ?_|refine Zf rfl rfl ?_))|(refine QI ?_;(first|refine Zg rfl rfl rfl rfl ?_|refine QA rfl rfl rfl rfl (by rfl) (by rfl) (by rfl) ?_))|refine Qd rfl rfl ?_|refine Qq rfl rfl ?_|refine Qh rfl rfl ?_|refine Qw (fun _ _ => ?_)))|(refine QZ ?_;(first|refine QX ?_|refine WT rfl ?_|refine Wf ?_|refine Zx rfl rfl rfl rfl ?_|refine qA rfl rfl rfl rfl ?_|refine WF rfl rfl (by omega) ?_|refine Q0 rfl rfl (by omega) ?_))|(refine QY ?_;(first|refine QW ?_|refine Ql ?_|refine Qu ?_|refine QQ ?_|refine QO rfl ?_|refine Qn rfl (by omega) ?_|refine Qm rfl (by omega) ?_|refine Q2 ?_)))
    refine e_1 (Tryz.results79) (Qf (size := 4) rfl rfl rfl rfl) ?_
    rw [Qp]
    exact ZM (by first|rfl|(simp [Qt, Q1];try rfl)) rfl
  ·obtain ⟨hqv1, hE1⟩ := hE2x (a + 1) (L - 1) ⟨by omega, by omega, by omega, by omega⟩
   obtain ⟨fv1, dv1, sv1, wv1, mv1, uv1⟩ := hqv1
   generalize E2 (a + 1) (L - 1) = tv1 at *
   obtain ⟨v1, b1, M1⟩ := tv1
   dsimp only at *
   have spv1 := Qz v1
   clear hE2x hE1x hsm hrq
   refine ⟨(.mk 24 (0) (0) [v1], b1, M1), ?_, fun g B hg => ?_⟩
   ·refine ⟨QV ⟨5, 0, 0, 0, [4], 0, 0, 0⟩ rfl (by decide) (by decide) (by dsimp only;omega) (by dsimp only;omega) (by first|(simp;done)|(simp;omega)) (kids1 fv1), ?_, ?_, ?_, ?_, ?_⟩
    ·rw [Qy];(try simp only [QD]);omega
    ·rw [Qe];(try simp only [Qo]);omega
    ·dsimp only;omega
    ·dsimp only;omega
    ·dsimp only;omega
   ·refine Qa Tryz.func79 rfl Tryz.ntmps79 rfl (t := [(0, .ptr 0 g 0), (1, .i dd)]) rfl fun E0 hE0 => ?_
    (repeat' first|(refine QH ?_;(first|refine Wu rfl ?_|refine WJ rfl ?_|(refine We ?_;(first|refine qj rfl rfl ?_|refine Qc rfl rfl rfl ?_))|(refine Qr ?_;(first|refine WE rfl rfl (by omega) ?_|refine WI rfl rfl ?_|refine Wg rfl rfl ?_|refine ZV rfl rfl (by first|omega|exact nn_shr (by omega)) (by omega) ?_))|(refine QC ?_;(first|refine Q9 0 (Zi l hl _ _ _ (by omega) (by omega)) rfl rfl rfl rfl ?_|refine Q9 0 (hE1) rfl rfl rfl rfl ?_))|(refine Wz ?_;(first|refine qb rfl rfl ?_|refine Zf rfl rfl ?_))|(refine QI ?_;(first|refine Zg rfl rfl rfl rfl ?_|refine QA rfl rfl rfl rfl (by rfl) (by rfl) (by rfl) ?_))|refine QM (z := v1) rfl rfl (by decide) ?_|refine Qd rfl rfl ?_|refine Qq rfl rfl ?_|refine Qh rfl rfl ?_|refine Qw (fun _ _ => ?_)))|(refine QZ ?_;(first|refine QX ?_|refine WT rfl ?_|refine Wf ?_|refine Zx rfl rfl rfl rfl ?_|refine qA rfl rfl rfl rfl ?_|refine WF rfl rfl (by omega) ?_|refine Q0 rfl rfl (by omega) ?_))|(refine QY ?_;(first|refine QW ?_|refine Ql ?_|refine Qu ?_|refine QQ ?_|refine QO rfl ?_|refine Qn rfl (by omega) ?_|refine Qm rfl (by omega) ?_|refine Q2 ?_)))
    refine e_1 (Tryz.results79) (Qf (size := 4) rfl rfl rfl rfl) ?_
    rw [Qp]
    exact ZM (by first|rfl|(simp [Qt, Q1];try rfl)) rfl
  ·obtain ⟨hqv1, hE1⟩ := hE2x (a + 1) (L - 1) ⟨by omega, by omega, by omega, by omega⟩
   obtain ⟨fv1, dv1, sv1, wv1, mv1, uv1⟩ := hqv1
   generalize E2 (a + 1) (L - 1) = tv1 at *
   obtain ⟨v1, b1, M1⟩ := tv1
   dsimp only at *
   have spv1 := Qz v1
   clear hE2x hE1x hsm hrq
   refine ⟨(.mk 25 (0) (0) [], b1, M1), ?_, fun g B hg => ?_⟩
   ·refine ⟨QV ⟨5, 0, 0, 0, [], 0, 0, 0⟩ rfl (by decide) (by decide) (by dsimp only;omega) (by dsimp only;omega) (by first|(simp;done)|(simp;omega)) (qa), ?_, ?_, ?_, ?_, ?_⟩
    ·rw [Qy];(try simp only [QD]);omega
    ·rw [Qe];(try simp only [Qo]);omega
    ·dsimp only;omega
    ·dsimp only;omega
    ·dsimp only;omega
   ·refine Qa Tryz.func79 rfl Tryz.ntmps79 rfl (t := [(0, .ptr 0 g 0), (1, .i dd)]) rfl fun E0 hE0 => ?_
    (repeat' first|(refine QH ?_;(first|refine Wu rfl ?_|refine WJ rfl ?_|refine Qc rfl rfl rfl ?_|(refine Qr ?_;(first|refine WE rfl rfl (by omega) ?_|refine WI rfl rfl ?_|refine Wg rfl rfl ?_|refine ZV rfl rfl (by first|omega|exact nn_shr (by omega)) (by omega) ?_))|(refine QC ?_;(first|refine Q9 0 (Zi l hl _ _ _ (by omega) (by omega)) rfl rfl rfl rfl ?_|refine Q9 0 (hE1) rfl rfl rfl rfl ?_))|(refine Wz ?_;(first|refine qb rfl rfl ?_|refine Zf rfl rfl ?_))|(refine QI ?_;(first|refine Zg rfl rfl rfl rfl ?_|refine QA rfl rfl rfl rfl (by rfl) (by rfl) (by rfl) ?_))|refine Qd rfl rfl ?_|refine Qq rfl rfl ?_|refine Qh rfl rfl ?_|refine Qw (fun _ _ => ?_)))|(refine QZ ?_;(first|refine QX ?_|refine WT rfl ?_|refine Wf ?_|refine Zx rfl rfl rfl rfl ?_|refine qA rfl rfl rfl rfl ?_|refine WF rfl rfl (by omega) ?_|refine Q0 rfl rfl (by omega) ?_))|(refine QY ?_;(first|refine QW ?_|refine Ql ?_|refine Qu ?_|refine QQ ?_|refine QO rfl ?_|refine Qn rfl (by omega) ?_|refine Qm rfl (by omega) ?_|refine Q2 ?_)))
    exact e_1 (Tryz.results79) (Qf (size := 4) rfl rfl rfl rfl) (Q5 (es := 4) (.node rfl rfl rfl) (by show _ = DV.agg (Enc.enc (Nd.mk _ _ _ []));rw [Qp];rfl) rfl)
theorem chStmt (l : List Int) (hl : OkI l) : ∀ (e : Nat), e <= 8 -> ∃ S : GenF, ∀ a L, preS a L -> QE 5 (2 * e + 4) 5 (7 + e) (S a L).1 a L (S a L).2.1 (S a L).2.2 /\ CE Tryz.prog G 79 (fun p g => [.ptr p g 0, .i ((e : Int) - 1)]) (Za l a L) (.agg (Enc.enc (S a L).1)) (Za l (S a L).2.1 (S a L).2.2) := by
 obtain ⟨E2, hE2x⟩ := chExpr (G := G) l hl 2 (by decide)
 obtain ⟨E1, hE1x⟩ := chExpr (G := G) l hl 1 (by decide)
 intro e
 induction e with
 | zero =>
  intro _
  refine Zt (pre := preS) (R := fun a L t => QE 5 (2 * 0 + 4) 5 (7 + (0 : Nat)) t.1 a L t.2.1 t.2.2 /\ CE Tryz.prog G 79 (fun p g => [.ptr p g 0, .i (((0 : Nat) : Int) - 1)]) (Za l a L) (.agg (Enc.enc t.1)) (Za l t.2.1 t.2.2)) fun a L h => ?_
  have bx := Qk l a (most := 14) (by decide)
  exact chLeafS l hl E2 E1 hE2x hE1x (((0 : Nat) : Int) - 1) a L (atI l a 14 % 10) h (.inl ⟨by decide, rfl⟩) (by omega)
 | succ e ih =>
 intro he
 obtain ⟨S, hS⟩ := ih (by omega)
 refine Zt (pre := preS) (R := fun a L t => QE 5 (2 * (e + 1) + 4) 5 (7 + (e + 1 : Nat)) t.1 a L t.2.1 t.2.2 /\ CE Tryz.prog G 79 (fun p g => [.ptr p g 0, .i (((e + 1 : Nat) : Int) - 1)]) (Za l a L) (.agg (Enc.enc t.1)) (Za l t.2.1 t.2.2)) fun a L h => ?_
 have bx := Qk l a (most := 14) (by decide)
 have lift : (∃ t : Nd × Int × Int, QE 5 4 5 7 t.1 a L t.2.1 t.2.2 /\ CE Tryz.prog G 79 (fun p g => [.ptr p g 0, .i (((e + 1 : Nat) : Int) - 1)]) (Za l a L) (.agg (Enc.enc t.1)) (Za l t.2.1 t.2.2)) -> ∃ t : Nd × Int × Int, QE 5 (2 * (e + 1) + 4) 5 (7 + (e + 1 : Nat)) t.1 a L t.2.1 t.2.2 /\ CE Tryz.prog G 79 (fun p g => [.ptr p g 0, .i (((e + 1 : Nat) : Int) - 1)]) (Za l a L) (.agg (Enc.enc t.1)) (Za l t.2.1 t.2.2) := fun ⟨t, hq, hc⟩ => by
  have q1 := hq.low
  have q2 := hq.dep
  exact ⟨t, ⟨hq.fit, by omega, hq.size, by omega, hq.mono, hq.used⟩, hc⟩
 by_cases hd0 : ((e + 1 : Nat) : Int) - 1 <= 0
 ·exact lift (chLeafS l hl E2 E1 hE2x hE1x _ a L (atI l a 14 % 10) h (.inl ⟨hd0, rfl⟩) (by omega))
 by_cases hlf : L - 1 <= 0
 ·exact lift (chLeafS l hl E2 E1 hE2x hE1x _ a L (atI l a 14 % 10) h (.inr (.inl ⟨by omega, hlf, rfl⟩)) (by omega))
 by_cases hx9 : atI l a 14 <= 9
 ·exact lift (chLeafS l hl E2 E1 hE2x hE1x _ a L (atI l a 14) h (.inr (.inr ⟨by omega, by omega, rfl⟩)) (by omega))
 clear lift
 obtain ⟨Bk, hBk⟩ := chBlock (G := G) l hl e (by omega) S hS
 obtain ⟨p1, p2, p3, p4⟩ := h
 have hed : ((e + 1 : Nat) : Int) - 1 = (e : Nat) := by omega
 rw [hed] at hd0 ⊢
 have hxx : atI l a 14 = 10 \/ atI l a 14 = 11 \/ atI l a 14 = 12 \/ atI l a 14 = 13 := by omega
 generalize hdd : ((e : Nat) : Int) = dd at *
 rcases hxx with hx|hx|hx|hx
 ·obtain ⟨hqv1, hE1⟩ := hE2x (a + 1) (L - 1) ⟨by omega, by omega, by omega, by omega⟩
  obtain ⟨fv1, dv1, sv1, wv1, mv1, uv1⟩ := hqv1
  generalize E2 (a + 1) (L - 1) = tv1 at *
  obtain ⟨v1, b1, M1⟩ := tv1
  dsimp only at *
  have spv1 := Qz v1
  obtain ⟨hqw1, hB1⟩ := hBk (b1) (M1) ⟨by omega, by omega, by omega, by omega⟩
  obtain ⟨fw1, dw1, sw1, ww1, mw1, uw1⟩ := hqw1
  generalize Bk (b1) (M1) = tw1 at *
  obtain ⟨w1, c1, K1⟩ := tw1
  dsimp only at *
  have spw1 := Qz w1
  obtain ⟨hqw2, hB2⟩ := hBk (c1) (K1) ⟨by omega, by omega, by omega, by omega⟩
  obtain ⟨fw2, dw2, sw2, ww2, mw2, uw2⟩ := hqw2
  generalize Bk (c1) (K1) = tw2 at *
  obtain ⟨w2, c2, K2⟩ := tw2
  dsimp only at *
  have spw2 := Qz w2
  clear hE2x hE1x hS hBk ih
  refine ⟨(.mk 17 (0) (0) [v1, w1, w2], c2, K2), ?_, fun g B hg => ?_⟩
  ·refine ⟨QV ⟨5, 0, 0, 0, [4, 6, 6], 0, 0, 0⟩ rfl (by decide) (by decide) (by dsimp only;omega) (by dsimp only;omega) (by first|(simp;done)|(simp;omega)) (kids3 fv1 fw1 fw2), ?_, ?_, ?_, ?_, ?_⟩
   ·rw [Qy];(try simp only [QD]);omega
   ·rw [Qe];(try simp only [Qo]);omega
   ·dsimp only;omega
   ·dsimp only;omega
   ·dsimp only;omega
  ·refine Qa Tryz.func79 rfl Tryz.ntmps79 rfl (t := [(0, .ptr 0 g 0), (1, .i dd)]) rfl fun E0 hE0 => ?_
   (repeat' first|(refine QH ?_;(first|refine Wu rfl ?_|refine WJ rfl ?_|refine Qc rfl rfl rfl ?_|(refine Qr ?_;(first|refine WE rfl rfl (by omega) ?_|refine WI rfl rfl ?_|refine Wg rfl rfl ?_))|(refine QC ?_;(first|refine Q9 0 (Zi l hl _ _ _ (by omega) (by omega)) rfl rfl rfl rfl ?_|refine Q9 0 (hE1) rfl rfl rfl rfl ?_|refine Q9 0 (hB1) rfl rfl rfl rfl ?_|refine Q9 0 (hB2) rfl rfl rfl rfl ?_))|refine Zf rfl rfl ?_|(refine QI ?_;(first|refine Zg rfl rfl rfl rfl ?_|refine QA rfl rfl rfl rfl (by rfl) (by rfl) (by rfl) ?_))|refine Qd rfl rfl ?_|refine Qh rfl rfl ?_|refine Qw (fun _ _ => ?_)))|(refine QZ ?_;(first|refine QX ?_|refine WT rfl ?_|refine Wf ?_|refine Zx rfl rfl rfl rfl ?_|refine Q0 rfl rfl (by omega) ?_))|(refine QY ?_;(first|refine QW ?_|refine Ql ?_|refine Qu ?_|(refine W8 ?_;first|(rename_i g4 hg4 ge hge;refine Qv (fun p => p :: .row g4 [.i 0, .i 0, .i 0, .nil] :: .row ge (Enc.enc v1) :: []) 6 [(0, true), (1, true), (2, true), (3, false), (4, true), (5, true), (6, false)] (by rfl) (by rfl) (by kernel_rfl) (by decide +kernel) (by decide +kernel) ⟨_, rfl⟩ ?_)|(rename_i g4 hg4 ge hge;refine Qv (fun p => p :: .row g4 [.i 0, .i 0, .i 0, .nil] :: .row ge (Enc.enc v1) :: []) 9 [(0, true), (1, true), (2, true), (4, true), (5, true), (3, false), (6, false), (7, true), (8, true), (9, false)] (by rfl) (by rfl) (by kernel_rfl) (by decide +kernel) (by decide +kernel) ⟨_, rfl⟩ ?_)|(rename_i g4 hg4 ge hge;refine Qv (fun p => p :: .row g4 [.i 0, .i 0, .i 0, .nil] :: .row ge (Enc.enc v1) :: []) 7 [(0, true), (2, true), (4, true), (5, true), (1, false), (3, false), (6, true), (7, false)] (by rfl) (by rfl) (by kernel_rfl) (by decide +kernel) (by decide +kernel) ⟨_, rfl⟩ ?_)|(rename_i g4 hg4 ge hge;refine Qv (fun p => p :: .row g4 [.i 0, .i 0, .i 0, .nil] :: .row ge (Enc.enc v1) :: []) 7 [(0, true), (2, true), (3, true), (1, false), (4, false), (5, true), (6, true), (7, false)] (by rfl) (by rfl) (by kernel_rfl) (by decide +kernel) (by decide +kernel) ⟨_, rfl⟩ ?_)|(rename_i g4 hg4 ge hge;refine Qv (fun p => p :: .row g4 [.i 0, .i 0, .i 0, .nil] :: .row ge (Enc.enc v1) :: []) 5 [(0, true), (2, true), (3, true), (1, false), (4, true), (5, false)] (by rfl) (by rfl) (by kernel_rfl) (by decide +kernel) (by decide +kernel) ⟨_, rfl⟩ ?_)|(refine Qv (fun p => p) 100 [(0, true)] (by rfl) (by rfl) (by kernel_rfl) (by decide +kernel) (by decide +kernel) ⟨_, rfl⟩ ?_)|(refine Qv (fun p => p.1 :: .row g4 [.i 0, .i 0, .i 0, .nil] :: .row g5 [.i 13, .i 0, .i 0, .ref 3 gg 0 o.length 4] :: p.2) 9 [(0, true), (1, true), (2, true), (3, true), (4, true), (5, false), (6, true), (7, false), (8, true), (9, false)] (by rfl) (by rfl) (by kernel_rfl) (by decide +kernel) (by decide +kernel) ⟨(_, _), rfl⟩ ?_)|refine WC (by rfl) (by kernel_rfl) (by kernel_rfl) ?_|refine WB (by kernel_rfl) (by kernel_rfl) ?_)|refine QQ ?_|refine Qn rfl (by omega) ?_|refine Qm rfl (by omega) ?_|refine Q2 ?_))|(refine ZJ ?_;(first|refine qD ?_|refine i_z0 ?_|refine i_st rfl rfl (fun _ => (by (repeat' first|(refine QH ?_;(first|refine Wu rfl ?_|refine qj rfl rfl ?_|refine s_bslice_three (x := v1) (y := w1) (z := w2) rfl rfl (by decide) ?_|refine Qq rfl rfl ?_))|exact ⟨rfl, rfl⟩))) ?_|refine i_ef rfl ?_))|refine And.intro (Exists.intro (_) rfl) ?_)
   refine e_1 (Tryz.results79) (Qf (size := 4) rfl rfl rfl rfl) ?_
   rw [Qp]
   exact ZM (by first|rfl|(simp [Qt, Q1];try rfl)) rfl
 ·obtain ⟨hqv1, hE1⟩ := hE2x (a + 1) (L - 1) ⟨by omega, by omega, by omega, by omega⟩
  obtain ⟨fv1, dv1, sv1, wv1, mv1, uv1⟩ := hqv1
  generalize E2 (a + 1) (L - 1) = tv1 at *
  obtain ⟨v1, b1, M1⟩ := tv1
  dsimp only at *
  have spv1 := Qz v1
  obtain ⟨hqw1, hB1⟩ := hBk (b1) (M1) ⟨by omega, by omega, by omega, by omega⟩
  obtain ⟨fw1, dw1, sw1, ww1, mw1, uw1⟩ := hqw1
  generalize Bk (b1) (M1) = tw1 at *
  obtain ⟨w1, c1, K1⟩ := tw1
  dsimp only at *
  have spw1 := Qz w1
  clear hE2x hE1x hS hBk ih
  refine ⟨(.mk 18 (0) (0) [v1, w1], c1, K1), ?_, fun g B hg => ?_⟩
  ·refine ⟨QV ⟨5, 0, 0, 0, [4, 6], 0, 0, 0⟩ rfl (by decide) (by decide) (by dsimp only;omega) (by dsimp only;omega) (by first|(simp;done)|(simp;omega)) (kids2 fv1 fw1), ?_, ?_, ?_, ?_, ?_⟩
   ·rw [Qy];(try simp only [QD]);omega
   ·rw [Qe];(try simp only [Qo]);omega
   ·dsimp only;omega
   ·dsimp only;omega
   ·dsimp only;omega
  ·refine Qa Tryz.func79 rfl Tryz.ntmps79 rfl (t := [(0, .ptr 0 g 0), (1, .i dd)]) rfl fun E0 hE0 => ?_
   (repeat' first|(refine QH ?_;(first|refine Wu rfl ?_|refine WJ rfl ?_|refine Qc rfl rfl rfl ?_|(refine Qr ?_;(first|refine WE rfl rfl (by omega) ?_|refine WI rfl rfl ?_|refine Wg rfl rfl ?_))|(refine QC ?_;(first|refine Q9 0 (Zi l hl _ _ _ (by omega) (by omega)) rfl rfl rfl rfl ?_|refine Q9 0 (hE1) rfl rfl rfl rfl ?_|refine Q9 0 (hB1) rfl rfl rfl rfl ?_))|refine Zf rfl rfl ?_|(refine QI ?_;(first|refine Zg rfl rfl rfl rfl ?_|refine QA rfl rfl rfl rfl (by rfl) (by rfl) (by rfl) ?_))|refine Qd rfl rfl ?_|refine Qh rfl rfl ?_|refine Qw (fun _ _ => ?_)))|(refine QZ ?_;(first|refine QX ?_|refine WT rfl ?_|refine Wf ?_|refine Zx rfl rfl rfl rfl ?_|refine Q0 rfl rfl (by omega) ?_))|(refine QY ?_;(first|refine QW ?_|refine Ql ?_|refine Qu ?_|(refine W8 ?_;first|(rename_i g4 hg4 ge hge;refine Qv (fun p => p :: .row g4 [.i 0, .i 0, .i 0, .nil] :: .row ge (Enc.enc v1) :: []) 6 [(0, true), (1, true), (2, true), (3, false), (4, true), (5, true), (6, false)] (by rfl) (by rfl) (by kernel_rfl) (by decide +kernel) (by decide +kernel) ⟨_, rfl⟩ ?_)|(rename_i g4 hg4 ge hge;refine Qv (fun p => p :: .row g4 [.i 0, .i 0, .i 0, .nil] :: .row ge (Enc.enc v1) :: []) 9 [(0, true), (1, true), (2, true), (4, true), (5, true), (3, false), (6, false), (7, true), (8, true), (9, false)] (by rfl) (by rfl) (by kernel_rfl) (by decide +kernel) (by decide +kernel) ⟨_, rfl⟩ ?_)|(rename_i g4 hg4 ge hge;refine Qv (fun p => p :: .row g4 [.i 0, .i 0, .i 0, .nil] :: .row ge (Enc.enc v1) :: []) 7 [(0, true), (2, true), (4, true), (5, true), (1, false), (3, false), (6, true), (7, false)] (by rfl) (by rfl) (by kernel_rfl) (by decide +kernel) (by decide +kernel) ⟨_, rfl⟩ ?_)|(rename_i g4 hg4 ge hge;refine Qv (fun p => p :: .row g4 [.i 0, .i 0, .i 0, .nil] :: .row ge (Enc.enc v1) :: []) 7 [(0, true), (2, true), (3, true), (1, false), (4, false), (5, true), (6, true), (7, false)] (by rfl) (by rfl) (by kernel_rfl) (by decide +kernel) (by decide +kernel) ⟨_, rfl⟩ ?_)|(rename_i g4 hg4 ge hge;refine Qv (fun p => p :: .row g4 [.i 0, .i 0, .i 0, .nil] :: .row ge (Enc.enc v1) :: []) 5 [(0, true), (2, true), (3, true), (1, false), (4, true), (5, false)] (by rfl) (by rfl) (by kernel_rfl) (by decide +kernel) (by decide +kernel) ⟨_, rfl⟩ ?_)|(refine Qv (fun p => p) 100 [(0, true)] (by rfl) (by rfl) (by kernel_rfl) (by decide +kernel) (by decide +kernel) ⟨_, rfl⟩ ?_)|(refine Qv (fun p => p.1 :: .row g4 [.i 0, .i 0, .i 0, .nil] :: .row g5 [.i 13, .i 0, .i 0, .ref 3 gg 0 o.length 4] :: p.2) 9 [(0, true), (1, true), (2, true), (3, true), (4, true), (5, false), (6, true), (7, false), (8, true), (9, false)] (by rfl) (by rfl) (by kernel_rfl) (by decide +kernel) (by decide +kernel) ⟨(_, _), rfl⟩ ?_)|refine WC (by rfl) (by kernel_rfl) (by kernel_rfl) ?_|refine WB (by kernel_rfl) (by kernel_rfl) ?_)|refine QQ ?_|refine Qn rfl (by omega) ?_|refine Qm rfl (by omega) ?_|refine Q2 ?_))|(refine ZJ ?_;(first|refine qD ?_|refine i_z0 ?_|refine i_st rfl rfl (fun _ => (by (repeat' first|(refine QH ?_;(first|refine Wu rfl ?_|refine qj rfl rfl ?_|refine Zj (y := v1) (z := w1) rfl rfl (by decide) ?_|refine Qq rfl rfl ?_))|exact ⟨rfl, rfl⟩))) ?_|refine i_ef rfl ?_))|refine And.intro (Exists.intro (_) rfl) ?_)
   refine e_1 (Tryz.results79) (Qf (size := 4) rfl rfl rfl rfl) ?_
   rw [Qp]
   exact ZM (by first|rfl|(simp [Qt, Q1];try rfl)) rfl
 ·obtain ⟨hqv1, hE1⟩ := hE2x (a + 1) (L - 1) ⟨by omega, by omega, by omega, by omega⟩
  obtain ⟨fv1, dv1, sv1, wv1, mv1, uv1⟩ := hqv1
  generalize E2 (a + 1) (L - 1) = tv1 at *
  obtain ⟨v1, b1, M1⟩ := tv1
  dsimp only at *
  have spv1 := Qz v1
  have n6 := Qk l (b1) (most := 6) (by decide)
  obtain ⟨hqw1, hB1⟩ := hBk (b1 + 1) (M1) ⟨by omega, by omega, by omega, by omega⟩
  obtain ⟨fw1, dw1, sw1, ww1, mw1, uw1⟩ := hqw1
  generalize Bk (b1 + 1) (M1) = tw1 at *
  obtain ⟨w1, c1, K1⟩ := tw1
  dsimp only at *
  have spw1 := Qz w1
  obtain ⟨hqw2, hB2⟩ := hBk (c1) (K1) ⟨by omega, by omega, by omega, by omega⟩
  obtain ⟨fw2, dw2, sw2, ww2, mw2, uw2⟩ := hqw2
  generalize Bk (c1) (K1) = tw2 at *
  obtain ⟨w2, c2, K2⟩ := tw2
  dsimp only at *
  have spw2 := Qz w2
  clear hE2x hE1x hS hBk ih
  refine ⟨(.mk 21 (atI l b1 6) (0) [w1, w2], c2, K2), ?_, fun g B hg => ?_⟩
  ·refine ⟨QV ⟨5, 0, 5, 0, [6, 6], 0, 0, 0⟩ rfl (by decide) (by decide) (by dsimp only;omega) (by dsimp only;omega) (by first|(simp;done)|(simp;omega)) (kids2 fw1 fw2), ?_, ?_, ?_, ?_, ?_⟩
   ·rw [Qy];(try simp only [QD]);omega
   ·rw [Qe];(try simp only [Qo]);omega
   ·dsimp only;omega
   ·dsimp only;omega
   ·dsimp only;omega
  ·refine Qa Tryz.func79 rfl Tryz.ntmps79 rfl (t := [(0, .ptr 0 g 0), (1, .i dd)]) rfl fun E0 hE0 => ?_
   (repeat' first|(refine QH ?_;(first|refine Wu rfl ?_|refine WJ rfl ?_|refine Qc rfl rfl rfl ?_|(refine Qr ?_;(first|refine WE rfl rfl (by omega) ?_|refine WI rfl rfl ?_|refine Wg rfl rfl ?_))|(refine QC ?_;(first|refine Q9 0 (Zi l hl _ _ _ (by omega) (by omega)) rfl rfl rfl rfl ?_|refine Q9 0 (hE1) rfl rfl rfl rfl ?_|refine Q9 0 (hB1) rfl rfl rfl rfl ?_|refine Q9 0 (hB2) rfl rfl rfl rfl ?_))|refine Zf rfl rfl ?_|(refine QI ?_;(first|refine Zg rfl rfl rfl rfl ?_|refine QA rfl rfl rfl rfl (by rfl) (by rfl) (by rfl) ?_))|refine Zj (y := w1) (z := w2) rfl rfl (by decide) ?_|refine Qd rfl rfl ?_|refine Qq rfl rfl ?_|refine Qh rfl rfl ?_|refine Qw (fun _ _ => ?_)))|(refine QZ ?_;(first|refine QX ?_|refine WT rfl ?_|refine Wf ?_|refine Zx rfl rfl rfl rfl ?_|refine Q0 rfl rfl (by omega) ?_))|(refine QY ?_;(first|refine QW ?_|refine Ql ?_|refine Qu ?_|refine QQ ?_|refine Qn rfl (by omega) ?_|refine Qm rfl (by omega) ?_|refine Q2 ?_)))
   refine e_1 (Tryz.results79) (Qf (size := 4) rfl rfl rfl rfl) ?_
   rw [Qp]
   exact ZM (by first|rfl|(simp [Qt, Q1];try rfl)) rfl
 ·obtain ⟨hqv1, hE1⟩ := hE2x (a + 1) (L - 1) ⟨by omega, by omega, by omega, by omega⟩
  obtain ⟨fv1, dv1, sv1, wv1, mv1, uv1⟩ := hqv1
  generalize E2 (a + 1) (L - 1) = tv1 at *
  obtain ⟨v1, b1, M1⟩ := tv1
  dsimp only at *
  have spv1 := Qz v1
  obtain ⟨hqw1, hB1⟩ := hBk (b1) (M1) ⟨by omega, by omega, by omega, by omega⟩
  obtain ⟨fw1, dw1, sw1, ww1, mw1, uw1⟩ := hqw1
  generalize Bk (b1) (M1) = tw1 at *
  obtain ⟨w1, c1, K1⟩ := tw1
  dsimp only at *
  have spw1 := Qz w1
  clear hE2x hE1x hS hBk ih
  refine ⟨(w1, c1, K1), ⟨fit_block fw1, by dsimp only;omega, by dsimp only;omega, by dsimp only;omega, by dsimp only;omega, by dsimp only;omega⟩, fun g B hg => ?_⟩
  refine Qa Tryz.func79 rfl Tryz.ntmps79 rfl (t := [(0, .ptr 0 g 0), (1, .i dd)]) rfl fun E0 hE0 => ?_
  (repeat' first|(refine QH ?_;(first|refine Wu rfl ?_|refine WJ rfl ?_|refine Qc rfl rfl rfl ?_|(refine Qr ?_;(first|refine WE rfl rfl (by omega) ?_|refine WI rfl rfl ?_|refine Wg rfl rfl ?_))|(refine QC ?_;(first|refine Q9 0 (Zi l hl _ _ _ (by omega) (by omega)) rfl rfl rfl rfl ?_|refine Q9 0 (hE1) rfl rfl rfl rfl ?_|refine Q9 0 (hB1) rfl rfl rfl rfl ?_))|refine Zf rfl rfl ?_|(refine QI ?_;(first|refine Zg rfl rfl rfl rfl ?_|refine QA rfl rfl rfl rfl (by rfl) (by rfl) (by rfl) ?_))|refine Qd rfl rfl ?_|refine Qh rfl rfl ?_|refine Qw (fun _ _ => ?_)))|(refine QZ ?_;(first|refine QX ?_|refine WT rfl ?_|refine Wf ?_|refine Zx rfl rfl rfl rfl ?_|refine Q0 rfl rfl (by omega) ?_))|(refine QY ?_;(first|refine QW ?_|refine Ql ?_|refine Qu ?_|refine QQ ?_|refine Qm rfl (by omega) ?_|refine Q2 ?_)))
  exact e_1 (Tryz.results79) (Qf (size := 4) rfl rfl (partD_nd0 _) (Enc.len _)) (ZM rfl rfl)
end Go.Proofs
end
section
namespace Go.Av
open Go.Bl
section
variable {P : Program} {G : Nat -> DV} {B : Nat} {f : Operand -> DV} {σ : List ABlk} {K : DV -> List ABlk -> Prop} {dst : Option Tmp} {type : TypeId} {pos : String} {after : Array Edge} {gd : Option (Nat × Bool)}
theorem OpSem.dsub {o : Oper} {K1 : DV -> List ABlk -> Prop} (h : OpSem P G B o f σ K1) (k : ∀ d σ', K1 d σ' -> ∃ d2, DSub d d2 /\ K d2 σ') : OpSem P G B o f σ K := fun X ρ hS hσ hB hG hf => by
 have hh := h X ρ hS hσ hB hG hf
 have ap : ∀ v w', APost X K1 v w' -> APost X K v w' := by
  rintro v w' ⟨Y, h1, h2, h3, d, h4, h5⟩
  obtain ⟨d2, hd, hk⟩ := k d Y.σ h5
  exact ⟨Y, h1, h2, h3, d2, hd.rep h4, hk⟩
 generalize (execOp ρ o).run P X.w = r at *
 match r, hh with
 | .ok (.value v) w', hh => exact ap v w' hh
 | .ok .skip w', hh => exact ap undef w' hh
 | .ok (.enter f args) w', hh => exact ⟨hh.1, hh.2.mono fun e w2 ⟨v, he, hv⟩ => ⟨v, he, ap v w2 hv⟩⟩
theorem s_build_nd {t : TypeId} {pl : List (Nat × Nat)} {zs : List Value} {ps : List (Nat × Operand)} {m : List (Nat × DV)} {k n mm : Int} [ht : TyS P t pl] [hz : TyZ P t zs] (hp : qu f ps = some m) (hc : qF (pl[·]?) (zs.map .sc) m = some [.i k, .i n, .i mm, .sc (.slice none 0 0)]) (kk : K (.agg (Enc.enc (Nd.mk k n mm []))) σ) :
  OpSem P G B ⟨dst, .build t ps.toArray, type, pos, after, gd⟩ f σ K := by
 refine (Qq (K := fun d σ' => d = .agg [.i k, .i n, .i mm, .sc (.slice none 0 0)] /\ σ' = σ) hp hc ⟨rfl, rfl⟩).dsub ?_
 rintro d σ' ⟨rfl, rfl⟩
 refine ⟨_, ?_, kk⟩
 rw [Qp]
 exact .agg _ _ rfl (dsub_cons (.refl _) (dsub_cons (.refl _) (dsub_cons (.refl _) (dsub_cons (.nil 4) dsub_nil))))
end
end Go.Av
end
section
namespace Go.Proofs
open Go.Av
variable {G : Nat -> DV}
attribute [local irreducible] OpSem W7 Zk ZC ACalls qg AClose RV
open Go.Bl
def kindV (l : List Int) (a : Int) : Nd × Int :=
 if atI l a 4 = 0 then (.mk 1 0 0 [], a + 1) else if atI l a 4 = 1 then (.mk 2 (1 + atI l (a + 1) 4) 0 [], a + 1 + 1)
 else if atI l a 4 = 2 then (.mk 3 0 0 [.mk (atI l (a + 1) 2) 0 0 [], .mk (atI l (a + 1 + 1) 2) 0 0 []], a + 1 + 1 + 1) else (.mk 0 0 0 [], a + 1)
theorem qO {k : Int} (h : k = 0 \/ k = 1) {w : Int} (hw : w = 2 \/ w = 3) : Wi (.mk k 0 0 []) w = true := by
 rcases h with rfl|rfl <;> rcases hw with rfl|rfl <;> decide
theorem kind_ok (l : List Int) (a : Int) : Wi (kindV l a).1 2 = true /\ Qy (kindV l a).1 <= 2 /\ Qe (kindV l a).1 <= 3 /\ a + 1 <= (kindV l a).2 /\ (kindV l a).2 <= a + 3 := by
 have b4 := Qk l (a + 1) (most := 4) (by decide)
 have bA := Qk l (a + 1) (most := 2) (by decide)
 have bB := Qk l (a + 1 + 1) (most := 2) (by decide)
 unfold kindV
 repeat' split
 ·refine ⟨qO (.inr rfl) (.inl rfl), ?_, ?_, ?_, ?_⟩
  ·simp [Qy, QD]
  ·simp [Qe, Qo]
  ·dsimp only;omega
  ·dsimp only;omega
 ·refine ⟨QV ⟨2, 1, 4, 0, [], 0, 0, 0⟩ rfl (by decide) (by decide) (by dsimp only;omega) (by decide) (by simp) qa, ?_, ?_, ?_, ?_⟩
  ·simp [Qy, QD]
  ·simp [Qe, Qo]
  ·dsimp only;omega
  ·dsimp only;omega
 ·refine ⟨QV ⟨2, 0, 0, 0, [], 3, 1, 3⟩ rfl (by decide) (by decide) (by decide) (by decide) (by simp) (kidsA rfl ?_), ?_, ?_, ?_, ?_⟩
  ·intro x hx
   simp only [List.mem_cons, List.not_mem_nil, or_false] at hx
   rcases hx with rfl|rfl
   ·exact qO (by omega) (.inr rfl)
   ·exact qO (by omega) (.inr rfl)
  ·simp [Qy, QD]
  ·simp [Qe, Qo]
  ·dsimp only;omega
  ·dsimp only;omega
 ·refine ⟨qO (.inl rfl) (.inl rfl), ?_, ?_, ?_, ?_⟩
  ·simp [Qy, QD]
  ·simp [Qe, Qo]
  ·dsimp only;omega
  ·dsimp only;omega
theorem wkSA {X W0 W1 W2 : Prop} (w0 : W0 := by exact True.intro) (w1 : W1 := by exact True.intro) (w2 : W2 := by exact True.intro) (s : (Unit -> W0) -> (Unit -> W1) -> (Unit -> W2) -> Unit -> X := by (intro w0 w1 w2 _;(repeat' first|(refine QH ?_;(first|refine Wu rfl ?_|refine WJ rfl ?_|(refine Qr ?_;(first|refine Wg rfl rfl ?_|refine Z4 rfl rfl (by omega) ?_))|(refine QC ?_;(first|refine Q9 0 (hnumA) rfl rfl rfl rfl ?_|refine Q9 0 (hnumB) rfl rfl rfl rfl ?_|refine Q9 0 (Zi l hl _ _ _ (by omega) (by omega)) rfl rfl rfl rfl ?_))|refine Zg rfl rfl rfl rfl ?_|(refine g_build ?_;(first|refine s_build_nd (k := tyA) (n := 0) (mm := 0) rfl rfl ?_|refine s_build_nd (k := tyB) (n := 0) (mm := 0) rfl rfl ?_|refine Qq rfl rfl ?_))|refine Zj (y := Nd.mk tyA 0 0 []) (z := Nd.mk tyB 0 0 []) rfl rfl (by decide) ?_|refine Qw (fun _ _ => ?_)))|(refine QZ ?_;(first|refine QX ?_|refine WT rfl ?_|refine Wf ?_))|(refine QY ?_;(first|refine QW ?_|refine Ql ?_|refine Qu ?_|refine QQ ?_|refine Qn rfl (by omega) ?_|refine Qm rfl (by omega) ?_|refine Q2 ?_)));(all_goals (repeat (rename_i x;(fail_if_success have : Unit := x);revert x)));(first|done|exact w0 ());(first|done|exact w1 ());(first|done|exact w2 ()))) (u : (W0 \/ True) /\ (W1 \/ True) /\ (W2 \/ True) := by (refine ⟨?_, ?_, ?_⟩ <;> first|exact Or.inl True.intro|exact Or.inr True.intro)) : X := s (fun _ => w0) (fun _ => w1) (fun _ => w2) ()
theorem kind_c (l : List Int) (hl : OkI l) (a L : Int) (ha : 0 <= a /\ a <= 1000000000) : CE Tryz.prog G 36 (fun p g => [.ptr p g 0]) (Za l a L) (.agg (Enc.enc (kindV l a).1)) (Za l (kindV l a).2 L) := fun g B hg => by
 have bx := Qk l a (most := 4) (by decide)
 have b4 := Qk l (a + 1) (most := 4) (by decide)
 unfold kindV
 have hx : atI l a 4 = 0 \/ atI l a 4 = 1 \/ atI l a 4 = 2 \/ atI l a 4 = 3 := by omega
 rcases hx with hx|hx|hx|hx
 ·rw [if_pos hx]
  refine Qa Tryz.func36 rfl Tryz.ntmps36 rfl (t := [(0, .ptr 0 g 0)]) rfl fun E0 hE0 => ?_
  (refine wkSA ?_;intros)
  exact e_1 (Tryz.results36) (Qf (size := 4) rfl rfl rfl rfl) (Q5 (es := 4) (.node rfl rfl rfl) (by show _ = DV.agg (Enc.enc (Nd.mk _ _ _ []));rw [Qp];rfl) rfl)
 ·rw [if_neg (by omega), if_pos hx]
  refine Qa Tryz.func36 rfl Tryz.ntmps36 rfl (t := [(0, .ptr 0 g 0)]) rfl fun E0 hE0 => ?_
  (refine wkSA ?_;intros)
  exact e_1 (Tryz.results36) (Qf (size := 4) rfl rfl rfl rfl) (Q5 (es := 4) (.node rfl rfl rfl) (by show _ = DV.agg (Enc.enc (Nd.mk _ _ _ []));rw [Qp];rfl) rfl)
 ·rw [if_neg (by omega), if_neg (by omega), if_pos hx]
  have hnumA := Zi (G := G) l hl (a + 1) L 2 (by omega) (by decide)
  have hnumB := Zi (G := G) l hl (a + 1 + 1) L 2 (by omega) (by decide)
  generalize atI l (a + 1) 2 = tyA at *
  generalize atI l (a + 1 + 1) 2 = tyB at *
  refine Qa Tryz.func36 rfl Tryz.ntmps36 rfl (t := [(0, .ptr 0 g 0)]) rfl fun E0 hE0 => ?_
  (refine wkSA ?_;intros)
  refine e_1 (Tryz.results36) (Qf (size := 4) rfl rfl rfl rfl) ?_
  rw [Qp]
  exact ZM (by first|rfl|(simp [Qt, Q1];try rfl)) rfl
 ·rw [if_neg (by omega), if_neg (by omega), if_neg (by omega)]
  refine Qa Tryz.func36 rfl Tryz.ntmps36 rfl (t := [(0, .ptr 0 g 0)]) rfl fun E0 hE0 => ?_
  (refine wkSA ?_;intros)
  exact e_1 (Tryz.results36) (Qf (size := 4) rfl rfl rfl rfl) (Q5 (es := 4) (.node rfl rfl rfl) (by show _ = DV.agg (Enc.enc (Nd.mk _ _ _ []));rw [Qp];rfl) rfl)
end Go.Proofs
end
section
namespace Go.Proofs
open Go.Av Go.Bl
def tys0 (l : List Int) (a : Int) (k : Nat) : List Nd := (List.range k).map fun j => .mk (atI l (a + (j : Nat)) 2) 0 0 []
theorem tys0_succ (l : List Int) (a : Int) (k : Nat) : tys0 l a (k + 1) = tys0 l a k ++ [.mk (atI l (a + (k : Nat)) 2) 0 0 []] := by
 unfold tys0;rw [List.range_succ, List.map_append];rfl
theorem tys0_len (l : List Int) (a : Int) (k : Nat) : (tys0 l a k).length = k := by unfold tys0;simp
theorem tys0_mem {l : List Int} {a : Int} {k : Nat} {x : Nd} (h : x ∈ tys0 l a k) : ∃ t, (t = 0 \/ t = 1) /\ x = .mk t 0 0 [] := by
 unfold tys0 at h
 obtain ⟨j, _, rfl⟩ := List.mem_map.1 h
 have := Qk l (a + (j : Nat)) (most := 2) (by decide)
 exact ⟨_, by omega, rfl⟩
def kindG (l : List Int) : GenF := fun a L => ((kindV l a).1, (kindV l a).2, L)
theorem kinds_ok (l : List Int) : ∀ (n : Nat) (a L : Int), (∀ x ∈ (Zw (kindG l) n a L).1, Wi x 2 = true /\ Qy x <= 2) /\ Qo (Zw (kindG l) n a L).1 <= 3 * n /\ a <= (Zw (kindG l) n a L).2.1 /\ (Zw (kindG l) n a L).2.1 <= a + 3 * n /\ (Zw (kindG l) n a L).2.2 = L
 | 0, a, L => by
  rw [Zw]
  exact ⟨fun x hx => (by cases hx), by simp [Qo], by simp, by simp, rfl⟩
 | n + 1, a, L => by
  rw [Zw]
  obtain ⟨k1, k2, k3, k4, k5⟩ := kind_ok l a
  have ih := kinds_ok l n (kindG l a L).2.1 (kindG l a L).2.2
  obtain ⟨i1, i2, i3, i4, i5⟩ := ih
  have e : (kindG l a L).2.1 = (kindV l a).2 := rfl
  refine ⟨fun x hx => ?_, ?_, ?_, ?_, ?_⟩
  ·rcases List.mem_cons.1 hx with rfl|hx
   ·exact ⟨k1, k2⟩
   ·exact i1 x hx
  ·rw [Qo]
   have : Qe (kindG l a L).1 <= 3 := k3
   omega
  ·(try dsimp only);omega
  ·(try dsimp only);omega
  ·exact i5
def funT0 (l : List Int) (a : Int) : List Nd × Int × Int := Zw (kindG l) (atI l (a + 1 + (atI l a 4).toNat) 3).toNat (a + 1 + (atI l a 4).toNat + 1) 40
def funG (l : List Int) (Bk : GenF) : GenF := fun a _ =>
 (.mk 26 (atI l a 4) 0 (tys0 l (a + 1) (atI l a 4).toNat ++ (funT0 l a).1 ++ [(Bk (funT0 l a).2.1 40).1]), (Bk (funT0 l a).2.1 40).2.1, (Bk (funT0 l a).2.1 40).2.2)
theorem fit_fun {n m : Int} {tl : List Nd} {b : Nd} (hn : 0 <= n /\ n <= 3) (hm : m = 0) (hl : n <= (tl.length : Int) /\ tl.length <= 6) (hb : Wi b 6 = true) (ht : ∀ i (h : i < tl.length), Wi tl[i] (if (i : Int) < n then 3 else 2) = true) : Wi (.mk 26 n m (tl ++ [b])) 1 = true := by
 subst hm
 rw [Wi, if_pos (by decide), if_pos rfl, fitsF_eq]
 have h0 : isB (shapesL.getD (26 : Int).toNat noSh) 1 = true := by decide
 have h1 : rngB (shapesL.getD (26 : Int).toNat noSh) n 0 = true := by
  show rngB ⟨1, 0, 3, 0, [], 0, 0, 0⟩ n 0 = true
  unfold rngB;simp [hn]
 rw [h0, h1, Bool.true_and, Bool.true_and]
 unfold funB
 have e0 : ((tl ++ [b]).map Wi).length = tl.length + 1 := by simp
 rw [e0]
 have e1 : ((tl ++ [b]).map Wi).getD (tl.length + 1 - 1) noF = Wi b := by
  rw [qk (tl ++ [b]) Wi (by simp)]
  congr 1
  simp
 rw [e1, hb]
 have e2 : decide (n <= ((tl.length + 1 : Nat) : Int) - 1) = true := by simp;omega
 have e3 : decide (((tl.length + 1 : Nat) : Int) - 1 <= 6) = true := by simp;omega
 rw [e2, e3]
 simp only [Bool.true_and, Bool.and_true]
 rw [allI_iff]
 intro i hi
 have hi2 : i < tl.length := by omega
 rw [qk (tl ++ [b]) Wi (by simp;omega)]
 rw [List.getElem_append_left hi2]
 exact ht i hi2
structure QF (f : Nd) (a a' : Int) : Prop where
 fit : Wi f 1 = true
 dep : Qy f <= 14
 size : Qe f <= 72
 mono : a <= a'
 used : a' <= a + 300
theorem sizeL_plain {ks : List Nd} (h : ∀ x ∈ ks, ∃ t, (t = 0 \/ t = 1) /\ x = Nd.mk t 0 0 []) : Qo ks = ks.length /\ ∀ x ∈ ks, Qy x <= 2 := by
 induction ks with
 | nil => exact ⟨rfl, fun x hx => by cases hx⟩
 | cons y r ih =>
  obtain ⟨t, _, rfl⟩ := h y (by simp)
  obtain ⟨i1, i2⟩ := ih fun x hx => h x (by simp [hx])
  refine ⟨by rw [Qo, i1, Qe, Qo, List.length_cons];omega, fun x hx => ?_⟩
  rcases List.mem_cons.1 hx with rfl|hx
  ·simp [Qy, QD]
  ·exact i2 x hx
theorem fun_q (l : List Int) (Bk : GenF) (hB : ∀ a L, preB a L -> QE 6 13 1 11 (Bk a L).1 a L (Bk a L).2.1 (Bk a L).2.2) (a L : Int) (ha : 0 <= a /\ a <= 100000) : QF (funG l Bk a L).1 a (funG l Bk a L).2.1 /\ preB (funT0 l a).2.1 40 := by
 have b4 := Qk l a (most := 4) (by decide)
 have b3 := Qk l (a + 1 + (atI l a 4).toNat) (most := 3) (by decide)
 have hk := kinds_ok l (atI l (a + 1 + (atI l a 4).toNat) 3).toNat (a + 1 + (atI l a 4).toNat + 1) 40
 have hkl := Wr (kindG l) (atI l (a + 1 + (atI l a 4).toNat) 3).toNat (a + 1 + (atI l a 4).toNat + 1) 40
 have hF : funT0 l a = Zw (kindG l) (atI l (a + 1 + (atI l a 4).toNat) 3).toNat (a + 1 + (atI l a 4).toNat + 1) 40 := rfl
 rw [<- hF] at hk hkl
 obtain ⟨k1, k2, k3, k4, k5⟩ := hk
 have hpre : preB (funT0 l a).2.1 40 := ⟨by omega, by omega, by omega, by omega⟩
 refine ⟨?_, hpre⟩
 obtain ⟨q1, q2, q3, q4, q5, q6⟩ := hB _ _ hpre
 unfold funG
 dsimp only
 generalize hT : funT0 l a = T at *
 generalize Bk T.2.1 40 = e at *
 obtain ⟨b, c, K⟩ := e
 dsimp only at *
 have hs := Qz b
 have ht0 := fun x => tys0_mem (l := l) (a := a + 1) (k := (atI l a 4).toNat) (x := x)
 obtain ⟨p1, p2⟩ := sizeL_plain ht0
 have htl := tys0_len l (a + 1) (atI l a 4).toNat
 generalize tys0 l (a + 1) (atI l a 4).toNat = t0 at *
 refine ⟨fit_fun (by omega) rfl (by rw [List.length_append];omega) q1 (fun i hi => ?_), ?_, ?_, ?_, ?_⟩
 ·by_cases h0 : i < t0.length
  ·rw [List.getElem_append_left h0, if_pos (by omega)]
   obtain ⟨t, ht, hx⟩ := ht0 _ (List.getElem_mem h0)
   rw [hx]
   exact qO ht (.inr rfl)
  ·rw [List.getElem_append_right (by omega), if_neg (by omega)]
   exact (k1 _ (List.getElem_mem _)).1
 ·rw [Qy, depthL_app, depthL_app, W5]
  have h1 := Q8 p2
  have h2 : QD T.1 <= 2 := Q8 fun x hx => (k1 x hx).2
  omega
 ·rw [Qe, ZG, ZG, sizeL1]
  omega
 ·omega
 ·omega
theorem funs_q (l : List Int) (Bk : GenF) (hB : ∀ a L, preB a L -> QE 6 13 1 11 (Bk a L).1 a L (Bk a L).2.1 (Bk a L).2.2) : ∀ (n : Nat) (a L : Int), 0 <= a -> a + 300 * n <= 100000 -> (∀ x ∈ (Zw (funG l Bk) n a L).1, Wi x 1 = true /\ Qy x <= 14) /\ Qo (Zw (funG l Bk) n a L).1 <= 72 * n
 | 0, a, L, _, _ => by
  rw [Zw]
  exact ⟨fun x hx => (by cases hx), by simp [Qo]⟩
 | n + 1, a, L, ha, hb => by
  rw [Zw]
  obtain ⟨⟨q1, q2, q3, q4, q5⟩, _⟩ := fun_q l Bk hB a L ⟨ha, by omega⟩
  obtain ⟨i1, i2⟩ := funs_q l Bk hB n (funG l Bk a L).2.1 (funG l Bk a L).2.2 (by omega) (by omega)
  refine ⟨fun x hx => ?_, ?_⟩
  ·rcases List.mem_cons.1 hx with rfl|hx
   ·exact ⟨q1, q2⟩
   ·exact i1 x hx
  ·rw [Qo];omega
theorem prog_valid {n : Int} {fs : List Nd} (hn : 0 <= n /\ n <= 3) (hl : 1 <= fs.length /\ fs.length <= 6) (hf : ∀ x ∈ fs, Wi x 1 = true /\ Qy x <= 15) (hs : Qo fs <= 255) : validM (.mk 27 n 0 fs) = true := by
 have h1 : Wi (.mk 27 n 0 fs) 0 = true := QV ⟨0, 0, 3, 0, [], 6, 1, 1⟩ rfl (by decide) (by decide) (by dsimp only;omega) (by decide) (by dsimp only;simp;omega) (kidsA rfl fun x hx => (hf x hx).1)
 have h2 : Qe (.mk 27 n 0 fs) <= 256 := by rw [Qe];omega
 have h3 : Qy (.mk 27 n 0 fs) <= 16 := by
  rw [Qy]
  have : QD fs <= 15 := Q8 fun x hx => (hf x hx).2
  omega
 unfold validM
 rw [h1, decide_eq_true h2, decide_eq_true h3];rfl
def sampleV (l : List Int) (Bk : GenF) : Nd := .mk 27 (atI l 0 4) 0 (Zw (funG l Bk) (1 + atI l 1 3).toNat 2 0).1
theorem sample_ok (l : List Int) (Bk : GenF) (hB : ∀ a L, preB a L -> QE 6 13 1 11 (Bk a L).1 a L (Bk a L).2.1 (Bk a L).2.2) : validM (sampleV l Bk) = true := by
 have b4 := Qk l 0 (most := 4) (by decide)
 have b3 := Qk l 1 (most := 3) (by decide)
 obtain ⟨h1, h2⟩ := funs_q l Bk hB (1 + atI l 1 3).toNat 2 0 (by decide) (by omega)
 have h3 := Wr (funG l Bk) (1 + atI l 1 3).toNat 2 0
 exact prog_valid (by omega) (by omega) (fun x hx => ⟨(h1 x hx).1, by have := (h1 x hx).2;omega⟩) (by omega)
end Go.Proofs
end
section
namespace Go.Proofs
open Go.Av
variable {G : Nat -> DV}
attribute [local irreducible] OpSem W7 Zk ZC ACalls qg AClose RV
open Go.Bl
section
variable {P : Program} {G : Nat -> DV} {E : AX} {n : Nat} {N : ASt -> Prop} {xs : List (Nat × (ASt -> Prop))} {R : ASt -> Prop}
theorem r_pubin_at {t : Fr} {σ σ1 σ' : List ABlk} {c : Code} (i m j : Nat) {gm k g len es len0 es0 : Nat} {cs ds : List DV} (hi : Go.Av.look t i = DV.ref k g 0 len0 es0) (hm : σ[m]? = some (.row gm cs)) (hj : cs[j]? = some (DV.ref k g 0 len es)) (hk : σ[k]? = some (.row g ds)) (hl : len * es = ds.length)
  (hσ1 : setA σ k .gone = some σ1) (hσ' : setA σ1 m (.row gm (cs.set j (.sl es ds))) = some σ') (kk : W7 P G E n c N xs R ⟨t, σ'⟩) (hne : m ≠ k := by decide) : W7 P G E n c N xs R ⟨t, σ⟩ := r_pubin m j hm hj hk hl hσ1 hσ' kk hne
end
theorem wkSS {X W0 W1 W2 : Prop} (w0 : W0 := by exact True.intro) (w1 : W1 := by exact True.intro) (w2 : W2 := by exact True.intro) (s : (Unit -> W0) -> (Unit -> W1) -> (Unit -> W2) -> Unit -> X := by (intro w0 w1 w2 _;(repeat' first|(refine QH ?_;(first|refine Wu rfl ?_|refine WJ rfl ?_|(refine We ?_;(first|refine qj rfl rfl ?_|refine Qc rfl rfl rfl ?_))|(refine Qr ?_;(first|refine Zu rfl rfl ?_|refine Z4 rfl rfl (by omega) ?_))|(refine QC ?_;(first|refine Zn (z := (Nd.mk ty0 0 0 [])) rfl rfl rfl rfl rfl rfl rfl (by first|omega|(simp;omega)) (by first|omega|(simp;omega)) (fun _ => rfl) (fun _ _ => ?_)|refine Zn (z := v1) rfl rfl rfl rfl rfl rfl rfl (by first|omega|(simp;omega)) (by first|omega|(simp;omega)) (fun _ => rfl) (fun _ _ => ?_)|refine Zn (z := fN) rfl rfl rfl rfl rfl rfl rfl (by first|omega|(simp;omega)) (by first|omega|(simp;omega)) (fun _ => rfl) (fun _ _ => ?_)|refine Q9 1 (hnumA) rfl rfl rfl rfl ?_|refine Q9 1 (hkd) rfl rfl rfl rfl ?_|refine Q9 1 (hblk) rfl rfl rfl rfl ?_|refine Q9 1 (Zi l hl _ _ _ (by omega) (by omega)) rfl rfl rfl rfl ?_))|(refine QI ?_;(first|refine Zg rfl rfl rfl rfl ?_|refine QA rfl rfl rfl rfl (by rfl) (by rfl) (by rfl) ?_))|refine Qq rfl rfl ?_|refine QM (z := fN) rfl (by rw [hfe];rfl) (by decide) ?_|refine Qd rfl rfl ?_|refine Qh rfl rfl ?_|refine Qw (fun _ _ => ?_)|refine Z3 rfl rfl (fun _ _ => ?_)))|(refine QZ ?_;(first|refine QX ?_|refine WT rfl ?_|refine Wf ?_))|(refine QY ?_;(first|refine r_pubin_at 64 4 3 rfl rfl rfl rfl (by first|exact (Qx _).symm|rfl) rfl rfl ?_|refine QW ?_|refine Ql ?_|refine Qu ?_|(refine W8 ?_;first|(refine Qv (fun p => .row g2 [.i 0, .i 0, .i 0, .nil] :: p.1 :: .row gp [.i 27, .i n0, .i 0, .ref 3 gg 0 o.length 4] :: .row gg (Q1 o) :: .row g7 [.i 26, .i (m : Nat), .i 0, .ref 5 gh 0 ks.length 4] :: p.2) 7 [(0, true), (1, true), (2, true), (3, false), (4, true), (5, false), (6, true), (7, false)] (by rfl) (by rfl) (by kernel_rfl) (by decide +kernel) (by decide +kernel) ⟨(_, _), rfl⟩ ?_)|(refine Qv (fun p => .row g2 [.i 0, .i 0, .i 0, .nil] :: p.1 :: .row gp [.i 27, .i n0, .i 0, .ref 3 gg 0 o.length 4] :: .row gg (Q1 o) :: .row g7 [.i 26, .i (m : Nat), .i 0, .ref 5 gh 0 ks.length 4] :: p.2) 8 [(0, true), (1, true), (2, true), (3, false), (4, true), (5, true), (6, false), (7, true), (8, false)] (by rfl) (by rfl) (by kernel_rfl) (by decide +kernel) (by decide +kernel) ⟨(_, _), rfl⟩ ?_)|refine WC (by rfl) (by kernel_rfl) (by kernel_rfl) ?_|refine WB (by kernel_rfl) (by kernel_rfl) ?_)|refine QQ ?_|refine Qn rfl (by omega) ?_|refine Qm rfl (by omega) ?_|refine Zq rfl ?_|refine Q2 ?_))|(refine ZJ ?_;(first|refine qD ?_|refine i_z0 ?_|refine i_st rfl rfl (fun _ => (by (repeat' first|(refine QH ?_;(first|refine Wu rfl ?_|refine Qc rfl rfl rfl ?_|refine s_build_nd (k := ty0) (n := 0) (mm := 0) rfl rfl ?_|(refine Zd ?_;(first|refine QM (z := Nd.mk ty0 0 0 []) rfl rfl (by decide) ?_|refine QM (z := v1) rfl rfl (by decide) ?_))|refine Qd rfl rfl ?_))|exact ⟨rfl, rfl⟩))) ?_|refine i_ef rfl ?_))|refine And.intro (Exists.intro ((_, _)) rfl) ?_);(all_goals (repeat (rename_i x;(fail_if_success have : Unit := x);revert x)));(first|done|exact w0 ());(first|done|exact w1 ());(first|done|exact w2 ()))) (u : (W0 \/ True) /\ (W1 \/ True) /\ (W2 \/ True) := by (refine ⟨?_, ?_, ?_⟩ <;> first|exact Or.inl True.intro|exact Or.inr True.intro)) : X := s (fun _ => w0) (fun _ => w1) (fun _ => w2) ()
theorem sample_c (l : List Int) (hl : OkI l) : ∃ v, validM v = true /\ (∃ n ks, v = .mk 27 n 0 ks) /\ Go.Av.Pure Tryz.prog G 10 [Qt l] (.agg (Enc.enc v)) := by
 obtain ⟨S, hS⟩ := chStmt (G := G) l hl 4 (by decide)
 obtain ⟨Bk, hBk⟩ := chBlock (G := G) l hl 4 (by decide) S hS
 have hB1 : ∀ a L, preB a L -> QE 6 13 1 11 (Bk a L).1 a L (Bk a L).2.1 (Bk a L).2.2 := fun a L h => (hBk a L h).1
 have hB2 : ∀ a L, preB a L -> CE Tryz.prog G 37 (fun p g => [.ptr p g 0, .i 4]) (Za l a L) (.agg (Enc.enc (Bk a L).1)) (Za l (Bk a L).2.1 (Bk a L).2.2) := fun a L h => (hBk a L h).2
 have hv := sample_ok l Bk hB1
 clear hBk hS
 refine ⟨sampleV l Bk, hv, ⟨_, _, rfl⟩, fun B => ?_⟩
 clear hv
 unfold sampleV
 have b4 := Qk l 0 (most := 4) (by decide)
 have b3 := Qk l 1 (most := 3) (by decide)
 have hn0 : atI l (0 + 1) 3 = atI l 1 3 := rfl
 obtain ⟨Nf, hNf⟩ : ∃ Nf : Nat, 1 + atI l 1 3 = (Nf : Int) := ⟨(1 + atI l 1 3).toNat, by omega⟩
 rw [hNf, show ((Nf : Int)).toNat = Nf by omega, Qp]
 generalize hT : Zw (funG l Bk) Nf 2 0 = T at *
 refine Qa Tryz.func10 rfl Tryz.ntmps10 rfl (t := [(0, Qt l)]) rfl fun E0 hE0 => ?_
 have hnumA := trivial
 have hkd := trivial
 have hblk := trivial
 have hfe := trivial
 (refine wkSS ?_;intros)
 rename_i g2 hg2 gc hgc gp hgp
 refine r_ownin 2 3 4 rfl rfl (fun _ => rfl) (fun gk hgk => ?_)
 refine r_loop5 (fun (i : Nat) (o : List Nd) (a Lc : Int) (gg : Nat) => ⟨[(2, .ptr 0 g2 0), (3, .ptr 1 gc 0), (4, .ptr 2 gp 0), (5, .i (1 + atI l (0 + 1) 3)), (6, .i i)], [.row g2 [.i 0, .i 0, .i 0, .nil], .row gc (Za l a Lc), .row gp [.i 27, .i (atI l 0 4), .i 0, .ref 3 gg 0 o.length 4], .row gg (Q1 o)]⟩) (fun i o a Lc gg => i <= Nf /\ o.length <= i /\ E0.N < gg /\ o ++ (Zw (funG l Bk) (Nf - i) a Lc).1 = T.1 /\ 0 <= a /\ a + 300 * (Nf - i : Int) <= 100000) (fun i _ _ _ _ => Nf - i) 0 [] 2 0 gk ?_ ⟨by omega, by simp, hgk, by rw [Nat.sub_zero, hT];rfl, by omega, by omega⟩ ?_
 ·exact zal rfl
 intro i o a Lc gg ⟨hi, hol, hgg, h1, m1, m2⟩
 generalize hn00 : atI l 0 4 = n0 at *
 by_cases hiN : i < Nf
 ·rw [show Nf - i = (Nf - (i + 1)) + 1 by omega, Zw] at h1
  obtain ⟨⟨_, _, _, u1, u2⟩, hpre⟩ := fun_q l Bk hB1 a Lc ⟨m1, by omega⟩
  have hblk := hB2 _ _ hpre
  generalize hf : funG l Bk a Lc = F at *
  unfold funG at hf
  have c4 := Qk l a (most := 4) (by decide)
  obtain ⟨m, hm⟩ : ∃ m : Nat, atI l a 4 = (m : Int) := ⟨(atI l a 4).toNat, by omega⟩
  have hnumA := Zi (G := G) l hl a 40 4 (by omega) (by decide)
  rw [hm] at hnumA hf
  unfold funT0 at hf hblk
  rw [hm] at hf hblk
  rw [show ((m : Int)).toNat = m by omega] at hf hblk
  have c3 := Qk l (a + 1 + m) (most := 3) (by decide)
  obtain ⟨K, hK⟩ : ∃ K : Nat, atI l (a + 1 + m) 3 = (K : Int) := ⟨(atI l (a + 1 + m) 3).toNat, by omega⟩
  have hK3 : (K : Int) < 3 := by omega
  have hm3 : (m : Int) < 4 := by omega
  rw [hK] at hf hblk
  rw [show ((K : Int)).toNat = K by omega] at hf hblk
  have hko := kinds_ok l K (a + 1 + m + 1) 40
  generalize hT2 : Zw (kindG l) K (a + 1 + m + 1) 40 = T2 at *
  obtain ⟨ks2, a2, l2⟩ := T2
  dsimp only at *
  generalize hv1 : Bk a2 40 = v at *
  obtain ⟨v1, b1, M1⟩ := v
  dsimp only at *
  clear hB2
  have hfe := trivial
  (refine wkSS ?_;intros)
  rename_i g7 hg7
  refine r_ownin 4 3 4 rfl rfl (fun _ => rfl) (fun gk2 hgk2 => ?_)
  refine r_loop5 (fun (k : Nat) (ks : List Nd) (b : Int) (_ : Unit) (gh : Nat) => ⟨[(2, .ptr 0 g2 0), (3, .ptr 1 gc 0), (4, .ptr 2 gp 0), (5, .i (1 + atI l (0 + 1) 3)), (6, .i i), (7, .ptr 4 g7 0), (8, .i k)], [.row g2 [.i 0, .i 0, .i 0, .nil], .row gc (Za l b 40), .row gp [.i 27, .i n0, .i 0, .ref 3 gg 0 o.length 4], .row gg (Q1 o), .row g7 [.i 26, .i (m : Nat), .i 0, .ref 5 gh 0 ks.length 4], .row gh (Q1 ks)]⟩) (fun k ks b _ gh => k <= m /\ E0.N < gh /\ ks = tys0 l (a + 1) k /\ b = a + 1 + (k : Nat)) (fun k _ _ _ _ => m - k) 0 [] (a + 1) () gk2 ?_ ⟨by omega, hgk2, rfl, by omega⟩ ?_
  ·exact zal rfl
  intro k ks b _ gh ⟨hk, hgh, hks, hb⟩
  by_cases hkm : k < m
  ·have bt := Qk l b (most := 2) (by decide)
   have hnumA := Zi (G := G) l hl b 40 2 (by omega) (by decide)
   have hkl : ks.length = k := by rw [hks];exact tys0_len l (a + 1) k
   have hks2 := tys0_succ l (a + 1) k
   rw [<- hks, <- hb] at hks2
   generalize hty : atI l b 2 = ty0 at *
   have hkd := trivial
   have hblk := trivial
   (refine wkSS ?_;intros)
   refine ⟨k + 1, ks ++ [.mk ty0 0 0 []], b + 1, (), _, ⟨by omega, by assumption, hks2.symm, by omega⟩, by omega, ?_⟩
   exact zal rfl
  ·have hkm2 : m = k := by omega
   have hkl : ks.length = k := by rw [hks];exact tys0_len l (a + 1) k
   subst hkm2
   rw [<- hb] at hK
   have hnumA := Zi (G := G) l hl b 40 3 (by omega) (by decide)
   rw [hK] at hnumA
   have hblkS := hblk
   have hblk := trivial
   have hkd := trivial
   (refine wkSS ?_;intros)
   clear hnumA
   refine r_loop5 (fun (j : Nat) (ks : List Nd) (b : Int) (_ : Unit) (gh : Nat) => ⟨[(2, .ptr 0 g2 0), (3, .ptr 1 gc 0), (4, .ptr 2 gp 0), (5, .i (1 + atI l (0 + 1) 3)), (6, .i i), (7, .ptr 4 g7 0), (9, .i K), (10, .i j)], [.row g2 [.i 0, .i 0, .i 0, .nil], .row gc (Za l b 40), .row gp [.i 27, .i n0, .i 0, .ref 3 gg 0 o.length 4], .row gg (Q1 o), .row g7 [.i 26, .i (m : Nat), .i 0, .ref 5 gh 0 ks.length 4], .row gh (Q1 ks)]⟩) (fun j ks b _ gh => j <= K /\ ks.length <= 4 + j /\ E0.N < gh /\ ks ++ (Zw (kindG l) (K - j) b 40).1 = tys0 l (a + 1) m ++ ks2 /\ (Zw (kindG l) (K - j) b 40).2.1 = a2 /\ 0 <= b /\ b + 3 * (K - j : Int) <= 200000) (fun j _ _ _ _ => K - j) 0 ks (b + 1) () gh ?_ ⟨by omega, by omega, hgh, by rw [Nat.sub_zero, hb, hT2, hks], by rw [Nat.sub_zero, hb, hT2], by omega, by omega⟩ ?_
   ·exact zal rfl
   intro j ks b _ gh ⟨hj, hkl, hgh, h3, h4, n1, n2⟩
   by_cases hjK : j < K
   ·rw [show K - j = (K - (j + 1)) + 1 by omega, Zw] at h3 h4
    have hkd := kind_c (G := G) l hl b 40 (by omega)
    obtain ⟨_, _, _, w1, w2⟩ := kind_ok l b
    unfold kindG at h3 h4
    dsimp only at h3 h4
    generalize kindV l b = w at *
    obtain ⟨v1, c1⟩ := w
    dsimp only at *
    have hnumA := trivial
    clear hblkS
    (refine wkSS ?_;intros)
    refine ⟨j + 1, ks ++ [v1], c1, (), _, ⟨by omega, by simp;omega, by assumption, by rw [List.append_assoc];exact h3, h4, by omega, by omega⟩, by omega, ?_⟩
    exact zal rfl
   ·have hje : K - j = 0 := by omega
    rw [hje, Zw] at h3 h4
    dsimp only at h3 h4
    rw [List.append_nil] at h3
    subst h4
    have hblk := hblkS
    have hnumA := trivial
    have hkd := trivial
    obtain ⟨fN, hfN⟩ : ∃ fN, fN = Nd.mk 26 (m : Nat) 0 (ks ++ [v1]) := ⟨_, rfl⟩
    have hfe : Enc.enc fN = [.i 26, .i (m : Nat), .i 0, Qt (ks ++ [v1])] := by rw [hfN, Qp]
    rw [<- h3, <- hfN] at hf
    subst hf
    dsimp only at *
    (refine wkSS ?_;intros)
    refine ⟨i + 1, o ++ [fN], b1, M1, _, ⟨by omega, by simp;omega, by assumption, by rw [List.append_assoc];exact h1, by omega, by omega⟩, by omega, ?_⟩
    exact zal rfl
 ·have hie : Nf - i = 0 := by omega
  rw [hie, Zw] at h1
  dsimp only at h1
  rw [List.append_nil] at h1
  rw [<- h1]
  have hnumA := trivial
  have hkd := trivial
  have hblk := trivial
  have hfe := trivial
  clear hB2
  refine r_pubin 2 3 rfl rfl rfl (Qx _).symm rfl rfl ?_
  (refine wkSS ?_;intros)
  exact e_1 (Tryz.results10) (Qf (size := 4) rfl rfl rfl rfl) (Qi rfl)
section
variable {P : Program} {G : Nat -> DV} {B : Nat} {f : Operand -> DV} {σ : List ABlk} {K : DV -> List ABlk -> Prop} {dst : Option Tmp} {type : TypeId} {pos : String} {after : Array Edge} {gd : Option (Nat × Bool)}
end
section
variable {P : Program} {G : Nat -> DV} {B : Nat} {f : Operand -> DV} {σ : List ABlk} {K : DV -> List ABlk -> Prop} {dst : Option Tmp} {type : TypeId} {pos : String} {after : Array Edge} {gd : Option (Nat × Bool)}
end
theorem qN {ks : List Nd} {s : Sh} {w : Int} (N : Nat) (hl : ks.length = N) (hw : ∀ i, i < N -> wantK s i = w) (h : ∀ x ∈ ks, Wi x w = true) : ∀ i (h : i < ks.length), Wi ks[i] (wantK s i) = true := fun i hi => by
 rw [hw i (by omega)]
 exact h _ (List.getElem_mem hi)
theorem mkLeaf (l : List Int) (hl : OkI l) (dd a L : Int) (h : preE a L) (hd : dd <= 0 \/ (0 < dd /\ L - 1 <= 0)) (hd2 : -10 <= dd /\ dd <= 10) :
  ∃ t : Nd × Int × Int, QE 4 1 1 0 t.1 a L t.2.1 t.2.2 /\ CE Tryz.prog G 128 (fun p g => [.ptr p g 0, .i dd]) (Za l a L) (.agg (Enc.enc t.1)) (Za l t.2.1 t.2.2) := by
 obtain ⟨p1, p2, p3, p4⟩ := h
 have bx := Qk l a (most := 12) (by decide)
 have b16 := Qk l (a + 1) (most := 16) (by decide)
 have b2 := Qk l (a + 1) (most := 2) (by decide)
 have b6 := Qk l (a + 1) (most := 6) (by decide)
 have b3 := Qk l (a + 1) (most := 3) (by decide)
 have b14 := Qk l (a + 1) (most := 14) (by decide)
 have b32 := Qk l (a + 1 + 1) (most := 3) (by decide)
 have b4 := Qk l (a + 1 + 1) (most := 4) (by decide)
 have hx : atI l a 12 % 4 = 0 \/ atI l a 12 % 4 = 1 \/ atI l a 12 % 4 = 2 \/ atI l a 12 % 4 = 3 := by omega
 rcases hd with hd|hd
 ·rcases hx with hx|hx|hx|hx
  ·refine ⟨((.mk 4 (atI l (a + 1) 16 - 8) (0) []), a + 1 + 1, L - 1), ?_, fun g B hg => ?_⟩
   ·refine ⟨QV ⟨4, -8, 7, 0, [], 0, 0, 0⟩ rfl (by decide) (by decide) (by dsimp only;omega) (by dsimp only;omega) (by first|(simp;done)|(simp;omega)) (qa), ?_, ?_, ?_, ?_, ?_⟩
    ·rw [Qy];(try simp only [QD, W5, Zb]);omega
    ·rw [Qe];(try simp only [Qo]);omega
    ·dsimp only;omega
    ·dsimp only;omega
    ·dsimp only;omega
   ·refine Qa Tryz.func128 rfl Tryz.ntmps128 rfl (t := [(0, .ptr 0 g 0), (1, .i dd)]) rfl fun E0 hE0 => ?_
    (repeat' first|(refine QH ?_;(first|refine Wu rfl ?_|refine WJ rfl ?_|refine Qc rfl rfl rfl ?_|(refine Qr ?_;(first|refine WE rfl rfl (by omega) ?_|refine WI rfl rfl ?_|refine Wg rfl rfl ?_|refine ZV rfl rfl (by first|omega|exact nn_shr (by omega)) (by omega) ?_))|refine Q9 0 (QR l hl _ _ _ (by omega) (by omega)) rfl rfl rfl rfl ?_|refine qb rfl rfl ?_|(refine QI ?_;(first|refine Zg rfl rfl rfl rfl ?_|refine QA rfl rfl rfl rfl (by rfl) (by rfl) (by rfl) ?_))|refine Qd rfl rfl ?_|refine Qq rfl rfl ?_|refine Qh rfl rfl ?_|refine Qw (fun _ _ => ?_)))|(refine QZ ?_;(first|refine QX ?_|refine WT rfl ?_|refine Wf ?_|refine qA rfl rfl rfl rfl ?_|refine WF rfl rfl (by omega) ?_))|(refine QY ?_;(first|refine QW ?_|refine Ql ?_|refine Qu ?_|refine QO rfl ?_|refine Qn rfl (by omega) ?_|refine Q2 ?_)))
    exact e_1 (Tryz.results128) (Qf (size := 4) rfl rfl rfl rfl) (Q5 (es := 4) (.node rfl rfl rfl) (by show _ = DV.agg (Enc.enc (Nd.mk _ _ _ []));rw [Qp];rfl) rfl)
  ·refine ⟨((.mk 5 (atI l (a + 1) 2) (0) []), a + 1 + 1, L - 1), ?_, fun g B hg => ?_⟩
   ·refine ⟨QV ⟨4, 0, 1, 0, [], 0, 0, 0⟩ rfl (by decide) (by decide) (by dsimp only;omega) (by dsimp only;omega) (by first|(simp;done)|(simp;omega)) (qa), ?_, ?_, ?_, ?_, ?_⟩
    ·rw [Qy];(try simp only [QD, W5, Zb]);omega
    ·rw [Qe];(try simp only [Qo]);omega
    ·dsimp only;omega
    ·dsimp only;omega
    ·dsimp only;omega
   ·refine Qa Tryz.func128 rfl Tryz.ntmps128 rfl (t := [(0, .ptr 0 g 0), (1, .i dd)]) rfl fun E0 hE0 => ?_
    (repeat' first|(refine QH ?_;(first|refine Wu rfl ?_|refine WJ rfl ?_|refine Qc rfl rfl rfl ?_|(refine Qr ?_;(first|refine WE rfl rfl (by omega) ?_|refine WI rfl rfl ?_|refine Wg rfl rfl ?_|refine ZV rfl rfl (by first|omega|exact nn_shr (by omega)) (by omega) ?_))|refine Q9 0 (QR l hl _ _ _ (by omega) (by omega)) rfl rfl rfl rfl ?_|refine qb rfl rfl ?_|(refine QI ?_;(first|refine Zg rfl rfl rfl rfl ?_|refine QA rfl rfl rfl rfl (by rfl) (by rfl) (by rfl) ?_))|refine Qd rfl rfl ?_|refine Qq rfl rfl ?_|refine Qh rfl rfl ?_|refine Qw (fun _ _ => ?_)))|(refine QZ ?_;(first|refine QX ?_|refine WT rfl ?_|refine Wf ?_|refine qA rfl rfl rfl rfl ?_|refine WF rfl rfl (by omega) ?_))|(refine QY ?_;(first|refine QW ?_|refine Ql ?_|refine Qu ?_|refine QO rfl ?_|refine Qn rfl (by omega) ?_|refine Qm rfl (by omega) ?_|refine Q2 ?_)))
    exact e_1 (Tryz.results128) (Qf (size := 4) rfl rfl rfl rfl) (Q5 (es := 4) (.node rfl rfl rfl) (by show _ = DV.agg (Enc.enc (Nd.mk _ _ _ []));rw [Qp];rfl) rfl)
  ·refine ⟨((.mk 8 (atI l (a + 1) 6) (atI l (a + 1 + 1) 3) []), a + 1 + 1 + 1, L - 1), ?_, fun g B hg => ?_⟩
   ·refine ⟨QV ⟨4, 0, 5, 2, [], 0, 0, 0⟩ rfl (by decide) (by decide) (by dsimp only;omega) (by dsimp only;omega) (by first|(simp;done)|(simp;omega)) (qa), ?_, ?_, ?_, ?_, ?_⟩
    ·rw [Qy];(try simp only [QD, W5, Zb]);omega
    ·rw [Qe];(try simp only [Qo]);omega
    ·dsimp only;omega
    ·dsimp only;omega
    ·dsimp only;omega
   ·refine Qa Tryz.func128 rfl Tryz.ntmps128 rfl (t := [(0, .ptr 0 g 0), (1, .i dd)]) rfl fun E0 hE0 => ?_
    (repeat' first|(refine QH ?_;(first|refine Wu rfl ?_|refine WJ rfl ?_|refine Qc rfl rfl rfl ?_|(refine Qr ?_;(first|refine WE rfl rfl (by omega) ?_|refine WI rfl rfl ?_|refine Wg rfl rfl ?_|refine ZV rfl rfl (by first|omega|exact nn_shr (by omega)) (by omega) ?_))|refine Q9 0 (QR l hl _ _ _ (by omega) (by omega)) rfl rfl rfl rfl ?_|refine qb rfl rfl ?_|(refine QI ?_;(first|refine Zg rfl rfl rfl rfl ?_|refine QA rfl rfl rfl rfl (by rfl) (by rfl) (by rfl) ?_))|refine Qd rfl rfl ?_|refine Qq rfl rfl ?_|refine Qh rfl rfl ?_|refine Qw (fun _ _ => ?_)))|(refine QZ ?_;(first|refine QX ?_|refine WT rfl ?_|refine Wf ?_|refine qA rfl rfl rfl rfl ?_|refine WF rfl rfl (by omega) ?_))|(refine QY ?_;(first|refine QW ?_|refine Ql ?_|refine Qu ?_|refine QO rfl ?_|refine Qn rfl (by omega) ?_|refine Qm rfl (by omega) ?_|refine Q2 ?_)))
    exact e_1 (Tryz.results128) (Qf (size := 4) rfl rfl rfl rfl) (Q5 (es := 4) (.node rfl rfl rfl) (by show _ = DV.agg (Enc.enc (Nd.mk _ _ _ []));rw [Qp];rfl) rfl)
  ·refine ⟨((.mk 6 (atI l (a + 1) 6) (0) []), a + 1 + 1, L - 1), ?_, fun g B hg => ?_⟩
   ·refine ⟨QV ⟨4, 0, 5, 0, [], 0, 0, 0⟩ rfl (by decide) (by decide) (by dsimp only;omega) (by dsimp only;omega) (by first|(simp;done)|(simp;omega)) (qa), ?_, ?_, ?_, ?_, ?_⟩
    ·rw [Qy];(try simp only [QD, W5, Zb]);omega
    ·rw [Qe];(try simp only [Qo]);omega
    ·dsimp only;omega
    ·dsimp only;omega
    ·dsimp only;omega
   ·refine Qa Tryz.func128 rfl Tryz.ntmps128 rfl (t := [(0, .ptr 0 g 0), (1, .i dd)]) rfl fun E0 hE0 => ?_
    (repeat' first|(refine QH ?_;(first|refine Wu rfl ?_|refine WJ rfl ?_|refine Qc rfl rfl rfl ?_|(refine Qr ?_;(first|refine WE rfl rfl (by omega) ?_|refine WI rfl rfl ?_|refine Wg rfl rfl ?_|refine ZV rfl rfl (by first|omega|exact nn_shr (by omega)) (by omega) ?_))|refine Q9 0 (QR l hl _ _ _ (by omega) (by omega)) rfl rfl rfl rfl ?_|refine qb rfl rfl ?_|(refine QI ?_;(first|refine Zg rfl rfl rfl rfl ?_|refine QA rfl rfl rfl rfl (by rfl) (by rfl) (by rfl) ?_))|refine Qd rfl rfl ?_|refine Qq rfl rfl ?_|refine Qh rfl rfl ?_|refine Qw (fun _ _ => ?_)))|(refine QZ ?_;(first|refine QX ?_|refine WT rfl ?_|refine Wf ?_|refine qA rfl rfl rfl rfl ?_|refine WF rfl rfl (by omega) ?_))|(refine QY ?_;(first|refine QW ?_|refine Ql ?_|refine Qu ?_|refine QQ ?_|refine QO rfl ?_|refine Qm rfl (by omega) ?_|refine Q2 ?_)))
    exact e_1 (Tryz.results128) (Qf (size := 4) rfl rfl rfl rfl) (Q5 (es := 4) (.node rfl rfl rfl) (by show _ = DV.agg (Enc.enc (Nd.mk _ _ _ []));rw [Qp];rfl) rfl)
 ·rcases hx with hx|hx|hx|hx
  ·refine ⟨((.mk 4 (atI l (a + 1) 16 - 8) (0) []), a + 1 + 1, L - 1), ?_, fun g B hg => ?_⟩
   ·refine ⟨QV ⟨4, -8, 7, 0, [], 0, 0, 0⟩ rfl (by decide) (by decide) (by dsimp only;omega) (by dsimp only;omega) (by first|(simp;done)|(simp;omega)) (qa), ?_, ?_, ?_, ?_, ?_⟩
    ·rw [Qy];(try simp only [QD, W5, Zb]);omega
    ·rw [Qe];(try simp only [Qo]);omega
    ·dsimp only;omega
    ·dsimp only;omega
    ·dsimp only;omega
   ·refine Qa Tryz.func128 rfl Tryz.ntmps128 rfl (t := [(0, .ptr 0 g 0), (1, .i dd)]) rfl fun E0 hE0 => ?_
    (repeat' first|(refine QH ?_;(first|refine Wu rfl ?_|refine WJ rfl ?_|refine Qc rfl rfl rfl ?_|(refine Qr ?_;(first|refine WE rfl rfl (by omega) ?_|refine WI rfl rfl ?_|refine Wg rfl rfl ?_|refine ZV rfl rfl (by first|omega|exact nn_shr (by omega)) (by omega) ?_))|refine Q9 0 (QR l hl _ _ _ (by omega) (by omega)) rfl rfl rfl rfl ?_|refine Zf rfl rfl ?_|(refine QI ?_;(first|refine Zg rfl rfl rfl rfl ?_|refine QA rfl rfl rfl rfl (by rfl) (by rfl) (by rfl) ?_))|refine Qd rfl rfl ?_|refine Qq rfl rfl ?_|refine Qh rfl rfl ?_|refine Qw (fun _ _ => ?_)))|(refine QZ ?_;(first|refine QX ?_|refine WT rfl ?_|refine Wf ?_|refine Zx rfl rfl rfl rfl ?_|refine Q0 rfl rfl (by omega) ?_))|(refine QY ?_;(first|refine QW ?_|refine Ql ?_|refine Qu ?_|refine Qn rfl (by omega) ?_|refine Q2 ?_)))
    exact e_1 (Tryz.results128) (Qf (size := 4) rfl rfl rfl rfl) (Q5 (es := 4) (.node rfl rfl rfl) (by show _ = DV.agg (Enc.enc (Nd.mk _ _ _ []));rw [Qp];rfl) rfl)
  ·refine ⟨((.mk 5 (atI l (a + 1) 2) (0) []), a + 1 + 1, L - 1), ?_, fun g B hg => ?_⟩
   ·refine ⟨QV ⟨4, 0, 1, 0, [], 0, 0, 0⟩ rfl (by decide) (by decide) (by dsimp only;omega) (by dsimp only;omega) (by first|(simp;done)|(simp;omega)) (qa), ?_, ?_, ?_, ?_, ?_⟩
    ·rw [Qy];(try simp only [QD, W5, Zb]);omega
    ·rw [Qe];(try simp only [Qo]);omega
    ·dsimp only;omega
    ·dsimp only;omega
    ·dsimp only;omega
   ·refine Qa Tryz.func128 rfl Tryz.ntmps128 rfl (t := [(0, .ptr 0 g 0), (1, .i dd)]) rfl fun E0 hE0 => ?_
    (repeat' first|(refine QH ?_;(first|refine Wu rfl ?_|refine WJ rfl ?_|refine Qc rfl rfl rfl ?_|(refine Qr ?_;(first|refine WE rfl rfl (by omega) ?_|refine WI rfl rfl ?_|refine Wg rfl rfl ?_|refine ZV rfl rfl (by first|omega|exact nn_shr (by omega)) (by omega) ?_))|refine Q9 0 (QR l hl _ _ _ (by omega) (by omega)) rfl rfl rfl rfl ?_|refine Zf rfl rfl ?_|(refine QI ?_;(first|refine Zg rfl rfl rfl rfl ?_|refine QA rfl rfl rfl rfl (by rfl) (by rfl) (by rfl) ?_))|refine Qd rfl rfl ?_|refine Qq rfl rfl ?_|refine Qh rfl rfl ?_|refine Qw (fun _ _ => ?_)))|(refine QZ ?_;(first|refine QX ?_|refine WT rfl ?_|refine Wf ?_|refine Zx rfl rfl rfl rfl ?_|refine Q0 rfl rfl (by omega) ?_))|(refine QY ?_;(first|refine QW ?_|refine Ql ?_|refine Qu ?_|refine Qn rfl (by omega) ?_|refine Qm rfl (by omega) ?_|refine Q2 ?_)))
    exact e_1 (Tryz.results128) (Qf (size := 4) rfl rfl rfl rfl) (Q5 (es := 4) (.node rfl rfl rfl) (by show _ = DV.agg (Enc.enc (Nd.mk _ _ _ []));rw [Qp];rfl) rfl)
  ·refine ⟨((.mk 8 (atI l (a + 1) 6) (atI l (a + 1 + 1) 3) []), a + 1 + 1 + 1, L - 1), ?_, fun g B hg => ?_⟩
   ·refine ⟨QV ⟨4, 0, 5, 2, [], 0, 0, 0⟩ rfl (by decide) (by decide) (by dsimp only;omega) (by dsimp only;omega) (by first|(simp;done)|(simp;omega)) (qa), ?_, ?_, ?_, ?_, ?_⟩
    ·rw [Qy];(try simp only [QD, W5, Zb]);omega
    ·rw [Qe];(try simp only [Qo]);omega
    ·dsimp only;omega
    ·dsimp only;omega
    ·dsimp only;omega
   ·refine Qa Tryz.func128 rfl Tryz.ntmps128 rfl (t := [(0, .ptr 0 g 0), (1, .i dd)]) rfl fun E0 hE0 => ?_
    (repeat' first|(refine QH ?_;(first|refine Wu rfl ?_|refine WJ rfl ?_|refine Qc rfl rfl rfl ?_|(refine Qr ?_;(first|refine WE rfl rfl (by omega) ?_|refine WI rfl rfl ?_|refine Wg rfl rfl ?_|refine ZV rfl rfl (by first|omega|exact nn_shr (by omega)) (by omega) ?_))|refine Q9 0 (QR l hl _ _ _ (by omega) (by omega)) rfl rfl rfl rfl ?_|refine Zf rfl rfl ?_|(refine QI ?_;(first|refine Zg rfl rfl rfl rfl ?_|refine QA rfl rfl rfl rfl (by rfl) (by rfl) (by rfl) ?_))|refine Qd rfl rfl ?_|refine Qq rfl rfl ?_|refine Qh rfl rfl ?_|refine Qw (fun _ _ => ?_)))|(refine QZ ?_;(first|refine QX ?_|refine WT rfl ?_|refine Wf ?_|refine Zx rfl rfl rfl rfl ?_|refine Q0 rfl rfl (by omega) ?_))|(refine QY ?_;(first|refine QW ?_|refine Ql ?_|refine Qu ?_|refine Qn rfl (by omega) ?_|refine Qm rfl (by omega) ?_|refine Q2 ?_)))
    exact e_1 (Tryz.results128) (Qf (size := 4) rfl rfl rfl rfl) (Q5 (es := 4) (.node rfl rfl rfl) (by show _ = DV.agg (Enc.enc (Nd.mk _ _ _ []));rw [Qp];rfl) rfl)
  ·refine ⟨((.mk 6 (atI l (a + 1) 6) (0) []), a + 1 + 1, L - 1), ?_, fun g B hg => ?_⟩
   ·refine ⟨QV ⟨4, 0, 5, 0, [], 0, 0, 0⟩ rfl (by decide) (by decide) (by dsimp only;omega) (by dsimp only;omega) (by first|(simp;done)|(simp;omega)) (qa), ?_, ?_, ?_, ?_, ?_⟩
    ·rw [Qy];(try simp only [QD, W5, Zb]);omega
    ·rw [Qe];(try simp only [Qo]);omega
    ·dsimp only;omega
    ·dsimp only;omega
    ·dsimp only;omega
   ·refine Qa Tryz.func128 rfl Tryz.ntmps128 rfl (t := [(0, .ptr 0 g 0), (1, .i dd)]) rfl fun E0 hE0 => ?_
    (repeat' first|(refine QH ?_;(first|refine Wu rfl ?_|refine WJ rfl ?_|refine Qc rfl rfl rfl ?_|(refine Qr ?_;(first|refine WE rfl rfl (by omega) ?_|refine WI rfl rfl ?_|refine Wg rfl rfl ?_|refine ZV rfl rfl (by first|omega|exact nn_shr (by omega)) (by omega) ?_))|refine Q9 0 (QR l hl _ _ _ (by omega) (by omega)) rfl rfl rfl rfl ?_|refine Zf rfl rfl ?_|(refine QI ?_;(first|refine Zg rfl rfl rfl rfl ?_|refine QA rfl rfl rfl rfl (by rfl) (by rfl) (by rfl) ?_))|refine Qd rfl rfl ?_|refine Qq rfl rfl ?_|refine Qh rfl rfl ?_|refine Qw (fun _ _ => ?_)))|(refine QZ ?_;(first|refine QX ?_|refine WT rfl ?_|refine Wf ?_|refine Zx rfl rfl rfl rfl ?_|refine Q0 rfl rfl (by omega) ?_))|(refine QY ?_;(first|refine QW ?_|refine Ql ?_|refine Qu ?_|refine QQ ?_|refine Qn rfl (by omega) ?_|refine Qm rfl (by omega) ?_|refine Q2 ?_)))
    exact e_1 (Tryz.results128) (Qf (size := 4) rfl rfl rfl rfl) (Q5 (es := 4) (.node rfl rfl rfl) (by show _ = DV.agg (Enc.enc (Nd.mk _ _ _ []));rw [Qp];rfl) rfl)
theorem mkSome (l : List Int) (hl : OkI l) (d : Nat) (hd : d <= 10) (E : GenF) (hE : ∀ a L, preE a L -> QE 4 (d + 1) 1 (2 * d) (E a L).1 a L (E a L).2.1 (E a L).2.2 /\ CE Tryz.prog G 128 (fun p g => [.ptr p g 0, .i d]) (Za l a L) (.agg (Enc.enc (E a L).1)) (Za l (E a L).2.1 (E a L).2.2)) (N : Nat) (hN : N <= 4) (a L : Int) (h : preE a L) (h50 : -40 <= L) :
  CE Tryz.prog G 127 (fun p g => [.ptr p g 0, .i N, .i d]) (Za l a L) (Qt (Zw E N a L).1) (Za l (Zw E N a L).2.1 (Zw E N a L).2.2) := fun g B hg => by
 obtain ⟨p1, p2, p3, p4⟩ := h
 generalize hT : Zw E N a L = T at *
 refine Qa Tryz.func127 rfl Tryz.ntmps127 rfl (t := [(0, .ptr 0 g 0), (1, .i N), (2, .i d)]) rfl fun E0 hE1 => ?_
 (repeat' first|refine WJ rfl ?_|(refine QZ ?_;(first|refine QX ?_|refine WT rfl ?_))|(refine QY ?_;(first|refine QW ?_|refine Ql ?_|refine Qu ?_)))
 refine r_own 7 4 rfl fun gk hgk => ?_
 refine r_loop5 (fun (i : Nat) (o : List Nd) (b M : Int) (gg : Nat) => ⟨[(0, .ptr 0 g 0), (1, .i N), (2, .i d), (7, .ref 1 gg 0 o.length 4), (8, .i i)], [.row g (Za l b M), .row gg (Q1 o)]⟩) (fun i o b M gg => i <= N /\ o.length = i /\ E0.N < gg /\ o ++ (Zw E (N - i) b M).1 = T.1 /\ (Zw E (N - i) b M).2 = T.2 /\ preE b M /\ -50 <= M - ((N : Int) - i)) (fun i _ _ _ _ => N - i) 0 [] a L gk ?_ ⟨by omega, rfl, hgk, by rw [Nat.sub_zero, hT];rfl, by rw [Nat.sub_zero, hT], ⟨p1, p2, p3, p4⟩, by omega⟩ ?_
 ·exact zal rfl
 intro i o b M gg ⟨hi, hol, hgg, h1, h2, hp, h50⟩
 by_cases hiN : i < N
 ·obtain ⟨hq, hE1⟩ := hE b M hp
  rw [show N - i = (N - (i + 1)) + 1 by omega, Zw] at h1 h2
  have q1 := hq.low
  have q2 := hq.mono
  have q3 := hq.used
  have q4 := hq.size
  obtain ⟨p1, p2, p3, p4⟩ := hp
  generalize E b M = e at *
  obtain ⟨v1, b1, M1⟩ := e
  dsimp only at *
  have hs := Qz v1
  clear hE
  (repeat' first|(refine QH ?_;(first|refine Wu rfl ?_|refine WJ rfl ?_|(refine Qr ?_;(first|refine Zu rfl rfl ?_|refine Z4 rfl rfl (by omega) ?_))|(refine QC ?_;(first|refine Zn (z := v1) rfl rfl rfl rfl rfl rfl rfl (by first|omega|(simp;omega)) (by first|omega|(simp;omega)) (fun _ => rfl) (fun _ _ => ?_)|refine Q9 0 (hE1) rfl rfl rfl rfl ?_))|refine QM (z := v1) rfl rfl (by decide) ?_))|(refine QZ ?_;(first|refine QX ?_|refine WT rfl ?_))|(refine QY ?_;(first|refine QW ?_|refine Ql ?_|refine Qu ?_|refine QQ ?_|refine Qn rfl (by omega) ?_)))
  refine ⟨i + 1, o ++ [v1], b1, M1, _, ⟨by omega, by simp [hol], by assumption, by rw [List.append_assoc];exact h1, h2, ⟨by omega, by omega, by omega, by omega⟩, by omega⟩, by omega, ?_⟩
  exact zal rfl
 ·have hie : N - i = 0 := by omega
  rw [hie, Zw] at h1 h2
  dsimp only at h1 h2
  rw [List.append_nil] at h1
  rw [<- h1, <- h2]
  clear hE
  (repeat' first|(refine QH ?_;(first|refine Wu rfl ?_|refine WJ rfl ?_|refine Zu rfl rfl ?_))|(refine QZ ?_;(first|refine QX ?_|refine WT rfl ?_))|(refine QY ?_;(first|refine QW ?_|refine Ql ?_|refine Qm rfl (by omega) ?_|refine Zq rfl ?_|refine Q2 ?_)))
  exact e_1 (Tryz.results127) (Qb rfl) (W6 (D := fun d => d) (k := 0) .id rfl (by rw [Qx];rfl) rfl rfl)
theorem mkExpr (l : List Int) (hl : OkI l) : ∀ (d : Nat), d <= 10 -> ∃ E : GenF, ∀ a L, preE a L -> QE 4 (d + 1) 1 (2 * d) (E a L).1 a L (E a L).2.1 (E a L).2.2 /\ CE Tryz.prog G 128 (fun p g => [.ptr p g 0, .i d]) (Za l a L) (.agg (Enc.enc (E a L).1)) (Za l (E a L).2.1 (E a L).2.2) := by
 intro d
 induction d with
 | zero =>
  intro _
  refine Zt (pre := preE) (R := fun a L t => QE 4 (0 + 1) 1 (2 * (0 : Nat)) t.1 a L t.2.1 t.2.2 /\ CE Tryz.prog G 128 (fun p g => [.ptr p g 0, .i (0 : Nat)]) (Za l a L) (.agg (Enc.enc t.1)) (Za l t.2.1 t.2.2)) fun a L h => ?_
  obtain ⟨t, hq, hc⟩ := mkLeaf (G := G) l hl 0 a L h (.inl (by decide)) (by decide)
  exact ⟨t, hq, hc⟩
 | succ d ih =>
 intro hd10
 obtain ⟨E, hE⟩ := ih (by omega)
 refine Zt (pre := preE) (R := fun a L t => QE 4 (d + 1 + 1) 1 (2 * (d + 1 : Nat)) t.1 a L t.2.1 t.2.2 /\ CE Tryz.prog G 128 (fun p g => [.ptr p g 0, .i (d + 1 : Nat)]) (Za l a L) (.agg (Enc.enc t.1)) (Za l t.2.1 t.2.2)) fun a L h => ?_
 by_cases hlf : L - 1 <= 0
 ·obtain ⟨t, hq, hc⟩ := mkLeaf (G := G) l hl ((d + 1 : Nat) : Int) a L h (.inr ⟨by omega, hlf⟩) (by omega)
  have q1 := hq.low
  have q2 := hq.dep
  exact ⟨t, ⟨hq.fit, by omega, hq.size, by omega, hq.mono, hq.used⟩, hc⟩
 obtain ⟨p1, p2, p3, p4⟩ := h
 have hd1 : ((d + 1 : Nat) : Int) - 1 = (d : Int) := by omega
 have hsm := mkSome (G := G) l hl d (by omega) E hE
 have hrq := run_q (E := E) (w := 4) (dep := d + 1) (c := 2 * d) (by omega) fun a L h => (hE a L h).1
 have bx := Qk l a (most := 12) (by decide)
 have b16 := Qk l (a + 1) (most := 16) (by decide)
 have b2 := Qk l (a + 1) (most := 2) (by decide)
 have b6 := Qk l (a + 1) (most := 6) (by decide)
 have b3 := Qk l (a + 1) (most := 3) (by decide)
 have b14 := Qk l (a + 1) (most := 14) (by decide)
 have b32 := Qk l (a + 1 + 1) (most := 3) (by decide)
 have b4 := Qk l (a + 1 + 1) (most := 4) (by decide)
 generalize hdd : ((d + 1 : Nat) : Int) = dd at *
 have hx : atI l a 12 = 0 \/ atI l a 12 = 1 \/ atI l a 12 = 2 \/ atI l a 12 = 3 \/ atI l a 12 = 4 \/ atI l a 12 = 5 \/ atI l a 12 = 6 \/ atI l a 12 = 7 \/ atI l a 12 = 8 \/ atI l a 12 = 9 \/ atI l a 12 = 10 \/ atI l a 12 = 11 := by omega
 rcases hx with hx|hx|hx|hx|hx|hx|hx|hx|hx|hx|hx|hx
 ·clear hE hrq hsm
  refine ⟨((.mk 4 (atI l (a + 1) 16 - 8) (0) []), a + 1 + 1, L - 1), ?_, fun g B hg => ?_⟩
  ·refine ⟨QV ⟨4, -8, 7, 0, [], 0, 0, 0⟩ rfl (by decide) (by decide) (by dsimp only;omega) (by dsimp only;omega) (by first|(simp;done)|(simp;omega)) (qa), ?_, ?_, ?_, ?_, ?_⟩
   ·rw [Qy];(try simp only [QD, W5, Zb]);omega
   ·rw [Qe];(try simp only [Qo]);omega
   ·dsimp only;omega
   ·dsimp only;omega
   ·dsimp only;omega
  ·refine Qa Tryz.func128 rfl Tryz.ntmps128 rfl (t := [(0, .ptr 0 g 0), (1, .i dd)]) rfl fun E0 hE0 => ?_
   (repeat' first|(refine QH ?_;(first|refine Wu rfl ?_|refine WJ rfl ?_|refine Qc rfl rfl rfl ?_|(refine Qr ?_;(first|refine WE rfl rfl (by omega) ?_|refine WI rfl rfl ?_|refine Wg rfl rfl ?_))|refine Q9 0 (QR l hl _ _ _ (by omega) (by omega)) rfl rfl rfl rfl ?_|refine Zf rfl rfl ?_|(refine QI ?_;(first|refine Zg rfl rfl rfl rfl ?_|refine QA rfl rfl rfl rfl (by rfl) (by rfl) (by rfl) ?_))|refine Qd rfl rfl ?_|refine Qq rfl rfl ?_|refine Qh rfl rfl ?_|refine Qw (fun _ _ => ?_)))|(refine QZ ?_;(first|refine QX ?_|refine WT rfl ?_|refine Wf ?_|refine Zx rfl rfl rfl rfl ?_|refine Q0 rfl rfl (by omega) ?_))|(refine QY ?_;(first|refine QW ?_|refine Ql ?_|refine Qu ?_|refine QQ ?_|refine Qn rfl (by omega) ?_|refine Qm rfl (by omega) ?_|refine Q2 ?_)))
   exact e_1 (Tryz.results128) (Qf (size := 4) rfl rfl rfl rfl) (Q5 (es := 4) (.node rfl rfl rfl) (by show _ = DV.agg (Enc.enc (Nd.mk _ _ _ []));rw [Qp];rfl) rfl)
 ·clear hE hrq hsm
  refine ⟨((.mk 5 (atI l (a + 1) 2) (0) []), a + 1 + 1, L - 1), ?_, fun g B hg => ?_⟩
  ·refine ⟨QV ⟨4, 0, 1, 0, [], 0, 0, 0⟩ rfl (by decide) (by decide) (by dsimp only;omega) (by dsimp only;omega) (by first|(simp;done)|(simp;omega)) (qa), ?_, ?_, ?_, ?_, ?_⟩
   ·rw [Qy];(try simp only [QD, W5, Zb]);omega
   ·rw [Qe];(try simp only [Qo]);omega
   ·dsimp only;omega
   ·dsimp only;omega
   ·dsimp only;omega
  ·refine Qa Tryz.func128 rfl Tryz.ntmps128 rfl (t := [(0, .ptr 0 g 0), (1, .i dd)]) rfl fun E0 hE0 => ?_
   (repeat' first|(refine QH ?_;(first|refine Wu rfl ?_|refine WJ rfl ?_|refine Qc rfl rfl rfl ?_|(refine Qr ?_;(first|refine WE rfl rfl (by omega) ?_|refine WI rfl rfl ?_|refine Wg rfl rfl ?_))|refine Q9 0 (QR l hl _ _ _ (by omega) (by omega)) rfl rfl rfl rfl ?_|refine Zf rfl rfl ?_|(refine QI ?_;(first|refine Zg rfl rfl rfl rfl ?_|refine QA rfl rfl rfl rfl (by rfl) (by rfl) (by rfl) ?_))|refine Qd rfl rfl ?_|refine Qq rfl rfl ?_|refine Qh rfl rfl ?_|refine Qw (fun _ _ => ?_)))|(refine QZ ?_;(first|refine QX ?_|refine WT rfl ?_|refine Wf ?_|refine Zx rfl rfl rfl rfl ?_|refine Q0 rfl rfl (by omega) ?_))|(refine QY ?_;(first|refine QW ?_|refine Ql ?_|refine Qu ?_|refine QQ ?_|refine Qn rfl (by omega) ?_|refine Qm rfl (by omega) ?_|refine Q2 ?_)))
   exact e_1 (Tryz.results128) (Qf (size := 4) rfl rfl rfl rfl) (Q5 (es := 4) (.node rfl rfl rfl) (by show _ = DV.agg (Enc.enc (Nd.mk _ _ _ []));rw [Qp];rfl) rfl)
 ·clear hE hrq hsm
  refine ⟨((.mk 8 (atI l (a + 1) 6) (atI l (a + 1 + 1) 3) []), a + 1 + 1 + 1, L - 1), ?_, fun g B hg => ?_⟩
  ·refine ⟨QV ⟨4, 0, 5, 2, [], 0, 0, 0⟩ rfl (by decide) (by decide) (by dsimp only;omega) (by dsimp only;omega) (by first|(simp;done)|(simp;omega)) (qa), ?_, ?_, ?_, ?_, ?_⟩
   ·rw [Qy];(try simp only [QD, W5, Zb]);omega
   ·rw [Qe];(try simp only [Qo]);omega
   ·dsimp only;omega
   ·dsimp only;omega
   ·dsimp only;omega
  ·refine Qa Tryz.func128 rfl Tryz.ntmps128 rfl (t := [(0, .ptr 0 g 0), (1, .i dd)]) rfl fun E0 hE0 => ?_
   (repeat' first|(refine QH ?_;(first|refine Wu rfl ?_|refine WJ rfl ?_|refine Qc rfl rfl rfl ?_|(refine Qr ?_;(first|refine WE rfl rfl (by omega) ?_|refine WI rfl rfl ?_|refine Wg rfl rfl ?_))|refine Q9 0 (QR l hl _ _ _ (by omega) (by omega)) rfl rfl rfl rfl ?_|refine Zf rfl rfl ?_|(refine QI ?_;(first|refine Zg rfl rfl rfl rfl ?_|refine QA rfl rfl rfl rfl (by rfl) (by rfl) (by rfl) ?_))|refine Qd rfl rfl ?_|refine Qq rfl rfl ?_|refine Qh rfl rfl ?_|refine Qw (fun _ _ => ?_)))|(refine QZ ?_;(first|refine QX ?_|refine WT rfl ?_|refine Wf ?_|refine Zx rfl rfl rfl rfl ?_|refine Q0 rfl rfl (by omega) ?_))|(refine QY ?_;(first|refine QW ?_|refine Ql ?_|refine Qu ?_|refine QQ ?_|refine Qn rfl (by omega) ?_|refine Qm rfl (by omega) ?_|refine Q2 ?_)))
   exact e_1 (Tryz.results128) (Qf (size := 4) rfl rfl rfl rfl) (Q5 (es := 4) (.node rfl rfl rfl) (by show _ = DV.agg (Enc.enc (Nd.mk _ _ _ []));rw [Qp];rfl) rfl)
 ·clear hE hrq hsm
  refine ⟨((.mk 6 (atI l (a + 1) 6) (0) []), a + 1 + 1, L - 1), ?_, fun g B hg => ?_⟩
  ·refine ⟨QV ⟨4, 0, 5, 0, [], 0, 0, 0⟩ rfl (by decide) (by decide) (by dsimp only;omega) (by dsimp only;omega) (by first|(simp;done)|(simp;omega)) (qa), ?_, ?_, ?_, ?_, ?_⟩
   ·rw [Qy];(try simp only [QD, W5, Zb]);omega
   ·rw [Qe];(try simp only [Qo]);omega
   ·dsimp only;omega
   ·dsimp only;omega
   ·dsimp only;omega
  ·refine Qa Tryz.func128 rfl Tryz.ntmps128 rfl (t := [(0, .ptr 0 g 0), (1, .i dd)]) rfl fun E0 hE0 => ?_
   (repeat' first|(refine QH ?_;(first|refine Wu rfl ?_|refine WJ rfl ?_|refine Qc rfl rfl rfl ?_|(refine Qr ?_;(first|refine WE rfl rfl (by omega) ?_|refine WI rfl rfl ?_|refine Wg rfl rfl ?_))|refine Q9 0 (QR l hl _ _ _ (by omega) (by omega)) rfl rfl rfl rfl ?_|refine Zf rfl rfl ?_|(refine QI ?_;(first|refine Zg rfl rfl rfl rfl ?_|refine QA rfl rfl rfl rfl (by rfl) (by rfl) (by rfl) ?_))|refine Qd rfl rfl ?_|refine Qq rfl rfl ?_|refine Qh rfl rfl ?_|refine Qw (fun _ _ => ?_)))|(refine QZ ?_;(first|refine QX ?_|refine WT rfl ?_|refine Wf ?_|refine Zx rfl rfl rfl rfl ?_|refine Q0 rfl rfl (by omega) ?_))|(refine QY ?_;(first|refine QW ?_|refine Ql ?_|refine Qu ?_|refine QQ ?_|refine Qm rfl (by omega) ?_|refine Q2 ?_)))
   exact e_1 (Tryz.results128) (Qf (size := 4) rfl rfl rfl rfl) (Q5 (es := 4) (.node rfl rfl rfl) (by show _ = DV.agg (Enc.enc (Nd.mk _ _ _ []));rw [Qp];rfl) rfl)
 ·have hS1 := hsm 1 (by omega) (a + 1 + 1) (L - 1) ⟨by omega, by omega, by omega, by omega⟩ (by omega)
  have hq := hrq 1 (a + 1 + 1) (L - 1) (by omega) ⟨by omega, by omega, by omega, by omega⟩ (by omega)
  have hln := Wr E 1 (a + 1 + 1) (L - 1)
  obtain ⟨f1, d1, s1, w1, m1, u1⟩ := hq
  generalize Zw E 1 (a + 1 + 1) (L - 1) = T at *
  obtain ⟨ks, b1, M1⟩ := T
  dsimp only at *
  have hdl := Q8 d1
  clear hE hrq hsm
  refine ⟨((.mk 7 (atI l (a + 1) 6) (0) ks), b1, M1), ?_, fun g B hg => ?_⟩
  ·refine ⟨QV ⟨4, 0, 5, 0, [4], 0, 0, 0⟩ rfl (by decide) (by decide) (by dsimp only;omega) (by dsimp only;omega) (by first|(simp;done)|(simp;omega)) (qN 1 hln (by decide) f1), ?_, ?_, ?_, ?_, ?_⟩
   ·rw [Qy];(try simp only [QD, W5, Zb]);omega
   ·rw [Qe];(try simp only [Qo]);omega
   ·dsimp only;omega
   ·dsimp only;omega
   ·dsimp only;omega
  ·refine Qa Tryz.func128 rfl Tryz.ntmps128 rfl (t := [(0, .ptr 0 g 0), (1, .i dd)]) rfl fun E0 hE0 => ?_
   (repeat' first|(refine QH ?_;(first|refine Wu rfl ?_|refine WJ rfl ?_|refine Qc rfl rfl rfl ?_|(refine Qr ?_;(first|refine Zm rfl rfl hd1 ⟨by omega, by omega⟩ ?_|refine WE rfl rfl (by omega) ?_|refine WI rfl rfl ?_|refine Wg rfl rfl ?_))|(refine QC ?_;(first|refine Q9 0 (QR l hl _ _ _ (by omega) (by omega)) rfl rfl rfl rfl ?_|refine Q9 0 (hS1) rfl rfl rfl rfl ?_))|refine Zf rfl rfl ?_|(refine QI ?_;(first|refine Zg rfl rfl rfl rfl ?_|refine QA rfl rfl rfl rfl (by rfl) (by rfl) (by rfl) ?_))|refine Qd rfl rfl ?_|refine Qq rfl rfl ?_|refine Qh rfl rfl ?_|refine Qw (fun _ _ => ?_)))|(refine QZ ?_;(first|refine QX ?_|refine WT rfl ?_|refine Wf ?_|refine Zx rfl rfl rfl rfl ?_|refine Q0 rfl rfl (by omega) ?_))|(refine QY ?_;(first|refine QW ?_|refine Ql ?_|refine Qu ?_|refine QQ ?_|refine Qn rfl (by omega) ?_|refine Qm rfl (by omega) ?_|refine Q2 ?_)))
   refine e_1 (Tryz.results128) (Qf (size := 4) rfl rfl rfl rfl) ?_
   rw [Qp]
   exact ZM (by first|rfl|(simp [Qt, Q1];try rfl)) rfl
 ·have hS1 := hsm 1 (by omega) (a + 1) (L - 1) ⟨by omega, by omega, by omega, by omega⟩ (by omega)
  have hq := hrq 1 (a + 1) (L - 1) (by omega) ⟨by omega, by omega, by omega, by omega⟩ (by omega)
  have hln := Wr E 1 (a + 1) (L - 1)
  obtain ⟨f1, d1, s1, w1, m1, u1⟩ := hq
  generalize Zw E 1 (a + 1) (L - 1) = T at *
  obtain ⟨ks, b1, M1⟩ := T
  dsimp only at *
  have hdl := Q8 d1
  clear hE hrq hsm
  refine ⟨((.mk 10 (0) (0) ks), b1, M1), ?_, fun g B hg => ?_⟩
  ·refine ⟨QV ⟨4, 0, 0, 0, [4], 0, 0, 0⟩ rfl (by decide) (by decide) (by dsimp only;omega) (by dsimp only;omega) (by first|(simp;done)|(simp;omega)) (qN 1 hln (by decide) f1), ?_, ?_, ?_, ?_, ?_⟩
   ·rw [Qy];(try simp only [QD, W5, Zb]);omega
   ·rw [Qe];(try simp only [Qo]);omega
   ·dsimp only;omega
   ·dsimp only;omega
   ·dsimp only;omega
  ·refine Qa Tryz.func128 rfl Tryz.ntmps128 rfl (t := [(0, .ptr 0 g 0), (1, .i dd)]) rfl fun E0 hE0 => ?_
   (repeat' first|(refine QH ?_;(first|refine Wu rfl ?_|refine WJ rfl ?_|refine Qc rfl rfl rfl ?_|(refine Qr ?_;(first|refine Zm rfl rfl hd1 ⟨by omega, by omega⟩ ?_|refine WE rfl rfl (by omega) ?_|refine WI rfl rfl ?_|refine Wg rfl rfl ?_))|(refine QC ?_;(first|refine Q9 0 (QR l hl _ _ _ (by omega) (by omega)) rfl rfl rfl rfl ?_|refine Q9 0 (hS1) rfl rfl rfl rfl ?_))|refine Zf rfl rfl ?_|(refine QI ?_;(first|refine Zg rfl rfl rfl rfl ?_|refine QA rfl rfl rfl rfl (by rfl) (by rfl) (by rfl) ?_))|refine Qd rfl rfl ?_|refine Qq rfl rfl ?_|refine Qh rfl rfl ?_|refine Qw (fun _ _ => ?_)))|(refine QZ ?_;(first|refine QX ?_|refine WT rfl ?_|refine Wf ?_|refine Zx rfl rfl rfl rfl ?_|refine Q0 rfl rfl (by omega) ?_))|(refine QY ?_;(first|refine QW ?_|refine Ql ?_|refine Qu ?_|refine QQ ?_|refine Qn rfl (by omega) ?_|refine Qm rfl (by omega) ?_|refine Q2 ?_)))
   refine e_1 (Tryz.results128) (Qf (size := 4) rfl rfl rfl rfl) ?_
   rw [Qp]
   exact ZM (by first|rfl|(simp [Qt, Q1];try rfl)) rfl
 ·obtain ⟨N, hN⟩ : ∃ N : Nat, atI l (a + 1 + 1) 4 = (N : Int) := ⟨(atI l (a + 1 + 1) 4).toNat, by omega⟩
  have hnum := QR (G := G) l hl (a + 1 + 1) (L - 1) 4 (by omega) (by omega)
  rw [hN] at hnum b4
  have hS1 := hsm N (by omega) (a + 1 + 1 + 1) (L - 1) ⟨by omega, by omega, by omega, by omega⟩ (by omega)
  have hq := hrq N (a + 1 + 1 + 1) (L - 1) (by omega) ⟨by omega, by omega, by omega, by omega⟩ (by omega)
  have hln := Wr E N (a + 1 + 1 + 1) (L - 1)
  obtain ⟨f1, d1, s1, w1, m1, u1⟩ := hq
  generalize Zw E N (a + 1 + 1 + 1) (L - 1) = T at *
  obtain ⟨ks, b1, M1⟩ := T
  dsimp only at *
  have hdl := Q8 d1
  clear hE hrq hsm
  refine ⟨((.mk 11 (atI l (a + 1) 6) (0) ks), b1, M1), ?_, fun g B hg => ?_⟩
  ·refine ⟨QV ⟨4, 0, 5, 0, [], 3, 0, 4⟩ rfl (by decide) (by decide) (by dsimp only;omega) (by dsimp only;omega) (by first|(simp;done)|(simp;omega)) (kidsA rfl f1), ?_, ?_, ?_, ?_, ?_⟩
   ·rw [Qy];(try simp only [QD, W5, Zb]);omega
   ·rw [Qe];(try simp only [Qo]);omega
   ·dsimp only;omega
   ·dsimp only;omega
   ·dsimp only;omega
  ·refine Qa Tryz.func128 rfl Tryz.ntmps128 rfl (t := [(0, .ptr 0 g 0), (1, .i dd)]) rfl fun E0 hE0 => ?_
   (repeat' first|(refine QH ?_;(first|refine Wu rfl ?_|refine WJ rfl ?_|refine Qc rfl rfl rfl ?_|(refine Qr ?_;(first|refine Zm rfl rfl hd1 ⟨by omega, by omega⟩ ?_|refine WE rfl rfl (by omega) ?_|refine WI rfl rfl ?_|refine Wg rfl rfl ?_))|(refine QC ?_;(first|refine Q9 0 (hnum) rfl rfl rfl rfl ?_|refine Q9 0 (QR l hl _ _ _ (by omega) (by omega)) rfl rfl rfl rfl ?_|refine Q9 0 (hS1) rfl rfl rfl rfl ?_))|refine Zf rfl rfl ?_|(refine QI ?_;(first|refine Zg rfl rfl rfl rfl ?_|refine QA rfl rfl rfl rfl (by rfl) (by rfl) (by rfl) ?_))|refine Qd rfl rfl ?_|refine Qq rfl rfl ?_|refine Qh rfl rfl ?_|refine Qw (fun _ _ => ?_)))|(refine QZ ?_;(first|refine QX ?_|refine WT rfl ?_|refine Wf ?_|refine Zx rfl rfl rfl rfl ?_|refine Q0 rfl rfl (by omega) ?_))|(refine QY ?_;(first|refine QW ?_|refine Ql ?_|refine Qu ?_|refine QQ ?_|refine Qn rfl (by omega) ?_|refine Qm rfl (by omega) ?_|refine Q2 ?_)))
   refine e_1 (Tryz.results128) (Qf (size := 4) rfl rfl rfl rfl) ?_
   rw [Qp]
   exact ZM (by first|rfl|(simp [Qt, Q1];try rfl)) rfl
 ·clear hE hrq hsm
  refine ⟨((.mk 12 (atI l (a + 1) 3) (0) []), a + 1 + 1, L - 1), ?_, fun g B hg => ?_⟩
  ·refine ⟨QV ⟨4, 0, 2, 0, [], 0, 0, 0⟩ rfl (by decide) (by decide) (by dsimp only;omega) (by dsimp only;omega) (by first|(simp;done)|(simp;omega)) (qa), ?_, ?_, ?_, ?_, ?_⟩
   ·rw [Qy];(try simp only [QD, W5, Zb]);omega
   ·rw [Qe];(try simp only [Qo]);omega
   ·dsimp only;omega
   ·dsimp only;omega
   ·dsimp only;omega
  ·refine Qa Tryz.func128 rfl Tryz.ntmps128 rfl (t := [(0, .ptr 0 g 0), (1, .i dd)]) rfl fun E0 hE0 => ?_
   (repeat' first|(refine QH ?_;(first|refine Wu rfl ?_|refine WJ rfl ?_|refine Qc rfl rfl rfl ?_|(refine Qr ?_;(first|refine WE rfl rfl (by omega) ?_|refine WI rfl rfl ?_|refine Wg rfl rfl ?_))|refine Q9 0 (QR l hl _ _ _ (by omega) (by omega)) rfl rfl rfl rfl ?_|refine Zf rfl rfl ?_|(refine QI ?_;(first|refine Zg rfl rfl rfl rfl ?_|refine QA rfl rfl rfl rfl (by rfl) (by rfl) (by rfl) ?_))|refine Qd rfl rfl ?_|refine Qq rfl rfl ?_|refine Qh rfl rfl ?_|refine Qw (fun _ _ => ?_)))|(refine QZ ?_;(first|refine QX ?_|refine WT rfl ?_|refine Wf ?_|refine Zx rfl rfl rfl rfl ?_|refine Q0 rfl rfl (by omega) ?_))|(refine QY ?_;(first|refine QW ?_|refine Ql ?_|refine Qu ?_|refine QQ ?_|refine Qn rfl (by omega) ?_|refine Qm rfl (by omega) ?_|refine Q2 ?_)))
   exact e_1 (Tryz.results128) (Qf (size := 4) rfl rfl rfl rfl) (Q5 (es := 4) (.node rfl rfl rfl) (by show _ = DV.agg (Enc.enc (Nd.mk _ _ _ []));rw [Qp];rfl) rfl)
 ·have hS1 := hsm 2 (by omega) (a + 1 + 1) (L - 1) ⟨by omega, by omega, by omega, by omega⟩ (by omega)
  have hq := hrq 2 (a + 1 + 1) (L - 1) (by omega) ⟨by omega, by omega, by omega, by omega⟩ (by omega)
  have hln := Wr E 2 (a + 1 + 1) (L - 1)
  obtain ⟨f1, d1, s1, w1, m1, u1⟩ := hq
  generalize Zw E 2 (a + 1 + 1) (L - 1) = T at *
  obtain ⟨ks, b1, M1⟩ := T
  dsimp only at *
  have hdl := Q8 d1
  clear hE hrq hsm
  refine ⟨((.mk 9 (atI l (a + 1) 14) (0) ks), b1, M1), ?_, fun g B hg => ?_⟩
  ·refine ⟨QV ⟨4, 0, 13, 0, [4, 4], 0, 0, 0⟩ rfl (by decide) (by decide) (by dsimp only;omega) (by dsimp only;omega) (by first|(simp;done)|(simp;omega)) (qN 2 hln (by decide) f1), ?_, ?_, ?_, ?_, ?_⟩
   ·rw [Qy];(try simp only [QD, W5, Zb]);omega
   ·rw [Qe];(try simp only [Qo]);omega
   ·dsimp only;omega
   ·dsimp only;omega
   ·dsimp only;omega
  ·refine Qa Tryz.func128 rfl Tryz.ntmps128 rfl (t := [(0, .ptr 0 g 0), (1, .i dd)]) rfl fun E0 hE0 => ?_
   (repeat' first|(refine QH ?_;(first|refine Wu rfl ?_|refine WJ rfl ?_|refine Qc rfl rfl rfl ?_|(refine Qr ?_;(first|refine Zm rfl rfl hd1 ⟨by omega, by omega⟩ ?_|refine WE rfl rfl (by omega) ?_|refine WI rfl rfl ?_|refine Wg rfl rfl ?_))|(refine QC ?_;(first|refine Q9 0 (QR l hl _ _ _ (by omega) (by omega)) rfl rfl rfl rfl ?_|refine Q9 0 (hS1) rfl rfl rfl rfl ?_))|refine Zf rfl rfl ?_|(refine QI ?_;(first|refine Zg rfl rfl rfl rfl ?_|refine QA rfl rfl rfl rfl (by rfl) (by rfl) (by rfl) ?_))|refine Qd rfl rfl ?_|refine Qq rfl rfl ?_|refine Qh rfl rfl ?_|refine Qw (fun _ _ => ?_)))|(refine QZ ?_;(first|refine QX ?_|refine WT rfl ?_|refine Wf ?_|refine Zx rfl rfl rfl rfl ?_|refine Q0 rfl rfl (by omega) ?_))|(refine QY ?_;(first|refine QW ?_|refine Ql ?_|refine Qu ?_|refine QQ ?_|refine Qn rfl (by omega) ?_|refine Qm rfl (by omega) ?_|refine Q2 ?_)))
   refine e_1 (Tryz.results128) (Qf (size := 4) rfl rfl rfl rfl) ?_
   rw [Qp]
   exact ZM (by first|rfl|(simp [Qt, Q1];try rfl)) rfl
 ·have hS1 := hsm 2 (by omega) (a + 1 + 1) (L - 1) ⟨by omega, by omega, by omega, by omega⟩ (by omega)
  have hq := hrq 2 (a + 1 + 1) (L - 1) (by omega) ⟨by omega, by omega, by omega, by omega⟩ (by omega)
  have hln := Wr E 2 (a + 1 + 1) (L - 1)
  obtain ⟨f1, d1, s1, w1, m1, u1⟩ := hq
  generalize Zw E 2 (a + 1 + 1) (L - 1) = T at *
  obtain ⟨ks, b1, M1⟩ := T
  dsimp only at *
  have hdl := Q8 d1
  clear hE hrq hsm
  refine ⟨((.mk 9 (atI l (a + 1) 14) (0) ks), b1, M1), ?_, fun g B hg => ?_⟩
  ·refine ⟨QV ⟨4, 0, 13, 0, [4, 4], 0, 0, 0⟩ rfl (by decide) (by decide) (by dsimp only;omega) (by dsimp only;omega) (by first|(simp;done)|(simp;omega)) (qN 2 hln (by decide) f1), ?_, ?_, ?_, ?_, ?_⟩
   ·rw [Qy];(try simp only [QD, W5, Zb]);omega
   ·rw [Qe];(try simp only [Qo]);omega
   ·dsimp only;omega
   ·dsimp only;omega
   ·dsimp only;omega
  ·refine Qa Tryz.func128 rfl Tryz.ntmps128 rfl (t := [(0, .ptr 0 g 0), (1, .i dd)]) rfl fun E0 hE0 => ?_
   (repeat' first|(refine QH ?_;(first|refine Wu rfl ?_|refine WJ rfl ?_|refine Qc rfl rfl rfl ?_|(refine Qr ?_;(first|refine Zm rfl rfl hd1 ⟨by omega, by omega⟩ ?_|refine WE rfl rfl (by omega) ?_|refine WI rfl rfl ?_|refine Wg rfl rfl ?_))|(refine QC ?_;(first|refine Q9 0 (QR l hl _ _ _ (by omega) (by omega)) rfl rfl rfl rfl ?_|refine Q9 0 (hS1) rfl rfl rfl rfl ?_))|refine Zf rfl rfl ?_|(refine QI ?_;(first|refine Zg rfl rfl rfl rfl ?_|refine QA rfl rfl rfl rfl (by rfl) (by rfl) (by rfl) ?_))|refine Qd rfl rfl ?_|refine Qq rfl rfl ?_|refine Qh rfl rfl ?_|refine Qw (fun _ _ => ?_)))|(refine QZ ?_;(first|refine QX ?_|refine WT rfl ?_|refine Wf ?_|refine Zx rfl rfl rfl rfl ?_|refine Q0 rfl rfl (by omega) ?_))|(refine QY ?_;(first|refine QW ?_|refine Ql ?_|refine Qu ?_|refine QQ ?_|refine Qn rfl (by omega) ?_|refine Qm rfl (by omega) ?_|refine Q2 ?_)))
   refine e_1 (Tryz.results128) (Qf (size := 4) rfl rfl rfl rfl) ?_
   rw [Qp]
   exact ZM (by first|rfl|(simp [Qt, Q1];try rfl)) rfl
 ·have hS1 := hsm 2 (by omega) (a + 1 + 1) (L - 1) ⟨by omega, by omega, by omega, by omega⟩ (by omega)
  have hq := hrq 2 (a + 1 + 1) (L - 1) (by omega) ⟨by omega, by omega, by omega, by omega⟩ (by omega)
  have hln := Wr E 2 (a + 1 + 1) (L - 1)
  obtain ⟨f1, d1, s1, w1, m1, u1⟩ := hq
  generalize Zw E 2 (a + 1 + 1) (L - 1) = T at *
  obtain ⟨ks, b1, M1⟩ := T
  dsimp only at *
  have hdl := Q8 d1
  clear hE hrq hsm
  refine ⟨((.mk 9 (atI l (a + 1) 14) (0) ks), b1, M1), ?_, fun g B hg => ?_⟩
  ·refine ⟨QV ⟨4, 0, 13, 0, [4, 4], 0, 0, 0⟩ rfl (by decide) (by decide) (by dsimp only;omega) (by dsimp only;omega) (by first|(simp;done)|(simp;omega)) (qN 2 hln (by decide) f1), ?_, ?_, ?_, ?_, ?_⟩
   ·rw [Qy];(try simp only [QD, W5, Zb]);omega
   ·rw [Qe];(try simp only [Qo]);omega
   ·dsimp only;omega
   ·dsimp only;omega
   ·dsimp only;omega
  ·refine Qa Tryz.func128 rfl Tryz.ntmps128 rfl (t := [(0, .ptr 0 g 0), (1, .i dd)]) rfl fun E0 hE0 => ?_
   (repeat' first|(refine QH ?_;(first|refine Wu rfl ?_|refine WJ rfl ?_|refine Qc rfl rfl rfl ?_|(refine Qr ?_;(first|refine Zm rfl rfl hd1 ⟨by omega, by omega⟩ ?_|refine WE rfl rfl (by omega) ?_|refine WI rfl rfl ?_|refine Wg rfl rfl ?_))|(refine QC ?_;(first|refine Q9 0 (QR l hl _ _ _ (by omega) (by omega)) rfl rfl rfl rfl ?_|refine Q9 0 (hS1) rfl rfl rfl rfl ?_))|refine Zf rfl rfl ?_|(refine QI ?_;(first|refine Zg rfl rfl rfl rfl ?_|refine QA rfl rfl rfl rfl (by rfl) (by rfl) (by rfl) ?_))|refine Qd rfl rfl ?_|refine Qq rfl rfl ?_|refine Qh rfl rfl ?_|refine Qw (fun _ _ => ?_)))|(refine QZ ?_;(first|refine QX ?_|refine WT rfl ?_|refine Wf ?_|refine Zx rfl rfl rfl rfl ?_|refine Q0 rfl rfl (by omega) ?_))|(refine QY ?_;(first|refine QW ?_|refine Ql ?_|refine Qu ?_|refine QQ ?_|refine Qn rfl (by omega) ?_|refine Qm rfl (by omega) ?_|refine Q2 ?_)))
   refine e_1 (Tryz.results128) (Qf (size := 4) rfl rfl rfl rfl) ?_
   rw [Qp]
   exact ZM (by first|rfl|(simp [Qt, Q1];try rfl)) rfl
 ·clear hE hrq hsm
  refine ⟨((.mk 6 (atI l (a + 1) 6) (0) []), a + 1 + 1, L - 1), ?_, fun g B hg => ?_⟩
  ·refine ⟨QV ⟨4, 0, 5, 0, [], 0, 0, 0⟩ rfl (by decide) (by decide) (by dsimp only;omega) (by dsimp only;omega) (by first|(simp;done)|(simp;omega)) (qa), ?_, ?_, ?_, ?_, ?_⟩
   ·rw [Qy];(try simp only [QD, W5, Zb]);omega
   ·rw [Qe];(try simp only [Qo]);omega
   ·dsimp only;omega
   ·dsimp only;omega
   ·dsimp only;omega
  ·refine Qa Tryz.func128 rfl Tryz.ntmps128 rfl (t := [(0, .ptr 0 g 0), (1, .i dd)]) rfl fun E0 hE0 => ?_
   (repeat' first|(refine QH ?_;(first|refine Wu rfl ?_|refine WJ rfl ?_|refine Qc rfl rfl rfl ?_|(refine Qr ?_;(first|refine WE rfl rfl (by omega) ?_|refine WI rfl rfl ?_|refine Wg rfl rfl ?_))|refine Q9 0 (QR l hl _ _ _ (by omega) (by omega)) rfl rfl rfl rfl ?_|refine Zf rfl rfl ?_|(refine QI ?_;(first|refine Zg rfl rfl rfl rfl ?_|refine QA rfl rfl rfl rfl (by rfl) (by rfl) (by rfl) ?_))|refine Qd rfl rfl ?_|refine Qq rfl rfl ?_|refine Qh rfl rfl ?_|refine Qw (fun _ _ => ?_)))|(refine QZ ?_;(first|refine QX ?_|refine WT rfl ?_|refine Wf ?_|refine Zx rfl rfl rfl rfl ?_|refine Q0 rfl rfl (by omega) ?_))|(refine QY ?_;(first|refine QW ?_|refine Ql ?_|refine Qu ?_|refine QQ ?_|refine Qm rfl (by omega) ?_|refine Q2 ?_)))
   exact e_1 (Tryz.results128) (Qf (size := 4) rfl rfl rfl rfl) (Q5 (es := 4) (.node rfl rfl rfl) (by show _ = DV.agg (Enc.enc (Nd.mk _ _ _ []));rw [Qp];rfl) rfl)
end Go.Proofs
end
section
namespace Go.Proofs
open Go.Av Go.Bl
def mkKind (l : List Int) (n k a : Int) : Nd × Int :=
 if k < n then (.mk (atI l a 2) 0 0 [], a + 1)
 else if atI l (a + 1) 3 = 0 then (.mk 2 (1 + atI l (a + 1 + 1) 4) 0 [], a + 1 + 1 + 1)
 else if atI l (a + 1 + 1) 3 = 0 then (.mk 3 0 0 [.mk (atI l (a + 1 + 1 + 1) 2) 0 0 [], .mk (atI l (a + 1 + 1 + 1 + 1) 2) 0 0 []], a + 1 + 1 + 1 + 1 + 1)
 else (.mk (atI l a 2) 0 0 [], a + 1 + 1 + 1)
theorem mkKind_ok (l : List Int) (n k a : Int) : Wi (mkKind l n k a).1 (if k < n then 3 else 2) = true /\ Qy (mkKind l n k a).1 <= 2 /\ Qe (mkKind l n k a).1 <= 3 /\ a + 1 <= (mkKind l n k a).2 /\ (mkKind l n k a).2 <= a + 5 := by
 have h2 := Qk l a (most := 2) (by decide)
 have hp : ∀ w : Int, w = 2 \/ w = 3 -> Wi (.mk (atI l a 2) 0 0 []) w = true := fun w hw => qO (by omega) hw
 unfold mkKind
 by_cases hk : k < n
 ·rw [if_pos hk, if_pos hk]
  exact ⟨hp 3 (.inr rfl), by simp [Qy, QD], by simp [Qe, Qo], by simp, by dsimp only;omega⟩
 ·rw [if_neg hk, if_neg hk]
  by_cases h1 : atI l (a + 1) 3 = 0
  ·rw [if_pos h1]
   have h4 := Qk l (a + 1 + 1) (most := 4) (by decide)
   refine ⟨QV ⟨2, 1, 4, 0, [], 0, 0, 0⟩ rfl (by decide) (by decide) (by dsimp only;omega) (by decide) (by simp) qa, by simp [Qy, QD], by simp [Qe, Qo], by dsimp only;omega, by dsimp only;omega⟩
  ·rw [if_neg h1]
   by_cases h3 : atI l (a + 1 + 1) 3 = 0
   ·rw [if_pos h3]
    have hA := Qk l (a + 1 + 1 + 1) (most := 2) (by decide)
    have hB := Qk l (a + 1 + 1 + 1 + 1) (most := 2) (by decide)
    refine ⟨QV ⟨2, 0, 0, 0, [], 3, 1, 3⟩ rfl (by decide) (by decide) (by decide) (by decide) (by simp) (kids2 (qO (by omega) (.inr rfl)) (qO (by omega) (.inr rfl))), by simp [Qy, QD], by simp [Qe, Qo], by dsimp only;omega, by dsimp only;omega⟩
   ·rw [if_neg h3]
    exact ⟨hp 2 (.inl rfl), by simp [Qy, QD], by simp [Qe, Qo], by dsimp only;omega, by dsimp only;omega⟩
def runK (l : List Int) (n : Int) : Nat -> Int -> Int -> List Nd × Int
 | 0, _, a => ([], a)
 | q + 1, k, a => ((mkKind l n k a).1 :: (runK l n q (k + 1) (mkKind l n k a).2).1, (runK l n q (k + 1) (mkKind l n k a).2).2)
theorem runK_ok (l : List Int) (n : Int) : ∀ (q : Nat) (k a : Int), (runK l n q k a).1.length = q /\ (∀ i (h : i < (runK l n q k a).1.length), Wi (runK l n q k a).1[i] (if k + i < n then 3 else 2) = true) /\ (∀ x ∈ (runK l n q k a).1, Qy x <= 2) /\ Qo (runK l n q k a).1 <= 3 * q /\ a <= (runK l n q k a).2 /\ (runK l n q k a).2 <= a + 5 * q
 | 0, k, a => by
  rw [runK]
  exact ⟨rfl, fun i h => absurd h (Nat.not_lt_zero _), fun x hx => (by cases hx), by simp [Qo], by simp, by simp⟩
 | q + 1, k, a => by
  obtain ⟨k1, k2, k3, k4, k5⟩ := mkKind_ok l n k a
  obtain ⟨i1, i2, i3, i4, i5, i6⟩ := runK_ok l n q (k + 1) (mkKind l n k a).2
  rw [runK]
  dsimp only
  refine ⟨by rw [List.length_cons, i1], fun i h => ?_, fun x hx => ?_, ?_, by omega, by omega⟩
  ·cases i with
   | zero => rw [List.getElem_cons_zero, show k + ((0 : Nat) : Int) = k by omega];exact k1
   | succ i =>
    rw [List.getElem_cons_succ, show k + ((i + 1 : Nat) : Int) = k + 1 + (i : Int) by omega]
    exact i2 i (by simpa using h)
  ·rcases List.mem_cons.1 hx with rfl|hx
   ·exact k2
   ·exact i3 x hx
  ·rw [Qo];omega
def mfunT (l : List Int) (a : Int) : List Nd × Int := runK l (atI l a 3) (atI l a 3 + atI l (a + 1) 3).toNat 0 (a + 1 + 1)
def mfunG (l : List Int) (Bk : GenF) : GenF := fun a L =>
 (.mk 26 (atI l a 3) 0 ((mfunT l a).1 ++ [(Bk (mfunT l a).2 L).1]), (Bk (mfunT l a).2 L).2.1, (Bk (mfunT l a).2 L).2.2)
structure QG (f : Nd) (a L a' L' : Int) : Prop where
 fit : Wi f 1 = true
 dep : Qy f <= 14
 size : L' + (Qe f : Int) <= L + 13
 low : L - 1 <= L' \/ -11 <= L'
 mono : a <= a'
 used : a' <= a + 400
theorem mfun_q (l : List Int) (Bk : GenF) (hB : ∀ a L, preB a L -> QE 6 13 1 11 (Bk a L).1 a L (Bk a L).2.1 (Bk a L).2.2) (a L : Int) (ha : 0 <= a /\ a <= 100000) (hL : -40 <= L /\ L <= 45) : QG (mfunG l Bk a L).1 a L (mfunG l Bk a L).2.1 (mfunG l Bk a L).2.2 /\ preB (mfunT l a).2 L := by
 have b3 := Qk l a (most := 3) (by decide)
 have c3 := Qk l (a + 1) (most := 3) (by decide)
 have hk := runK_ok l (atI l a 3) (atI l a 3 + atI l (a + 1) 3).toNat 0 (a + 1 + 1)
 have hF : mfunT l a = runK l (atI l a 3) (atI l a 3 + atI l (a + 1) 3).toNat 0 (a + 1 + 1) := rfl
 rw [<- hF] at hk
 obtain ⟨k1, k2, k3, k4, k5, k6⟩ := hk
 have hpre : preB (mfunT l a).2 L := ⟨by omega, by omega, by omega, by omega⟩
 refine ⟨?_, hpre⟩
 obtain ⟨q1, q2, q3, q4, q5, q6⟩ := hB _ _ hpre
 unfold mfunG
 dsimp only
 generalize mfunT l a = T at *
 generalize Bk T.2 L = e at *
 obtain ⟨b, c, K⟩ := e
 dsimp only at *
 have hs := Qz b
 refine ⟨fit_fun (by omega) rfl (by omega) q1 (fun i hi => ?_), ?_, ?_, ?_, ?_, ?_⟩
 ·have := k2 i hi
  rw [show (0 : Int) + (i : Int) = (i : Int) by omega] at this
  exact this
 ·rw [Qy, depthL_app, W5]
  have h2 : QD T.1 <= 2 := Q8 k3
  omega
 ·rw [Qe, ZG, sizeL1]
  omega
 ·omega
 ·omega
 ·omega
theorem mfuns_q (l : List Int) (Bk : GenF) (hB : ∀ a L, preB a L -> QE 6 13 1 11 (Bk a L).1 a L (Bk a L).2.1 (Bk a L).2.2) : ∀ (n : Nat) (a L : Int), 0 <= a -> a + 400 * n <= 100000 -> -20 + (n : Int) <= L -> L <= 45 -> n <= 9 ->
  (∀ x ∈ (Zw (mfunG l Bk) n a L).1, Wi x 1 = true /\ Qy x <= 14) /\ (Qo (Zw (mfunG l Bk) n a L).1 : Int) <= L + 20 + 13 * n
 | 0, a, L, _, _, _, _, _ => by
  rw [Zw]
  exact ⟨fun x hx => (by cases hx), by simp [Qo];omega⟩
 | n + 1, a, L, ha, hb, hL, hL2, hn => by
  rw [Zw]
  obtain ⟨⟨q1, q2, q3, q4, q5, q6⟩, _⟩ := mfun_q l Bk hB a L ⟨ha, by omega⟩ ⟨by omega, hL2⟩
  have hs := Qz (mfunG l Bk a L).1
  by_cases h45 : (mfunG l Bk a L).2.2 <= 45
  ·obtain ⟨i1, i2⟩ := mfuns_q l Bk hB n (mfunG l Bk a L).2.1 (mfunG l Bk a L).2.2 (by omega) (by omega) (by omega) h45 (by omega)
   refine ⟨fun x hx => ?_, ?_⟩
   ·rcases List.mem_cons.1 hx with rfl|hx
    ·exact ⟨q1, q2⟩
    ·exact i1 x hx
   ·rw [Qo];omega
  ·exfalso
   have := mfun_q l Bk hB a L ⟨ha, by omega⟩ ⟨by omega, hL2⟩
   have h2 := hB _ _ this.2
   have h3 := h2.size
   have h4 := Qz (Bk (mfunT l a).2 L).1
   have h5 : (mfunG l Bk a L).2.2 = (Bk (mfunT l a).2 L).2.2 := rfl
   omega
def progV (l : List Int) (Bk : GenF) : Nd := .mk 27 (atI l 0 4) 0 (Zw (mfunG l Bk) (1 + atI l 1 3).toNat 2 45).1
theorem progV_ok (l : List Int) (Bk : GenF) (hB : ∀ a L, preB a L -> QE 6 13 1 11 (Bk a L).1 a L (Bk a L).2.1 (Bk a L).2.2) : validM (progV l Bk) = true := by
 have b4 := Qk l 0 (most := 4) (by decide)
 have b3 := Qk l 1 (most := 3) (by decide)
 obtain ⟨h1, h2⟩ := mfuns_q l Bk hB (1 + atI l 1 3).toNat 2 45 (by decide) (by omega) (by omega) (by decide) (by omega)
 have h3 := Wr (mfunG l Bk) (1 + atI l 1 3).toNat 2 45
 exact prog_valid (by omega) (by omega) (fun x hx => ⟨(h1 x hx).1, by have := (h1 x hx).2;omega⟩) (by omega)
end Go.Proofs
end
section
namespace Go.Proofs
open Go.Av
variable {G : Nat -> DV}
attribute [local irreducible] OpSem W7 Zk ZC ACalls qg AClose RV
open Go.Bl
theorem wkGZ {X W0 W1 W2 : Prop} (w0 : W0 := by exact True.intro) (w1 : W1 := by exact True.intro) (w2 : W2 := by exact True.intro) (s : (Unit -> W0) -> (Unit -> W1) -> (Unit -> W2) -> Unit -> X := by (intro w0 w1 w2 _;(repeat' first|(refine QH ?_;(first|refine Wu rfl ?_|refine WJ rfl ?_|(refine We ?_;(first|refine qj rfl rfl ?_|refine Qc rfl rfl rfl ?_))|(refine Qr ?_;(first|refine WE rfl rfl (by omega) ?_|refine Zu rfl rfl ?_|refine s_gtr rfl rfl ?_|refine Z4 rfl rfl (by omega) ?_))|(refine QC ?_;(first|refine Zn (z := v1) rfl rfl rfl rfl rfl rfl rfl (by first|omega|(simp;omega)) (by first|omega|(simp;omega)) (fun _ => rfl) (fun _ _ => ?_)|refine Q9 0 (hnum) rfl rfl rfl rfl ?_|refine Q9 0 (hE1) rfl rfl rfl rfl ?_))|(refine Wz ?_;(first|refine qb rfl rfl ?_|refine Zf rfl rfl ?_))|(refine QI ?_;(first|refine Zg rfl rfl rfl rfl ?_|refine QA rfl rfl rfl rfl (by rfl) (by rfl) (by rfl) ?_))|refine Qd rfl rfl ?_|refine Qq rfl rfl ?_|refine Qh rfl rfl ?_|refine Qw (fun _ _ => ?_)))|(refine QZ ?_;(first|refine QX ?_|refine WT rfl ?_|refine Wf ?_|refine Zx rfl rfl rfl rfl ?_|refine qA rfl rfl rfl rfl ?_|refine WF rfl rfl (by omega) ?_|refine Q0 rfl rfl (by omega) ?_))|(refine QY ?_;(first|refine QW ?_|refine Ql ?_|refine Qu ?_|(refine W8 ?_;first|(refine Qv (fun p => p) 100 [(0, true)] (by rfl) (by rfl) (by kernel_rfl) (by decide +kernel) (by decide +kernel) ⟨_, rfl⟩ ?_)|(refine Qv (fun p => p.1 :: .row g4 [.i 0, .i 0, .i 0, .nil] :: .row g5 [.i 13, .i 0, .i 0, .ref 3 gg 0 o.length 4] :: p.2) 9 [(0, true), (1, true), (2, true), (3, true), (4, true), (5, false), (6, true), (7, false), (8, true), (9, false)] (by rfl) (by rfl) (by kernel_rfl) (by decide +kernel) (by decide +kernel) ⟨(_, _), rfl⟩ ?_)|refine WC (by rfl) (by kernel_rfl) (by kernel_rfl) ?_|refine WB (by kernel_rfl) (by kernel_rfl) ?_)|refine QQ ?_|refine Wn rfl ?_|refine Qn rfl (by omega) ?_|refine Qm rfl (by omega) ?_|refine Zq rfl ?_|refine Q2 ?_))|(refine ZJ ?_;(first|refine qD ?_|refine i_z0 ?_|refine i_st rfl rfl (fun _ => (by (repeat' first|(refine QH ?_;(first|refine Wu rfl ?_|refine Qc rfl rfl rfl ?_|refine Zm rfl rfl hd1 ⟨by omega, by omega⟩ ?_|refine QM (z := v1) rfl rfl (by decide) ?_|refine Qd rfl rfl ?_))|exact ⟨rfl, rfl⟩))) ?_|refine i_ef rfl ?_))|refine And.intro (Exists.intro ((_, _)) rfl) ?_);(all_goals (repeat (rename_i x;(fail_if_success have : Unit := x);revert x)));(first|done|exact w0 ());(first|done|exact w1 ());(first|done|exact w2 ()))) (u : (W0 \/ True) /\ (W1 \/ True) /\ (W2 \/ True) := by (refine ⟨?_, ?_, ?_⟩ <;> first|exact Or.inl True.intro|exact Or.inr True.intro)) : X := s (fun _ => w0) (fun _ => w1) (fun _ => w2) ()
theorem mkBlock (l : List Int) (hl : OkI l) (e : Nat) (he : e <= 8) (S : GenF) (hS : ∀ a L, preS a L -> QE 5 (2 * e + 4) 5 (7 + e) (S a L).1 a L (S a L).2.1 (S a L).2.2 /\ CE Tryz.prog G 80 (fun p g => [.ptr p g 0, .i ((e : Int) - 1)]) (Za l a L) (.agg (Enc.enc (S a L).1)) (Za l (S a L).2.1 (S a L).2.2)) :
  ∃ Bk : GenF, ∀ a L, preB a L -> QE 6 (2 * e + 5) 1 (7 + e) (Bk a L).1 a L (Bk a L).2.1 (Bk a L).2.2 /\ CE Tryz.prog G 39 (fun p g => [.ptr p g 0, .i (e : Nat)]) (Za l a L) (.agg (Enc.enc (Bk a L).1)) (Za l (Bk a L).2.1 (Bk a L).2.2) := by
 refine Zt (pre := preB) (R := fun a L t => QE 6 (2 * e + 5) 1 (7 + e) t.1 a L t.2.1 t.2.2 /\ CE Tryz.prog G 39 (fun p g => [.ptr p g 0, .i (e : Nat)]) (Za l a L) (.agg (Enc.enc t.1)) (Za l t.2.1 t.2.2)) fun a L h => ?_
 obtain ⟨p1, p2, p3, p4⟩ := h
 have b4 := Qk l a (most := 4) (by decide)
 obtain ⟨N, hN⟩ : ∃ N : Nat, atI l a 4 = (N : Int) := ⟨(atI l a 4).toNat, by omega⟩
 have hq := run_p (S := S) (dep := 2 * e + 4) (c := 7 + e) (by omega) (fun a L h => (hS a L h).1) N (a + 1) (L - 1) (by omega) (by omega) (by omega)
 have hln := runP_len S N (a + 1) (L - 1)
 refine ⟨(.mk 13 0 0 (runP S N (a + 1) (L - 1)).1, (runP S N (a + 1) (L - 1)).2), ?_, fun g B hg => ?_⟩
 ·have q1 := hq.low
  have q2 := hq.mono
  have q3 := hq.used
  have q4 := hq.size
  have q5 := Q8 hq.dep
  refine ⟨QV ⟨6, 0, 0, 0, [], 8, 0, 5⟩ rfl (by decide) (by decide) (by decide) (by decide) (by dsimp only;simp;omega) (kidsA rfl hq.fit), ?_, ?_, ?_, ?_, ?_⟩
  ·rw [Qy];omega
  ·rw [Qe];dsimp only;omega
  ·dsimp only;omega
  ·dsimp only;omega
  ·dsimp only;omega
 clear hq
 have hnum := QR (G := G) l hl a L 4 (by omega) (by omega)
 rw [hN] at hnum b4
 generalize hT : runP S N (a + 1) (L - 1) = T at *
 refine Qa Tryz.func39 rfl Tryz.ntmps39 rfl (t := [(0, .ptr 0 g 0), (1, .i (e : Nat))]) rfl fun E0 hE0 => ?_
 (refine wkGZ ?_;intros)
 rename_i g4 hg4 g5 hg5
 refine r_ownin 2 3 4 rfl rfl (fun _ => rfl) (fun gk hgk => ?_)
 refine r_loop5 (fun (i : Nat) (o : List Nd) (b M : Int) (gg : Nat) => ⟨[(0, .ptr 0 g 0), (1, .i (e : Nat)), (4, .ptr 1 g4 0), (5, .ptr 2 g5 0), (6, .i N), (7, .i i)], [.row g (Za l b M), .row g4 [.i 0, .i 0, .i 0, .nil], .row g5 [.i 13, .i 0, .i 0, .ref 3 gg 0 o.length 4], .row gg (Q1 o)]⟩) (fun i o b M gg => i <= N /\ o.length <= i /\ E0.N < gg /\ o ++ (runP S (N - i) b M).1 = T.1 /\ (runP S (N - i) b M).2 = T.2 /\ 0 <= b /\ b + 4 * M <= 1000000000 /\ M <= 500 /\ -100 <= M) (fun i _ _ _ _ => N - i) 0 [] (a + 1) (L - 1) gk ?_ ⟨by omega, by simp, hgk, by rw [Nat.sub_zero, hT];rfl, by rw [Nat.sub_zero, hT], by omega, by omega, by omega, by omega⟩ ?_
 ·exact zal rfl
 intro i o b M gg ⟨hi, hol, hgg, h1, h2, m1, m2, m3, m4⟩
 by_cases hiN : i < N
 ·rw [show N - i = (N - (i + 1)) + 1 by omega, runP] at h1 h2
  by_cases hM : 0 < M
  ·rw [if_pos hM] at h1 h2
   obtain ⟨hq, hE1⟩ := hS b M ⟨m1, m2, by omega, m3⟩
   have q1 := hq.low
   have q2 := hq.mono
   have q3 := hq.used
   have q4 := hq.size
   have hd1 : ((e : Nat) : Int) - 1 = (e : Int) - 1 := rfl
   generalize S b M = t at *
   obtain ⟨v1, b1, M1⟩ := t
   dsimp only at *
   have hs := Qz v1
   clear hS
   (refine wkGZ ?_;intros)
   refine ⟨i + 1, o ++ [v1], b1, M1, _, ⟨by omega, by simp;omega, by assumption, by rw [List.append_assoc];exact h1, h2, by omega, by omega, by omega, by omega⟩, by omega, ?_⟩
   exact zal rfl
  ·rw [if_neg hM] at h1 h2
   dsimp only at h1 h2
   rw [List.append_nil] at h1
   rw [<- h1, <- h2]
   clear hS
   (refine wkGZ ?_;intros)
   exact e_1 (Tryz.results39) (Qf (size := 4) rfl rfl rfl rfl) (W6 (D := fun d => .agg [.i 13, .i 0, .i 0, d]) (k := 2) (.node rfl rfl rfl) rfl (by rw [Qx];rfl) (by rw [Qp];rfl) rfl)
 ·have hie : N - i = 0 := by omega
  rw [hie, runP] at h1 h2
  dsimp only at h1 h2
  rw [List.append_nil] at h1
  rw [<- h1, <- h2]
  clear hS
  (refine wkGZ ?_;intros)
  exact e_1 (Tryz.results39) (Qf (size := 4) rfl rfl rfl rfl) (W6 (D := fun d => .agg [.i 13, .i 0, .i 0, d]) (k := 2) (.node rfl rfl rfl) rfl (by rw [Qx];rfl) (by rw [Qp];rfl) rfl)
end Go.Proofs
end
