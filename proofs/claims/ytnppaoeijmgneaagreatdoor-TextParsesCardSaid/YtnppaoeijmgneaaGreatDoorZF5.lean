/-
  Part 5 of the proof: GB AvB3 GC GD AvD3 SA SB SS S3 S4 BW CH GX SQ GZ GW SR BK Q0.
-/
import Derived.Test.YtnppaoeijmgneaaGreatDoorZF1
import Derived.Test.YtnppaoeijmgneaaGreatDoorZF2
import Derived.Test.YtnppaoeijmgneaaGreatDoorZF3
import Derived.Test.YtnppaoeijmgneaaGreatDoorZF4
set_option linter.unusedSimpArgs false
set_option linter.unusedVariables false
set_option maxRecDepth 10000
set_option maxHeartbeats 4000000
section
namespace Go.Proofs
open Go.Av
variable {G : Nat -> DV}
attribute [local irreducible] OpSem WR Zc Zp ACalls ZS AClose RV
open Go.Bl
def preE (a L : Int) : Prop := 0 <= a /\ a + 4 * L <= 1000000000 /\ -100 <= L /\ L <= 500
structure QE (w : Int) (dep : Nat) (c1 c : Int) (v : Nd) (a L a' L' : Int) : Prop where
 fit : Qp v w = true
 dep : Q5 v <= dep
 size : L' + (Qk v : Int) <= L
 low : L - c1 <= L' \/ -c <= L'
 mono : a <= a'
 used : a' + 4 * L' <= a + 4 * L
structure QL (w : Int) (dep : Nat) (n c : Int) (ks : List Nd) (a L a' L' : Int) : Prop where
 fit : ∀ x ∈ ks, Qp x w = true
 dep : ∀ x ∈ ks, Q5 x <= dep
 size : L' + (Qs ks : Int) <= L
 low : L - n <= L' \/ -(c + n - 1) <= L'
 mono : a <= a'
 used : a' + 4 * L' <= a + 4 * L
theorem run_q {E : GenF} {w : Int} {dep : Nat} {c : Int} (hc : 0 <= c /\ c <= 40) (hE : ∀ a L, preE a L -> QE w dep 1 c (E a L).1 a L (E a L).2.1 (E a L).2.2) : ∀ (n : Nat) (a L : Int), n <= 10 -> preE a L -> -50 <= L - n -> QL w dep n c (runM E n a L).1 a L (runM E n a L).2.1 (runM E n a L).2.2
 | 0, a, L, _, h, _ => by
  rw [runM]
  exact ⟨fun x hx => (by cases hx), fun x hx => (by cases hx), by simp [Qs], .inl (by simp), by simp, by simp⟩
 | n + 1, a, L, hn, h, h50 => by
  have h1 := hE a L h
  obtain ⟨p1, p2, p3, p4⟩ := h
  have hs := QZ (E a L).1
  have q1 := h1.low
  have q2 := h1.mono
  have q3 := h1.used
  have q4 := h1.size
  have ih := run_q hc hE n (E a L).2.1 (E a L).2.2 (by omega) ⟨by omega, by omega, by omega, by omega⟩ (by omega)
  have r1 := ih.low
  have r2 := ih.mono
  have r3 := ih.used
  have r4 := ih.size
  rw [runM]
  generalize runM E n (E a L).2.1 (E a L).2.2 = R at *
  generalize E a L = e at *
  refine ⟨fun x hx => ?_, fun x hx => ?_, ?_, ?_, ?_, ?_⟩
  ·rcases List.mem_cons.1 hx with rfl|hx
   ·exact h1.fit
   ·exact ih.fit x hx
  ·rcases List.mem_cons.1 hx with rfl|hx
   ·exact h1.dep
   ·exact ih.dep x hx
  ·rw [Qs];dsimp only;omega
  ·dsimp only;omega
  ·dsimp only;omega
  ·dsimp only;omega
theorem wkGB {X W0 W1 W2 : Prop} (w0 : W0 := by exact True.intro) (w1 : W1 := by exact True.intro) (w2 : W2 := by exact True.intro) (s : (Unit -> W0) -> (Unit -> W1) -> (Unit -> W2) -> Unit -> X := by (intro w0 w1 w2 _;(repeat' first|(refine Qz ?_;(first|refine Ws rfl ?_|refine WM rfl ?_|refine Qc rfl rfl rfl ?_|(refine Qw ?_;(first|refine s_sub_as2 rfl rfl hd1 ⟨by omega, by omega⟩ ?_|refine qC rfl rfl (by omega) ?_|refine Zw rfl rfl ?_|refine qv rfl rfl ?_|refine WX rfl rfl ?_|refine ZU rfl rfl (by omega) ?_|refine s_rem rfl rfl (by first|omega|exact nn_shr (by omega)) (by omega) ?_))|(refine QK ?_;(first|refine Zy (z := v1) rfl rfl rfl rfl rfl rfl rfl (by first|omega|(simp;omega)) (by first|omega|(simp;omega)) (fun _ => rfl) (fun _ _ => ?_)|refine Wh 0 (hnum) rfl rfl rfl rfl ?_|refine Wh 0 (Zo l hl _ _ _ (by omega) (by omega)) rfl rfl rfl rfl ?_|refine Wh 0 (hE1) rfl rfl rfl rfl ?_|refine Wh 0 (hE2) rfl rfl rfl rfl ?_|refine Wh 0 (hS1) rfl rfl rfl rfl ?_))|(refine Q1 ?_;(first|refine ZO rfl rfl ?_|refine W9 rfl rfl ?_))|(refine Wr ?_;(first|refine qh rfl rfl rfl rfl ?_|refine Wg rfl rfl rfl rfl (by rfl) (by rfl) (by rfl) ?_))|(refine ZA ?_;(first|refine WO (y := v1) (z := v2) rfl rfl (by decide) ?_|refine QO (z := v1) rfl rfl (by decide) ?_))|refine Qe rfl rfl ?_|refine QB rfl rfl ?_|refine Qj rfl rfl ?_|refine QU (fun _ _ => ?_)))|(refine We ?_;(first|refine Wb ?_|refine Zg rfl ?_|refine WI ?_|refine qd rfl rfl rfl rfl ?_|refine qw rfl rfl rfl rfl ?_|refine WN rfl rfl (by omega) ?_|refine WD rfl rfl (by omega) ?_))|(refine Wc ?_;(first|refine Q7 ?_|refine Qm ?_|refine QM ?_|refine QV ?_|refine QD rfl ?_|refine Qu rfl (by omega) ?_|refine Qn rfl (by omega) ?_|refine W8 rfl ?_|refine Wi ?_)));(all_goals (repeat (rename_i x;(fail_if_success have : Unit := x);revert x)));(first|done|exact w0 ());(first|done|exact w1 ());(first|done|exact w2 ()))) (u : (W0 \/ True) /\ (W1 \/ True) /\ (W2 \/ True) := by (refine ⟨?_, ?_, ?_⟩ <;> first|exact Or.inl True.intro|exact Or.inr True.intro)) : X := s (fun _ => w0) (fun _ => w1) (fun _ => w2) ()
theorem chLeaf (l : List Int) (hl : OkI l) (dd a L : Int) (h : preE a L) (hd : dd <= 0 \/ (0 < dd /\ L - 1 <= 0)) (hd2 : -10 <= dd /\ dd <= 10) :
  ∃ t : Nd × Int × Int, QE 4 1 1 0 t.1 a L t.2.1 t.2.2 /\ CE Tryz.prog G 125 (fun p g => [.ptr p g 0, .i dd]) (genC l a L) (.agg (Enc.enc t.1)) (genC l t.2.1 t.2.2) := by
 obtain ⟨p1, p2, p3, p4⟩ := h
 have bx := QQ l a (most := 12) (by decide)
 have b16 := QQ l (a + 1) (most := 16) (by decide)
 have b2 := QQ l (a + 1) (most := 2) (by decide)
 have b6 := QQ l (a + 1) (most := 6) (by decide)
 have b3 := QQ l (a + 1) (most := 3) (by decide)
 have b14 := QQ l (a + 1) (most := 14) (by decide)
 have b32 := QQ l (a + 1 + 1) (most := 3) (by decide)
 have b4 := QQ l (a + 1 + 1) (most := 4) (by decide)
 have hx : atI l a 12 % 4 = 0 \/ atI l a 12 % 4 = 1 \/ atI l a 12 % 4 = 2 \/ atI l a 12 % 4 = 3 := by omega
 rcases hd with hd|hd
 ·rcases hx with hx|hx|hx|hx
  ·refine ⟨((.mk 4 (atI l (a + 1) 16 - 8) (0) []), a + 1 + 1, L - 1), ?_, fun g B hg => ?_⟩
   ·refine ⟨Zh ⟨4, -8, 7, 0, [], 0, 0, 0⟩ rfl (by decide) (by decide) (by dsimp only;omega) (by dsimp only;omega) (by first|(simp;done)|(simp;omega)) (kids0), ?_, ?_, ?_, ?_, ?_⟩
    ·rw [Q5];(try simp only [Q6, qO, qZ]);omega
    ·rw [Qk];(try simp only [Qs]);omega
    ·dsimp only;omega
    ·dsimp only;omega
    ·dsimp only;omega
   ·refine Qa Tryz.func125 rfl Tryz.ntmps125 rfl (t := [(0, .ptr 0 g 0), (1, .i dd)]) rfl fun E0 hE0 => ?_
    (refine wkGB ?_;intros)
    exact e_1 (Tryz.results125) (Qg (size := 4) rfl rfl rfl rfl) (WU (es := 4) (.node rfl rfl rfl) (by show _ = DV.agg (Enc.enc (Nd.mk _ _ _ []));rw [Qr];rfl) rfl)
  ·refine ⟨((.mk 5 (atI l (a + 1) 2) (0) []), a + 1 + 1, L - 1), ?_, fun g B hg => ?_⟩
   ·refine ⟨Zh ⟨4, 0, 1, 0, [], 0, 0, 0⟩ rfl (by decide) (by decide) (by dsimp only;omega) (by dsimp only;omega) (by first|(simp;done)|(simp;omega)) (kids0), ?_, ?_, ?_, ?_, ?_⟩
    ·rw [Q5];(try simp only [Q6, qO, qZ]);omega
    ·rw [Qk];(try simp only [Qs]);omega
    ·dsimp only;omega
    ·dsimp only;omega
    ·dsimp only;omega
   ·refine Qa Tryz.func125 rfl Tryz.ntmps125 rfl (t := [(0, .ptr 0 g 0), (1, .i dd)]) rfl fun E0 hE0 => ?_
    (refine wkGB ?_;intros)
    exact e_1 (Tryz.results125) (Qg (size := 4) rfl rfl rfl rfl) (WU (es := 4) (.node rfl rfl rfl) (by show _ = DV.agg (Enc.enc (Nd.mk _ _ _ []));rw [Qr];rfl) rfl)
  ·refine ⟨((.mk 6 (atI l (a + 1) 6) (0) []), a + 1 + 1, L - 1), ?_, fun g B hg => ?_⟩
   ·refine ⟨Zh ⟨4, 0, 5, 0, [], 0, 0, 0⟩ rfl (by decide) (by decide) (by dsimp only;omega) (by dsimp only;omega) (by first|(simp;done)|(simp;omega)) (kids0), ?_, ?_, ?_, ?_, ?_⟩
    ·rw [Q5];(try simp only [Q6, qO, qZ]);omega
    ·rw [Qk];(try simp only [Qs]);omega
    ·dsimp only;omega
    ·dsimp only;omega
    ·dsimp only;omega
   ·refine Qa Tryz.func125 rfl Tryz.ntmps125 rfl (t := [(0, .ptr 0 g 0), (1, .i dd)]) rfl fun E0 hE0 => ?_
    (refine wkGB ?_;intros)
    exact e_1 (Tryz.results125) (Qg (size := 4) rfl rfl rfl rfl) (WU (es := 4) (.node rfl rfl rfl) (by show _ = DV.agg (Enc.enc (Nd.mk _ _ _ []));rw [Qr];rfl) rfl)
  ·refine ⟨((.mk 12 (atI l (a + 1) 3) (0) []), a + 1 + 1, L - 1), ?_, fun g B hg => ?_⟩
   ·refine ⟨Zh ⟨4, 0, 2, 0, [], 0, 0, 0⟩ rfl (by decide) (by decide) (by dsimp only;omega) (by dsimp only;omega) (by first|(simp;done)|(simp;omega)) (kids0), ?_, ?_, ?_, ?_, ?_⟩
    ·rw [Q5];(try simp only [Q6, qO, qZ]);omega
    ·rw [Qk];(try simp only [Qs]);omega
    ·dsimp only;omega
    ·dsimp only;omega
    ·dsimp only;omega
   ·refine Qa Tryz.func125 rfl Tryz.ntmps125 rfl (t := [(0, .ptr 0 g 0), (1, .i dd)]) rfl fun E0 hE0 => ?_
    (refine wkGB ?_;intros)
    exact e_1 (Tryz.results125) (Qg (size := 4) rfl rfl rfl rfl) (WU (es := 4) (.node rfl rfl rfl) (by show _ = DV.agg (Enc.enc (Nd.mk _ _ _ []));rw [Qr];rfl) rfl)
 ·rcases hx with hx|hx|hx|hx
  ·refine ⟨((.mk 4 (atI l (a + 1) 16 - 8) (0) []), a + 1 + 1, L - 1), ?_, fun g B hg => ?_⟩
   ·refine ⟨Zh ⟨4, -8, 7, 0, [], 0, 0, 0⟩ rfl (by decide) (by decide) (by dsimp only;omega) (by dsimp only;omega) (by first|(simp;done)|(simp;omega)) (kids0), ?_, ?_, ?_, ?_, ?_⟩
    ·rw [Q5];(try simp only [Q6, qO, qZ]);omega
    ·rw [Qk];(try simp only [Qs]);omega
    ·dsimp only;omega
    ·dsimp only;omega
    ·dsimp only;omega
   ·refine Qa Tryz.func125 rfl Tryz.ntmps125 rfl (t := [(0, .ptr 0 g 0), (1, .i dd)]) rfl fun E0 hE0 => ?_
    (refine wkGB ?_;intros)
    exact e_1 (Tryz.results125) (Qg (size := 4) rfl rfl rfl rfl) (WU (es := 4) (.node rfl rfl rfl) (by show _ = DV.agg (Enc.enc (Nd.mk _ _ _ []));rw [Qr];rfl) rfl)
  ·refine ⟨((.mk 5 (atI l (a + 1) 2) (0) []), a + 1 + 1, L - 1), ?_, fun g B hg => ?_⟩
   ·refine ⟨Zh ⟨4, 0, 1, 0, [], 0, 0, 0⟩ rfl (by decide) (by decide) (by dsimp only;omega) (by dsimp only;omega) (by first|(simp;done)|(simp;omega)) (kids0), ?_, ?_, ?_, ?_, ?_⟩
    ·rw [Q5];(try simp only [Q6, qO, qZ]);omega
    ·rw [Qk];(try simp only [Qs]);omega
    ·dsimp only;omega
    ·dsimp only;omega
    ·dsimp only;omega
   ·refine Qa Tryz.func125 rfl Tryz.ntmps125 rfl (t := [(0, .ptr 0 g 0), (1, .i dd)]) rfl fun E0 hE0 => ?_
    (refine wkGB ?_;intros)
    exact e_1 (Tryz.results125) (Qg (size := 4) rfl rfl rfl rfl) (WU (es := 4) (.node rfl rfl rfl) (by show _ = DV.agg (Enc.enc (Nd.mk _ _ _ []));rw [Qr];rfl) rfl)
  ·refine ⟨((.mk 6 (atI l (a + 1) 6) (0) []), a + 1 + 1, L - 1), ?_, fun g B hg => ?_⟩
   ·refine ⟨Zh ⟨4, 0, 5, 0, [], 0, 0, 0⟩ rfl (by decide) (by decide) (by dsimp only;omega) (by dsimp only;omega) (by first|(simp;done)|(simp;omega)) (kids0), ?_, ?_, ?_, ?_, ?_⟩
    ·rw [Q5];(try simp only [Q6, qO, qZ]);omega
    ·rw [Qk];(try simp only [Qs]);omega
    ·dsimp only;omega
    ·dsimp only;omega
    ·dsimp only;omega
   ·refine Qa Tryz.func125 rfl Tryz.ntmps125 rfl (t := [(0, .ptr 0 g 0), (1, .i dd)]) rfl fun E0 hE0 => ?_
    (refine wkGB ?_;intros)
    exact e_1 (Tryz.results125) (Qg (size := 4) rfl rfl rfl rfl) (WU (es := 4) (.node rfl rfl rfl) (by show _ = DV.agg (Enc.enc (Nd.mk _ _ _ []));rw [Qr];rfl) rfl)
  ·refine ⟨((.mk 12 (atI l (a + 1) 3) (0) []), a + 1 + 1, L - 1), ?_, fun g B hg => ?_⟩
   ·refine ⟨Zh ⟨4, 0, 2, 0, [], 0, 0, 0⟩ rfl (by decide) (by decide) (by dsimp only;omega) (by dsimp only;omega) (by first|(simp;done)|(simp;omega)) (kids0), ?_, ?_, ?_, ?_, ?_⟩
    ·rw [Q5];(try simp only [Q6, qO, qZ]);omega
    ·rw [Qk];(try simp only [Qs]);omega
    ·dsimp only;omega
    ·dsimp only;omega
    ·dsimp only;omega
   ·refine Qa Tryz.func125 rfl Tryz.ntmps125 rfl (t := [(0, .ptr 0 g 0), (1, .i dd)]) rfl fun E0 hE0 => ?_
    (refine wkGB ?_;intros)
    exact e_1 (Tryz.results125) (Qg (size := 4) rfl rfl rfl rfl) (WU (es := 4) (.node rfl rfl rfl) (by show _ = DV.agg (Enc.enc (Nd.mk _ _ _ []));rw [Qr];rfl) rfl)
theorem chSome (l : List Int) (hl : OkI l) (d : Nat) (hd : d <= 10) (E : GenF) (hE : ∀ a L, preE a L -> QE 4 (d + 1) 1 (2 * d) (E a L).1 a L (E a L).2.1 (E a L).2.2 /\ CE Tryz.prog G 125 (fun p g => [.ptr p g 0, .i d]) (genC l a L) (.agg (Enc.enc (E a L).1)) (genC l (E a L).2.1 (E a L).2.2)) (a L : Int) (h : preE (a + 1) L) (ha : 0 <= a) (h50 : -40 <= L) :
  CE Tryz.prog G 126 (fun p g => [.ptr p g 0, .i 3, .i ((d : Int) + 1)]) (genC l a L) (Qo (runM E (atI l a 4).toNat (a + 1) L).1) (genC l (runM E (atI l a 4).toNat (a + 1) L).2.1 (runM E (atI l a 4).toNat (a + 1) L).2.2) := fun g B hg => by
 have b4 := QQ l a (most := 4) (by decide)
 obtain ⟨p1, p2, p3, p4⟩ := h
 obtain ⟨N, hN⟩ : ∃ N : Nat, atI l a 4 = (N : Int) := ⟨(atI l a 4).toNat, by omega⟩
 have hnum := Zo (G := G) l hl a L 4 (by omega) (by omega)
 rw [hN] at hnum b4 ⊢
 rw [show ((N : Int)).toNat = N by omega]
 generalize hT : runM E N (a + 1) L = T at *
 refine Qa Tryz.func126 rfl Tryz.ntmps126 rfl (t := [(0, .ptr 0 g 0), (1, .i 3), (2, .i ((d : Int) + 1))]) rfl fun E0 hE1 => ?_
 (refine wkGB ?_;intros)
 refine r_own 7 4 rfl fun gk hgk => ?_
 refine r_loop5 (fun (i : Nat) (o : List Nd) (b M : Int) (gg : Nat) => ⟨[(0, .ptr 0 g 0), (2, .i ((d : Int) + 1)), (7, .ref 1 gg 0 o.length 4), (8, .i N), (9, .i i)], [.row g (genC l b M), .row gg (Wf o)]⟩) (fun i o b M gg => i <= N /\ o.length = i /\ E0.N < gg /\ o ++ (runM E (N - i) b M).1 = T.1 /\ (runM E (N - i) b M).2 = T.2 /\ preE b M /\ -50 <= M - ((N : Int) - i)) (fun i _ _ _ _ => N - i) 0 [] (a + 1) L gk ?_ ⟨by omega, rfl, hgk, by rw [Nat.sub_zero, hT];rfl, by rw [Nat.sub_zero, hT], ⟨p1, p2, p3, p4⟩, by omega⟩ ?_
 ·exact zal rfl
 intro i o b M gg ⟨hi, hol, hgg, h1, h2, hp, h50⟩
 by_cases hiN : i < N
 ·obtain ⟨hq, hE1⟩ := hE b M hp
  rw [show N - i = (N - (i + 1)) + 1 by omega, runM] at h1 h2
  have q1 := hq.low
  have q2 := hq.mono
  have q3 := hq.used
  have q4 := hq.size
  obtain ⟨p1, p2, p3, p4⟩ := hp
  have hd1 : (d : Int) + 1 - 1 = (d : Int) := by omega
  generalize E b M = e at *
  obtain ⟨v1, b1, M1⟩ := e
  dsimp only at *
  have hs := QZ v1
  clear hE
  (refine wkGB ?_;intros)
  refine ⟨i + 1, o ++ [v1], b1, M1, _, ⟨by omega, by simp [hol], by assumption, by rw [List.append_assoc];exact h1, h2, ⟨by omega, by omega, by omega, by omega⟩, by omega⟩, by omega, ?_⟩
  exact zal rfl
 ·have hie : N - i = 0 := by omega
  rw [hie, runM] at h1 h2
  dsimp only at h1 h2
  rw [List.append_nil] at h1
  rw [<- h1, <- h2]
  clear hE
  (refine wkGB ?_;intros)
  exact e_1 (Tryz.results126) (Qb rfl) (WK (D := fun d => d) (k := 0) .id rfl (by rw [Qx];rfl) rfl rfl)
theorem chExpr (l : List Int) (hl : OkI l) : ∀ (d : Nat), d <= 10 -> ∃ E : GenF, ∀ a L, preE a L -> QE 4 (d + 1) 1 (2 * d) (E a L).1 a L (E a L).2.1 (E a L).2.2 /\ CE Tryz.prog G 125 (fun p g => [.ptr p g 0, .i d]) (genC l a L) (.agg (Enc.enc (E a L).1)) (genC l (E a L).2.1 (E a L).2.2) := by
 intro d
 induction d with
 | zero =>
  intro _
  refine gen_skolem (pre := preE) (R := fun a L t => QE 4 (0 + 1) 1 (2 * (0 : Nat)) t.1 a L t.2.1 t.2.2 /\ CE Tryz.prog G 125 (fun p g => [.ptr p g 0, .i (0 : Nat)]) (genC l a L) (.agg (Enc.enc t.1)) (genC l t.2.1 t.2.2)) fun a L h => ?_
  obtain ⟨t, hq, hc⟩ := chLeaf (G := G) l hl 0 a L h (.inl (by decide)) (by decide)
  exact ⟨t, hq, hc⟩
 | succ d ih =>
 intro hd10
 obtain ⟨E, hE⟩ := ih (by omega)
 refine gen_skolem (pre := preE) (R := fun a L t => QE 4 (d + 1 + 1) 1 (2 * (d + 1 : Nat)) t.1 a L t.2.1 t.2.2 /\ CE Tryz.prog G 125 (fun p g => [.ptr p g 0, .i (d + 1 : Nat)]) (genC l a L) (.agg (Enc.enc t.1)) (genC l t.2.1 t.2.2)) fun a L h => ?_
 by_cases hlf : L - 1 <= 0
 ·obtain ⟨t, hq, hc⟩ := chLeaf (G := G) l hl ((d + 1 : Nat) : Int) a L h (.inr ⟨by omega, hlf⟩) (by omega)
  have q1 := hq.low
  have q2 := hq.dep
  exact ⟨t, ⟨hq.fit, by omega, hq.size, by omega, hq.mono, hq.used⟩, hc⟩
 obtain ⟨p1, p2, p3, p4⟩ := h
 have hd1 : ((d + 1 : Nat) : Int) - 1 = (d : Int) := by omega
 have hsm := chSome (G := G) l hl d (by omega) E hE
 have hrq := run_q (E := E) (w := 4) (dep := d + 1) (c := 2 * d) (by omega) fun a L h => (hE a L h).1
 have bx := QQ l a (most := 12) (by decide)
 have b16 := QQ l (a + 1) (most := 16) (by decide)
 have b2 := QQ l (a + 1) (most := 2) (by decide)
 have b6 := QQ l (a + 1) (most := 6) (by decide)
 have b3 := QQ l (a + 1) (most := 3) (by decide)
 have b14 := QQ l (a + 1) (most := 14) (by decide)
 have b32 := QQ l (a + 1 + 1) (most := 3) (by decide)
 have b4 := QQ l (a + 1 + 1) (most := 4) (by decide)
 generalize hdd : ((d + 1 : Nat) : Int) = dd at *
 have hx : atI l a 12 = 0 \/ atI l a 12 = 1 \/ atI l a 12 = 2 \/ atI l a 12 = 3 \/ atI l a 12 = 4 \/ atI l a 12 = 5 \/ atI l a 12 = 6 \/ atI l a 12 = 7 \/ 8 <= atI l a 12 := by omega
 rcases hx with hx|hx|hx|hx|hx|hx|hx|hx|hx
 ·clear hE hrq hsm
  refine ⟨((.mk 4 (atI l (a + 1) 16 - 8) (0) []), a + 1 + 1, L - 1), ?_, fun g B hg => ?_⟩
  ·refine ⟨Zh ⟨4, -8, 7, 0, [], 0, 0, 0⟩ rfl (by decide) (by decide) (by dsimp only;omega) (by dsimp only;omega) (by first|(simp;done)|(simp;omega)) (kids0), ?_, ?_, ?_, ?_, ?_⟩
   ·rw [Q5];(try simp only [Q6, qO, qZ]);omega
   ·rw [Qk];(try simp only [Qs]);omega
   ·dsimp only;omega
   ·dsimp only;omega
   ·dsimp only;omega
  ·refine Qa Tryz.func125 rfl Tryz.ntmps125 rfl (t := [(0, .ptr 0 g 0), (1, .i dd)]) rfl fun E0 hE0 => ?_
   (refine wkGB ?_;intros)
   exact e_1 (Tryz.results125) (Qg (size := 4) rfl rfl rfl rfl) (WU (es := 4) (.node rfl rfl rfl) (by show _ = DV.agg (Enc.enc (Nd.mk _ _ _ []));rw [Qr];rfl) rfl)
 ·clear hE hrq hsm
  refine ⟨((.mk 5 (atI l (a + 1) 2) (0) []), a + 1 + 1, L - 1), ?_, fun g B hg => ?_⟩
  ·refine ⟨Zh ⟨4, 0, 1, 0, [], 0, 0, 0⟩ rfl (by decide) (by decide) (by dsimp only;omega) (by dsimp only;omega) (by first|(simp;done)|(simp;omega)) (kids0), ?_, ?_, ?_, ?_, ?_⟩
   ·rw [Q5];(try simp only [Q6, qO, qZ]);omega
   ·rw [Qk];(try simp only [Qs]);omega
   ·dsimp only;omega
   ·dsimp only;omega
   ·dsimp only;omega
  ·refine Qa Tryz.func125 rfl Tryz.ntmps125 rfl (t := [(0, .ptr 0 g 0), (1, .i dd)]) rfl fun E0 hE0 => ?_
   (refine wkGB ?_;intros)
   exact e_1 (Tryz.results125) (Qg (size := 4) rfl rfl rfl rfl) (WU (es := 4) (.node rfl rfl rfl) (by show _ = DV.agg (Enc.enc (Nd.mk _ _ _ []));rw [Qr];rfl) rfl)
 ·clear hE hrq hsm
  refine ⟨((.mk 6 (atI l (a + 1) 6) (0) []), a + 1 + 1, L - 1), ?_, fun g B hg => ?_⟩
  ·refine ⟨Zh ⟨4, 0, 5, 0, [], 0, 0, 0⟩ rfl (by decide) (by decide) (by dsimp only;omega) (by dsimp only;omega) (by first|(simp;done)|(simp;omega)) (kids0), ?_, ?_, ?_, ?_, ?_⟩
   ·rw [Q5];(try simp only [Q6, qO, qZ]);omega
   ·rw [Qk];(try simp only [Qs]);omega
   ·dsimp only;omega
   ·dsimp only;omega
   ·dsimp only;omega
  ·refine Qa Tryz.func125 rfl Tryz.ntmps125 rfl (t := [(0, .ptr 0 g 0), (1, .i dd)]) rfl fun E0 hE0 => ?_
   (refine wkGB ?_;intros)
   exact e_1 (Tryz.results125) (Qg (size := 4) rfl rfl rfl rfl) (WU (es := 4) (.node rfl rfl rfl) (by show _ = DV.agg (Enc.enc (Nd.mk _ _ _ []));rw [Qr];rfl) rfl)
 ·clear hE hrq hsm
  refine ⟨((.mk 12 (atI l (a + 1) 3) (0) []), a + 1 + 1, L - 1), ?_, fun g B hg => ?_⟩
  ·refine ⟨Zh ⟨4, 0, 2, 0, [], 0, 0, 0⟩ rfl (by decide) (by decide) (by dsimp only;omega) (by dsimp only;omega) (by first|(simp;done)|(simp;omega)) (kids0), ?_, ?_, ?_, ?_, ?_⟩
   ·rw [Q5];(try simp only [Q6, qO, qZ]);omega
   ·rw [Qk];(try simp only [Qs]);omega
   ·dsimp only;omega
   ·dsimp only;omega
   ·dsimp only;omega
  ·refine Qa Tryz.func125 rfl Tryz.ntmps125 rfl (t := [(0, .ptr 0 g 0), (1, .i dd)]) rfl fun E0 hE0 => ?_
   (refine wkGB ?_;intros)
   exact e_1 (Tryz.results125) (Qg (size := 4) rfl rfl rfl rfl) (WU (es := 4) (.node rfl rfl rfl) (by show _ = DV.agg (Enc.enc (Nd.mk _ _ _ []));rw [Qr];rfl) rfl)
 ·clear hrq hsm
  obtain ⟨hq1, hE1⟩ := hE (a + 1 + 1) (L - 1) ⟨by omega, by omega, by omega, by omega⟩
  obtain ⟨f1, d1, s1, w1, m1, u1⟩ := hq1
  generalize E (a + 1 + 1) (L - 1) = e1 at *
  obtain ⟨v1, b1, M1⟩ := e1
  dsimp only at *
  have sp1 := QZ v1
  clear hE
  refine ⟨((.mk 7 (atI l (a + 1) 6) (0) [v1]), b1, M1), ?_, fun g B hg => ?_⟩
  ·refine ⟨Zh ⟨4, 0, 5, 0, [4], 0, 0, 0⟩ rfl (by decide) (by decide) (by dsimp only;omega) (by dsimp only;omega) (by first|(simp;done)|(simp;omega)) (kids1 f1), ?_, ?_, ?_, ?_, ?_⟩
   ·rw [Q5];(try simp only [Q6, qO, qZ]);omega
   ·rw [Qk];(try simp only [Qs]);omega
   ·dsimp only;omega
   ·dsimp only;omega
   ·dsimp only;omega
  ·refine Qa Tryz.func125 rfl Tryz.ntmps125 rfl (t := [(0, .ptr 0 g 0), (1, .i dd)]) rfl fun E0 hE0 => ?_
   (refine wkGB ?_;intros)
   refine e_1 (Tryz.results125) (Qg (size := 4) rfl rfl rfl rfl) ?_
   rw [Qr]
   exact ZI (by first|rfl|(simp [Qo, Wf];try rfl)) rfl
 ·clear hE hrq hsm
  refine ⟨((.mk 8 (atI l (a + 1) 6) (atI l (a + 1 + 1) 3) []), a + 1 + 1 + 1, L - 1), ?_, fun g B hg => ?_⟩
  ·refine ⟨Zh ⟨4, 0, 5, 2, [], 0, 0, 0⟩ rfl (by decide) (by decide) (by dsimp only;omega) (by dsimp only;omega) (by first|(simp;done)|(simp;omega)) (kids0), ?_, ?_, ?_, ?_, ?_⟩
   ·rw [Q5];(try simp only [Q6, qO, qZ]);omega
   ·rw [Qk];(try simp only [Qs]);omega
   ·dsimp only;omega
   ·dsimp only;omega
   ·dsimp only;omega
  ·refine Qa Tryz.func125 rfl Tryz.ntmps125 rfl (t := [(0, .ptr 0 g 0), (1, .i dd)]) rfl fun E0 hE0 => ?_
   (refine wkGB ?_;intros)
   exact e_1 (Tryz.results125) (Qg (size := 4) rfl rfl rfl rfl) (WU (es := 4) (.node rfl rfl rfl) (by show _ = DV.agg (Enc.enc (Nd.mk _ _ _ []));rw [Qr];rfl) rfl)
 ·clear hrq hsm
  obtain ⟨hq1, hE1⟩ := hE (a + 1) (L - 1) ⟨by omega, by omega, by omega, by omega⟩
  obtain ⟨f1, d1, s1, w1, m1, u1⟩ := hq1
  generalize E (a + 1) (L - 1) = e1 at *
  obtain ⟨v1, b1, M1⟩ := e1
  dsimp only at *
  have sp1 := QZ v1
  clear hE
  refine ⟨((.mk 10 (0) (0) [v1]), b1, M1), ?_, fun g B hg => ?_⟩
  ·refine ⟨Zh ⟨4, 0, 0, 0, [4], 0, 0, 0⟩ rfl (by decide) (by decide) (by dsimp only;omega) (by dsimp only;omega) (by first|(simp;done)|(simp;omega)) (kids1 f1), ?_, ?_, ?_, ?_, ?_⟩
   ·rw [Q5];(try simp only [Q6, qO, qZ]);omega
   ·rw [Qk];(try simp only [Qs]);omega
   ·dsimp only;omega
   ·dsimp only;omega
   ·dsimp only;omega
  ·refine Qa Tryz.func125 rfl Tryz.ntmps125 rfl (t := [(0, .ptr 0 g 0), (1, .i dd)]) rfl fun E0 hE0 => ?_
   (refine wkGB ?_;intros)
   refine e_1 (Tryz.results125) (Qg (size := 4) rfl rfl rfl rfl) ?_
   rw [Qr]
   exact ZI (by first|rfl|(simp [Qo, Wf];try rfl)) rfl
 ·have hS1 := hsm (a + 1 + 1) (L - 1) ⟨by omega, by omega, by omega, by omega⟩ (by omega) (by omega)
  have hb := QQ l (a + 1 + 1) (most := 4) (by decide)
  obtain ⟨N, hN⟩ : ∃ N : Nat, atI l (a + 1 + 1) 4 = (N : Int) := ⟨(atI l (a + 1 + 1) 4).toNat, by omega⟩
  rw [hN, show ((N : Int)).toNat = N by omega] at hS1
  have hq := hrq N (a + 1 + 1 + 1) (L - 1) (by omega) ⟨by omega, by omega, by omega, by omega⟩ (by omega)
  have hln := runM_len E N (a + 1 + 1 + 1) (L - 1)
  obtain ⟨f1, d1, s1, w1, m1, u1⟩ := hq
  generalize runM E N (a + 1 + 1 + 1) (L - 1) = T at *
  obtain ⟨ks, b1, M1⟩ := T
  dsimp only at *
  have hdl := depthL_le d1
  rw [show (d : Int) + 1 = dd by omega] at hS1
  clear hE hrq hsm
  refine ⟨((.mk 11 (atI l (a + 1) 6) (0) ks), b1, M1), ?_, fun g B hg => ?_⟩
  ·refine ⟨Zh ⟨4, 0, 5, 0, [], 3, 0, 4⟩ rfl (by decide) (by decide) (by dsimp only;omega) (by dsimp only;omega) (by first|(simp;done)|(simp;omega)) (kidsA rfl f1), ?_, ?_, ?_, ?_, ?_⟩
   ·rw [Q5];(try simp only [Q6, qO, qZ]);omega
   ·rw [Qk];(try simp only [Qs]);omega
   ·dsimp only;omega
   ·dsimp only;omega
   ·dsimp only;omega
  ·refine Qa Tryz.func125 rfl Tryz.ntmps125 rfl (t := [(0, .ptr 0 g 0), (1, .i dd)]) rfl fun E0 hE0 => ?_
   (refine wkGB ?_;intros)
   refine e_1 (Tryz.results125) (Qg (size := 4) rfl rfl rfl rfl) ?_
   rw [Qr]
   exact ZI (by first|rfl|(simp [Qo, Wf];try rfl)) rfl
 ·clear hrq hsm
  obtain ⟨hq1, hE1⟩ := hE (a + 1 + 1) (L - 1) ⟨by omega, by omega, by omega, by omega⟩
  obtain ⟨f1, d1, s1, w1, m1, u1⟩ := hq1
  generalize E (a + 1 + 1) (L - 1) = e1 at *
  obtain ⟨v1, b1, M1⟩ := e1
  dsimp only at *
  have sp1 := QZ v1
  obtain ⟨hq2, hE2⟩ := hE (b1) (M1) ⟨by omega, by omega, by omega, by omega⟩
  obtain ⟨f2, d2, s2, w2, m2, u2⟩ := hq2
  generalize E (b1) (M1) = e2 at *
  obtain ⟨v2, b2, M2⟩ := e2
  dsimp only at *
  have sp2 := QZ v2
  clear hE
  refine ⟨((.mk 9 (atI l (a + 1) 14) (0) [v1, v2]), b2, M2), ?_, fun g B hg => ?_⟩
  ·refine ⟨Zh ⟨4, 0, 13, 0, [4, 4], 0, 0, 0⟩ rfl (by decide) (by decide) (by dsimp only;omega) (by dsimp only;omega) (by first|(simp;done)|(simp;omega)) (kids2 f1 f2), ?_, ?_, ?_, ?_, ?_⟩
   ·rw [Q5];(try simp only [Q6, qO, qZ]);omega
   ·rw [Qk];(try simp only [Qs]);omega
   ·dsimp only;omega
   ·dsimp only;omega
   ·dsimp only;omega
  ·refine Qa Tryz.func125 rfl Tryz.ntmps125 rfl (t := [(0, .ptr 0 g 0), (1, .i dd)]) rfl fun E0 hE0 => ?_
   (refine wkGB ?_;intros)
   refine e_1 (Tryz.results125) (Qg (size := 4) rfl rfl rfl rfl) ?_
   rw [Qr]
   exact ZI (by first|rfl|(simp [Qo, Wf];try rfl)) rfl
end Go.Proofs
end
section
namespace Go.Av
open Classical
theorem spliceD_mid : ∀ (l1 l rest : List DV) (d : DV) (ds : List DV), l.length = (d :: ds).length -> Zq (l1 ++ (l ++ rest)) l1.length (d :: ds) = some (l1 ++ ((d :: ds) ++ rest))
 | [], l, rest, d, ds, h => spliceD_pre l (d :: ds) rest h
 | x :: r, l, rest, d, ds, h => by
  have ih := spliceD_mid r l rest d ds h
  show (match Zq (r ++ (l ++ rest)) r.length (d :: ds) with|some r' => some (x :: r')|none => none) = _
  rw [ih];rfl
theorem fill_three {zs : List Value} {cs ds es : List DV} {n : Nat} (h1 : zs.length = n) (h2 : cs.length = n) (h3 : ds.length = n) (h4 : es.length = n) (h0 : 0 < n) : fillD (fun i => some (i * n, n)) (WE zs 3) [(0, .agg cs), (1, .agg ds), (2, .agg es)] = some (cs ++ (ds ++ es)) := by
 have hz : WE zs 3 = WE zs 1 ++ (WE zs 1 ++ WE zs 1) := by simp [WE, List.replicate]
 have hz1 : (WE zs 1).length = n := by rw [Z8, h1];omega
 cases cs with
 | nil => simp at h2;omega
 | cons e r =>
 cases ds with
 | nil => simp at h3;omega
 | cons e2 r2 =>
 cases es with
 | nil => simp at h4;omega
 | cons e3 r3 =>
  have hb : Nat.beq (e :: r).length n = true := by rw [h2];exact Nat.beq_refl n
  have hb2 : Nat.beq (e2 :: r2).length n = true := by rw [h3];exact Nat.beq_refl n
  have hb3 : Nat.beq (e3 :: r3).length n = true := by rw [h4];exact Nat.beq_refl n
  have s1 : Zq (WE zs 1 ++ (WE zs 1 ++ WE zs 1)) 0 (e :: r) = some ((e :: r) ++ (WE zs 1 ++ WE zs 1)) := spliceD_pre (WE zs 1) (e :: r) _ (by rw [hz1, h2])
  have s2 : Zq ((e :: r) ++ (WE zs 1 ++ WE zs 1)) n (e2 :: r2) = some ((e :: r) ++ ((e2 :: r2) ++ WE zs 1)) := by
   have := spliceD_mid (e :: r) (WE zs 1) (WE zs 1) e2 r2 (by rw [hz1, h3])
   rwa [h2] at this
  have s3 : Zq ((e :: r) ++ ((e2 :: r2) ++ WE zs 1)) (2 * n) (e3 :: r3) = some ((e :: r) ++ ((e2 :: r2) ++ (e3 :: r3))) := by
   have := spliceD_at ((e :: r) ++ (e2 :: r2)) (WE zs 1) e3 r3 (by rw [hz1, h4])
   rw [List.append_assoc, List.append_assoc, List.length_append, h2, h3, show n + n = 2 * n by omega] at this
   exact this
  rw [hz]
  simp only [fillD, dcells, hb, hb2, hb3, Nat.zero_mul, Nat.one_mul, s1, s2, s3]
  exact forceD_same _
theorem qU {P : Program} {G : Nat -> DV} {B : Nat} {f : Operand -> DV} {σ : List ABlk} {K : DV -> List ABlk -> Prop} {dst : Option Tmp} {type : TypeId} {pos : String} {after : Array Edge} {gd : Option (Nat × Bool)} {α : Type} [Enc α] {x y z : α} {t e : Nat} {g1 g2 : Bool} {z1 : Nat} {td : TypeDesc} {zs : List Value} {ps : List (Nat × Operand)} [ht : TyI P t (.slice e) g1 z1] [he : TyI P e td g2 (Enc.es α)] [hz : TyZ P e zs] (hzl : zs.length = Enc.es α) (hp : partsD f ps = some [(0, .agg (Enc.enc x)), (1, .agg (Enc.enc y)), (2, .agg (Enc.enc z))]) (hn : 3 * Enc.es α <= 16777216)
  (k : K (Qo [x, y, z]) σ) : OpSem P G B ⟨dst, .buildSlice t 3 ps.toArray, type, pos, after, gd⟩ f σ K := by
 refine W5 hzl hp hn (fill_three hzl (Enc.len x) (Enc.len y) (Enc.len z) Enc.pos) ?_
 have e1 : Qo [x, y, z] = .sl (Enc.es α) (Enc.enc x ++ (Enc.enc y ++ Enc.enc z)) := by simp [Qo, Wf]
 rwa [<- e1]
end Go.Av
end
section
namespace Go.Proofs
open Go.Av
variable {G : Nat -> DV}
attribute [local irreducible] OpSem WR Zc Zp ACalls ZS AClose RV
open Go.Bl
def preS (a L : Int) : Prop := 0 <= a /\ a + 4 * L <= 1000000000 /\ 1 <= L /\ L <= 500
def preB (a L : Int) : Prop := 0 <= a /\ a + 4 * L <= 1000000000 /\ -50 <= L /\ L <= 500
structure QP (dep : Nat) (c : Int) (ks : List Nd) (a L a' L' : Int) : Prop where
 fit : ∀ x ∈ ks, Qp x 5 = true
 dep : ∀ x ∈ ks, Q5 x <= dep
 size : L' + (Qs ks : Int) <= L
 low : L <= L' \/ -c <= L'
 mono : a <= a'
 used : a' + 4 * L' <= a + 4 * L
theorem run_p {S : GenF} {dep : Nat} {c : Int} (hc : 4 <= c /\ c <= 40) (hS : ∀ a L, preS a L -> QE 5 dep 5 c (S a L).1 a L (S a L).2.1 (S a L).2.2) : ∀ (n : Nat) (a L : Int), 0 <= a -> a + 4 * L <= 1000000000 -> L <= 500 -> QP dep c (runP S n a L).1 a L (runP S n a L).2.1 (runP S n a L).2.2
 | 0, a, L, _, _, _ => by
  rw [runP]
  exact ⟨fun x hx => (by cases hx), fun x hx => (by cases hx), by simp [Qs], .inl (by simp), by simp, by simp⟩
 | n + 1, a, L, p1, p2, p3 => by
  rw [runP]
  by_cases hL : 0 < L
  ·rw [if_pos hL]
   have h1 := hS a L ⟨p1, p2, by omega, p3⟩
   have hs := QZ (S a L).1
   have q1 := h1.low
   have q2 := h1.mono
   have q3 := h1.used
   have q4 := h1.size
   have ih := run_p hc hS n (S a L).2.1 (S a L).2.2 (by omega) (by omega) (by omega)
   have r1 := ih.low
   have r2 := ih.mono
   have r3 := ih.used
   have r4 := ih.size
   generalize runP S n (S a L).2.1 (S a L).2.2 = R at *
   generalize S a L = e at *
   refine ⟨fun x hx => ?_, fun x hx => ?_, ?_, ?_, ?_, ?_⟩
   ·rcases List.mem_cons.1 hx with rfl|hx
    ·exact h1.fit
    ·exact ih.fit x hx
   ·rcases List.mem_cons.1 hx with rfl|hx
    ·exact h1.dep
    ·exact ih.dep x hx
   ·rw [Qs];dsimp only;omega
   ·dsimp only;omega
   ·dsimp only;omega
   ·dsimp only;omega
  ·rw [if_neg hL]
   exact ⟨fun x hx => (by cases hx), fun x hx => (by cases hx), by simp [Qs], .inl (by simp), by simp, by simp⟩
theorem partD_nd0 (v : Nd) : partD (Enc.enc v) 0 4 = some (Enc.enc v) := by cases v;rw [Qr];rfl
theorem wkGC {X W0 W1 W2 : Prop} (w0 : W0 := by exact True.intro) (w1 : W1 := by exact True.intro) (w2 : W2 := by exact True.intro) (s : (Unit -> W0) -> (Unit -> W1) -> (Unit -> W2) -> Unit -> X := by (intro w0 w1 w2 _;(repeat' first|(refine Qz ?_;(first|refine Ws rfl ?_|refine WM rfl ?_|(refine QN ?_;(first|refine Z4 rfl rfl ?_|refine Qc rfl rfl rfl ?_))|(refine Qw ?_;(first|refine qC rfl rfl (by omega) ?_|refine Zw rfl rfl ?_|refine s_gtr rfl rfl ?_|refine ZU rfl rfl (by omega) ?_))|(refine QK ?_;(first|refine Zy (z := v1) rfl rfl rfl rfl rfl rfl rfl (by first|omega|(simp;omega)) (by first|omega|(simp;omega)) (fun _ => rfl) (fun _ _ => ?_)|refine Wh 0 (hnum) rfl rfl rfl rfl ?_|refine Wh 0 (hE1) rfl rfl rfl rfl ?_))|(refine Q1 ?_;(first|refine ZO rfl rfl ?_|refine W9 rfl rfl ?_))|(refine Wr ?_;(first|refine qh rfl rfl rfl rfl ?_|refine Wg rfl rfl rfl rfl (by rfl) (by rfl) (by rfl) ?_))|refine Qe rfl rfl ?_|refine QB rfl rfl ?_|refine Qj rfl rfl ?_|refine QU (fun _ _ => ?_)))|(refine We ?_;(first|refine Wb ?_|refine Zg rfl ?_|refine WI ?_|refine qd rfl rfl rfl rfl ?_|refine qw rfl rfl rfl rfl ?_|refine WN rfl rfl (by omega) ?_|refine WD rfl rfl (by omega) ?_))|(refine Wc ?_;(first|refine Q7 ?_|refine Qm ?_|refine QM ?_|(refine WC ?_;first|(refine Ql ((fun g4 ge p => p :: .row g4 [.i 0, .i 0, .i 0, .nil] :: .row ge (Enc.enc v1) :: []) _ _) 6 [(0, true), (1, true), (2, true), (3, false), (4, true), (5, true), (6, false)] (by rfl) (by rfl) (by kernel_rfl) (by decide +kernel) (by decide +kernel) ⟨_, rfl⟩ ?_)|(refine Ql ((fun g4 ge p => p :: .row g4 [.i 0, .i 0, .i 0, .nil] :: .row ge (Enc.enc v1) :: []) _ _) 9 [(0, true), (1, true), (2, true), (4, true), (5, true), (3, false), (6, false), (7, true), (8, true), (9, false)] (by rfl) (by rfl) (by kernel_rfl) (by decide +kernel) (by decide +kernel) ⟨_, rfl⟩ ?_)|(refine Ql ((fun g4 ge p => p :: .row g4 [.i 0, .i 0, .i 0, .nil] :: .row ge (Enc.enc v1) :: []) _ _) 7 [(0, true), (2, true), (4, true), (5, true), (1, false), (3, false), (6, true), (7, false)] (by rfl) (by rfl) (by kernel_rfl) (by decide +kernel) (by decide +kernel) ⟨_, rfl⟩ ?_)|(refine Ql ((fun g4 ge p => p :: .row g4 [.i 0, .i 0, .i 0, .nil] :: .row ge (Enc.enc v1) :: []) _ _) 7 [(0, true), (2, true), (3, true), (1, false), (4, false), (5, true), (6, true), (7, false)] (by rfl) (by rfl) (by kernel_rfl) (by decide +kernel) (by decide +kernel) ⟨_, rfl⟩ ?_)|(refine Ql ((fun g4 ge p => p :: .row g4 [.i 0, .i 0, .i 0, .nil] :: .row ge (Enc.enc v1) :: []) _ _) 5 [(0, true), (2, true), (3, true), (1, false), (4, true), (5, false)] (by rfl) (by rfl) (by kernel_rfl) (by decide +kernel) (by decide +kernel) ⟨_, rfl⟩ ?_)|(refine Ql (fun p => p) 100 [(0, true)] (by rfl) (by rfl) (by kernel_rfl) (by decide +kernel) (by decide +kernel) ⟨_, rfl⟩ ?_)|(refine Ql (fun p => p.1 :: .row g4 [.i 0, .i 0, .i 0, .nil] :: .row g5 [.i 13, .i 0, .i 0, .ref 3 gg 0 o.length 4] :: p.2) 9 [(0, true), (1, true), (2, true), (3, true), (4, true), (5, false), (6, true), (7, false), (8, true), (9, false)] (by rfl) (by rfl) (by kernel_rfl) (by decide +kernel) (by decide +kernel) ⟨(_, _), rfl⟩ ?_)|refine Q9 (by rfl) (by kernel_rfl) (by kernel_rfl) ?_|refine Q8 (by kernel_rfl) (by kernel_rfl) ?_)|refine QV ?_|refine QR rfl ?_|refine Qu rfl (by omega) ?_|refine Qn rfl (by omega) ?_|refine W8 rfl ?_|refine Wi ?_))|(refine ZG ?_;(first|refine qL ?_|refine i_z0 ?_|refine i_st rfl rfl (fun _ => (by (repeat' first|(refine Qz ?_;(first|refine Ws rfl ?_|refine Qc rfl rfl rfl ?_|refine s_sub_as2 rfl rfl hd1 ⟨by omega, by omega⟩ ?_|refine QO (z := v1) rfl rfl (by decide) ?_|refine Qe rfl rfl ?_))|exact ⟨rfl, rfl⟩))) ?_|refine i_ef rfl ?_))|refine And.intro (Exists.intro ((_, _)) rfl) ?_);(all_goals (repeat (rename_i x;(fail_if_success have : Unit := x);revert x)));(first|done|exact w0 ());(first|done|exact w1 ());(first|done|exact w2 ()))) (u : (W0 \/ True) /\ (W1 \/ True) /\ (W2 \/ True) := by (refine ⟨?_, ?_, ?_⟩ <;> first|exact Or.inl True.intro|exact Or.inr True.intro)) : X := s (fun _ => w0) (fun _ => w1) (fun _ => w2) ()
theorem chBlock (l : List Int) (hl : OkI l) (e : Nat) (he : e <= 8) (S : GenF) (hS : ∀ a L, preS a L -> QE 5 (2 * e + 4) 5 (7 + e) (S a L).1 a L (S a L).2.1 (S a L).2.2 /\ CE Tryz.prog G 79 (fun p g => [.ptr p g 0, .i ((e : Int) - 1)]) (genC l a L) (.agg (Enc.enc (S a L).1)) (genC l (S a L).2.1 (S a L).2.2)) :
  ∃ Bk : GenF, ∀ a L, preB a L -> QE 6 (2 * e + 5) 1 (7 + e) (Bk a L).1 a L (Bk a L).2.1 (Bk a L).2.2 /\ CE Tryz.prog G 37 (fun p g => [.ptr p g 0, .i (e : Nat)]) (genC l a L) (.agg (Enc.enc (Bk a L).1)) (genC l (Bk a L).2.1 (Bk a L).2.2) := by
 refine gen_skolem (pre := preB) (R := fun a L t => QE 6 (2 * e + 5) 1 (7 + e) t.1 a L t.2.1 t.2.2 /\ CE Tryz.prog G 37 (fun p g => [.ptr p g 0, .i (e : Nat)]) (genC l a L) (.agg (Enc.enc t.1)) (genC l t.2.1 t.2.2)) fun a L h => ?_
 obtain ⟨p1, p2, p3, p4⟩ := h
 have b4 := QQ l a (most := 4) (by decide)
 obtain ⟨N, hN⟩ : ∃ N : Nat, atI l a 4 = (N : Int) := ⟨(atI l a 4).toNat, by omega⟩
 have hq := run_p (S := S) (dep := 2 * e + 4) (c := 7 + e) (by omega) (fun a L h => (hS a L h).1) N (a + 1) (L - 1) (by omega) (by omega) (by omega)
 have hln := runP_len S N (a + 1) (L - 1)
 refine ⟨(.mk 13 0 0 (runP S N (a + 1) (L - 1)).1, (runP S N (a + 1) (L - 1)).2), ?_, fun g B hg => ?_⟩
 ·have q1 := hq.low
  have q2 := hq.mono
  have q3 := hq.used
  have q4 := hq.size
  have q5 := depthL_le hq.dep
  refine ⟨Zh ⟨6, 0, 0, 0, [], 8, 0, 5⟩ rfl (by decide) (by decide) (by decide) (by decide) (by dsimp only;simp;omega) (kidsA rfl hq.fit), ?_, ?_, ?_, ?_, ?_⟩
  ·rw [Q5];omega
  ·rw [Qk];dsimp only;omega
  ·dsimp only;omega
  ·dsimp only;omega
  ·dsimp only;omega
 clear hq
 have hnum := Zo (G := G) l hl a (L - 1) 4 (by omega) (by omega)
 rw [hN] at hnum b4
 generalize hT : runP S N (a + 1) (L - 1) = T at *
 refine Qa Tryz.func37 rfl Tryz.ntmps37 rfl (t := [(0, .ptr 0 g 0), (1, .i (e : Nat))]) rfl fun E0 hE0 => ?_
 (refine wkGC ?_;intros)
 rename_i g4 hg4 g5 hg5
 refine r_ownin 2 3 4 rfl rfl (fun _ => rfl) (fun gk hgk => ?_)
 refine r_loop5 (fun (i : Nat) (o : List Nd) (b M : Int) (gg : Nat) => ⟨[(0, .ptr 0 g 0), (1, .i (e : Nat)), (4, .ptr 1 g4 0), (5, .ptr 2 g5 0), (6, .i N), (7, .i i)], [.row g (genC l b M), .row g4 [.i 0, .i 0, .i 0, .nil], .row g5 [.i 13, .i 0, .i 0, .ref 3 gg 0 o.length 4], .row gg (Wf o)]⟩) (fun i o b M gg => i <= N /\ o.length <= i /\ E0.N < gg /\ o ++ (runP S (N - i) b M).1 = T.1 /\ (runP S (N - i) b M).2 = T.2 /\ 0 <= b /\ b + 4 * M <= 1000000000 /\ M <= 500 /\ -100 <= M) (fun i _ _ _ _ => N - i) 0 [] (a + 1) (L - 1) gk ?_ ⟨by omega, by simp, hgk, by rw [Nat.sub_zero, hT];rfl, by rw [Nat.sub_zero, hT], by omega, by omega, by omega, by omega⟩ ?_
 ·exact zal rfl
 intro i o b M gg ⟨hi, hol, hgg, h1, h2, m1, m2, m3, m4⟩
 by_cases hiN : i < N
 ·rw [show N - i = (N - (i + 1)) + 1 by omega, runP] at h1 h2
  by_cases hM : 0 < M
  ·rw [if_pos hM] at h1 h2
   obtain ⟨hq, hE1⟩ := hS b M ⟨m1, m2, by omega, m3⟩
   have q1 := hq.low
   have q2 := hq.mono
   have q3 := hq.used
   have q4 := hq.size
   have hd1 : ((e : Nat) : Int) - 1 = (e : Int) - 1 := rfl
   generalize S b M = t at *
   obtain ⟨v1, b1, M1⟩ := t
   dsimp only at *
   have hs := QZ v1
   clear hS
   (refine wkGC ?_;intros)
   refine ⟨i + 1, o ++ [v1], b1, M1, _, ⟨by omega, by simp;omega, by assumption, by rw [List.append_assoc];exact h1, h2, by omega, by omega, by omega, by omega⟩, by omega, ?_⟩
   exact zal rfl
  ·rw [if_neg hM] at h1 h2
   dsimp only at h1 h2
   rw [List.append_nil] at h1
   rw [<- h1, <- h2]
   clear hS
   (refine wkGC ?_;intros)
   exact e_1 (Tryz.results37) (Qg (size := 4) rfl rfl rfl rfl) (WK (D := fun d => .agg [.i 13, .i 0, .i 0, d]) (k := 2) (.node rfl rfl rfl) rfl (by rw [Qx];rfl) (by rw [Qr];rfl) rfl)
 ·have hie : N - i = 0 := by omega
  rw [hie, runP] at h1 h2
  dsimp only at h1 h2
  rw [List.append_nil] at h1
  rw [<- h1, <- h2]
  clear hS
  (refine wkGC ?_;intros)
  exact e_1 (Tryz.results37) (Qg (size := 4) rfl rfl rfl rfl) (WK (D := fun d => .agg [.i 13, .i 0, .i 0, d]) (k := 2) (.node rfl rfl rfl) rfl (by rw [Qx];rfl) (by rw [Qr];rfl) rfl)
theorem chLeafS (l : List Int) (hl : OkI l) (E2 E1 : GenF) (hE2x : ∀ a L, preE a L -> QE 4 3 1 4 (E2 a L).1 a L (E2 a L).2.1 (E2 a L).2.2 /\ CE Tryz.prog G 125 (fun p g => [.ptr p g 0, .i 2]) (genC l a L) (.agg (Enc.enc (E2 a L).1)) (genC l (E2 a L).2.1 (E2 a L).2.2))
  (hE1x : ∀ a L, preE a L -> QE 4 2 1 2 (E1 a L).1 a L (E1 a L).2.1 (E1 a L).2.2 /\ CE Tryz.prog G 125 (fun p g => [.ptr p g 0, .i 1]) (genC l a L) (.agg (Enc.enc (E1 a L).1)) (genC l (E1 a L).2.1 (E1 a L).2.2)) (dd a L x : Int) (h : preS a L)
  (hx : (dd <= 0 /\ atI l a 14 % 10 = x) \/ (0 < dd /\ L - 1 <= 0 /\ atI l a 14 % 10 = x) \/ (0 < dd /\ 0 < L - 1 /\ atI l a 14 = x)) (hx2 : 0 <= x /\ x <= 9) :
  ∃ t : Nd × Int × Int, QE 5 4 5 7 t.1 a L t.2.1 t.2.2 /\ CE Tryz.prog G 79 (fun p g => [.ptr p g 0, .i dd]) (genC l a L) (.agg (Enc.enc t.1)) (genC l t.2.1 t.2.2) := by
 obtain ⟨p1, p2, p3, p4⟩ := h
 have bx := QQ l a (most := 14) (by decide)
 have hsm := chSome (G := G) l hl 1 (by decide) E1 hE1x
 have hrq := run_q (E := E1) (w := 4) (dep := 2) (c := 2) (by decide) fun a L h => (hE1x a L h).1
 have hxx : x = 0 \/ x = 1 \/ x = 2 \/ x = 3 \/ x = 4 \/ x = 5 \/ x = 6 \/ x = 7 \/ x = 8 \/ x = 9 := by omega
 rcases hx with hx|hx|hx
 all_goals
  rcases hxx with rfl|rfl|rfl|rfl|rfl|rfl|rfl|rfl|rfl|rfl
  ·obtain ⟨hqv1, hE1⟩ := hE2x (a + 1) (L - 1) ⟨by omega, by omega, by omega, by omega⟩
   obtain ⟨fv1, dv1, sv1, wv1, mv1, uv1⟩ := hqv1
   generalize E2 (a + 1) (L - 1) = tv1 at *
   obtain ⟨v1, b1, M1⟩ := tv1
   dsimp only at *
   have spv1 := QZ v1
   have n6 := QQ l (b1) (most := 6) (by decide)
   clear hE2x hE1x hsm hrq
   refine ⟨(.mk 14 (atI l b1 6) (0) [v1], b1 + 1, M1), ?_, fun g B hg => ?_⟩
   ·refine ⟨Zh ⟨5, 0, 5, 0, [4], 0, 0, 0⟩ rfl (by decide) (by decide) (by dsimp only;omega) (by dsimp only;omega) (by first|(simp;done)|(simp;omega)) (kids1 fv1), ?_, ?_, ?_, ?_, ?_⟩
    ·rw [Q5];(try simp only [Q6]);omega
    ·rw [Qk];(try simp only [Qs]);omega
    ·dsimp only;omega
    ·dsimp only;omega
    ·dsimp only;omega
   ·refine Qa Tryz.func79 rfl Tryz.ntmps79 rfl (t := [(0, .ptr 0 g 0), (1, .i dd)]) rfl fun E0 hE0 => ?_
    (repeat' first|(refine Qz ?_;(first|refine Ws rfl ?_|refine WM rfl ?_|refine Qc rfl rfl rfl ?_|(refine Qw ?_;(first|refine qC rfl rfl (by omega) ?_|refine qv rfl rfl ?_|refine WX rfl rfl ?_|refine s_rem rfl rfl (by first|omega|exact nn_shr (by omega)) (by omega) ?_))|(refine QK ?_;(first|refine Wh 0 (Zo l hl _ _ _ (by omega) (by omega)) rfl rfl rfl rfl ?_|refine Wh 0 (hE1) rfl rfl rfl rfl ?_))|(refine Q1 ?_;(first|refine ZO rfl rfl ?_|refine W9 rfl rfl ?_))|(refine Wr ?_;(first|refine qh rfl rfl rfl rfl ?_|refine Wg rfl rfl rfl rfl (by rfl) (by rfl) (by rfl) ?_))|refine Qe rfl rfl ?_|refine Qj rfl rfl ?_|refine QU (fun _ _ => ?_)))|(refine We ?_;(first|refine Wb ?_|refine Zg rfl ?_|refine WI ?_|refine qd rfl rfl rfl rfl ?_|refine qw rfl rfl rfl rfl ?_|refine WN rfl rfl (by omega) ?_|refine WD rfl rfl (by omega) ?_))|(refine Wc ?_;(first|refine Q7 ?_|refine Qm ?_|refine QM ?_|(refine WC ?_;first|(rename_i g4 hg4 ge hge;refine Ql (fun p => p :: .row g4 [.i 0, .i 0, .i 0, .nil] :: .row ge (Enc.enc v1) :: []) 6 [(0, true), (1, true), (2, true), (3, false), (4, true), (5, true), (6, false)] (by rfl) (by rfl) (by kernel_rfl) (by decide +kernel) (by decide +kernel) ⟨_, rfl⟩ ?_)|(rename_i g4 hg4 ge hge;refine Ql (fun p => p :: .row g4 [.i 0, .i 0, .i 0, .nil] :: .row ge (Enc.enc v1) :: []) 9 [(0, true), (1, true), (2, true), (4, true), (5, true), (3, false), (6, false), (7, true), (8, true), (9, false)] (by rfl) (by rfl) (by kernel_rfl) (by decide +kernel) (by decide +kernel) ⟨_, rfl⟩ ?_)|(rename_i g4 hg4 ge hge;refine Ql (fun p => p :: .row g4 [.i 0, .i 0, .i 0, .nil] :: .row ge (Enc.enc v1) :: []) 7 [(0, true), (2, true), (4, true), (5, true), (1, false), (3, false), (6, true), (7, false)] (by rfl) (by rfl) (by kernel_rfl) (by decide +kernel) (by decide +kernel) ⟨_, rfl⟩ ?_)|(rename_i g4 hg4 ge hge;refine Ql (fun p => p :: .row g4 [.i 0, .i 0, .i 0, .nil] :: .row ge (Enc.enc v1) :: []) 7 [(0, true), (2, true), (3, true), (1, false), (4, false), (5, true), (6, true), (7, false)] (by rfl) (by rfl) (by kernel_rfl) (by decide +kernel) (by decide +kernel) ⟨_, rfl⟩ ?_)|(rename_i g4 hg4 ge hge;refine Ql (fun p => p :: .row g4 [.i 0, .i 0, .i 0, .nil] :: .row ge (Enc.enc v1) :: []) 5 [(0, true), (2, true), (3, true), (1, false), (4, true), (5, false)] (by rfl) (by rfl) (by kernel_rfl) (by decide +kernel) (by decide +kernel) ⟨_, rfl⟩ ?_)|(refine Ql (fun p => p) 100 [(0, true)] (by rfl) (by rfl) (by kernel_rfl) (by decide +kernel) (by decide +kernel) ⟨_, rfl⟩ ?_)|(refine Ql (fun p => p.1 :: .row g4 [.i 0, .i 0, .i 0, .nil] :: .row g5 [.i 13, .i 0, .i 0, .ref 3 gg 0 o.length 4] :: p.2) 9 [(0, true), (1, true), (2, true), (3, true), (4, true), (5, false), (6, true), (7, false), (8, true), (9, false)] (by rfl) (by rfl) (by kernel_rfl) (by decide +kernel) (by decide +kernel) ⟨(_, _), rfl⟩ ?_)|refine Q9 (by rfl) (by kernel_rfl) (by kernel_rfl) ?_|refine Q8 (by kernel_rfl) (by kernel_rfl) ?_)|refine QV ?_|refine QD rfl ?_|refine Qu rfl (by omega) ?_|refine Qn rfl (by omega) ?_|refine Wi ?_))|(refine ZG ?_;(first|refine qL ?_|refine i_z0 ?_|refine i_st rfl rfl (fun _ => (by (repeat' first|(refine Qz ?_;(first|refine Ws rfl ?_|refine Z4 rfl rfl ?_|refine QO (z := v1) rfl rfl (by decide) ?_|refine QB rfl rfl ?_))|exact ⟨rfl, rfl⟩))) ?_|refine i_ef rfl ?_))|refine And.intro (Exists.intro (_) rfl) ?_)
    refine e_1 (Tryz.results79) (Qg (size := 4) rfl rfl rfl rfl) ?_
    rw [Qr]
    exact ZI (by first|rfl|(simp [Qo, Wf];try rfl)) rfl
  ·obtain ⟨hqv1, hE1⟩ := hE2x (a + 1) (L - 1) ⟨by omega, by omega, by omega, by omega⟩
   obtain ⟨fv1, dv1, sv1, wv1, mv1, uv1⟩ := hqv1
   generalize E2 (a + 1) (L - 1) = tv1 at *
   obtain ⟨v1, b1, M1⟩ := tv1
   dsimp only at *
   have spv1 := QZ v1
   have n6 := QQ l (b1) (most := 6) (by decide)
   clear hE2x hE1x hsm hrq
   refine ⟨(.mk 14 (atI l b1 6) (0) [v1], b1 + 1, M1), ?_, fun g B hg => ?_⟩
   ·refine ⟨Zh ⟨5, 0, 5, 0, [4], 0, 0, 0⟩ rfl (by decide) (by decide) (by dsimp only;omega) (by dsimp only;omega) (by first|(simp;done)|(simp;omega)) (kids1 fv1), ?_, ?_, ?_, ?_, ?_⟩
    ·rw [Q5];(try simp only [Q6]);omega
    ·rw [Qk];(try simp only [Qs]);omega
    ·dsimp only;omega
    ·dsimp only;omega
    ·dsimp only;omega
   ·refine Qa Tryz.func79 rfl Tryz.ntmps79 rfl (t := [(0, .ptr 0 g 0), (1, .i dd)]) rfl fun E0 hE0 => ?_
    (repeat' first|(refine Qz ?_;(first|refine Ws rfl ?_|refine WM rfl ?_|refine Qc rfl rfl rfl ?_|(refine Qw ?_;(first|refine qC rfl rfl (by omega) ?_|refine qv rfl rfl ?_|refine WX rfl rfl ?_|refine s_rem rfl rfl (by first|omega|exact nn_shr (by omega)) (by omega) ?_))|(refine QK ?_;(first|refine Wh 0 (Zo l hl _ _ _ (by omega) (by omega)) rfl rfl rfl rfl ?_|refine Wh 0 (hE1) rfl rfl rfl rfl ?_))|(refine Q1 ?_;(first|refine ZO rfl rfl ?_|refine W9 rfl rfl ?_))|(refine Wr ?_;(first|refine qh rfl rfl rfl rfl ?_|refine Wg rfl rfl rfl rfl (by rfl) (by rfl) (by rfl) ?_))|refine Qe rfl rfl ?_|refine Qj rfl rfl ?_|refine QU (fun _ _ => ?_)))|(refine We ?_;(first|refine Wb ?_|refine Zg rfl ?_|refine WI ?_|refine qd rfl rfl rfl rfl ?_|refine qw rfl rfl rfl rfl ?_|refine WN rfl rfl (by omega) ?_|refine WD rfl rfl (by omega) ?_))|(refine Wc ?_;(first|refine Q7 ?_|refine Qm ?_|refine QM ?_|(refine WC ?_;first|(rename_i g4 hg4 ge hge;refine Ql (fun p => p :: .row g4 [.i 0, .i 0, .i 0, .nil] :: .row ge (Enc.enc v1) :: []) 6 [(0, true), (1, true), (2, true), (3, false), (4, true), (5, true), (6, false)] (by rfl) (by rfl) (by kernel_rfl) (by decide +kernel) (by decide +kernel) ⟨_, rfl⟩ ?_)|(rename_i g4 hg4 ge hge;refine Ql (fun p => p :: .row g4 [.i 0, .i 0, .i 0, .nil] :: .row ge (Enc.enc v1) :: []) 9 [(0, true), (1, true), (2, true), (4, true), (5, true), (3, false), (6, false), (7, true), (8, true), (9, false)] (by rfl) (by rfl) (by kernel_rfl) (by decide +kernel) (by decide +kernel) ⟨_, rfl⟩ ?_)|(rename_i g4 hg4 ge hge;refine Ql (fun p => p :: .row g4 [.i 0, .i 0, .i 0, .nil] :: .row ge (Enc.enc v1) :: []) 7 [(0, true), (2, true), (4, true), (5, true), (1, false), (3, false), (6, true), (7, false)] (by rfl) (by rfl) (by kernel_rfl) (by decide +kernel) (by decide +kernel) ⟨_, rfl⟩ ?_)|(rename_i g4 hg4 ge hge;refine Ql (fun p => p :: .row g4 [.i 0, .i 0, .i 0, .nil] :: .row ge (Enc.enc v1) :: []) 7 [(0, true), (2, true), (3, true), (1, false), (4, false), (5, true), (6, true), (7, false)] (by rfl) (by rfl) (by kernel_rfl) (by decide +kernel) (by decide +kernel) ⟨_, rfl⟩ ?_)|(rename_i g4 hg4 ge hge;refine Ql (fun p => p :: .row g4 [.i 0, .i 0, .i 0, .nil] :: .row ge (Enc.enc v1) :: []) 5 [(0, true), (2, true), (3, true), (1, false), (4, true), (5, false)] (by rfl) (by rfl) (by kernel_rfl) (by decide +kernel) (by decide +kernel) ⟨_, rfl⟩ ?_)|(refine Ql (fun p => p) 100 [(0, true)] (by rfl) (by rfl) (by kernel_rfl) (by decide +kernel) (by decide +kernel) ⟨_, rfl⟩ ?_)|(refine Ql (fun p => p.1 :: .row g4 [.i 0, .i 0, .i 0, .nil] :: .row g5 [.i 13, .i 0, .i 0, .ref 3 gg 0 o.length 4] :: p.2) 9 [(0, true), (1, true), (2, true), (3, true), (4, true), (5, false), (6, true), (7, false), (8, true), (9, false)] (by rfl) (by rfl) (by kernel_rfl) (by decide +kernel) (by decide +kernel) ⟨(_, _), rfl⟩ ?_)|refine Q9 (by rfl) (by kernel_rfl) (by kernel_rfl) ?_|refine Q8 (by kernel_rfl) (by kernel_rfl) ?_)|refine QV ?_|refine QD rfl ?_|refine Qu rfl (by omega) ?_|refine Qn rfl (by omega) ?_|refine Wi ?_))|(refine ZG ?_;(first|refine qL ?_|refine i_z0 ?_|refine i_st rfl rfl (fun _ => (by (repeat' first|(refine Qz ?_;(first|refine Ws rfl ?_|refine Z4 rfl rfl ?_|refine QO (z := v1) rfl rfl (by decide) ?_|refine QB rfl rfl ?_))|exact ⟨rfl, rfl⟩))) ?_|refine i_ef rfl ?_))|refine And.intro (Exists.intro (_) rfl) ?_)
    refine e_1 (Tryz.results79) (Qg (size := 4) rfl rfl rfl rfl) ?_
    rw [Qr]
    exact ZI (by first|rfl|(simp [Qo, Wf];try rfl)) rfl
  ·obtain ⟨hqv1, hE1⟩ := hE2x (a + 1) (L - 1) ⟨by omega, by omega, by omega, by omega⟩
   obtain ⟨fv1, dv1, sv1, wv1, mv1, uv1⟩ := hqv1
   generalize E2 (a + 1) (L - 1) = tv1 at *
   obtain ⟨v1, b1, M1⟩ := tv1
   dsimp only at *
   have spv1 := QZ v1
   obtain ⟨hqv2, hE2⟩ := hE2x (b1 + 1) (M1) ⟨by omega, by omega, by omega, by omega⟩
   obtain ⟨fv2, dv2, sv2, wv2, mv2, uv2⟩ := hqv2
   generalize E2 (b1 + 1) (M1) = tv2 at *
   obtain ⟨v2, b2, M2⟩ := tv2
   dsimp only at *
   have spv2 := QZ v2
   have n6 := QQ l (b1) (most := 6) (by decide)
   clear hE2x hE1x hsm hrq
   refine ⟨(.mk 15 (atI l b1 6) (0) [v1, v2], b2, M2), ?_, fun g B hg => ?_⟩
   ·refine ⟨Zh ⟨5, 0, 5, 0, [4, 4], 0, 0, 0⟩ rfl (by decide) (by decide) (by dsimp only;omega) (by dsimp only;omega) (by first|(simp;done)|(simp;omega)) (kids2 fv1 fv2), ?_, ?_, ?_, ?_, ?_⟩
    ·rw [Q5];(try simp only [Q6]);omega
    ·rw [Qk];(try simp only [Qs]);omega
    ·dsimp only;omega
    ·dsimp only;omega
    ·dsimp only;omega
   ·refine Qa Tryz.func79 rfl Tryz.ntmps79 rfl (t := [(0, .ptr 0 g 0), (1, .i dd)]) rfl fun E0 hE0 => ?_
    (repeat' first|(refine Qz ?_;(first|refine Ws rfl ?_|refine WM rfl ?_|refine Qc rfl rfl rfl ?_|(refine Qw ?_;(first|refine qC rfl rfl (by omega) ?_|refine qv rfl rfl ?_|refine WX rfl rfl ?_|refine s_rem rfl rfl (by first|omega|exact nn_shr (by omega)) (by omega) ?_))|(refine QK ?_;(first|refine Wh 0 (Zo l hl _ _ _ (by omega) (by omega)) rfl rfl rfl rfl ?_|refine Wh 0 (hE1) rfl rfl rfl rfl ?_|refine Wh 0 (hE2) rfl rfl rfl rfl ?_))|(refine Q1 ?_;(first|refine ZO rfl rfl ?_|refine W9 rfl rfl ?_))|(refine Wr ?_;(first|refine qh rfl rfl rfl rfl ?_|refine Wg rfl rfl rfl rfl (by rfl) (by rfl) (by rfl) ?_))|refine Qe rfl rfl ?_|refine Qj rfl rfl ?_|refine QU (fun _ _ => ?_)))|(refine We ?_;(first|refine Wb ?_|refine Zg rfl ?_|refine WI ?_|refine qd rfl rfl rfl rfl ?_|refine qw rfl rfl rfl rfl ?_|refine WN rfl rfl (by omega) ?_|refine WD rfl rfl (by omega) ?_))|(refine Wc ?_;(first|refine Q7 ?_|refine Qm ?_|refine QM ?_|(refine WC ?_;first|(rename_i g4 hg4 ge hge;refine Ql (fun p => p :: .row g4 [.i 0, .i 0, .i 0, .nil] :: .row ge (Enc.enc v1) :: []) 6 [(0, true), (1, true), (2, true), (3, false), (4, true), (5, true), (6, false)] (by rfl) (by rfl) (by kernel_rfl) (by decide +kernel) (by decide +kernel) ⟨_, rfl⟩ ?_)|(rename_i g4 hg4 ge hge;refine Ql (fun p => p :: .row g4 [.i 0, .i 0, .i 0, .nil] :: .row ge (Enc.enc v1) :: []) 9 [(0, true), (1, true), (2, true), (4, true), (5, true), (3, false), (6, false), (7, true), (8, true), (9, false)] (by rfl) (by rfl) (by kernel_rfl) (by decide +kernel) (by decide +kernel) ⟨_, rfl⟩ ?_)|(rename_i g4 hg4 ge hge;refine Ql (fun p => p :: .row g4 [.i 0, .i 0, .i 0, .nil] :: .row ge (Enc.enc v1) :: []) 7 [(0, true), (2, true), (4, true), (5, true), (1, false), (3, false), (6, true), (7, false)] (by rfl) (by rfl) (by kernel_rfl) (by decide +kernel) (by decide +kernel) ⟨_, rfl⟩ ?_)|(rename_i g4 hg4 ge hge;refine Ql (fun p => p :: .row g4 [.i 0, .i 0, .i 0, .nil] :: .row ge (Enc.enc v1) :: []) 7 [(0, true), (2, true), (3, true), (1, false), (4, false), (5, true), (6, true), (7, false)] (by rfl) (by rfl) (by kernel_rfl) (by decide +kernel) (by decide +kernel) ⟨_, rfl⟩ ?_)|(rename_i g4 hg4 ge hge;refine Ql (fun p => p :: .row g4 [.i 0, .i 0, .i 0, .nil] :: .row ge (Enc.enc v1) :: []) 5 [(0, true), (2, true), (3, true), (1, false), (4, true), (5, false)] (by rfl) (by rfl) (by kernel_rfl) (by decide +kernel) (by decide +kernel) ⟨_, rfl⟩ ?_)|(refine Ql (fun p => p) 100 [(0, true)] (by rfl) (by rfl) (by kernel_rfl) (by decide +kernel) (by decide +kernel) ⟨_, rfl⟩ ?_)|(refine Ql (fun p => p.1 :: .row g4 [.i 0, .i 0, .i 0, .nil] :: .row g5 [.i 13, .i 0, .i 0, .ref 3 gg 0 o.length 4] :: p.2) 9 [(0, true), (1, true), (2, true), (3, true), (4, true), (5, false), (6, true), (7, false), (8, true), (9, false)] (by rfl) (by rfl) (by kernel_rfl) (by decide +kernel) (by decide +kernel) ⟨(_, _), rfl⟩ ?_)|refine Q9 (by rfl) (by kernel_rfl) (by kernel_rfl) ?_|refine Q8 (by kernel_rfl) (by kernel_rfl) ?_)|refine QV ?_|refine QD rfl ?_|refine Qu rfl (by omega) ?_|refine Qn rfl (by omega) ?_|refine Wi ?_))|(refine ZG ?_;(first|refine qL ?_|refine i_z0 ?_|refine i_st rfl rfl (fun _ => (by (repeat' first|(refine Qz ?_;(first|refine Ws rfl ?_|refine Z4 rfl rfl ?_|refine WO (y := v1) (z := v2) rfl rfl (by decide) ?_|refine QB rfl rfl ?_))|exact ⟨rfl, rfl⟩))) ?_|refine i_ef rfl ?_))|refine And.intro (Exists.intro (_) rfl) ?_)
    refine e_1 (Tryz.results79) (Qg (size := 4) rfl rfl rfl rfl) ?_
    rw [Qr]
    exact ZI (by first|rfl|(simp [Qo, Wf];try rfl)) rfl
  ·obtain ⟨hqv1, hE1⟩ := hE2x (a + 1) (L - 1) ⟨by omega, by omega, by omega, by omega⟩
   obtain ⟨fv1, dv1, sv1, wv1, mv1, uv1⟩ := hqv1
   generalize E2 (a + 1) (L - 1) = tv1 at *
   obtain ⟨v1, b1, M1⟩ := tv1
   dsimp only at *
   have spv1 := QZ v1
   have n6 := QQ l (b1) (most := 6) (by decide)
   have n3 := QQ l (b1 + 1) (most := 3) (by decide)
   clear hE2x hE1x hsm hrq
   refine ⟨(.mk 16 (atI l b1 6) (atI l (b1 + 1) 3) [v1], b1 + 1 + 1, M1), ?_, fun g B hg => ?_⟩
   ·refine ⟨Zh ⟨5, 0, 5, 2, [4], 0, 0, 0⟩ rfl (by decide) (by decide) (by dsimp only;omega) (by dsimp only;omega) (by first|(simp;done)|(simp;omega)) (kids1 fv1), ?_, ?_, ?_, ?_, ?_⟩
    ·rw [Q5];(try simp only [Q6]);omega
    ·rw [Qk];(try simp only [Qs]);omega
    ·dsimp only;omega
    ·dsimp only;omega
    ·dsimp only;omega
   ·refine Qa Tryz.func79 rfl Tryz.ntmps79 rfl (t := [(0, .ptr 0 g 0), (1, .i dd)]) rfl fun E0 hE0 => ?_
    (repeat' first|(refine Qz ?_;(first|refine Ws rfl ?_|refine WM rfl ?_|refine Qc rfl rfl rfl ?_|(refine Qw ?_;(first|refine qC rfl rfl (by omega) ?_|refine qv rfl rfl ?_|refine WX rfl rfl ?_|refine s_rem rfl rfl (by first|omega|exact nn_shr (by omega)) (by omega) ?_))|(refine QK ?_;(first|refine Wh 0 (Zo l hl _ _ _ (by omega) (by omega)) rfl rfl rfl rfl ?_|refine Wh 0 (hE1) rfl rfl rfl rfl ?_))|(refine Q1 ?_;(first|refine ZO rfl rfl ?_|refine W9 rfl rfl ?_))|(refine Wr ?_;(first|refine qh rfl rfl rfl rfl ?_|refine Wg rfl rfl rfl rfl (by rfl) (by rfl) (by rfl) ?_))|refine Qe rfl rfl ?_|refine Qj rfl rfl ?_|refine QU (fun _ _ => ?_)))|(refine We ?_;(first|refine Wb ?_|refine Zg rfl ?_|refine WI ?_|refine qd rfl rfl rfl rfl ?_|refine qw rfl rfl rfl rfl ?_|refine WN rfl rfl (by omega) ?_|refine WD rfl rfl (by omega) ?_))|(refine Wc ?_;(first|refine Q7 ?_|refine Qm ?_|refine QM ?_|(refine WC ?_;first|(rename_i g4 hg4 ge hge;refine Ql (fun p => p :: .row g4 [.i 0, .i 0, .i 0, .nil] :: .row ge (Enc.enc v1) :: []) 6 [(0, true), (1, true), (2, true), (3, false), (4, true), (5, true), (6, false)] (by rfl) (by rfl) (by kernel_rfl) (by decide +kernel) (by decide +kernel) ⟨_, rfl⟩ ?_)|(rename_i g4 hg4 ge hge;refine Ql (fun p => p :: .row g4 [.i 0, .i 0, .i 0, .nil] :: .row ge (Enc.enc v1) :: []) 9 [(0, true), (1, true), (2, true), (4, true), (5, true), (3, false), (6, false), (7, true), (8, true), (9, false)] (by rfl) (by rfl) (by kernel_rfl) (by decide +kernel) (by decide +kernel) ⟨_, rfl⟩ ?_)|(rename_i g4 hg4 ge hge;refine Ql (fun p => p :: .row g4 [.i 0, .i 0, .i 0, .nil] :: .row ge (Enc.enc v1) :: []) 7 [(0, true), (2, true), (4, true), (5, true), (1, false), (3, false), (6, true), (7, false)] (by rfl) (by rfl) (by kernel_rfl) (by decide +kernel) (by decide +kernel) ⟨_, rfl⟩ ?_)|(rename_i g4 hg4 ge hge;refine Ql (fun p => p :: .row g4 [.i 0, .i 0, .i 0, .nil] :: .row ge (Enc.enc v1) :: []) 7 [(0, true), (2, true), (3, true), (1, false), (4, false), (5, true), (6, true), (7, false)] (by rfl) (by rfl) (by kernel_rfl) (by decide +kernel) (by decide +kernel) ⟨_, rfl⟩ ?_)|(rename_i g4 hg4 ge hge;refine Ql (fun p => p :: .row g4 [.i 0, .i 0, .i 0, .nil] :: .row ge (Enc.enc v1) :: []) 5 [(0, true), (2, true), (3, true), (1, false), (4, true), (5, false)] (by rfl) (by rfl) (by kernel_rfl) (by decide +kernel) (by decide +kernel) ⟨_, rfl⟩ ?_)|(refine Ql (fun p => p) 100 [(0, true)] (by rfl) (by rfl) (by kernel_rfl) (by decide +kernel) (by decide +kernel) ⟨_, rfl⟩ ?_)|(refine Ql (fun p => p.1 :: .row g4 [.i 0, .i 0, .i 0, .nil] :: .row g5 [.i 13, .i 0, .i 0, .ref 3 gg 0 o.length 4] :: p.2) 9 [(0, true), (1, true), (2, true), (3, true), (4, true), (5, false), (6, true), (7, false), (8, true), (9, false)] (by rfl) (by rfl) (by kernel_rfl) (by decide +kernel) (by decide +kernel) ⟨(_, _), rfl⟩ ?_)|refine Q9 (by rfl) (by kernel_rfl) (by kernel_rfl) ?_|refine Q8 (by kernel_rfl) (by kernel_rfl) ?_)|refine QV ?_|refine QD rfl ?_|refine Qu rfl (by omega) ?_|refine Qn rfl (by omega) ?_|refine Wi ?_))|(refine ZG ?_;(first|refine qL ?_|refine i_z0 ?_|refine i_st rfl rfl (fun _ => (by (repeat' first|(refine Qz ?_;(first|refine Ws rfl ?_|refine Z4 rfl rfl ?_|refine QO (z := v1) rfl rfl (by decide) ?_|refine QB rfl rfl ?_))|exact ⟨rfl, rfl⟩))) ?_|refine i_ef rfl ?_))|refine And.intro (Exists.intro (_) rfl) ?_)
    refine e_1 (Tryz.results79) (Qg (size := 4) rfl rfl rfl rfl) ?_
    rw [Qr]
    exact ZI (by first|rfl|(simp [Qo, Wf];try rfl)) rfl
  ·obtain ⟨hqv1, hE1⟩ := hE2x (a + 1) (L - 1) ⟨by omega, by omega, by omega, by omega⟩
   obtain ⟨fv1, dv1, sv1, wv1, mv1, uv1⟩ := hqv1
   generalize E2 (a + 1) (L - 1) = tv1 at *
   obtain ⟨v1, b1, M1⟩ := tv1
   dsimp only at *
   have spv1 := QZ v1
   clear hE2x hE1x hsm hrq
   refine ⟨(.mk 19 (0) (0) [v1], b1, M1), ?_, fun g B hg => ?_⟩
   ·refine ⟨Zh ⟨5, 0, 0, 0, [4], 0, 0, 0⟩ rfl (by decide) (by decide) (by dsimp only;omega) (by dsimp only;omega) (by first|(simp;done)|(simp;omega)) (kids1 fv1), ?_, ?_, ?_, ?_, ?_⟩
    ·rw [Q5];(try simp only [Q6]);omega
    ·rw [Qk];(try simp only [Qs]);omega
    ·dsimp only;omega
    ·dsimp only;omega
    ·dsimp only;omega
   ·refine Qa Tryz.func79 rfl Tryz.ntmps79 rfl (t := [(0, .ptr 0 g 0), (1, .i dd)]) rfl fun E0 hE0 => ?_
    (repeat' first|(refine Qz ?_;(first|refine Ws rfl ?_|refine WM rfl ?_|(refine QN ?_;(first|refine Z4 rfl rfl ?_|refine Qc rfl rfl rfl ?_))|(refine Qw ?_;(first|refine qC rfl rfl (by omega) ?_|refine qv rfl rfl ?_|refine WX rfl rfl ?_|refine s_rem rfl rfl (by first|omega|exact nn_shr (by omega)) (by omega) ?_))|(refine QK ?_;(first|refine Wh 0 (Zo l hl _ _ _ (by omega) (by omega)) rfl rfl rfl rfl ?_|refine Wh 0 (hE1) rfl rfl rfl rfl ?_))|(refine Q1 ?_;(first|refine ZO rfl rfl ?_|refine W9 rfl rfl ?_))|(refine Wr ?_;(first|refine qh rfl rfl rfl rfl ?_|refine Wg rfl rfl rfl rfl (by rfl) (by rfl) (by rfl) ?_))|refine QO (z := v1) rfl rfl (by decide) ?_|refine Qe rfl rfl ?_|refine QB rfl rfl ?_|refine Qj rfl rfl ?_|refine QU (fun _ _ => ?_)))|(refine We ?_;(first|refine Wb ?_|refine Zg rfl ?_|refine WI ?_|refine qd rfl rfl rfl rfl ?_|refine qw rfl rfl rfl rfl ?_|refine WN rfl rfl (by omega) ?_|refine WD rfl rfl (by omega) ?_))|(refine Wc ?_;(first|refine Q7 ?_|refine Qm ?_|refine QM ?_|refine QV ?_|refine QD rfl ?_|refine Qu rfl (by omega) ?_|refine Qn rfl (by omega) ?_|refine Wi ?_)))
    refine e_1 (Tryz.results79) (Qg (size := 4) rfl rfl rfl rfl) ?_
    rw [Qr]
    exact ZI (by first|rfl|(simp [Qo, Wf];try rfl)) rfl
  ·obtain ⟨hqv1, hE1⟩ := hE2x (a + 1) (L - 1) ⟨by omega, by omega, by omega, by omega⟩
   obtain ⟨fv1, dv1, sv1, wv1, mv1, uv1⟩ := hqv1
   generalize E2 (a + 1) (L - 1) = tv1 at *
   obtain ⟨v1, b1, M1⟩ := tv1
   dsimp only at *
   have spv1 := QZ v1
   clear hE2x hE1x hsm hrq
   refine ⟨(.mk 20 (0) (0) [v1], b1, M1), ?_, fun g B hg => ?_⟩
   ·refine ⟨Zh ⟨5, 0, 0, 0, [4], 0, 0, 0⟩ rfl (by decide) (by decide) (by dsimp only;omega) (by dsimp only;omega) (by first|(simp;done)|(simp;omega)) (kids1 fv1), ?_, ?_, ?_, ?_, ?_⟩
    ·rw [Q5];(try simp only [Q6]);omega
    ·rw [Qk];(try simp only [Qs]);omega
    ·dsimp only;omega
    ·dsimp only;omega
    ·dsimp only;omega
   ·refine Qa Tryz.func79 rfl Tryz.ntmps79 rfl (t := [(0, .ptr 0 g 0), (1, .i dd)]) rfl fun E0 hE0 => ?_
    (repeat' first|(refine Qz ?_;(first|refine Ws rfl ?_|refine WM rfl ?_|(refine QN ?_;(first|refine Z4 rfl rfl ?_|refine Qc rfl rfl rfl ?_))|(refine Qw ?_;(first|refine qC rfl rfl (by omega) ?_|refine qv rfl rfl ?_|refine WX rfl rfl ?_|refine s_rem rfl rfl (by first|omega|exact nn_shr (by omega)) (by omega) ?_))|(refine QK ?_;(first|refine Wh 0 (Zo l hl _ _ _ (by omega) (by omega)) rfl rfl rfl rfl ?_|refine Wh 0 (hE1) rfl rfl rfl rfl ?_))|(refine Q1 ?_;(first|refine ZO rfl rfl ?_|refine W9 rfl rfl ?_))|(refine Wr ?_;(first|refine qh rfl rfl rfl rfl ?_|refine Wg rfl rfl rfl rfl (by rfl) (by rfl) (by rfl) ?_))|refine QO (z := v1) rfl rfl (by decide) ?_|refine Qe rfl rfl ?_|refine QB rfl rfl ?_|refine Qj rfl rfl ?_|refine QU (fun _ _ => ?_)))|(refine We ?_;(first|refine Wb ?_|refine Zg rfl ?_|refine WI ?_|refine qd rfl rfl rfl rfl ?_|refine qw rfl rfl rfl rfl ?_|refine WN rfl rfl (by omega) ?_|refine WD rfl rfl (by omega) ?_))|(refine Wc ?_;(first|refine Q7 ?_|refine Qm ?_|refine QM ?_|refine QV ?_|refine QD rfl ?_|refine Qu rfl (by omega) ?_|refine Qn rfl (by omega) ?_|refine Wi ?_)))
    refine e_1 (Tryz.results79) (Qg (size := 4) rfl rfl rfl rfl) ?_
    rw [Qr]
    exact ZI (by first|rfl|(simp [Qo, Wf];try rfl)) rfl
  ·obtain ⟨hqv1, hE1⟩ := hE2x (a + 1) (L - 1) ⟨by omega, by omega, by omega, by omega⟩
   obtain ⟨fv1, dv1, sv1, wv1, mv1, uv1⟩ := hqv1
   generalize E2 (a + 1) (L - 1) = tv1 at *
   obtain ⟨v1, b1, M1⟩ := tv1
   dsimp only at *
   have spv1 := QZ v1
   have n3 := QQ l (b1) (most := 3) (by decide)
   clear hE2x hE1x hsm hrq
   refine ⟨(.mk 22 (atI l b1 3) (0) [v1], b1 + 1, M1), ?_, fun g B hg => ?_⟩
   ·refine ⟨Zh ⟨5, 0, 2, 0, [4], 0, 0, 0⟩ rfl (by decide) (by decide) (by dsimp only;omega) (by dsimp only;omega) (by first|(simp;done)|(simp;omega)) (kids1 fv1), ?_, ?_, ?_, ?_, ?_⟩
    ·rw [Q5];(try simp only [Q6]);omega
    ·rw [Qk];(try simp only [Qs]);omega
    ·dsimp only;omega
    ·dsimp only;omega
    ·dsimp only;omega
   ·refine Qa Tryz.func79 rfl Tryz.ntmps79 rfl (t := [(0, .ptr 0 g 0), (1, .i dd)]) rfl fun E0 hE0 => ?_
    (repeat' first|(refine Qz ?_;(first|refine Ws rfl ?_|refine WM rfl ?_|refine Qc rfl rfl rfl ?_|(refine Qw ?_;(first|refine qC rfl rfl (by omega) ?_|refine qv rfl rfl ?_|refine WX rfl rfl ?_|refine s_rem rfl rfl (by first|omega|exact nn_shr (by omega)) (by omega) ?_))|(refine QK ?_;(first|refine Wh 0 (Zo l hl _ _ _ (by omega) (by omega)) rfl rfl rfl rfl ?_|refine Wh 0 (hE1) rfl rfl rfl rfl ?_))|(refine Q1 ?_;(first|refine ZO rfl rfl ?_|refine W9 rfl rfl ?_))|(refine Wr ?_;(first|refine qh rfl rfl rfl rfl ?_|refine Wg rfl rfl rfl rfl (by rfl) (by rfl) (by rfl) ?_))|refine Qe rfl rfl ?_|refine Qj rfl rfl ?_|refine QU (fun _ _ => ?_)))|(refine We ?_;(first|refine Wb ?_|refine Zg rfl ?_|refine WI ?_|refine qd rfl rfl rfl rfl ?_|refine qw rfl rfl rfl rfl ?_|refine WN rfl rfl (by omega) ?_|refine WD rfl rfl (by omega) ?_))|(refine Wc ?_;(first|refine Q7 ?_|refine Qm ?_|refine QM ?_|(refine WC ?_;first|(rename_i g4 hg4 ge hge;refine Ql (fun p => p :: .row g4 [.i 0, .i 0, .i 0, .nil] :: .row ge (Enc.enc v1) :: []) 6 [(0, true), (1, true), (2, true), (3, false), (4, true), (5, true), (6, false)] (by rfl) (by rfl) (by kernel_rfl) (by decide +kernel) (by decide +kernel) ⟨_, rfl⟩ ?_)|(rename_i g4 hg4 ge hge;refine Ql (fun p => p :: .row g4 [.i 0, .i 0, .i 0, .nil] :: .row ge (Enc.enc v1) :: []) 9 [(0, true), (1, true), (2, true), (4, true), (5, true), (3, false), (6, false), (7, true), (8, true), (9, false)] (by rfl) (by rfl) (by kernel_rfl) (by decide +kernel) (by decide +kernel) ⟨_, rfl⟩ ?_)|(rename_i g4 hg4 ge hge;refine Ql (fun p => p :: .row g4 [.i 0, .i 0, .i 0, .nil] :: .row ge (Enc.enc v1) :: []) 7 [(0, true), (2, true), (4, true), (5, true), (1, false), (3, false), (6, true), (7, false)] (by rfl) (by rfl) (by kernel_rfl) (by decide +kernel) (by decide +kernel) ⟨_, rfl⟩ ?_)|(rename_i g4 hg4 ge hge;refine Ql (fun p => p :: .row g4 [.i 0, .i 0, .i 0, .nil] :: .row ge (Enc.enc v1) :: []) 7 [(0, true), (2, true), (3, true), (1, false), (4, false), (5, true), (6, true), (7, false)] (by rfl) (by rfl) (by kernel_rfl) (by decide +kernel) (by decide +kernel) ⟨_, rfl⟩ ?_)|(rename_i g4 hg4 ge hge;refine Ql (fun p => p :: .row g4 [.i 0, .i 0, .i 0, .nil] :: .row ge (Enc.enc v1) :: []) 5 [(0, true), (2, true), (3, true), (1, false), (4, true), (5, false)] (by rfl) (by rfl) (by kernel_rfl) (by decide +kernel) (by decide +kernel) ⟨_, rfl⟩ ?_)|(refine Ql (fun p => p) 100 [(0, true)] (by rfl) (by rfl) (by kernel_rfl) (by decide +kernel) (by decide +kernel) ⟨_, rfl⟩ ?_)|(refine Ql (fun p => p.1 :: .row g4 [.i 0, .i 0, .i 0, .nil] :: .row g5 [.i 13, .i 0, .i 0, .ref 3 gg 0 o.length 4] :: p.2) 9 [(0, true), (1, true), (2, true), (3, true), (4, true), (5, false), (6, true), (7, false), (8, true), (9, false)] (by rfl) (by rfl) (by kernel_rfl) (by decide +kernel) (by decide +kernel) ⟨(_, _), rfl⟩ ?_)|refine Q9 (by rfl) (by kernel_rfl) (by kernel_rfl) ?_|refine Q8 (by kernel_rfl) (by kernel_rfl) ?_)|refine QV ?_|refine QD rfl ?_|refine Qu rfl (by omega) ?_|refine Qn rfl (by omega) ?_|refine Wi ?_))|(refine ZG ?_;(first|refine qL ?_|refine i_z0 ?_|refine i_st rfl rfl (fun _ => (by (repeat' first|(refine Qz ?_;(first|refine Ws rfl ?_|refine Z4 rfl rfl ?_|refine QO (z := v1) rfl rfl (by decide) ?_|refine QB rfl rfl ?_))|exact ⟨rfl, rfl⟩))) ?_|refine i_ef rfl ?_))|refine And.intro (Exists.intro (_) rfl) ?_)
    refine e_1 (Tryz.results79) (Qg (size := 4) rfl rfl rfl rfl) ?_
    rw [Qr]
    exact ZI (by first|rfl|(simp [Qo, Wf];try rfl)) rfl
  ·obtain ⟨hqv1, hE1⟩ := hE2x (a + 1) (L - 1) ⟨by omega, by omega, by omega, by omega⟩
   obtain ⟨fv1, dv1, sv1, wv1, mv1, uv1⟩ := hqv1
   generalize E2 (a + 1) (L - 1) = tv1 at *
   obtain ⟨v1, b1, M1⟩ := tv1
   dsimp only at *
   have spv1 := QZ v1
   have hS1 := hsm (b1 + 1) M1 ⟨by omega, by omega, by omega, by omega⟩ (by omega) (by omega)
   have hb := QQ l (b1 + 1) (most := 4) (by decide)
   obtain ⟨N, hN⟩ : ∃ N : Nat, atI l (b1 + 1) 4 = (N : Int) := ⟨(atI l (b1 + 1) 4).toNat, by omega⟩
   rw [hN, show ((N : Int)).toNat = N by omega, show ((1 : Nat) : Int) + 1 = 2 from rfl] at hS1
   have hq := hrq N (b1 + 1 + 1) M1 (by omega) ⟨by omega, by omega, by omega, by omega⟩ (by omega)
   have hln := runM_len E1 N (b1 + 1 + 1) M1
   obtain ⟨f2, d2, s2, w2, m2, u2⟩ := hq
   generalize runM E1 N (b1 + 1 + 1) M1 = T at *
   obtain ⟨ks, b2, M2⟩ := T
   dsimp only at *
   have hdl := depthL_le d2
   have n6 := QQ l (b1) (most := 6) (by decide)
   clear hE2x hE1x hsm hrq
   refine ⟨(.mk 23 (atI l b1 6) (0) ks, b2, M2), ?_, fun g B hg => ?_⟩
   ·refine ⟨Zh ⟨5, 0, 5, 0, [], 3, 0, 4⟩ rfl (by decide) (by decide) (by dsimp only;omega) (by dsimp only;omega) (by first|(simp;done)|(simp;omega)) (kidsA rfl f2), ?_, ?_, ?_, ?_, ?_⟩
    ·rw [Q5];(try simp only [Q6]);omega
    ·rw [Qk];(try simp only [Qs]);omega
    ·dsimp only;omega
    ·dsimp only;omega
    ·dsimp only;omega
   ·refine Qa Tryz.func79 rfl Tryz.ntmps79 rfl (t := [(0, .ptr 0 g 0), (1, .i dd)]) rfl fun E0 hE0 => ?_
    (repeat' first|(refine Qz ?_;(first|refine Ws rfl ?_|refine WM rfl ?_|refine Qc rfl rfl rfl ?_|(refine Qw ?_;(first|refine qC rfl rfl (by omega) ?_|refine qv rfl rfl ?_|refine WX rfl rfl ?_|refine s_rem rfl rfl (by first|omega|exact nn_shr (by omega)) (by omega) ?_))|(refine QK ?_;(first|refine Wh 0 (Zo l hl _ _ _ (by omega) (by omega)) rfl rfl rfl rfl ?_|refine Wh 0 (hE1) rfl rfl rfl rfl ?_|refine Wh 0 (hS1) rfl rfl rfl rfl ?_))|(refine Q1 ?_;(first|refine ZO rfl rfl ?_|refine W9 rfl rfl ?_))|(refine Wr ?_;(first|refine qh rfl rfl rfl rfl ?_|refine Wg rfl rfl rfl rfl (by rfl) (by rfl) (by rfl) ?_))|refine Qe rfl rfl ?_|refine QB rfl rfl ?_|refine Qj rfl rfl ?_|refine QU (fun _ _ => ?_)))|(refine We ?_;(first|refine Wb ?_|refine Zg rfl ?_|refine WI ?_|refine qd rfl rfl rfl rfl ?_|refine qw rfl rfl rfl rfl ?_|refine WN rfl rfl (by omega) ?_|refine WD rfl rfl (by omega) ?_))|(refine Wc ?_;(first|refine Q7 ?_|refine Qm ?_|refine QM ?_|refine QV ?_|refine QD rfl ?_|refine Qu rfl (by omega) ?_|refine Qn rfl (by omega) ?_|refine Wi ?_)))
    refine e_1 (Tryz.results79) (Qg (size := 4) rfl rfl rfl rfl) ?_
    rw [Qr]
    exact ZI (by first|rfl|(simp [Qo, Wf];try rfl)) rfl
  ·obtain ⟨hqv1, hE1⟩ := hE2x (a + 1) (L - 1) ⟨by omega, by omega, by omega, by omega⟩
   obtain ⟨fv1, dv1, sv1, wv1, mv1, uv1⟩ := hqv1
   generalize E2 (a + 1) (L - 1) = tv1 at *
   obtain ⟨v1, b1, M1⟩ := tv1
   dsimp only at *
   have spv1 := QZ v1
   clear hE2x hE1x hsm hrq
   refine ⟨(.mk 24 (0) (0) [v1], b1, M1), ?_, fun g B hg => ?_⟩
   ·refine ⟨Zh ⟨5, 0, 0, 0, [4], 0, 0, 0⟩ rfl (by decide) (by decide) (by dsimp only;omega) (by dsimp only;omega) (by first|(simp;done)|(simp;omega)) (kids1 fv1), ?_, ?_, ?_, ?_, ?_⟩
    ·rw [Q5];(try simp only [Q6]);omega
    ·rw [Qk];(try simp only [Qs]);omega
    ·dsimp only;omega
    ·dsimp only;omega
    ·dsimp only;omega
   ·refine Qa Tryz.func79 rfl Tryz.ntmps79 rfl (t := [(0, .ptr 0 g 0), (1, .i dd)]) rfl fun E0 hE0 => ?_
    (repeat' first|(refine Qz ?_;(first|refine Ws rfl ?_|refine WM rfl ?_|(refine QN ?_;(first|refine Z4 rfl rfl ?_|refine Qc rfl rfl rfl ?_))|(refine Qw ?_;(first|refine qC rfl rfl (by omega) ?_|refine qv rfl rfl ?_|refine WX rfl rfl ?_|refine s_rem rfl rfl (by first|omega|exact nn_shr (by omega)) (by omega) ?_))|(refine QK ?_;(first|refine Wh 0 (Zo l hl _ _ _ (by omega) (by omega)) rfl rfl rfl rfl ?_|refine Wh 0 (hE1) rfl rfl rfl rfl ?_))|(refine Q1 ?_;(first|refine ZO rfl rfl ?_|refine W9 rfl rfl ?_))|(refine Wr ?_;(first|refine qh rfl rfl rfl rfl ?_|refine Wg rfl rfl rfl rfl (by rfl) (by rfl) (by rfl) ?_))|refine QO (z := v1) rfl rfl (by decide) ?_|refine Qe rfl rfl ?_|refine QB rfl rfl ?_|refine Qj rfl rfl ?_|refine QU (fun _ _ => ?_)))|(refine We ?_;(first|refine Wb ?_|refine Zg rfl ?_|refine WI ?_|refine qd rfl rfl rfl rfl ?_|refine qw rfl rfl rfl rfl ?_|refine WN rfl rfl (by omega) ?_|refine WD rfl rfl (by omega) ?_))|(refine Wc ?_;(first|refine Q7 ?_|refine Qm ?_|refine QM ?_|refine QV ?_|refine QD rfl ?_|refine Qu rfl (by omega) ?_|refine Qn rfl (by omega) ?_|refine Wi ?_)))
    refine e_1 (Tryz.results79) (Qg (size := 4) rfl rfl rfl rfl) ?_
    rw [Qr]
    exact ZI (by first|rfl|(simp [Qo, Wf];try rfl)) rfl
  ·obtain ⟨hqv1, hE1⟩ := hE2x (a + 1) (L - 1) ⟨by omega, by omega, by omega, by omega⟩
   obtain ⟨fv1, dv1, sv1, wv1, mv1, uv1⟩ := hqv1
   generalize E2 (a + 1) (L - 1) = tv1 at *
   obtain ⟨v1, b1, M1⟩ := tv1
   dsimp only at *
   have spv1 := QZ v1
   clear hE2x hE1x hsm hrq
   refine ⟨(.mk 25 (0) (0) [], b1, M1), ?_, fun g B hg => ?_⟩
   ·refine ⟨Zh ⟨5, 0, 0, 0, [], 0, 0, 0⟩ rfl (by decide) (by decide) (by dsimp only;omega) (by dsimp only;omega) (by first|(simp;done)|(simp;omega)) (kids0), ?_, ?_, ?_, ?_, ?_⟩
    ·rw [Q5];(try simp only [Q6]);omega
    ·rw [Qk];(try simp only [Qs]);omega
    ·dsimp only;omega
    ·dsimp only;omega
    ·dsimp only;omega
   ·refine Qa Tryz.func79 rfl Tryz.ntmps79 rfl (t := [(0, .ptr 0 g 0), (1, .i dd)]) rfl fun E0 hE0 => ?_
    (repeat' first|(refine Qz ?_;(first|refine Ws rfl ?_|refine WM rfl ?_|refine Qc rfl rfl rfl ?_|(refine Qw ?_;(first|refine qC rfl rfl (by omega) ?_|refine qv rfl rfl ?_|refine WX rfl rfl ?_|refine s_rem rfl rfl (by first|omega|exact nn_shr (by omega)) (by omega) ?_))|(refine QK ?_;(first|refine Wh 0 (Zo l hl _ _ _ (by omega) (by omega)) rfl rfl rfl rfl ?_|refine Wh 0 (hE1) rfl rfl rfl rfl ?_))|(refine Q1 ?_;(first|refine ZO rfl rfl ?_|refine W9 rfl rfl ?_))|(refine Wr ?_;(first|refine qh rfl rfl rfl rfl ?_|refine Wg rfl rfl rfl rfl (by rfl) (by rfl) (by rfl) ?_))|refine Qe rfl rfl ?_|refine QB rfl rfl ?_|refine Qj rfl rfl ?_|refine QU (fun _ _ => ?_)))|(refine We ?_;(first|refine Wb ?_|refine Zg rfl ?_|refine WI ?_|refine qd rfl rfl rfl rfl ?_|refine qw rfl rfl rfl rfl ?_|refine WN rfl rfl (by omega) ?_|refine WD rfl rfl (by omega) ?_))|(refine Wc ?_;(first|refine Q7 ?_|refine Qm ?_|refine QM ?_|refine QV ?_|refine QD rfl ?_|refine Qu rfl (by omega) ?_|refine Qn rfl (by omega) ?_|refine Wi ?_)))
    exact e_1 (Tryz.results79) (Qg (size := 4) rfl rfl rfl rfl) (WU (es := 4) (.node rfl rfl rfl) (by show _ = DV.agg (Enc.enc (Nd.mk _ _ _ []));rw [Qr];rfl) rfl)
theorem chStmt (l : List Int) (hl : OkI l) : ∀ (e : Nat), e <= 8 -> ∃ S : GenF, ∀ a L, preS a L -> QE 5 (2 * e + 4) 5 (7 + e) (S a L).1 a L (S a L).2.1 (S a L).2.2 /\ CE Tryz.prog G 79 (fun p g => [.ptr p g 0, .i ((e : Int) - 1)]) (genC l a L) (.agg (Enc.enc (S a L).1)) (genC l (S a L).2.1 (S a L).2.2) := by
 obtain ⟨E2, hE2x⟩ := chExpr (G := G) l hl 2 (by decide)
 obtain ⟨E1, hE1x⟩ := chExpr (G := G) l hl 1 (by decide)
 intro e
 induction e with
 | zero =>
  intro _
  refine gen_skolem (pre := preS) (R := fun a L t => QE 5 (2 * 0 + 4) 5 (7 + (0 : Nat)) t.1 a L t.2.1 t.2.2 /\ CE Tryz.prog G 79 (fun p g => [.ptr p g 0, .i (((0 : Nat) : Int) - 1)]) (genC l a L) (.agg (Enc.enc t.1)) (genC l t.2.1 t.2.2)) fun a L h => ?_
  have bx := QQ l a (most := 14) (by decide)
  exact chLeafS l hl E2 E1 hE2x hE1x (((0 : Nat) : Int) - 1) a L (atI l a 14 % 10) h (.inl ⟨by decide, rfl⟩) (by omega)
 | succ e ih =>
 intro he
 obtain ⟨S, hS⟩ := ih (by omega)
 refine gen_skolem (pre := preS) (R := fun a L t => QE 5 (2 * (e + 1) + 4) 5 (7 + (e + 1 : Nat)) t.1 a L t.2.1 t.2.2 /\ CE Tryz.prog G 79 (fun p g => [.ptr p g 0, .i (((e + 1 : Nat) : Int) - 1)]) (genC l a L) (.agg (Enc.enc t.1)) (genC l t.2.1 t.2.2)) fun a L h => ?_
 have bx := QQ l a (most := 14) (by decide)
 have lift : (∃ t : Nd × Int × Int, QE 5 4 5 7 t.1 a L t.2.1 t.2.2 /\ CE Tryz.prog G 79 (fun p g => [.ptr p g 0, .i (((e + 1 : Nat) : Int) - 1)]) (genC l a L) (.agg (Enc.enc t.1)) (genC l t.2.1 t.2.2)) -> ∃ t : Nd × Int × Int, QE 5 (2 * (e + 1) + 4) 5 (7 + (e + 1 : Nat)) t.1 a L t.2.1 t.2.2 /\ CE Tryz.prog G 79 (fun p g => [.ptr p g 0, .i (((e + 1 : Nat) : Int) - 1)]) (genC l a L) (.agg (Enc.enc t.1)) (genC l t.2.1 t.2.2) := fun ⟨t, hq, hc⟩ => by
  have q1 := hq.low
  have q2 := hq.dep
  exact ⟨t, ⟨hq.fit, by omega, hq.size, by omega, hq.mono, hq.used⟩, hc⟩
 by_cases hd0 : ((e + 1 : Nat) : Int) - 1 <= 0
 ·exact lift (chLeafS l hl E2 E1 hE2x hE1x _ a L (atI l a 14 % 10) h (.inl ⟨hd0, rfl⟩) (by omega))
 by_cases hlf : L - 1 <= 0
 ·exact lift (chLeafS l hl E2 E1 hE2x hE1x _ a L (atI l a 14 % 10) h (.inr (.inl ⟨by omega, hlf, rfl⟩)) (by omega))
 by_cases hx9 : atI l a 14 <= 9
 ·exact lift (chLeafS l hl E2 E1 hE2x hE1x _ a L (atI l a 14) h (.inr (.inr ⟨by omega, by omega, rfl⟩)) (by omega))
 clear lift
 obtain ⟨Bk, hBk⟩ := chBlock (G := G) l hl e (by omega) S hS
 obtain ⟨p1, p2, p3, p4⟩ := h
 have hed : ((e + 1 : Nat) : Int) - 1 = (e : Nat) := by omega
 rw [hed] at hd0 ⊢
 have hxx : atI l a 14 = 10 \/ atI l a 14 = 11 \/ atI l a 14 = 12 \/ atI l a 14 = 13 := by omega
 generalize hdd : ((e : Nat) : Int) = dd at *
 rcases hxx with hx|hx|hx|hx
 ·obtain ⟨hqv1, hE1⟩ := hE2x (a + 1) (L - 1) ⟨by omega, by omega, by omega, by omega⟩
  obtain ⟨fv1, dv1, sv1, wv1, mv1, uv1⟩ := hqv1
  generalize E2 (a + 1) (L - 1) = tv1 at *
  obtain ⟨v1, b1, M1⟩ := tv1
  dsimp only at *
  have spv1 := QZ v1
  obtain ⟨hqw1, hB1⟩ := hBk (b1) (M1) ⟨by omega, by omega, by omega, by omega⟩
  obtain ⟨fw1, dw1, sw1, ww1, mw1, uw1⟩ := hqw1
  generalize Bk (b1) (M1) = tw1 at *
  obtain ⟨w1, c1, K1⟩ := tw1
  dsimp only at *
  have spw1 := QZ w1
  obtain ⟨hqw2, hB2⟩ := hBk (c1) (K1) ⟨by omega, by omega, by omega, by omega⟩
  obtain ⟨fw2, dw2, sw2, ww2, mw2, uw2⟩ := hqw2
  generalize Bk (c1) (K1) = tw2 at *
  obtain ⟨w2, c2, K2⟩ := tw2
  dsimp only at *
  have spw2 := QZ w2
  clear hE2x hE1x hS hBk ih
  refine ⟨(.mk 17 (0) (0) [v1, w1, w2], c2, K2), ?_, fun g B hg => ?_⟩
  ·refine ⟨Zh ⟨5, 0, 0, 0, [4, 6, 6], 0, 0, 0⟩ rfl (by decide) (by decide) (by dsimp only;omega) (by dsimp only;omega) (by first|(simp;done)|(simp;omega)) (kids3 fv1 fw1 fw2), ?_, ?_, ?_, ?_, ?_⟩
   ·rw [Q5];(try simp only [Q6]);omega
   ·rw [Qk];(try simp only [Qs]);omega
   ·dsimp only;omega
   ·dsimp only;omega
   ·dsimp only;omega
  ·refine Qa Tryz.func79 rfl Tryz.ntmps79 rfl (t := [(0, .ptr 0 g 0), (1, .i dd)]) rfl fun E0 hE0 => ?_
   (repeat' first|(refine Qz ?_;(first|refine Ws rfl ?_|refine WM rfl ?_|refine Qc rfl rfl rfl ?_|(refine Qw ?_;(first|refine qC rfl rfl (by omega) ?_|refine qv rfl rfl ?_|refine WX rfl rfl ?_))|(refine QK ?_;(first|refine Wh 0 (Zo l hl _ _ _ (by omega) (by omega)) rfl rfl rfl rfl ?_|refine Wh 0 (hE1) rfl rfl rfl rfl ?_|refine Wh 0 (hB1) rfl rfl rfl rfl ?_|refine Wh 0 (hB2) rfl rfl rfl rfl ?_))|refine W9 rfl rfl ?_|(refine Wr ?_;(first|refine qh rfl rfl rfl rfl ?_|refine Wg rfl rfl rfl rfl (by rfl) (by rfl) (by rfl) ?_))|refine Qe rfl rfl ?_|refine Qj rfl rfl ?_|refine QU (fun _ _ => ?_)))|(refine We ?_;(first|refine Wb ?_|refine Zg rfl ?_|refine WI ?_|refine qd rfl rfl rfl rfl ?_|refine WD rfl rfl (by omega) ?_))|(refine Wc ?_;(first|refine Q7 ?_|refine Qm ?_|refine QM ?_|(refine WC ?_;first|(rename_i g4 hg4 ge hge;refine Ql (fun p => p :: .row g4 [.i 0, .i 0, .i 0, .nil] :: .row ge (Enc.enc v1) :: []) 6 [(0, true), (1, true), (2, true), (3, false), (4, true), (5, true), (6, false)] (by rfl) (by rfl) (by kernel_rfl) (by decide +kernel) (by decide +kernel) ⟨_, rfl⟩ ?_)|(rename_i g4 hg4 ge hge;refine Ql (fun p => p :: .row g4 [.i 0, .i 0, .i 0, .nil] :: .row ge (Enc.enc v1) :: []) 9 [(0, true), (1, true), (2, true), (4, true), (5, true), (3, false), (6, false), (7, true), (8, true), (9, false)] (by rfl) (by rfl) (by kernel_rfl) (by decide +kernel) (by decide +kernel) ⟨_, rfl⟩ ?_)|(rename_i g4 hg4 ge hge;refine Ql (fun p => p :: .row g4 [.i 0, .i 0, .i 0, .nil] :: .row ge (Enc.enc v1) :: []) 7 [(0, true), (2, true), (4, true), (5, true), (1, false), (3, false), (6, true), (7, false)] (by rfl) (by rfl) (by kernel_rfl) (by decide +kernel) (by decide +kernel) ⟨_, rfl⟩ ?_)|(rename_i g4 hg4 ge hge;refine Ql (fun p => p :: .row g4 [.i 0, .i 0, .i 0, .nil] :: .row ge (Enc.enc v1) :: []) 7 [(0, true), (2, true), (3, true), (1, false), (4, false), (5, true), (6, true), (7, false)] (by rfl) (by rfl) (by kernel_rfl) (by decide +kernel) (by decide +kernel) ⟨_, rfl⟩ ?_)|(rename_i g4 hg4 ge hge;refine Ql (fun p => p :: .row g4 [.i 0, .i 0, .i 0, .nil] :: .row ge (Enc.enc v1) :: []) 5 [(0, true), (2, true), (3, true), (1, false), (4, true), (5, false)] (by rfl) (by rfl) (by kernel_rfl) (by decide +kernel) (by decide +kernel) ⟨_, rfl⟩ ?_)|(refine Ql (fun p => p) 100 [(0, true)] (by rfl) (by rfl) (by kernel_rfl) (by decide +kernel) (by decide +kernel) ⟨_, rfl⟩ ?_)|(refine Ql (fun p => p.1 :: .row g4 [.i 0, .i 0, .i 0, .nil] :: .row g5 [.i 13, .i 0, .i 0, .ref 3 gg 0 o.length 4] :: p.2) 9 [(0, true), (1, true), (2, true), (3, true), (4, true), (5, false), (6, true), (7, false), (8, true), (9, false)] (by rfl) (by rfl) (by kernel_rfl) (by decide +kernel) (by decide +kernel) ⟨(_, _), rfl⟩ ?_)|refine Q9 (by rfl) (by kernel_rfl) (by kernel_rfl) ?_|refine Q8 (by kernel_rfl) (by kernel_rfl) ?_)|refine QV ?_|refine Qu rfl (by omega) ?_|refine Qn rfl (by omega) ?_|refine Wi ?_))|(refine ZG ?_;(first|refine qL ?_|refine i_z0 ?_|refine i_st rfl rfl (fun _ => (by (repeat' first|(refine Qz ?_;(first|refine Ws rfl ?_|refine Z4 rfl rfl ?_|refine qU (x := v1) (y := w1) (z := w2) rfl rfl (by decide) ?_|refine QB rfl rfl ?_))|exact ⟨rfl, rfl⟩))) ?_|refine i_ef rfl ?_))|refine And.intro (Exists.intro (_) rfl) ?_)
   refine e_1 (Tryz.results79) (Qg (size := 4) rfl rfl rfl rfl) ?_
   rw [Qr]
   exact ZI (by first|rfl|(simp [Qo, Wf];try rfl)) rfl
 ·obtain ⟨hqv1, hE1⟩ := hE2x (a + 1) (L - 1) ⟨by omega, by omega, by omega, by omega⟩
  obtain ⟨fv1, dv1, sv1, wv1, mv1, uv1⟩ := hqv1
  generalize E2 (a + 1) (L - 1) = tv1 at *
  obtain ⟨v1, b1, M1⟩ := tv1
  dsimp only at *
  have spv1 := QZ v1
  obtain ⟨hqw1, hB1⟩ := hBk (b1) (M1) ⟨by omega, by omega, by omega, by omega⟩
  obtain ⟨fw1, dw1, sw1, ww1, mw1, uw1⟩ := hqw1
  generalize Bk (b1) (M1) = tw1 at *
  obtain ⟨w1, c1, K1⟩ := tw1
  dsimp only at *
  have spw1 := QZ w1
  clear hE2x hE1x hS hBk ih
  refine ⟨(.mk 18 (0) (0) [v1, w1], c1, K1), ?_, fun g B hg => ?_⟩
  ·refine ⟨Zh ⟨5, 0, 0, 0, [4, 6], 0, 0, 0⟩ rfl (by decide) (by decide) (by dsimp only;omega) (by dsimp only;omega) (by first|(simp;done)|(simp;omega)) (kids2 fv1 fw1), ?_, ?_, ?_, ?_, ?_⟩
   ·rw [Q5];(try simp only [Q6]);omega
   ·rw [Qk];(try simp only [Qs]);omega
   ·dsimp only;omega
   ·dsimp only;omega
   ·dsimp only;omega
  ·refine Qa Tryz.func79 rfl Tryz.ntmps79 rfl (t := [(0, .ptr 0 g 0), (1, .i dd)]) rfl fun E0 hE0 => ?_
   (repeat' first|(refine Qz ?_;(first|refine Ws rfl ?_|refine WM rfl ?_|refine Qc rfl rfl rfl ?_|(refine Qw ?_;(first|refine qC rfl rfl (by omega) ?_|refine qv rfl rfl ?_|refine WX rfl rfl ?_))|(refine QK ?_;(first|refine Wh 0 (Zo l hl _ _ _ (by omega) (by omega)) rfl rfl rfl rfl ?_|refine Wh 0 (hE1) rfl rfl rfl rfl ?_|refine Wh 0 (hB1) rfl rfl rfl rfl ?_))|refine W9 rfl rfl ?_|(refine Wr ?_;(first|refine qh rfl rfl rfl rfl ?_|refine Wg rfl rfl rfl rfl (by rfl) (by rfl) (by rfl) ?_))|refine Qe rfl rfl ?_|refine Qj rfl rfl ?_|refine QU (fun _ _ => ?_)))|(refine We ?_;(first|refine Wb ?_|refine Zg rfl ?_|refine WI ?_|refine qd rfl rfl rfl rfl ?_|refine WD rfl rfl (by omega) ?_))|(refine Wc ?_;(first|refine Q7 ?_|refine Qm ?_|refine QM ?_|(refine WC ?_;first|(rename_i g4 hg4 ge hge;refine Ql (fun p => p :: .row g4 [.i 0, .i 0, .i 0, .nil] :: .row ge (Enc.enc v1) :: []) 6 [(0, true), (1, true), (2, true), (3, false), (4, true), (5, true), (6, false)] (by rfl) (by rfl) (by kernel_rfl) (by decide +kernel) (by decide +kernel) ⟨_, rfl⟩ ?_)|(rename_i g4 hg4 ge hge;refine Ql (fun p => p :: .row g4 [.i 0, .i 0, .i 0, .nil] :: .row ge (Enc.enc v1) :: []) 9 [(0, true), (1, true), (2, true), (4, true), (5, true), (3, false), (6, false), (7, true), (8, true), (9, false)] (by rfl) (by rfl) (by kernel_rfl) (by decide +kernel) (by decide +kernel) ⟨_, rfl⟩ ?_)|(rename_i g4 hg4 ge hge;refine Ql (fun p => p :: .row g4 [.i 0, .i 0, .i 0, .nil] :: .row ge (Enc.enc v1) :: []) 7 [(0, true), (2, true), (4, true), (5, true), (1, false), (3, false), (6, true), (7, false)] (by rfl) (by rfl) (by kernel_rfl) (by decide +kernel) (by decide +kernel) ⟨_, rfl⟩ ?_)|(rename_i g4 hg4 ge hge;refine Ql (fun p => p :: .row g4 [.i 0, .i 0, .i 0, .nil] :: .row ge (Enc.enc v1) :: []) 7 [(0, true), (2, true), (3, true), (1, false), (4, false), (5, true), (6, true), (7, false)] (by rfl) (by rfl) (by kernel_rfl) (by decide +kernel) (by decide +kernel) ⟨_, rfl⟩ ?_)|(rename_i g4 hg4 ge hge;refine Ql (fun p => p :: .row g4 [.i 0, .i 0, .i 0, .nil] :: .row ge (Enc.enc v1) :: []) 5 [(0, true), (2, true), (3, true), (1, false), (4, true), (5, false)] (by rfl) (by rfl) (by kernel_rfl) (by decide +kernel) (by decide +kernel) ⟨_, rfl⟩ ?_)|(refine Ql (fun p => p) 100 [(0, true)] (by rfl) (by rfl) (by kernel_rfl) (by decide +kernel) (by decide +kernel) ⟨_, rfl⟩ ?_)|(refine Ql (fun p => p.1 :: .row g4 [.i 0, .i 0, .i 0, .nil] :: .row g5 [.i 13, .i 0, .i 0, .ref 3 gg 0 o.length 4] :: p.2) 9 [(0, true), (1, true), (2, true), (3, true), (4, true), (5, false), (6, true), (7, false), (8, true), (9, false)] (by rfl) (by rfl) (by kernel_rfl) (by decide +kernel) (by decide +kernel) ⟨(_, _), rfl⟩ ?_)|refine Q9 (by rfl) (by kernel_rfl) (by kernel_rfl) ?_|refine Q8 (by kernel_rfl) (by kernel_rfl) ?_)|refine QV ?_|refine Qu rfl (by omega) ?_|refine Qn rfl (by omega) ?_|refine Wi ?_))|(refine ZG ?_;(first|refine qL ?_|refine i_z0 ?_|refine i_st rfl rfl (fun _ => (by (repeat' first|(refine Qz ?_;(first|refine Ws rfl ?_|refine Z4 rfl rfl ?_|refine WO (y := v1) (z := w1) rfl rfl (by decide) ?_|refine QB rfl rfl ?_))|exact ⟨rfl, rfl⟩))) ?_|refine i_ef rfl ?_))|refine And.intro (Exists.intro (_) rfl) ?_)
   refine e_1 (Tryz.results79) (Qg (size := 4) rfl rfl rfl rfl) ?_
   rw [Qr]
   exact ZI (by first|rfl|(simp [Qo, Wf];try rfl)) rfl
 ·obtain ⟨hqv1, hE1⟩ := hE2x (a + 1) (L - 1) ⟨by omega, by omega, by omega, by omega⟩
  obtain ⟨fv1, dv1, sv1, wv1, mv1, uv1⟩ := hqv1
  generalize E2 (a + 1) (L - 1) = tv1 at *
  obtain ⟨v1, b1, M1⟩ := tv1
  dsimp only at *
  have spv1 := QZ v1
  have n6 := QQ l (b1) (most := 6) (by decide)
  obtain ⟨hqw1, hB1⟩ := hBk (b1 + 1) (M1) ⟨by omega, by omega, by omega, by omega⟩
  obtain ⟨fw1, dw1, sw1, ww1, mw1, uw1⟩ := hqw1
  generalize Bk (b1 + 1) (M1) = tw1 at *
  obtain ⟨w1, c1, K1⟩ := tw1
  dsimp only at *
  have spw1 := QZ w1
  obtain ⟨hqw2, hB2⟩ := hBk (c1) (K1) ⟨by omega, by omega, by omega, by omega⟩
  obtain ⟨fw2, dw2, sw2, ww2, mw2, uw2⟩ := hqw2
  generalize Bk (c1) (K1) = tw2 at *
  obtain ⟨w2, c2, K2⟩ := tw2
  dsimp only at *
  have spw2 := QZ w2
  clear hE2x hE1x hS hBk ih
  refine ⟨(.mk 21 (atI l b1 6) (0) [w1, w2], c2, K2), ?_, fun g B hg => ?_⟩
  ·refine ⟨Zh ⟨5, 0, 5, 0, [6, 6], 0, 0, 0⟩ rfl (by decide) (by decide) (by dsimp only;omega) (by dsimp only;omega) (by first|(simp;done)|(simp;omega)) (kids2 fw1 fw2), ?_, ?_, ?_, ?_, ?_⟩
   ·rw [Q5];(try simp only [Q6]);omega
   ·rw [Qk];(try simp only [Qs]);omega
   ·dsimp only;omega
   ·dsimp only;omega
   ·dsimp only;omega
  ·refine Qa Tryz.func79 rfl Tryz.ntmps79 rfl (t := [(0, .ptr 0 g 0), (1, .i dd)]) rfl fun E0 hE0 => ?_
   (repeat' first|(refine Qz ?_;(first|refine Ws rfl ?_|refine WM rfl ?_|refine Qc rfl rfl rfl ?_|(refine Qw ?_;(first|refine qC rfl rfl (by omega) ?_|refine qv rfl rfl ?_|refine WX rfl rfl ?_))|(refine QK ?_;(first|refine Wh 0 (Zo l hl _ _ _ (by omega) (by omega)) rfl rfl rfl rfl ?_|refine Wh 0 (hE1) rfl rfl rfl rfl ?_|refine Wh 0 (hB1) rfl rfl rfl rfl ?_|refine Wh 0 (hB2) rfl rfl rfl rfl ?_))|refine W9 rfl rfl ?_|(refine Wr ?_;(first|refine qh rfl rfl rfl rfl ?_|refine Wg rfl rfl rfl rfl (by rfl) (by rfl) (by rfl) ?_))|refine WO (y := w1) (z := w2) rfl rfl (by decide) ?_|refine Qe rfl rfl ?_|refine QB rfl rfl ?_|refine Qj rfl rfl ?_|refine QU (fun _ _ => ?_)))|(refine We ?_;(first|refine Wb ?_|refine Zg rfl ?_|refine WI ?_|refine qd rfl rfl rfl rfl ?_|refine WD rfl rfl (by omega) ?_))|(refine Wc ?_;(first|refine Q7 ?_|refine Qm ?_|refine QM ?_|refine QV ?_|refine Qu rfl (by omega) ?_|refine Qn rfl (by omega) ?_|refine Wi ?_)))
   refine e_1 (Tryz.results79) (Qg (size := 4) rfl rfl rfl rfl) ?_
   rw [Qr]
   exact ZI (by first|rfl|(simp [Qo, Wf];try rfl)) rfl
 ·obtain ⟨hqv1, hE1⟩ := hE2x (a + 1) (L - 1) ⟨by omega, by omega, by omega, by omega⟩
  obtain ⟨fv1, dv1, sv1, wv1, mv1, uv1⟩ := hqv1
  generalize E2 (a + 1) (L - 1) = tv1 at *
  obtain ⟨v1, b1, M1⟩ := tv1
  dsimp only at *
  have spv1 := QZ v1
  obtain ⟨hqw1, hB1⟩ := hBk (b1) (M1) ⟨by omega, by omega, by omega, by omega⟩
  obtain ⟨fw1, dw1, sw1, ww1, mw1, uw1⟩ := hqw1
  generalize Bk (b1) (M1) = tw1 at *
  obtain ⟨w1, c1, K1⟩ := tw1
  dsimp only at *
  have spw1 := QZ w1
  clear hE2x hE1x hS hBk ih
  refine ⟨(w1, c1, K1), ⟨fit_block fw1, by dsimp only;omega, by dsimp only;omega, by dsimp only;omega, by dsimp only;omega, by dsimp only;omega⟩, fun g B hg => ?_⟩
  refine Qa Tryz.func79 rfl Tryz.ntmps79 rfl (t := [(0, .ptr 0 g 0), (1, .i dd)]) rfl fun E0 hE0 => ?_
  (repeat' first|(refine Qz ?_;(first|refine Ws rfl ?_|refine WM rfl ?_|refine Qc rfl rfl rfl ?_|(refine Qw ?_;(first|refine qC rfl rfl (by omega) ?_|refine qv rfl rfl ?_|refine WX rfl rfl ?_))|(refine QK ?_;(first|refine Wh 0 (Zo l hl _ _ _ (by omega) (by omega)) rfl rfl rfl rfl ?_|refine Wh 0 (hE1) rfl rfl rfl rfl ?_|refine Wh 0 (hB1) rfl rfl rfl rfl ?_))|refine W9 rfl rfl ?_|(refine Wr ?_;(first|refine qh rfl rfl rfl rfl ?_|refine Wg rfl rfl rfl rfl (by rfl) (by rfl) (by rfl) ?_))|refine Qe rfl rfl ?_|refine Qj rfl rfl ?_|refine QU (fun _ _ => ?_)))|(refine We ?_;(first|refine Wb ?_|refine Zg rfl ?_|refine WI ?_|refine qd rfl rfl rfl rfl ?_|refine WD rfl rfl (by omega) ?_))|(refine Wc ?_;(first|refine Q7 ?_|refine Qm ?_|refine QM ?_|refine QV ?_|refine Qn rfl (by omega) ?_|refine Wi ?_)))
  exact e_1 (Tryz.results79) (Qg (size := 4) rfl rfl (partD_nd0 _) (Enc.len _)) (ZI rfl rfl)
end Go.Proofs
end
section
namespace Go.Av
open Go.Bl
section
variable {P : Program} {G : Nat -> DV} {B : Nat} {f : Operand -> DV} {σ : List ABlk} {K : DV -> List ABlk -> Prop} {dst : Option Tmp} {type : TypeId} {pos : String} {after : Array Edge} {gd : Option (Nat × Bool)}
theorem OpSem.dsub {o : Oper} {K1 : DV -> List ABlk -> Prop} (h : OpSem P G B o f σ K1) (k : ∀ d σ', K1 d σ' -> ∃ d2, DSub d d2 /\ K d2 σ') : OpSem P G B o f σ K := fun X ρ hS hσ hB hG hf => by
 have hh := h X ρ hS hσ hB hG hf
 have ap : ∀ v w', APost X K1 v w' -> APost X K v w' := by
  rintro v w' ⟨Y, h1, h2, h3, d, h4, h5⟩
  obtain ⟨d2, hd, hk⟩ := k d Y.σ h5
  exact ⟨Y, h1, h2, h3, d2, hd.rep h4, hk⟩
 generalize (execOp ρ o).run P X.w = r at *
 match r, hh with
 | .ok (.value v) w', hh => exact ap v w' hh
 | .ok .skip w', hh => exact ap undef w' hh
 | .ok (.enter f args) w', hh => exact ⟨hh.1, hh.2.mono fun e w2 ⟨v, he, hv⟩ => ⟨v, he, ap v w2 hv⟩⟩
theorem s_build_nd {t : TypeId} {pl : List (Nat × Nat)} {zs : List Value} {ps : List (Nat × Operand)} {m : List (Nat × DV)} {k n mm : Int} [ht : TyS P t pl] [hz : TyZ P t zs] (hp : partsD f ps = some m) (hc : fillD (pl[·]?) (zs.map .sc) m = some [.i k, .i n, .i mm, .sc (.slice none 0 0)]) (kk : K (.agg (Enc.enc (Nd.mk k n mm []))) σ) :
  OpSem P G B ⟨dst, .build t ps.toArray, type, pos, after, gd⟩ f σ K := by
 refine (QB (K := fun d σ' => d = .agg [.i k, .i n, .i mm, .sc (.slice none 0 0)] /\ σ' = σ) hp hc ⟨rfl, rfl⟩).dsub ?_
 rintro d σ' ⟨rfl, rfl⟩
 refine ⟨_, ?_, kk⟩
 rw [Qr]
 exact .agg _ _ rfl (qI (.refl _) (qI (.refl _) (qI (.refl _) (qI (.nil 4) dsub_nil))))
end
end Go.Av
end
section
namespace Go.Proofs
open Go.Av
variable {G : Nat -> DV}
attribute [local irreducible] OpSem WR Zc Zp ACalls ZS AClose RV
open Go.Bl
def kindV (l : List Int) (a : Int) : Nd × Int :=
 if atI l a 4 = 0 then (.mk 1 0 0 [], a + 1) else if atI l a 4 = 1 then (.mk 2 (1 + atI l (a + 1) 4) 0 [], a + 1 + 1)
 else if atI l a 4 = 2 then (.mk 3 0 0 [.mk (atI l (a + 1) 2) 0 0 [], .mk (atI l (a + 1 + 1) 2) 0 0 []], a + 1 + 1 + 1) else (.mk 0 0 0 [], a + 1)
theorem fit_plain {k : Int} (h : k = 0 \/ k = 1) {w : Int} (hw : w = 2 \/ w = 3) : Qp (.mk k 0 0 []) w = true := by
 rcases h with rfl|rfl <;> rcases hw with rfl|rfl <;> decide
theorem kind_ok (l : List Int) (a : Int) : Qp (kindV l a).1 2 = true /\ Q5 (kindV l a).1 <= 2 /\ Qk (kindV l a).1 <= 3 /\ a + 1 <= (kindV l a).2 /\ (kindV l a).2 <= a + 3 := by
 have b4 := QQ l (a + 1) (most := 4) (by decide)
 have bA := QQ l (a + 1) (most := 2) (by decide)
 have bB := QQ l (a + 1 + 1) (most := 2) (by decide)
 unfold kindV
 repeat' split
 ·refine ⟨fit_plain (.inr rfl) (.inl rfl), ?_, ?_, ?_, ?_⟩
  ·simp [Q5, Q6]
  ·simp [Qk, Qs]
  ·dsimp only;omega
  ·dsimp only;omega
 ·refine ⟨Zh ⟨2, 1, 4, 0, [], 0, 0, 0⟩ rfl (by decide) (by decide) (by dsimp only;omega) (by decide) (by simp) kids0, ?_, ?_, ?_, ?_⟩
  ·simp [Q5, Q6]
  ·simp [Qk, Qs]
  ·dsimp only;omega
  ·dsimp only;omega
 ·refine ⟨Zh ⟨2, 0, 0, 0, [], 3, 1, 3⟩ rfl (by decide) (by decide) (by decide) (by decide) (by simp) (kidsA rfl ?_), ?_, ?_, ?_, ?_⟩
  ·intro x hx
   simp only [List.mem_cons, List.not_mem_nil, or_false] at hx
   rcases hx with rfl|rfl
   ·exact fit_plain (by omega) (.inr rfl)
   ·exact fit_plain (by omega) (.inr rfl)
  ·simp [Q5, Q6]
  ·simp [Qk, Qs]
  ·dsimp only;omega
  ·dsimp only;omega
 ·refine ⟨fit_plain (.inl rfl) (.inl rfl), ?_, ?_, ?_, ?_⟩
  ·simp [Q5, Q6]
  ·simp [Qk, Qs]
  ·dsimp only;omega
  ·dsimp only;omega
theorem wkSA {X W0 W1 W2 : Prop} (w0 : W0 := by exact True.intro) (w1 : W1 := by exact True.intro) (w2 : W2 := by exact True.intro) (s : (Unit -> W0) -> (Unit -> W1) -> (Unit -> W2) -> Unit -> X := by (intro w0 w1 w2 _;(repeat' first|(refine Qz ?_;(first|refine Ws rfl ?_|refine WM rfl ?_|(refine Qw ?_;(first|refine WX rfl rfl ?_|refine ZU rfl rfl (by omega) ?_))|(refine QK ?_;(first|refine Wh 0 (hnumA) rfl rfl rfl rfl ?_|refine Wh 0 (hnumB) rfl rfl rfl rfl ?_|refine Wh 0 (Zo l hl _ _ _ (by omega) (by omega)) rfl rfl rfl rfl ?_))|refine qh rfl rfl rfl rfl ?_|(refine g_build ?_;(first|refine s_build_nd (k := tyA) (n := 0) (mm := 0) rfl rfl ?_|refine s_build_nd (k := tyB) (n := 0) (mm := 0) rfl rfl ?_|refine QB rfl rfl ?_))|refine WO (y := Nd.mk tyA 0 0 []) (z := Nd.mk tyB 0 0 []) rfl rfl (by decide) ?_|refine QU (fun _ _ => ?_)))|(refine We ?_;(first|refine Wb ?_|refine Zg rfl ?_|refine WI ?_))|(refine Wc ?_;(first|refine Q7 ?_|refine Qm ?_|refine QM ?_|refine QV ?_|refine Qu rfl (by omega) ?_|refine Qn rfl (by omega) ?_|refine Wi ?_)));(all_goals (repeat (rename_i x;(fail_if_success have : Unit := x);revert x)));(first|done|exact w0 ());(first|done|exact w1 ());(first|done|exact w2 ()))) (u : (W0 \/ True) /\ (W1 \/ True) /\ (W2 \/ True) := by (refine ⟨?_, ?_, ?_⟩ <;> first|exact Or.inl True.intro|exact Or.inr True.intro)) : X := s (fun _ => w0) (fun _ => w1) (fun _ => w2) ()
theorem kind_c (l : List Int) (hl : OkI l) (a L : Int) (ha : 0 <= a /\ a <= 1000000000) : CE Tryz.prog G 36 (fun p g => [.ptr p g 0]) (genC l a L) (.agg (Enc.enc (kindV l a).1)) (genC l (kindV l a).2 L) := fun g B hg => by
 have bx := QQ l a (most := 4) (by decide)
 have b4 := QQ l (a + 1) (most := 4) (by decide)
 unfold kindV
 have hx : atI l a 4 = 0 \/ atI l a 4 = 1 \/ atI l a 4 = 2 \/ atI l a 4 = 3 := by omega
 rcases hx with hx|hx|hx|hx
 ·rw [if_pos hx]
  refine Qa Tryz.func36 rfl Tryz.ntmps36 rfl (t := [(0, .ptr 0 g 0)]) rfl fun E0 hE0 => ?_
  (refine wkSA ?_;intros)
  exact e_1 (Tryz.results36) (Qg (size := 4) rfl rfl rfl rfl) (WU (es := 4) (.node rfl rfl rfl) (by show _ = DV.agg (Enc.enc (Nd.mk _ _ _ []));rw [Qr];rfl) rfl)
 ·rw [if_neg (by omega), if_pos hx]
  refine Qa Tryz.func36 rfl Tryz.ntmps36 rfl (t := [(0, .ptr 0 g 0)]) rfl fun E0 hE0 => ?_
  (refine wkSA ?_;intros)
  exact e_1 (Tryz.results36) (Qg (size := 4) rfl rfl rfl rfl) (WU (es := 4) (.node rfl rfl rfl) (by show _ = DV.agg (Enc.enc (Nd.mk _ _ _ []));rw [Qr];rfl) rfl)
 ·rw [if_neg (by omega), if_neg (by omega), if_pos hx]
  have hnumA := Zo (G := G) l hl (a + 1) L 2 (by omega) (by decide)
  have hnumB := Zo (G := G) l hl (a + 1 + 1) L 2 (by omega) (by decide)
  generalize atI l (a + 1) 2 = tyA at *
  generalize atI l (a + 1 + 1) 2 = tyB at *
  refine Qa Tryz.func36 rfl Tryz.ntmps36 rfl (t := [(0, .ptr 0 g 0)]) rfl fun E0 hE0 => ?_
  (refine wkSA ?_;intros)
  refine e_1 (Tryz.results36) (Qg (size := 4) rfl rfl rfl rfl) ?_
  rw [Qr]
  exact ZI (by first|rfl|(simp [Qo, Wf];try rfl)) rfl
 ·rw [if_neg (by omega), if_neg (by omega), if_neg (by omega)]
  refine Qa Tryz.func36 rfl Tryz.ntmps36 rfl (t := [(0, .ptr 0 g 0)]) rfl fun E0 hE0 => ?_
  (refine wkSA ?_;intros)
  exact e_1 (Tryz.results36) (Qg (size := 4) rfl rfl rfl rfl) (WU (es := 4) (.node rfl rfl rfl) (by show _ = DV.agg (Enc.enc (Nd.mk _ _ _ []));rw [Qr];rfl) rfl)
end Go.Proofs
end
section
namespace Go.Proofs
open Go.Av Go.Bl
def tys0 (l : List Int) (a : Int) (k : Nat) : List Nd := (List.range k).map fun j => .mk (atI l (a + (j : Nat)) 2) 0 0 []
theorem tys0_succ (l : List Int) (a : Int) (k : Nat) : tys0 l a (k + 1) = tys0 l a k ++ [.mk (atI l (a + (k : Nat)) 2) 0 0 []] := by
 unfold tys0;rw [List.range_succ, List.map_append];rfl
theorem tys0_len (l : List Int) (a : Int) (k : Nat) : (tys0 l a k).length = k := by unfold tys0;simp
theorem tys0_mem {l : List Int} {a : Int} {k : Nat} {x : Nd} (h : x ∈ tys0 l a k) : ∃ t, (t = 0 \/ t = 1) /\ x = .mk t 0 0 [] := by
 unfold tys0 at h
 obtain ⟨j, _, rfl⟩ := List.mem_map.1 h
 have := QQ l (a + (j : Nat)) (most := 2) (by decide)
 exact ⟨_, by omega, rfl⟩
def kindG (l : List Int) : GenF := fun a L => ((kindV l a).1, (kindV l a).2, L)
theorem kinds_ok (l : List Int) : ∀ (n : Nat) (a L : Int), (∀ x ∈ (runM (kindG l) n a L).1, Qp x 2 = true /\ Q5 x <= 2) /\ Qs (runM (kindG l) n a L).1 <= 3 * n /\ a <= (runM (kindG l) n a L).2.1 /\ (runM (kindG l) n a L).2.1 <= a + 3 * n /\ (runM (kindG l) n a L).2.2 = L
 | 0, a, L => by
  rw [runM]
  exact ⟨fun x hx => (by cases hx), by simp [Qs], by simp, by simp, rfl⟩
 | n + 1, a, L => by
  rw [runM]
  obtain ⟨k1, k2, k3, k4, k5⟩ := kind_ok l a
  have ih := kinds_ok l n (kindG l a L).2.1 (kindG l a L).2.2
  obtain ⟨i1, i2, i3, i4, i5⟩ := ih
  have e : (kindG l a L).2.1 = (kindV l a).2 := rfl
  refine ⟨fun x hx => ?_, ?_, ?_, ?_, ?_⟩
  ·rcases List.mem_cons.1 hx with rfl|hx
   ·exact ⟨k1, k2⟩
   ·exact i1 x hx
  ·rw [Qs]
   have : Qk (kindG l a L).1 <= 3 := k3
   omega
  ·(try dsimp only);omega
  ·(try dsimp only);omega
  ·exact i5
def funT0 (l : List Int) (a : Int) : List Nd × Int × Int := runM (kindG l) (atI l (a + 1 + (atI l a 4).toNat) 3).toNat (a + 1 + (atI l a 4).toNat + 1) 40
def funG (l : List Int) (Bk : GenF) : GenF := fun a _ =>
 (.mk 26 (atI l a 4) 0 (tys0 l (a + 1) (atI l a 4).toNat ++ (funT0 l a).1 ++ [(Bk (funT0 l a).2.1 40).1]), (Bk (funT0 l a).2.1 40).2.1, (Bk (funT0 l a).2.1 40).2.2)
theorem fit_fun {n m : Int} {tl : List Nd} {b : Nd} (hn : 0 <= n /\ n <= 3) (hm : m = 0) (hl : n <= (tl.length : Int) /\ tl.length <= 6) (hb : Qp b 6 = true) (ht : ∀ i (h : i < tl.length), Qp tl[i] (if (i : Int) < n then 3 else 2) = true) : Qp (.mk 26 n m (tl ++ [b])) 1 = true := by
 subst hm
 rw [Qp, if_pos (by decide), if_pos rfl, fitsF_eq]
 have h0 : isB (shapesL.getD (26 : Int).toNat noSh) 1 = true := by decide
 have h1 : ZD (shapesL.getD (26 : Int).toNat noSh) n 0 = true := by
  show ZD ⟨1, 0, 3, 0, [], 0, 0, 0⟩ n 0 = true
  unfold ZD;simp [hn]
 rw [h0, h1, Bool.true_and, Bool.true_and]
 unfold funB
 have e0 : ((tl ++ [b]).map Qp).length = tl.length + 1 := by simp
 rw [e0]
 have e1 : ((tl ++ [b]).map Qp).getD (tl.length + 1 - 1) noF = Qp b := by
  rw [Z2 (tl ++ [b]) Qp (by simp)]
  congr 1
  simp
 rw [e1, hb]
 have e2 : decide (n <= ((tl.length + 1 : Nat) : Int) - 1) = true := by simp;omega
 have e3 : decide (((tl.length + 1 : Nat) : Int) - 1 <= 6) = true := by simp;omega
 rw [e2, e3]
 simp only [Bool.true_and, Bool.and_true]
 rw [allI_iff]
 intro i hi
 have hi2 : i < tl.length := by omega
 rw [Z2 (tl ++ [b]) Qp (by simp;omega)]
 rw [List.getElem_append_left hi2]
 exact ht i hi2
structure QF (f : Nd) (a a' : Int) : Prop where
 fit : Qp f 1 = true
 dep : Q5 f <= 14
 size : Qk f <= 72
 mono : a <= a'
 used : a' <= a + 300
theorem sizeL_plain {ks : List Nd} (h : ∀ x ∈ ks, ∃ t, (t = 0 \/ t = 1) /\ x = Nd.mk t 0 0 []) : Qs ks = ks.length /\ ∀ x ∈ ks, Q5 x <= 2 := by
 induction ks with
 | nil => exact ⟨rfl, fun x hx => by cases hx⟩
 | cons y r ih =>
  obtain ⟨t, _, rfl⟩ := h y (by simp)
  obtain ⟨i1, i2⟩ := ih fun x hx => h x (by simp [hx])
  refine ⟨by rw [Qs, i1, Qk, Qs, List.length_cons];omega, fun x hx => ?_⟩
  rcases List.mem_cons.1 hx with rfl|hx
  ·simp [Q5, Q6]
  ·exact i2 x hx
theorem fun_q (l : List Int) (Bk : GenF) (hB : ∀ a L, preB a L -> QE 6 13 1 11 (Bk a L).1 a L (Bk a L).2.1 (Bk a L).2.2) (a L : Int) (ha : 0 <= a /\ a <= 100000) : QF (funG l Bk a L).1 a (funG l Bk a L).2.1 /\ preB (funT0 l a).2.1 40 := by
 have b4 := QQ l a (most := 4) (by decide)
 have b3 := QQ l (a + 1 + (atI l a 4).toNat) (most := 3) (by decide)
 have hk := kinds_ok l (atI l (a + 1 + (atI l a 4).toNat) 3).toNat (a + 1 + (atI l a 4).toNat + 1) 40
 have hkl := runM_len (kindG l) (atI l (a + 1 + (atI l a 4).toNat) 3).toNat (a + 1 + (atI l a 4).toNat + 1) 40
 have hF : funT0 l a = runM (kindG l) (atI l (a + 1 + (atI l a 4).toNat) 3).toNat (a + 1 + (atI l a 4).toNat + 1) 40 := rfl
 rw [<- hF] at hk hkl
 obtain ⟨k1, k2, k3, k4, k5⟩ := hk
 have hpre : preB (funT0 l a).2.1 40 := ⟨by omega, by omega, by omega, by omega⟩
 refine ⟨?_, hpre⟩
 obtain ⟨q1, q2, q3, q4, q5, q6⟩ := hB _ _ hpre
 unfold funG
 dsimp only
 generalize hT : funT0 l a = T at *
 generalize Bk T.2.1 40 = e at *
 obtain ⟨b, c, K⟩ := e
 dsimp only at *
 have hs := QZ b
 have ht0 := fun x => tys0_mem (l := l) (a := a + 1) (k := (atI l a 4).toNat) (x := x)
 obtain ⟨p1, p2⟩ := sizeL_plain ht0
 have htl := tys0_len l (a + 1) (atI l a 4).toNat
 generalize tys0 l (a + 1) (atI l a 4).toNat = t0 at *
 refine ⟨fit_fun (by omega) rfl (by rw [List.length_append];omega) q1 (fun i hi => ?_), ?_, ?_, ?_, ?_⟩
 ·by_cases h0 : i < t0.length
  ·rw [List.getElem_append_left h0, if_pos (by omega)]
   obtain ⟨t, ht, hx⟩ := ht0 _ (List.getElem_mem h0)
   rw [hx]
   exact fit_plain ht (.inr rfl)
  ·rw [List.getElem_append_right (by omega), if_neg (by omega)]
   exact (k1 _ (List.getElem_mem _)).1
 ·rw [Q5, depthL_app, depthL_app, qO]
  have h1 := depthL_le p2
  have h2 : Q6 T.1 <= 2 := depthL_le fun x hx => (k1 x hx).2
  omega
 ·rw [Qk, qA, qA, sizeL1]
  omega
 ·omega
 ·omega
theorem funs_q (l : List Int) (Bk : GenF) (hB : ∀ a L, preB a L -> QE 6 13 1 11 (Bk a L).1 a L (Bk a L).2.1 (Bk a L).2.2) : ∀ (n : Nat) (a L : Int), 0 <= a -> a + 300 * n <= 100000 -> (∀ x ∈ (runM (funG l Bk) n a L).1, Qp x 1 = true /\ Q5 x <= 14) /\ Qs (runM (funG l Bk) n a L).1 <= 72 * n
 | 0, a, L, _, _ => by
  rw [runM]
  exact ⟨fun x hx => (by cases hx), by simp [Qs]⟩
 | n + 1, a, L, ha, hb => by
  rw [runM]
  obtain ⟨⟨q1, q2, q3, q4, q5⟩, _⟩ := fun_q l Bk hB a L ⟨ha, by omega⟩
  obtain ⟨i1, i2⟩ := funs_q l Bk hB n (funG l Bk a L).2.1 (funG l Bk a L).2.2 (by omega) (by omega)
  refine ⟨fun x hx => ?_, ?_⟩
  ·rcases List.mem_cons.1 hx with rfl|hx
   ·exact ⟨q1, q2⟩
   ·exact i1 x hx
  ·rw [Qs];omega
theorem prog_valid {n : Int} {fs : List Nd} (hn : 0 <= n /\ n <= 3) (hl : 1 <= fs.length /\ fs.length <= 6) (hf : ∀ x ∈ fs, Qp x 1 = true /\ Q5 x <= 15) (hs : Qs fs <= 255) : qX (.mk 27 n 0 fs) = true := by
 have h1 : Qp (.mk 27 n 0 fs) 0 = true := Zh ⟨0, 0, 3, 0, [], 6, 1, 1⟩ rfl (by decide) (by decide) (by dsimp only;omega) (by decide) (by dsimp only;simp;omega) (kidsA rfl fun x hx => (hf x hx).1)
 have h2 : Qk (.mk 27 n 0 fs) <= 256 := by rw [Qk];omega
 have h3 : Q5 (.mk 27 n 0 fs) <= 16 := by
  rw [Q5]
  have : Q6 fs <= 15 := depthL_le fun x hx => (hf x hx).2
  omega
 unfold qX
 rw [h1, decide_eq_true h2, decide_eq_true h3];rfl
def sampleV (l : List Int) (Bk : GenF) : Nd := .mk 27 (atI l 0 4) 0 (runM (funG l Bk) (1 + atI l 1 3).toNat 2 0).1
theorem sample_ok (l : List Int) (Bk : GenF) (hB : ∀ a L, preB a L -> QE 6 13 1 11 (Bk a L).1 a L (Bk a L).2.1 (Bk a L).2.2) : qX (sampleV l Bk) = true := by
 have b4 := QQ l 0 (most := 4) (by decide)
 have b3 := QQ l 1 (most := 3) (by decide)
 obtain ⟨h1, h2⟩ := funs_q l Bk hB (1 + atI l 1 3).toNat 2 0 (by decide) (by omega)
 have h3 := runM_len (funG l Bk) (1 + atI l 1 3).toNat 2 0
 exact prog_valid (by omega) (by omega) (fun x hx => ⟨(h1 x hx).1, by have := (h1 x hx).2;omega⟩) (by omega)
end Go.Proofs
end
section
namespace Go.Proofs
open Go.Av
variable {G : Nat -> DV}
attribute [local irreducible] OpSem WR Zc Zp ACalls ZS AClose RV
open Go.Bl
section
variable {P : Program} {G : Nat -> DV} {E : AX} {n : Nat} {N : ASt -> Prop} {xs : List (Nat × (ASt -> Prop))} {R : ASt -> Prop}
theorem r_pubin_at {t : Fr} {σ σ1 σ' : List ABlk} {c : Code} (i m j : Nat) {gm k g len es len0 es0 : Nat} {cs ds : List DV} (hi : Go.Av.look t i = DV.ref k g 0 len0 es0) (hm : σ[m]? = some (.row gm cs)) (hj : cs[j]? = some (DV.ref k g 0 len es)) (hk : σ[k]? = some (.row g ds)) (hl : len * es = ds.length)
  (hσ1 : setA σ k .gone = some σ1) (hσ' : setA σ1 m (.row gm (cs.set j (.sl es ds))) = some σ') (kk : WR P G E n c N xs R ⟨t, σ'⟩) (hne : m ≠ k := by decide) : WR P G E n c N xs R ⟨t, σ⟩ := r_pubin m j hm hj hk hl hσ1 hσ' kk hne
end
theorem wkSS {X W0 W1 W2 : Prop} (w0 : W0 := by exact True.intro) (w1 : W1 := by exact True.intro) (w2 : W2 := by exact True.intro) (s : (Unit -> W0) -> (Unit -> W1) -> (Unit -> W2) -> Unit -> X := by (intro w0 w1 w2 _;(repeat' first|(refine Qz ?_;(first|refine Ws rfl ?_|refine WM rfl ?_|(refine QN ?_;(first|refine Z4 rfl rfl ?_|refine Qc rfl rfl rfl ?_))|(refine Qw ?_;(first|refine Zw rfl rfl ?_|refine ZU rfl rfl (by omega) ?_))|(refine QK ?_;(first|refine Zy (z := (Nd.mk ty0 0 0 [])) rfl rfl rfl rfl rfl rfl rfl (by first|omega|(simp;omega)) (by first|omega|(simp;omega)) (fun _ => rfl) (fun _ _ => ?_)|refine Zy (z := v1) rfl rfl rfl rfl rfl rfl rfl (by first|omega|(simp;omega)) (by first|omega|(simp;omega)) (fun _ => rfl) (fun _ _ => ?_)|refine Zy (z := fN) rfl rfl rfl rfl rfl rfl rfl (by first|omega|(simp;omega)) (by first|omega|(simp;omega)) (fun _ => rfl) (fun _ _ => ?_)|refine Wh 1 (hnumA) rfl rfl rfl rfl ?_|refine Wh 1 (hkd) rfl rfl rfl rfl ?_|refine Wh 1 (hblk) rfl rfl rfl rfl ?_|refine Wh 1 (Zo l hl _ _ _ (by omega) (by omega)) rfl rfl rfl rfl ?_))|(refine Wr ?_;(first|refine qh rfl rfl rfl rfl ?_|refine Wg rfl rfl rfl rfl (by rfl) (by rfl) (by rfl) ?_))|refine QB rfl rfl ?_|refine QO (z := fN) rfl (by rw [hfe];rfl) (by decide) ?_|refine Qe rfl rfl ?_|refine Qj rfl rfl ?_|refine QU (fun _ _ => ?_)|refine ZC rfl rfl (fun _ _ => ?_)))|(refine We ?_;(first|refine Wb ?_|refine Zg rfl ?_|refine WI ?_))|(refine Wc ?_;(first|refine r_pubin_at 64 4 3 rfl rfl rfl rfl (by first|exact (Qx _).symm|rfl) rfl rfl ?_|refine Q7 ?_|refine Qm ?_|refine QM ?_|(refine WC ?_;first|(refine Ql (fun p => .row g2 [.i 0, .i 0, .i 0, .nil] :: p.1 :: .row gp [.i 27, .i n0, .i 0, .ref 3 gg 0 o.length 4] :: .row gg (Wf o) :: .row g7 [.i 26, .i (m : Nat), .i 0, .ref 5 gh 0 ks.length 4] :: p.2) 7 [(0, true), (1, true), (2, true), (3, false), (4, true), (5, false), (6, true), (7, false)] (by rfl) (by rfl) (by kernel_rfl) (by decide +kernel) (by decide +kernel) ⟨(_, _), rfl⟩ ?_)|(refine Ql (fun p => .row g2 [.i 0, .i 0, .i 0, .nil] :: p.1 :: .row gp [.i 27, .i n0, .i 0, .ref 3 gg 0 o.length 4] :: .row gg (Wf o) :: .row g7 [.i 26, .i (m : Nat), .i 0, .ref 5 gh 0 ks.length 4] :: p.2) 8 [(0, true), (1, true), (2, true), (3, false), (4, true), (5, true), (6, false), (7, true), (8, false)] (by rfl) (by rfl) (by kernel_rfl) (by decide +kernel) (by decide +kernel) ⟨(_, _), rfl⟩ ?_)|refine Q9 (by rfl) (by kernel_rfl) (by kernel_rfl) ?_|refine Q8 (by kernel_rfl) (by kernel_rfl) ?_)|refine QV ?_|refine Qu rfl (by omega) ?_|refine Qn rfl (by omega) ?_|refine W8 rfl ?_|refine Wi ?_))|(refine ZG ?_;(first|refine qL ?_|refine i_z0 ?_|refine i_st rfl rfl (fun _ => (by (repeat' first|(refine Qz ?_;(first|refine Ws rfl ?_|refine Qc rfl rfl rfl ?_|refine s_build_nd (k := ty0) (n := 0) (mm := 0) rfl rfl ?_|(refine ZA ?_;(first|refine QO (z := Nd.mk ty0 0 0 []) rfl rfl (by decide) ?_|refine QO (z := v1) rfl rfl (by decide) ?_))|refine Qe rfl rfl ?_))|exact ⟨rfl, rfl⟩))) ?_|refine i_ef rfl ?_))|refine And.intro (Exists.intro ((_, _)) rfl) ?_);(all_goals (repeat (rename_i x;(fail_if_success have : Unit := x);revert x)));(first|done|exact w0 ());(first|done|exact w1 ());(first|done|exact w2 ()))) (u : (W0 \/ True) /\ (W1 \/ True) /\ (W2 \/ True) := by (refine ⟨?_, ?_, ?_⟩ <;> first|exact Or.inl True.intro|exact Or.inr True.intro)) : X := s (fun _ => w0) (fun _ => w1) (fun _ => w2) ()
theorem sample_c (l : List Int) (hl : OkI l) : ∃ v, qX v = true /\ (∃ n ks, v = .mk 27 n 0 ks) /\ Go.Av.Pure Tryz.prog G 10 [Qo l] (.agg (Enc.enc v)) := by
 obtain ⟨S, hS⟩ := chStmt (G := G) l hl 4 (by decide)
 obtain ⟨Bk, hBk⟩ := chBlock (G := G) l hl 4 (by decide) S hS
 have hB1 : ∀ a L, preB a L -> QE 6 13 1 11 (Bk a L).1 a L (Bk a L).2.1 (Bk a L).2.2 := fun a L h => (hBk a L h).1
 have hB2 : ∀ a L, preB a L -> CE Tryz.prog G 37 (fun p g => [.ptr p g 0, .i 4]) (genC l a L) (.agg (Enc.enc (Bk a L).1)) (genC l (Bk a L).2.1 (Bk a L).2.2) := fun a L h => (hBk a L h).2
 have hv := sample_ok l Bk hB1
 clear hBk hS
 refine ⟨sampleV l Bk, hv, ⟨_, _, rfl⟩, fun B => ?_⟩
 clear hv
 unfold sampleV
 have b4 := QQ l 0 (most := 4) (by decide)
 have b3 := QQ l 1 (most := 3) (by decide)
 have hn0 : atI l (0 + 1) 3 = atI l 1 3 := rfl
 obtain ⟨Nf, hNf⟩ : ∃ Nf : Nat, 1 + atI l 1 3 = (Nf : Int) := ⟨(1 + atI l 1 3).toNat, by omega⟩
 rw [hNf, show ((Nf : Int)).toNat = Nf by omega, Qr]
 generalize hT : runM (funG l Bk) Nf 2 0 = T at *
 refine Qa Tryz.func10 rfl Tryz.ntmps10 rfl (t := [(0, Qo l)]) rfl fun E0 hE0 => ?_
 have hnumA := trivial
 have hkd := trivial
 have hblk := trivial
 have hfe := trivial
 (refine wkSS ?_;intros)
 rename_i g2 hg2 gc hgc gp hgp
 refine r_ownin 2 3 4 rfl rfl (fun _ => rfl) (fun gk hgk => ?_)
 refine r_loop5 (fun (i : Nat) (o : List Nd) (a Lc : Int) (gg : Nat) => ⟨[(2, .ptr 0 g2 0), (3, .ptr 1 gc 0), (4, .ptr 2 gp 0), (5, .i (1 + atI l (0 + 1) 3)), (6, .i i)], [.row g2 [.i 0, .i 0, .i 0, .nil], .row gc (genC l a Lc), .row gp [.i 27, .i (atI l 0 4), .i 0, .ref 3 gg 0 o.length 4], .row gg (Wf o)]⟩) (fun i o a Lc gg => i <= Nf /\ o.length <= i /\ E0.N < gg /\ o ++ (runM (funG l Bk) (Nf - i) a Lc).1 = T.1 /\ 0 <= a /\ a + 300 * (Nf - i : Int) <= 100000) (fun i _ _ _ _ => Nf - i) 0 [] 2 0 gk ?_ ⟨by omega, by simp, hgk, by rw [Nat.sub_zero, hT];rfl, by omega, by omega⟩ ?_
 ·exact zal rfl
 intro i o a Lc gg ⟨hi, hol, hgg, h1, m1, m2⟩
 generalize hn00 : atI l 0 4 = n0 at *
 by_cases hiN : i < Nf
 ·rw [show Nf - i = (Nf - (i + 1)) + 1 by omega, runM] at h1
  obtain ⟨⟨_, _, _, u1, u2⟩, hpre⟩ := fun_q l Bk hB1 a Lc ⟨m1, by omega⟩
  have hblk := hB2 _ _ hpre
  generalize hf : funG l Bk a Lc = F at *
  unfold funG at hf
  have c4 := QQ l a (most := 4) (by decide)
  obtain ⟨m, hm⟩ : ∃ m : Nat, atI l a 4 = (m : Int) := ⟨(atI l a 4).toNat, by omega⟩
  have hnumA := Zo (G := G) l hl a 40 4 (by omega) (by decide)
  rw [hm] at hnumA hf
  unfold funT0 at hf hblk
  rw [hm] at hf hblk
  rw [show ((m : Int)).toNat = m by omega] at hf hblk
  have c3 := QQ l (a + 1 + m) (most := 3) (by decide)
  obtain ⟨K, hK⟩ : ∃ K : Nat, atI l (a + 1 + m) 3 = (K : Int) := ⟨(atI l (a + 1 + m) 3).toNat, by omega⟩
  have hK3 : (K : Int) < 3 := by omega
  have hm3 : (m : Int) < 4 := by omega
  rw [hK] at hf hblk
  rw [show ((K : Int)).toNat = K by omega] at hf hblk
  have hko := kinds_ok l K (a + 1 + m + 1) 40
  generalize hT2 : runM (kindG l) K (a + 1 + m + 1) 40 = T2 at *
  obtain ⟨ks2, a2, l2⟩ := T2
  dsimp only at *
  generalize hv1 : Bk a2 40 = v at *
  obtain ⟨v1, b1, M1⟩ := v
  dsimp only at *
  clear hB2
  have hfe := trivial
  (refine wkSS ?_;intros)
  rename_i g7 hg7
  refine r_ownin 4 3 4 rfl rfl (fun _ => rfl) (fun gk2 hgk2 => ?_)
  refine r_loop5 (fun (k : Nat) (ks : List Nd) (b : Int) (_ : Unit) (gh : Nat) => ⟨[(2, .ptr 0 g2 0), (3, .ptr 1 gc 0), (4, .ptr 2 gp 0), (5, .i (1 + atI l (0 + 1) 3)), (6, .i i), (7, .ptr 4 g7 0), (8, .i k)], [.row g2 [.i 0, .i 0, .i 0, .nil], .row gc (genC l b 40), .row gp [.i 27, .i n0, .i 0, .ref 3 gg 0 o.length 4], .row gg (Wf o), .row g7 [.i 26, .i (m : Nat), .i 0, .ref 5 gh 0 ks.length 4], .row gh (Wf ks)]⟩) (fun k ks b _ gh => k <= m /\ E0.N < gh /\ ks = tys0 l (a + 1) k /\ b = a + 1 + (k : Nat)) (fun k _ _ _ _ => m - k) 0 [] (a + 1) () gk2 ?_ ⟨by omega, hgk2, rfl, by omega⟩ ?_
  ·exact zal rfl
  intro k ks b _ gh ⟨hk, hgh, hks, hb⟩
  by_cases hkm : k < m
  ·have bt := QQ l b (most := 2) (by decide)
   have hnumA := Zo (G := G) l hl b 40 2 (by omega) (by decide)
   have hkl : ks.length = k := by rw [hks];exact tys0_len l (a + 1) k
   have hks2 := tys0_succ l (a + 1) k
   rw [<- hks, <- hb] at hks2
   generalize hty : atI l b 2 = ty0 at *
   have hkd := trivial
   have hblk := trivial
   (refine wkSS ?_;intros)
   refine ⟨k + 1, ks ++ [.mk ty0 0 0 []], b + 1, (), _, ⟨by omega, by assumption, hks2.symm, by omega⟩, by omega, ?_⟩
   exact zal rfl
  ·have hkm2 : m = k := by omega
   have hkl : ks.length = k := by rw [hks];exact tys0_len l (a + 1) k
   subst hkm2
   rw [<- hb] at hK
   have hnumA := Zo (G := G) l hl b 40 3 (by omega) (by decide)
   rw [hK] at hnumA
   have hblkS := hblk
   have hblk := trivial
   have hkd := trivial
   (refine wkSS ?_;intros)
   clear hnumA
   refine r_loop5 (fun (j : Nat) (ks : List Nd) (b : Int) (_ : Unit) (gh : Nat) => ⟨[(2, .ptr 0 g2 0), (3, .ptr 1 gc 0), (4, .ptr 2 gp 0), (5, .i (1 + atI l (0 + 1) 3)), (6, .i i), (7, .ptr 4 g7 0), (9, .i K), (10, .i j)], [.row g2 [.i 0, .i 0, .i 0, .nil], .row gc (genC l b 40), .row gp [.i 27, .i n0, .i 0, .ref 3 gg 0 o.length 4], .row gg (Wf o), .row g7 [.i 26, .i (m : Nat), .i 0, .ref 5 gh 0 ks.length 4], .row gh (Wf ks)]⟩) (fun j ks b _ gh => j <= K /\ ks.length <= 4 + j /\ E0.N < gh /\ ks ++ (runM (kindG l) (K - j) b 40).1 = tys0 l (a + 1) m ++ ks2 /\ (runM (kindG l) (K - j) b 40).2.1 = a2 /\ 0 <= b /\ b + 3 * (K - j : Int) <= 200000) (fun j _ _ _ _ => K - j) 0 ks (b + 1) () gh ?_ ⟨by omega, by omega, hgh, by rw [Nat.sub_zero, hb, hT2, hks], by rw [Nat.sub_zero, hb, hT2], by omega, by omega⟩ ?_
   ·exact zal rfl
   intro j ks b _ gh ⟨hj, hkl, hgh, h3, h4, n1, n2⟩
   by_cases hjK : j < K
   ·rw [show K - j = (K - (j + 1)) + 1 by omega, runM] at h3 h4
    have hkd := kind_c (G := G) l hl b 40 (by omega)
    obtain ⟨_, _, _, w1, w2⟩ := kind_ok l b
    unfold kindG at h3 h4
    dsimp only at h3 h4
    generalize kindV l b = w at *
    obtain ⟨v1, c1⟩ := w
    dsimp only at *
    have hnumA := trivial
    clear hblkS
    (refine wkSS ?_;intros)
    refine ⟨j + 1, ks ++ [v1], c1, (), _, ⟨by omega, by simp;omega, by assumption, by rw [List.append_assoc];exact h3, h4, by omega, by omega⟩, by omega, ?_⟩
    exact zal rfl
   ·have hje : K - j = 0 := by omega
    rw [hje, runM] at h3 h4
    dsimp only at h3 h4
    rw [List.append_nil] at h3
    subst h4
    have hblk := hblkS
    have hnumA := trivial
    have hkd := trivial
    obtain ⟨fN, hfN⟩ : ∃ fN, fN = Nd.mk 26 (m : Nat) 0 (ks ++ [v1]) := ⟨_, rfl⟩
    have hfe : Enc.enc fN = [.i 26, .i (m : Nat), .i 0, Qo (ks ++ [v1])] := by rw [hfN, Qr]
    rw [<- h3, <- hfN] at hf
    subst hf
    dsimp only at *
    (refine wkSS ?_;intros)
    refine ⟨i + 1, o ++ [fN], b1, M1, _, ⟨by omega, by simp;omega, by assumption, by rw [List.append_assoc];exact h1, by omega, by omega⟩, by omega, ?_⟩
    exact zal rfl
 ·have hie : Nf - i = 0 := by omega
  rw [hie, runM] at h1
  dsimp only at h1
  rw [List.append_nil] at h1
  rw [<- h1]
  have hnumA := trivial
  have hkd := trivial
  have hblk := trivial
  have hfe := trivial
  clear hB2
  refine r_pubin 2 3 rfl rfl rfl (Qx _).symm rfl rfl ?_
  (refine wkSS ?_;intros)
  exact e_1 (Tryz.results10) (Qg (size := 4) rfl rfl rfl rfl) (Qd rfl)
section
variable {P : Program} {G : Nat -> DV} {B : Nat} {f : Operand -> DV} {σ : List ABlk} {K : DV -> List ABlk -> Prop} {dst : Option Tmp} {type : TypeId} {pos : String} {after : Array Edge} {gd : Option (Nat × Bool)}
theorem s_min_as {ts : Array TypeId} {x y : Operand} {k1 : IntKind} {a b c : Int} (hx : f x = .sc (.int k1 a)) (hy : f y = .sc (.int k1 b)) (hc : min a b = c) (k : K (.sc (.int k1 c)) σ) : OpSem P G B ⟨dst, .call ⟨.builtin .min, #[x, y], ts⟩, type, pos, after, gd⟩ f σ K := s_min hx hy (by rw [hc];exact k)
end
structure Tr where
 t : List UInt8
 a : Nat
 k : Int
deriving DecidableEq
instance : Enc Tr where
 enc x := [Q2 x.t, .i x.a, .i x.k]
 es := 3
 len _ := rfl
 one _ d hd := by
  simp only [List.mem_cons, List.not_mem_nil, or_false] at hd
  rcases hd with rfl|rfl|rfl <;> rfl
 clo r d hd := by
  simp only [List.mem_cons, List.not_mem_nil, or_false] at hd
  rcases hd with rfl|rfl|rfl <;> exact Wj
 pos := by decide
def kindM (t : List UInt8) : Int := if t = [] \/ letB (t.getD 0 0) = true then 0 else if digB (t.getD 0 0) = true then 1 else 2
theorem getD_drop (s : List UInt8) (a n : Nat) : (s.drop a).getD n 0 = s.getD (a + n) 0 := by
 rw [List.getD_eq_getElem?_getD, List.getD_eq_getElem?_getD, List.getElem?_drop]
theorem drop_take' (s : List UInt8) (a n : Nat) : (s.take (a + n)).drop a = (s.drop a).take n := by
 rw [List.drop_take];congr 1;omega
theorem prefix_iff (s t : List UInt8) : Lib.hasPrefix s t = true ↔ t.length <= s.length /\ s.take t.length = t := by
 unfold Lib.hasPrefix
 rw [List.isPrefixOf_iff_prefix, List.prefix_iff_eq_take]
 constructor
 ·intro h
  refine ⟨?_, h.symm⟩
  have := congrArg List.length h
  rw [List.length_take] at this;omega
 ·intro h;exact h.2.symm
theorem signs_hit {s : List UInt8} : ∀ (L : List (List UInt8)) (i : Nat) (hi : i < L.length), (∀ j (h : j < L.length), j < i -> Lib.hasPrefix s L[j] = false) -> Lib.hasPrefix s L[i] = true -> (L.find? (fun t => Lib.hasPrefix s t)).getD [] = L[i]
 | x :: r, 0, hi, _, h => by rw [List.find?_cons];simp at h;simp [h]
 | x :: r, i + 1, hi, hno, h => by
  have h0 := hno 0 (by simp) (by omega)
  simp at h0
  rw [List.find?_cons, h0]
  exact signs_hit r i (by simpa using hi) (fun j hj hji => hno (j + 1) (by simpa using hj) (by omega)) h
theorem signs_miss {s : List UInt8} : ∀ (L : List (List UInt8)), (∀ j (h : j < L.length), Lib.hasPrefix s L[j] = false) -> (L.find? (fun t => Lib.hasPrefix s t)).getD [] = []
 | [], _ => rfl
 | x :: r, hno => by
  have h0 := hno 0 (by simp)
  simp at h0
  rw [List.find?_cons, h0]
  exact signs_miss r fun j hj => hno (j + 1) (by simpa using hj)
theorem wkS3 {X W0 W1 W2 : Prop} (w0 : W0 := by exact True.intro) (w1 : W1 := by exact True.intro) (w2 : W2 := by exact True.intro) (s : (Unit -> W0) -> (Unit -> W1) -> (Unit -> W2) -> Unit -> X := by (intro w0 w1 w2 _;(repeat' first|(refine Qz ?_;(first|refine Ws rfl ?_|refine WM rfl ?_|refine QA rfl ?_|refine Qq rfl rfl (by first|assumption|omega|(simp;done)|(simp;omega)) ?_|(refine Qw ?_;(first|refine ZU rfl rfl (by omega) ?_|refine Zw rfl rfl ?_|refine s_gtr rfl rfl ?_|refine WX rfl rfl ?_|refine qC rfl rfl (by omega) ?_))|(refine QK ?_;(first|refine Qv rfl ?_|refine Zx rfl ?_|refine WA rfl rfl (hl0) ?_|refine WA rfl rfl (hd0) ?_|refine WA rfl rfl (hlk) ?_|refine WA rfl rfl (hdk) ?_|refine WA rfl rfl (hsg) ?_))|(refine Q1 ?_;(first|refine ZO rfl rfl ?_|refine W9 rfl rfl ?_))|refine qh rfl rfl rfl rfl ?_|refine s_index_str rfl rfl (by first|assumption|omega|(simp only [List.length_take, List.length_drop];omega)) ?_|refine QB rfl rfl ?_|refine W5 rfl rfl (by decide) rfl ?_|refine s_slice_strb rfl rfl rfl (by first|assumption|omega|(simp only [List.length_take, List.length_drop];omega)) (by first|assumption|omega|(simp only [List.length_take, List.length_drop];omega)) ?_|refine QU (fun _ _ => ?_)))|(refine We ?_;(first|refine Wb ?_|refine Zg rfl ?_|refine WI ?_|refine qd rfl rfl rfl rfl ?_|refine qw rfl rfl rfl rfl ?_|refine o_gu rfl rfl rfl rfl rfl ?_|refine WN rfl rfl (by omega) ?_|refine WD rfl rfl (by omega) ?_))|(refine Wc ?_;(first|refine Q7 ?_|refine Qm ?_|refine QM ?_|(refine WC ?_;first|refine Q9 (by rfl) (by kernel_rfl) (by kernel_rfl) ?_|refine Q8 (by kernel_rfl) (by kernel_rfl) ?_)|refine QV ?_|refine QD rfl ?_|refine QR rfl ?_|refine Qu rfl (by omega) ?_|refine Qn rfl (by omega) ?_|refine W8 rfl ?_|refine Wi ?_))|(refine qM ?_;(first|refine x_gn rfl rfl rfl rfl ?_|refine x_op rfl (by (repeat' first|(refine Qz ?_;(first|refine Ws rfl ?_|refine QA rfl ?_|refine Qq rfl rfl (by first|assumption|omega|(simp;done)|(simp;omega)) ?_|(refine Qw ?_;(first|refine W6 rfl rfl hat ⟨by omega, by omega⟩ ?_|refine qv rfl rfl ?_|refine Zr rfl rfl ?_))|(refine QK ?_;(first|refine s_min_as rfl rfl hmin ?_|refine Zx rfl ?_))|(refine Q1 ?_;(first|refine ZO rfl rfl ?_|refine W9 rfl rfl ?_))|refine s_slice_strb rfl rfl rfl (by first|assumption|omega|(simp only [List.length_take, List.length_drop];omega)) (by first|assumption|omega|(simp only [List.length_take, List.length_drop];omega)) ?_))|exact ⟨rfl, rfl⟩)) ?_|refine x_gy rfl rfl rfl rfl (by (repeat' first|(refine Qz ?_;(first|refine Ws rfl ?_|refine QA rfl ?_|refine Qq rfl rfl (by first|assumption|omega|(simp;done)|(simp;omega)) ?_|(refine Qw ?_;(first|refine W6 rfl rfl hat ⟨by omega, by omega⟩ ?_|refine qv rfl rfl ?_|refine Zr rfl rfl ?_))|(refine QK ?_;(first|refine s_min_as rfl rfl hmin ?_|refine Zx rfl ?_))|(refine Q1 ?_;(first|refine ZO rfl rfl ?_|refine W9 rfl rfl ?_))|refine s_slice_strb rfl rfl rfl (by first|assumption|omega|(simp only [List.length_take, List.length_drop];omega)) (by first|assumption|omega|(simp only [List.length_take, List.length_drop];omega)) ?_))|exact ⟨rfl, rfl⟩)) ?_|refine qJ ?_|refine x_sp_t rfl rfl (by omega) ?_|refine x_sp_f rfl rfl (by omega) ?_)));(all_goals (repeat (rename_i x;(fail_if_success have : Unit := x);revert x)));(first|done|exact w0 ());(first|done|exact w1 ());(first|done|exact w2 ()))) (u : (W0 \/ True) /\ (W1 \/ True) /\ (W2 \/ True) := by (refine ⟨?_, ?_, ?_⟩ <;> first|exact Or.inl True.intro|exact Or.inr True.intro)) : X := s (fun _ => w0) (fun _ => w1) (fun _ => w2) ()
theorem r_signs_c : Go.Av.Pure Tryz.prog G 30 [] (Qo (signsT.map Str.mk)) := fun B => by
 refine Qa Tryz.func30 rfl Tryz.ntmps30 rfl (t := []) rfl fun E hE => ?_
 (refine wkS3 ?_;intros)
 refine e_1 Tryz.results30 (Qb rfl) (Qd ?_)
 rfl
theorem r_next_c (s : List UInt8) (a : Nat) (ha : a < s.length) (hs : s.length <= 100000000) : Go.Av.Pure Tryz.prog G 29 [Q2 s, .i a] (.agg [Q2 (Wq (s.drop a)), .i a, .i (kindM (Wq (s.drop a)))]) := fun B => by
 have hl0 := r_letter_c (G := G) (s.getD a 0)
 have hd0 := r_digit_c (G := G) (s.getD a 0)
 have e0 : (s.drop a).getD 0 0 = s.getD a 0 := getD_drop s a 0
 have hpl : (ZE (s.drop a)).length <= (s.drop a).length := (List.takeWhile_sublist _).length_le
 have hdl : (s.drop a).length = s.length - a := List.length_drop
 have htk : (s.take (a + (ZE (s.drop a)).length)).drop a = ZE (s.drop a) := by rw [drop_take'];exact take_pre _ _
 have htk2 : (s.drop a).take (ZE (s.drop a)).length = ZE (s.drop a) := take_pre _ _
 by_cases hL : letB (s.getD a 0) = true
 ·rw [hL] at hl0
  have hr : ∀ b, runB ((s.drop a).getD 0 0) b = (digB b || letB b) := fun b => by rw [e0];unfold runB;rw [hL];simp
  have hpos : 0 < (ZE (s.drop a)).length := by
   rcases Nat.eq_zero_or_pos (ZE (s.drop a)).length with h|h
   ·have := run_end (p := runB ((s.drop a).getD 0 0)) (s := s.drop a) (n := 0) h.symm (by omega)
    rw [hr, e0, hL] at this;simp at this
   ·exact h
  have hfm : Wq (s.drop a) = ZE (s.drop a) := by
   unfold Wq
   rw [if_pos hpos, if_pos (by rw [e0, hL];rfl)]
  have hk0 : kindM (ZE (s.drop a)) = 0 := by
   unfold kindM
   rw [if_pos]
   right
   have h2 : (ZE (s.drop a)).getD 0 0 = s.getD a 0 := by
    rw [<- htk2, List.getD_eq_getElem?_getD, List.getElem?_take, if_pos hpos, <- List.getD_eq_getElem?_getD, e0]
   rw [h2];exact hL
  rw [hfm, hk0]
  refine Qa Tryz.func29 rfl Tryz.ntmps29 rfl (t := [(0, Q2 s), (1, .i a)]) rfl fun E hE => ?_
  (refine wkS3 ?_;intros)
  rename_i gb hgb
  refine WY (fun k : Nat => ⟨[(0, Q2 s), (1, .i a), (4, .ptr 0 gb 0), (5, .i k)], [.row gb [Q2 [], .i 0, .i 0]]⟩) (fun k => a <= k /\ k <= a + (ZE (s.drop a)).length) (fun k => s.length - k) a ?_ (by omega) ?_
  ·exact zal rfl
  intro k ⟨hk1, hk2⟩
  have hlk := r_letter_c (G := G) (s.getD k 0)
  have hdk := r_digit_c (G := G) (s.getD k 0)
  have ek : (s.drop a).getD (k - a) 0 = s.getD k 0 := by rw [getD_drop];congr 1;omega
  by_cases hkl : k < a + (ZE (s.drop a)).length
  ·have hks : k < s.length := by omega
   have hrun := run_in (p := runB ((s.drop a).getD 0 0)) (s := s.drop a) (n := k - a) (show k - a < (ZE (s.drop a)).length by omega)
   rw [hr, ek] at hrun
   by_cases hkL : letB (s.getD k 0) = true
   ·rw [hkL] at hlk
    (refine wkS3 ?_;intros)
    refine ⟨k + 1, by omega, by omega, ?_⟩
    exact zal rfl
   ·have hkL2 : letB (s.getD k 0) = false := by simpa using hkL
    rw [hkL2] at hlk hrun
    rw [show digB (s.getD k 0) = true by simpa using hrun] at hdk
    (refine wkS3 ?_;intros)
    refine ⟨k + 1, by omega, by omega, ?_⟩
    exact zal rfl
  ·have hke : k = a + (ZE (s.drop a)).length := by omega
   by_cases hks : k < s.length
   ·have hrun := run_end (p := runB ((s.drop a).getD 0 0)) (s := s.drop a) (n := k - a) (show k - a = (ZE (s.drop a)).length by omega) (by omega)
    rw [hr, ek] at hrun
    simp at hrun
    rw [show letB (s.getD k 0) = false by simpa using hrun.2] at hlk
    rw [show digB (s.getD k 0) = false by simpa using hrun.1] at hdk
    (refine wkS3 ?_;intros)
    exact e_1 (Tryz.results29) (Qg (size := 3) rfl rfl rfl rfl) (Qd (by rw [hke, htk]))
   ·(refine wkS3 ?_;intros)
    exact e_1 (Tryz.results29) (Qg (size := 3) rfl rfl rfl rfl) (Qd (by rw [hke, htk]))
 have hL2 : letB (s.getD a 0) = false := by simpa using hL
 rw [hL2] at hl0
 have hr : ∀ b, runB ((s.drop a).getD 0 0) b = digB b := fun b => by rw [e0];unfold runB;rw [hL2];simp
 by_cases hD : digB (s.getD a 0) = true
 ·rw [hD] at hd0
  have hpos : 0 < (ZE (s.drop a)).length := by
   rcases Nat.eq_zero_or_pos (ZE (s.drop a)).length with h|h
   ·have := run_end (p := runB ((s.drop a).getD 0 0)) (s := s.drop a) (n := 0) h.symm (by omega)
    rw [hr, e0, hD] at this;simp at this
   ·exact h
  have h2 : (ZE (s.drop a)).getD 0 0 = s.getD a 0 := by
   rw [<- htk2, List.getD_eq_getElem?_getD, List.getElem?_take, if_pos hpos, <- List.getD_eq_getElem?_getD, e0]
  have hall : (ZE (s.drop a)).all digB = true := by
   rw [List.all_eq_true]
   intro b hb
   obtain ⟨j, hj, rfl⟩ := List.getElem_of_mem hb
   have h3 := run_in (p := runB ((s.drop a).getD 0 0)) (s := s.drop a) (n := j) hj
   rw [hr] at h3
   have h4 : (s.drop a).getD j 0 = (ZE (s.drop a))[j] := by
    have : (ZE (s.drop a)).getD j 0 = (s.drop a).getD j 0 := by
     rw [<- htk2, List.getD_eq_getElem?_getD, List.getElem?_take, if_pos hj, <- List.getD_eq_getElem?_getD]
    rw [<- this, List.getD_eq_getElem?_getD, List.getElem?_eq_getElem hj];rfl
   rwa [h4] at h3
  have hfm : Wq (s.drop a) = if qx (ZE (s.drop a)) = true then ZE (s.drop a) else [] := by
   unfold Wq
   rw [if_pos hpos, e0, hL2, Bool.false_or]
  have hk1 : kindM (ZE (s.drop a)) = 1 := by
   unfold kindM
   rw [if_neg, if_pos (by rw [h2];exact hD)]
   rintro (h|h)
   ·rw [h] at hpos;simp at hpos
   ·rw [h2, hL2] at h;cases h
  have hnb : qx (ZE (s.drop a)) = (decide ((ZE (s.drop a)).length <= 3) && (decide (s.getD a 0 ≠ 48) || decide ((ZE (s.drop a)).length = 1))) := by
   unfold qx
   rw [hall, h2, decide_eq_true (show 1 <= (ZE (s.drop a)).length from hpos)];simp
  refine Qa Tryz.func29 rfl Tryz.ntmps29 rfl (t := [(0, Q2 s), (1, .i a)]) rfl fun E hE => ?_
  (refine wkS3 ?_;intros)
  rename_i gb hgb
  refine WY (fun k : Nat => ⟨[(0, Q2 s), (1, .i a), (4, .ptr 0 gb 0), (5, .i k)], [.row gb [Q2 [], .i 0, .i 0]]⟩) (fun k => a <= k /\ k <= a + (ZE (s.drop a)).length) (fun k => s.length - k) a ?_ (by omega) ?_
  ·exact zal rfl
  intro k ⟨hk1', hk2⟩
  have hdk := r_digit_c (G := G) (s.getD k 0)
  have ek : (s.drop a).getD (k - a) 0 = s.getD k 0 := by rw [getD_drop];congr 1;omega
  by_cases hkl : k < a + (ZE (s.drop a)).length
  ·have hks : k < s.length := by omega
   have hrun := run_in (p := runB ((s.drop a).getD 0 0)) (s := s.drop a) (n := k - a) (show k - a < (ZE (s.drop a)).length by omega)
   rw [hr, ek] at hrun
   rw [hrun] at hdk
   (refine wkS3 ?_;intros)
   refine ⟨k + 1, by omega, by omega, ?_⟩
   exact zal rfl
  ·have hke : k = a + (ZE (s.drop a)).length := by omega
   have htk3 : (s.take k).drop a = ZE (s.drop a) := by rw [hke];exact htk
   have hkn : k - a = (ZE (s.drop a)).length := by omega
   have hkn : (k : Int) - (a : Int) = ((ZE (s.drop a)).length : Nat) := by omega
   have hfin : k < s.length -> digB (s.getD k 0) = false := fun hks => by
    have hrun := run_end (p := runB ((s.drop a).getD 0 0)) (s := s.drop a) (n := k - a) (show k - a = (ZE (s.drop a)).length by omega) (by omega)
    rwa [hr, ek] at hrun
   have hkS : k <= s.length := by omega
   clear hpl hdl htk htk2 hk2 hkl hke ek hr
   by_cases h3 : 3 < (ZE (s.drop a)).length
   ·have hf : Wq (s.drop a) = [] := by rw [hfm, hnb, decide_eq_false (show ¬ (ZE (s.drop a)).length <= 3 by omega)];rfl
    generalize ZE (s.drop a) = pre at *
    by_cases hks : k < s.length
    ·rw [hfin hks] at hdk
     (refine wkS3 ?_;intros)
     all_goals first|(exfalso;omega)|exact e_1 (Tryz.results29) (Qg (size := 3) rfl rfl rfl rfl) (Qd (by rw [hf];rfl))|exact e_1 (Tryz.results29) (Qg (size := 3) rfl rfl rfl rfl) (Qd (by rw [hf, hk1, htk3]))|exact absurd h8 (by assumption)|exact absurd (by assumption) h8|skip
    ·(refine wkS3 ?_;intros)
     all_goals first|(exfalso;omega)|exact e_1 (Tryz.results29) (Qg (size := 3) rfl rfl rfl rfl) (Qd (by rw [hf];rfl))|exact e_1 (Tryz.results29) (Qg (size := 3) rfl rfl rfl rfl) (Qd (by rw [hf, hk1, htk3]))|exact absurd h8 (by assumption)|exact absurd (by assumption) h8|skip
   by_cases h1 : (ZE (s.drop a)).length = 1
   ·have hf : Wq (s.drop a) = ZE (s.drop a) := by rw [hfm, hnb, decide_eq_true h1, decide_eq_true (show (ZE (s.drop a)).length <= 3 by omega)];simp
    generalize ZE (s.drop a) = pre at *
    by_cases hks : k < s.length
    ·rw [hfin hks] at hdk
     (refine wkS3 ?_;intros)
     all_goals first|(exfalso;omega)|exact e_1 (Tryz.results29) (Qg (size := 3) rfl rfl rfl rfl) (Qd (by rw [hf];rfl))|exact e_1 (Tryz.results29) (Qg (size := 3) rfl rfl rfl rfl) (Qd (by rw [hf, hk1, htk3]))|exact absurd h8 (by assumption)|exact absurd (by assumption) h8|skip
    ·(refine wkS3 ?_;intros)
     all_goals first|(exfalso;omega)|exact e_1 (Tryz.results29) (Qg (size := 3) rfl rfl rfl rfl) (Qd (by rw [hf];rfl))|exact e_1 (Tryz.results29) (Qg (size := 3) rfl rfl rfl rfl) (Qd (by rw [hf, hk1, htk3]))|exact absurd h8 (by assumption)|exact absurd (by assumption) h8|skip
   by_cases h8 : ((s.getD a 0).toNat : Int) = 48
   ·have h88 : s.getD a 0 = 48 := UInt8.toNat_inj.1 (by rw [show (48 : UInt8).toNat = 48 from rfl];omega)
    have hf : Wq (s.drop a) = [] := by rw [hfm, hnb, h88, decide_eq_false h1];simp
    generalize ZE (s.drop a) = pre at *
    by_cases hks : k < s.length
    ·rw [hfin hks] at hdk
     (refine wkS3 ?_;intros)
     all_goals first|(exfalso;omega)|exact e_1 (Tryz.results29) (Qg (size := 3) rfl rfl rfl rfl) (Qd (by rw [hf];rfl))|exact e_1 (Tryz.results29) (Qg (size := 3) rfl rfl rfl rfl) (Qd (by rw [hf, hk1, htk3]))|exact absurd h8 (by assumption)|exact absurd (by assumption) h8|skip
    ·(refine wkS3 ?_;intros)
     all_goals first|(exfalso;omega)|exact e_1 (Tryz.results29) (Qg (size := 3) rfl rfl rfl rfl) (Qd (by rw [hf];rfl))|exact e_1 (Tryz.results29) (Qg (size := 3) rfl rfl rfl rfl) (Qd (by rw [hf, hk1, htk3]))|exact absurd h8 (by assumption)|exact absurd (by assumption) h8|skip
   ·have h88 : ¬ s.getD a 0 = 48 := fun h => h8 (by rw [h];rfl)
    have hf : Wq (s.drop a) = ZE (s.drop a) := by rw [hfm, hnb, decide_eq_true h88, decide_eq_true (show (ZE (s.drop a)).length <= 3 by omega)];simp
    generalize ZE (s.drop a) = pre at *
    by_cases hks : k < s.length
    ·rw [hfin hks] at hdk
     (refine wkS3 ?_;intros)
     all_goals first|(exfalso;omega)|exact e_1 (Tryz.results29) (Qg (size := 3) rfl rfl rfl rfl) (Qd (by rw [hf];rfl))|exact e_1 (Tryz.results29) (Qg (size := 3) rfl rfl rfl rfl) (Qd (by rw [hf, hk1, htk3]))|exact absurd h8 (by assumption)|exact absurd (by assumption) h8|skip
    ·(refine wkS3 ?_;intros)
     all_goals first|(exfalso;omega)|exact e_1 (Tryz.results29) (Qg (size := 3) rfl rfl rfl rfl) (Qd (by rw [hf];rfl))|exact e_1 (Tryz.results29) (Qg (size := 3) rfl rfl rfl rfl) (Qd (by rw [hf, hk1, htk3]))|exact absurd h8 (by assumption)|exact absurd (by assumption) h8|skip
 have hD2 : digB (s.getD a 0) = false := by simpa using hD
 rw [hD2] at hd0
 have hpz : (ZE (s.drop a)).length = 0 := by
  rcases Nat.eq_zero_or_pos (ZE (s.drop a)).length with h|h
  ·exact h
  ·have := run_in (p := runB ((s.drop a).getD 0 0)) (s := s.drop a) (n := 0) h
   rw [hr, e0, hD2] at this;cases this
 have hfm : Wq (s.drop a) = signM (s.drop a) := by unfold Wq;rw [if_neg (by omega)]
 have hsg := r_signs_c (G := G)
 obtain ⟨ls, hls⟩ : ∃ ls, ls = signsT.map Str.mk := ⟨_, rfl⟩
 rw [<- hls] at hsg
 have hsl : ls.length = 24 := by rw [hls];rfl
 have hel : ∀ (i : Nat) (h : i < ls.length), (ls[i]).l = signsT[i]'(by rw [hls] at h;simpa using h) := fun i h => by subst hls;rw [List.getElem_map]
 have hno : ∀ t ∈ signsT, 1 <= t.length /\ t.length <= 2 /\ kindM t = 2 := by decide
 clear hpl htk htk2 hpz hr
 refine Qa Tryz.func29 rfl Tryz.ntmps29 rfl (t := [(0, Q2 s), (1, .i a)]) rfl fun E hE => ?_
 (refine wkS3 ?_;intros)
 rename_i gb hgb
 refine WY (fun i : Nat => ⟨[(0, Q2 s), (1, .i a), (4, .ptr 0 gb 0), (6, Qo ls), (7, .i i)], [.row gb [Q2 [], .i 0, .i 0]]⟩) (fun i => i <= 24 /\ ∀ j (h : j < signsT.length), j < i -> Lib.hasPrefix (s.drop a) signsT[j] = false) (fun i => 24 - i) 0 ?_ ⟨by omega, fun j h hj => by omega⟩ ?_
 ·exact zal rfl
 intro i ⟨hi, hmiss⟩
 by_cases hil : i < 24
 ·have hil2 : i < ls.length := by omega
  have hi3 : i < signsT.length := hil
  obtain ⟨n1, n2, n3⟩ := hno _ (List.getElem_mem hi3)
  have he := hel i hil2
  have hlen : ls[i].l.length = signsT[i].length := by rw [he]
  by_cases hfit : a + ls[i].l.length <= s.length
  ·have hat : (a : Int) + (ls[i].l.length : Int) = (a + ls[i].l.length : Nat) := by omega
   have hmin : min ((a + ls[i].l.length : Nat) : Int) (s.length : Int) = (a + ls[i].l.length : Nat) := by omega
   have hpx : Lib.hasPrefix (s.drop a) signsT[i] = decide ((s.take (a + ls[i].l.length)).drop a = ls[i].l) := by
    rw [Bool.eq_iff_iff, prefix_iff, decide_eq_true_eq, drop_take', he]
    constructor
    ·intro h;exact h.2
    ·intro h;exact ⟨by omega, h⟩
   by_cases hx : (s.take (a + ls[i].l.length)).drop a = ls[i].l
   ·have hd : decide ((s.take (a + ls[i].l.length)).drop a = ls[i].l) = true := decide_eq_true hx
    have hsm : signM (s.drop a) = ls[i].l := by rw [he];exact signs_hit signsT i hi3 hmiss (by rw [hpx];exact hd)
    have hk2 : kindM ls[i].l = 2 := by rw [he];exact n3
    (refine wkS3 ?_;intros)
    exact e_1 (Tryz.results29) (Qg (size := 3) rfl rfl rfl rfl) (Qd (by rw [hfm, hsm, hk2];try rfl))
   ·have hd : decide ((s.take (a + ls[i].l.length)).drop a = ls[i].l) = false := decide_eq_false hx
    have hms : Lib.hasPrefix (s.drop a) signsT[i] = false := by rw [hpx];exact hd
    (refine wkS3 ?_;intros)
    refine ⟨i + 1, ⟨by omega, fun j h hj => ?_⟩, by omega, ?_⟩
    ·rcases Nat.lt_or_ge j i with h'|h'
     ·exact hmiss j h h'
     ·have hji : j = i := by omega
      subst hji;exact hms
    ·exact zal rfl
  ·have hat : (a : Int) + (ls[i].l.length : Int) = (a + ls[i].l.length : Nat) := by omega
   have hms : Lib.hasPrefix (s.drop a) signsT[i] = false := by
    rw [<- Bool.not_eq_true, prefix_iff]
    intro h;omega
   (refine wkS3 ?_;intros)
   refine ⟨i + 1, ⟨by omega, fun j h hj => ?_⟩, by omega, ?_⟩
   ·rcases Nat.lt_or_ge j i with h'|h'
    ·exact hmiss j h h'
    ·have hji : j = i := by omega
     subst hji;exact hms
   ·exact zal rfl
 ·have hie : i = 24 := by omega
  have hsm : signM (s.drop a) = [] := signs_miss signsT fun j h => hmiss j h (by have : signsT.length = 24 := rfl;omega)
  (refine wkS3 ?_;intros)
  exact e_1 (Tryz.results29) (Qg (size := 3) rfl rfl rfl rfl) (Qd (by rw [hfm, hsm];try rfl))
def trs (l : List (List UInt8 × Nat)) : List Tr := l.map fun x => ⟨x.1, x.2, kindM x.1⟩
theorem spB_iff (b : UInt8) : spB b = (decide ((b.toNat : Int) = 32) || decide ((b.toNat : Int) = 10)) := by
 have : ∀ n : Fin 256, spB (UInt8.ofNat n.val) = (decide (((UInt8.ofNat n.val).toNat : Int) = 32) || decide (((UInt8.ofNat n.val).toNat : Int) = 10)) := by decide +kernel
 have h := this ⟨b.toNat, b.toNat_lt⟩
 simpa using h
theorem drop_get {s : List UInt8} {a : Nat} (h : a < s.length) : s.drop a = s.getD a 0 :: s.drop (a + 1) := by
 rw [List.drop_eq_getElem_cons h, List.getD_eq_getElem?_getD, List.getElem?_eq_getElem h];rfl
theorem skip_space {s : List UInt8} {a : Nat} (h : a < s.length) (hb : spB (s.getD a 0) = true) : ZT s a = ZT s (a + 1) := by
 unfold ZT
 rw [drop_get h, List.dropWhile_cons, if_pos hb, List.length_cons]
 have := (List.dropWhile_sublist (l := s.drop (a + 1)) spB).length_le
 omega
theorem skip_here {s : List UInt8} {a : Nat} (h : a < s.length) (hb : spB (s.getD a 0) = false) : ZT s a = a := by
 unfold ZT
 rw [drop_get h, List.dropWhile_cons, if_neg (by rw [hb];simp), List.length_cons];omega
theorem scan_space {s : List UInt8} {a : Nat} (h : a < s.length) (hb : spB (s.getD a 0) = true) : WL (s.drop a) a = WL (s.drop (a + 1)) (a + 1) := by
 have e := skip_space h hb
 by_cases ht : Wq (s.drop (ZT s a)) = []
 ·rw [scan_none ht, scan_none (a := a + 1) (by rw [<- e];exact ht), e]
 ·rw [scan_some ht, scan_some (a := a + 1) (by rw [<- e];exact ht), e]
theorem scan_end {s : List UInt8} {a : Nat} (h : s.length <= a) (h2 : a <= s.length) : WL (s.drop a) a = ([], a) := by
 have e : ZT s a = a := by obtain ⟨k1, k2⟩ := skip_le s a h2;omega
 have e2 : s.drop a = [] := List.drop_eq_nil_of_le h
 have := scan_none (s := s) (a := a) (by rw [e, e2];decide +kernel)
 rw [this, e]
theorem wkS4 {X W0 W1 W2 : Prop} (w0 : W0 := by exact True.intro) (w1 : W1 := by exact True.intro) (w2 : W2 := by exact True.intro) (s : (Unit -> W0) -> (Unit -> W1) -> (Unit -> W2) -> Unit -> X := by (intro w0 w1 w2 _;(repeat' first|(refine Qz ?_;(first|refine Ws rfl ?_|refine WM rfl ?_|(refine QN ?_;(first|refine Z4 rfl rfl ?_|refine Qc rfl rfl rfl ?_))|(refine Qw ?_;(first|refine W6 rfl rfl hat ⟨by omega, by omega⟩ ?_|refine ZU rfl rfl (by omega) ?_|refine Zw rfl rfl ?_|refine WX rfl rfl ?_|refine Zr rfl rfl ?_))|(refine QK ?_;(first|refine Zy (z := Tr.mk _ _ _) rfl rfl rfl rfl rfl rfl rfl (by first|omega|(simp;omega)) (by first|omega|(simp;omega)) (fun _ => rfl) (fun _ _ => ?_)|refine Zx rfl ?_|refine WA rfl rfl (hnx) ?_))|(refine Q1 ?_;(first|refine ZO rfl rfl ?_|refine W9 rfl rfl ?_))|refine qh rfl rfl rfl rfl ?_|refine Qe rfl rfl ?_|refine s_index_str rfl rfl (by first|assumption|omega|(simp only [List.length_take, List.length_drop];omega)) ?_|refine W5 rfl rfl (by decide) rfl ?_|refine QU (fun _ _ => ?_)))|(refine We ?_;(first|refine Wb ?_|refine Zg rfl ?_|refine WI ?_|refine qd rfl rfl rfl rfl ?_|refine qw rfl rfl rfl rfl ?_|refine WN rfl rfl (by omega) ?_|refine WD rfl rfl (by omega) ?_))|(refine Wc ?_;(first|refine Q7 ?_|refine Qm ?_|refine QM ?_|refine QV ?_|refine QD rfl ?_|refine Qu rfl (by omega) ?_|refine Qn rfl (by omega) ?_|refine W8 rfl ?_|refine Wi ?_)));(all_goals (repeat (rename_i x;(fail_if_success have : Unit := x);revert x)));(first|done|exact w0 ());(first|done|exact w1 ());(first|done|exact w2 ()))) (u : (W0 \/ True) /\ (W1 \/ True) /\ (W2 \/ True) := by (refine ⟨?_, ?_, ?_⟩ <;> first|exact Or.inl True.intro|exact Or.inr True.intro)) : X := s (fun _ => w0) (fun _ => w1) (fun _ => w2) ()
theorem r_scan_c (s : List UInt8) (hs : s.length <= 50000000) : Go.Av.Pure Tryz.prog G 33 [Q2 s] (.tup [Qo (trs (WL s 0).1), .i (WL s 0).2]) := fun B => by
 refine Qa Tryz.func33 rfl Tryz.ntmps33 rfl (t := [(0, Q2 s)]) rfl fun E hE => ?_
 (refine wkS4 ?_;intros)
 refine r_own 4 3 rfl fun gO hgO => ?_
 refine r_loop3 (fun (o : List Tr) (a : Nat) (g : Nat) => ⟨[(0, Q2 s), (4, .ref 0 g 0 o.length 3), (5, .i a)], [.row g (Wf o)]⟩) (fun o a g => a <= s.length /\ o.length <= a /\ E.N < g /\ trs (WL s 0).1 = o ++ trs (WL (s.drop a) a).1 /\ (WL s 0).2 = (WL (s.drop a) a).2) (fun o a g => s.length - a) [] 0 gO ?_ ⟨by omega, by simp, hgO, by simp, by simp⟩ ?_
 ·exact zal rfl
 intro o a g ⟨ha, hoa, hg, h1, h2⟩
 by_cases hal : a < s.length
 case neg =>
  rw [scan_end (by omega) ha] at h1 h2
  (refine wkS4 ?_;intros)
  exact e_2 (Tryz.results33) (Qb rfl) (Qb rfl) (q7 rfl (by rw [Qx];try rfl) (Qd (by rw [h1, h2];simp [trs];try rfl)))
 have hsp := spB_iff (s.getD a 0)
 by_cases h32 : ((s.getD a 0).toNat : Int) = 32
 ·rw [decide_eq_true h32, Bool.true_or] at hsp
  rw [scan_space hal hsp] at h1 h2
  (refine wkS4 ?_;intros)
  refine ⟨o, a + 1, g, ⟨by omega, by omega, hg, h1, h2⟩, by omega, ?_⟩
  exact zal rfl
 by_cases h10 : ((s.getD a 0).toNat : Int) = 10
 ·rw [decide_eq_true h10, Bool.or_true] at hsp
  rw [scan_space hal hsp] at h1 h2
  (refine wkS4 ?_;intros)
  refine ⟨o, a + 1, g, ⟨by omega, by omega, hg, h1, h2⟩, by omega, ?_⟩
  exact zal rfl
 rw [decide_eq_false h32, decide_eq_false h10, Bool.false_or] at hsp
 have e := skip_here hal hsp
 have hnx := r_next_c (G := G) s a hal (by omega)
 have hfl := firstM_le (s.drop a)
 have hdl : (s.drop a).length = s.length - a := List.length_drop
 by_cases ht : Wq (s.drop a) = []
 ·rw [scan_none (by rw [e];exact ht), e] at h1 h2
  rw [ht] at hnx
  (refine wkS4 ?_;intros)
  exact e_2 (Tryz.results33) (Qb rfl) (Qb rfl) (q7 rfl (by rw [Qx];try rfl) (Qd (by rw [h1, h2];simp [trs];try rfl)))
 ·rw [scan_some (by rw [e];exact ht), e] at h1 h2
  generalize htk : Wq (s.drop a) = t at *
  have htp : 0 < t.length := by cases t with|nil => exact absurd rfl ht|cons b r => simp
  have hat : (a : Int) + (t.length : Int) = (a + t.length : Nat) := by omega
  (refine wkS4 ?_;intros)
  refine ⟨o ++ [Tr.mk t a (kindM t)], a + t.length, _, ⟨by omega, by simp;omega, by assumption, by rw [h1];simp [trs], h2⟩, by omega, ?_⟩
  exact zal rfl
section
variable {P : Program} {G : Nat -> DV} {B : Nat} {f : Operand -> DV} {σ : List ABlk} {K : DV -> List ABlk -> Prop} {dst : Option Tmp} {type : TypeId} {pos : String} {after : Array Edge} {gd : Option (Nat × Bool)}
theorem s_idx_as {α : Type} [Enc α] {t e : TypeId} {d : TypeDesc} {g1 g2 : Bool} {z1 : Nat} {x y : Operand} {l : List α} {kd : IntKind} {i : Nat} {cs : List DV} [ht : TyI P t (.slice e) g1 z1] [he : TyI P e d g2 (Enc.es α)]
  (hx : f x = Qo l) (hy : f y = .sc (.int kd (i : Nat))) (h1 : i < l.length) (hc : Enc.enc l[i] = cs) (k : K (.ep cs) σ) : OpSem P G B ⟨dst, .indexAddr t x y, type, pos, after, gd⟩ f σ K := Qq hx hy h1 (by rw [hc];exact k)
end
theorem wkCH {X W0 W1 W2 : Prop} (w0 : W0 := by exact True.intro) (w1 : W1 := by exact True.intro) (w2 : W2 := by exact True.intro) (s : (Unit -> W0) -> (Unit -> W1) -> (Unit -> W2) -> Unit -> X := by (intro w0 w1 w2 _;(repeat' first|(refine Qz ?_;(first|refine Ws rfl ?_|refine WM rfl ?_|(refine QN ?_;(first|refine QA rfl ?_|refine Q0 rfl ?_|refine Qc rfl rfl rfl ?_))|refine Qq rfl rfl (by first|assumption|omega|(simp;done)|(simp;omega)) ?_|(refine Qw ?_;(first|refine s_ad rfl rfl ?_|refine WX rfl rfl ?_))|(refine QK ?_;(first|refine Qv rfl ?_|refine WA rfl rfl (hpa) ?_|refine WA rfl rfl (hpb) ?_|refine WA rfl rfl (hsc) ?_))|refine qh rfl rfl rfl rfl ?_|refine W5 (cs := Wf ((moreT T[ia].t T[ib].t).map Str.mk)) rfl rfl (by decide) rfl ?_|(refine QS ?_;(first|refine Qe rfl rfl ?_|refine Wz rfl rfl ?_))|refine Zm rfl rfl rfl ?_|refine QU (fun _ _ => ?_)))|(refine We ?_;(first|refine Wb ?_|refine Zg rfl ?_|refine WI ?_))|(refine Wc ?_;(first|refine Q7 ?_|refine Qm ?_|(refine WC ?_;first|refine Q9 (by rfl) (by kernel_rfl) (by kernel_rfl) ?_|refine Q8 (by kernel_rfl) (by kernel_rfl) ?_)|refine QV ?_|refine Qu rfl (by omega) ?_|refine Qn rfl (by omega) ?_|refine Wi ?_))|(refine qM ?_;(first|refine x_op rfl (by (repeat' first|(refine Qz ?_;(first|refine Ws rfl ?_|refine WM rfl ?_|(refine QN ?_;(first|refine QA rfl ?_|refine Qc rfl rfl rfl ?_))|refine s_idx_as (l := (moreT T[ia].t T[ib].t).map Str.mk) rfl rfl hjl hen ?_|(refine Qw ?_;(first|refine W6 rfl rfl hsum ⟨by omega, by omega⟩ ?_|refine s_ad rfl rfl ?_))|(refine QK ?_;(first|refine Zx rfl ?_|refine WA rfl rfl (hpj) ?_))|refine Qe rfl rfl ?_|(refine g_slice ?_;(first|refine s_sh rfl rfl ?_|refine s_sl rfl rfl ?_))))|exact ⟨rfl, rfl⟩)) ?_|refine qJ ?_)));(all_goals (repeat (rename_i x;(fail_if_success have : Unit := x);revert x)));(first|done|exact w0 ());(first|done|exact w1 ());(first|done|exact w2 ()))) (u : (W0 \/ True) /\ (W1 \/ True) /\ (W2 \/ True) := by (refine ⟨?_, ?_, ?_⟩ <;> first|exact Or.inl True.intro|exact Or.inr True.intro)) : X := s (fun _ => w0) (fun _ => w1) (fun _ => w2) ()
theorem changed_c (s : List UInt8) (hs : s.length <= 10000000) (at_ how by_ : Int) (h1 : -9223372036854775808 <= at_ /\ at_ <= 9223372036854775807) (h2 : -9223372036854775808 <= how /\ how <= 9223372036854775807) (h3 : -9223372036854775808 <= by_ /\ by_ <= 9223372036854775807) :
  ∃ r : List UInt8, r.length <= 4 * s.length + 10 /\ Go.Av.Pure Tryz.prog G 21 [Q2 s, .i at_, .i how, .i by_] (Q2 r) := by
 have hsc := r_scan_c (G := G) s (by omega)
 obtain ⟨m1, _, _, _⟩ := scan_mem _ s 0 rfl
 have hm : ∀ x ∈ trs (WL s 0).1, x.a + x.t.length <= s.length := fun x hx => by
  unfold trs at hx
  obtain ⟨y, hy, rfl⟩ := List.mem_map.1 hx
  have := m1 y hy
  show y.2 + y.1.length <= s.length
  omega
 have hTl : (trs (WL s 0).1).length <= s.length := by
  have h := scan_toks s 0
  have := len_le_lenS fun t ht => (h.1 t ht).1
  rw [List.length_map] at this
  unfold trs
  rw [List.length_map]
  omega
 generalize trs (WL s 0).1 = T at *
 generalize (WL s 0).2 = e2 at *
 clear m1
 by_cases h0 : T.length = 0
 ·refine ⟨s, by omega, fun B => ?_⟩
  have hpa := trivial
  have hpb := trivial
  have hpj := trivial
  have hsum := trivial
  refine Qa Tryz.func21 rfl Tryz.ntmps21 rfl (t := [(0, Q2 s), (1, .i at_), (2, .i how), (3, .i by_)]) rfl fun E hE => ?_
  (refine wkCH ?_;intros)
  exact e_1 (Tryz.results21) (Qb rfl) (Qd rfl)
 ·have hpa := around_c (G := G) at_ T.length h1 (by omega)
  have hpb := around_c (G := G) by_ T.length h3 (by omega)
  have hpj := around_c (G := G) how 15 h2 (by omega)
  have ba := arnd_bound at_ (most := T.length) (by omega)
  have bb := arnd_bound by_ (most := T.length) (by omega)
  have bj := arnd_bound how (most := 15) (by omega)
  obtain ⟨ia, hia⟩ : ∃ ia : Nat, arnd at_ T.length = (ia : Int) := ⟨(arnd at_ T.length).toNat, by omega⟩
  obtain ⟨ib, hib⟩ : ∃ ib : Nat, arnd by_ T.length = (ib : Int) := ⟨(arnd by_ T.length).toNat, by omega⟩
  obtain ⟨j, hj⟩ : ∃ j : Nat, arnd how 15 = (j : Int) := ⟨(arnd how 15).toNat, by omega⟩
  rw [hia] at hpa ba
  rw [hib] at hpb bb
  rw [hj] at hpj bj
  have hila : ia < T.length := by omega
  have hilb : ib < T.length := by omega
  have hma := hm _ (List.getElem_mem hila)
  have hmb := hm _ (List.getElem_mem hilb)
  have hjm : j < (moreT T[ia].t T[ib].t).length := by show j < 15;omega
  have hjl : j < ((moreT T[ia].t T[ib].t).map Str.mk).length := by rw [List.length_map];exact hjm
  have hen : Enc.enc ((moreT T[ia].t T[ib].t).map Str.mk)[j] = [Q2 (moreT T[ia].t T[ib].t)[j]] := by rw [List.getElem_map];rfl
  have hMl := moreT_len T[ia].t T[ib].t _ (List.getElem_mem hjm)
  have hsum : (T[ia].a : Int) + (T[ia].t.length : Int) = ((T[ia].a + T[ia].t.length : Nat) : Int) := by omega
  have hal : T[ia].a <= s.length := by omega
  have htl : T[ia].t.length <= s.length := by omega
  have hol : T[ib].t.length <= s.length := by omega
  have htk : (s.take T[ia].a).length <= 10000000 := by rw [List.length_take];omega
  have hdr : (s.drop (T[ia].a + T[ia].t.length)).length <= 10000000 := by rw [List.length_drop];omega
  clear hia hib hj bj hm
  generalize hM : (moreT T[ia].t T[ib].t)[j] = M at *
  refine ⟨s.take T[ia].a ++ [32] ++ M ++ [32] ++ s.drop (T[ia].a + T[ia].t.length), ?_, fun B => ?_⟩
  ·simp only [List.length_append, List.length_take, List.length_drop, List.length_cons, List.length_nil];omega
  refine Qa Tryz.func21 rfl Tryz.ntmps21 rfl (t := [(0, Q2 s), (1, .i at_), (2, .i how), (3, .i by_)]) rfl fun E hE => ?_
  (refine wkCH ?_;intros)
  exact e_1 (Tryz.results21) (Qb rfl) (Qd rfl)
section
variable {P : Program} {G : Nat -> DV} {B : Nat} {f : Operand -> DV} {σ : List ABlk} {K : DV -> List ABlk -> Prop} {dst : Option Tmp} {type : TypeId} {pos : String} {after : Array Edge} {gd : Option (Nat × Bool)}
end
section
variable {P : Program} {G : Nat -> DV} {B : Nat} {f : Operand -> DV} {σ : List ABlk} {K : DV -> List ABlk -> Prop} {dst : Option Tmp} {type : TypeId} {pos : String} {after : Array Edge} {gd : Option (Nat × Bool)}
theorem s_neq_asK {t t' : TypeId} {x y : Operand} {a b : Int} {k1 : IntKind} {v : Bool} (hx : f x = .sc (.int k1 a)) (hy : f y = .sc (.int k1 b)) (hc : decide (a ≠ b) = v)
  (k : K (.sc (.bool v)) σ) : OpSem P G B ⟨dst, .binOp .neq t x y t', type, pos, after, gd⟩ f σ K := s_neq hx hy (by rw [hc];exact k)
end
section
variable {P : Program} {G : Nat -> DV} {B : Nat} {f : Operand -> DV} {σ : List ABlk} {K : DV -> List ABlk -> Prop} {dst : Option Tmp} {type : TypeId} {pos : String} {after : Array Edge} {gd : Option (Nat × Bool)}
theorem s_neq_asQ {t t' : TypeId} {x y : Operand} {a b : Int} {k1 : IntKind} {v : Bool} (hx : f x = .sc (.int k1 a)) (hy : f y = .sc (.int k1 b)) (hc : decide (a ≠ b) = v)
  (k : K (.sc (.bool v)) σ) : OpSem P G B ⟨dst, .binOp .neq t x y t', type, pos, after, gd⟩ f σ K := s_neq hx hy (by rw [hc];exact k)
theorem s_gtr_asQ {t t' : TypeId} {x y : Operand} {a b : Int} {k1 : IntKind} {v : Bool} (hx : f x = .sc (.int k1 a)) (hy : f y = .sc (.int k1 b)) (hc : decide (b < a) = v)
  (k : K (.sc (.bool v)) σ) : OpSem P G B ⟨dst, .binOp .gtr t x y t', type, pos, after, gd⟩ f σ K := s_gtr hx hy (by rw [hc];exact k)
theorem s_eql_asQ {t t' : TypeId} {x y : Operand} {a b : Int} {k1 : IntKind} {v : Bool} (hx : f x = .sc (.int k1 a)) (hy : f y = .sc (.int k1 b)) (hc : decide (a = b) = v)
  (k : K (.sc (.bool v)) σ) : OpSem P G B ⟨dst, .binOp .eql t x y t', type, pos, after, gd⟩ f σ K := WX hx hy (by rw [hc];exact k)
end
def dvM (l : List UInt8) : Int := l.foldl (fun n b => 10 * n + (b.toNat : Int) - 48) 0
theorem dvM_snoc (l : List UInt8) (b : UInt8) : dvM (l ++ [b]) = 10 * dvM l + (b.toNat : Int) - 48 := by
 unfold dvM
 rw [List.foldl_append];rfl
theorem dig_rng {b : UInt8} (h : digB b = true) : 48 <= b.toNat /\ b.toNat <= 57 := by
 unfold digB at h
 simpa using h
theorem dvM_rng : ∀ (l : List UInt8), l.all digB = true -> l.length <= 3 -> 0 <= dvM l /\ dvM l <= 999 := by
 intro l ha hl
 match l, hl with
 | [], _ => simp [dvM]
 | [a], _ =>
  simp at ha
  have := dig_rng ha
  simp [dvM];omega
 | [a, b], _ =>
  simp at ha
  have h1 := dig_rng ha.1
  have h2 := dig_rng ha.2
  simp [dvM];omega
 | [a, b, c], _ =>
  simp at ha
  have h1 := dig_rng ha.1
  have h2 := dig_rng ha.2.1
  have h3 := dig_rng ha.2.2
  simp [dvM];omega
 | a :: b :: c :: d :: r, hl => simp at hl
theorem dvM_val {s : List UInt8} (h : qx s = true) : dvM s = valM s := by
 have h0 := h
 unfold qx at h
 simp only [Bool.and_eq_true, decide_eq_true_eq] at h
 obtain ⟨⟨⟨h1, h2⟩, _⟩, h3⟩ := h
 have hd : ∀ b, digB b = true -> Lib.digitVal b = some (b.toNat - 48) /\ b.toNat <= 57 /\ 48 <= b.toNat := fun b hb => by
  unfold digB at hb
  simp only [Bool.and_eq_true, decide_eq_true_eq] at hb
  unfold Lib.digitVal
  rw [if_pos hb];exact ⟨rfl, hb.2, hb.1⟩
 have hsgn : ∀ (b : UInt8), digB b = true -> b ≠ 43 /\ b ≠ 45 := fun b hb => by
  unfold digB at hb
  simp only [Bool.and_eq_true, decide_eq_true_eq] at hb
  constructor <;> (rintro rfl;revert hb;decide)
 unfold valM
 match s, h1, h2, h3 with
 | [a], _, _, h3 =>
  simp at h3
  obtain ⟨e1, e2, e3⟩ := hd a h3
  obtain ⟨n1, n2⟩ := hsgn a h3
  simp [Lib.atoi, Lib.decNat, Lib.decFrom, e1, n1, n2, dvM];omega
 | [a, b], _, _, h3 =>
  simp at h3
  obtain ⟨e1, e2, e3⟩ := hd a h3.1
  obtain ⟨f1, f2, f3⟩ := hd b h3.2
  obtain ⟨n1, n2⟩ := hsgn a h3.1
  simp [Lib.atoi, Lib.decNat, Lib.decFrom, e1, f1, n1, n2, dvM];omega
 | [a, b, c], _, _, h3 =>
  simp at h3
  obtain ⟨e1, e2, e3⟩ := hd a h3.1
  obtain ⟨f1, f2, f3⟩ := hd b h3.2.1
  obtain ⟨g1, g2, g3⟩ := hd c h3.2.2
  obtain ⟨n1, n2⟩ := hsgn a h3.1
  simp [Lib.atoi, Lib.decNat, Lib.decFrom, e1, f1, g1, n1, n2, dvM];omega
theorem wkQ0 {X W0 W1 W2 : Prop} (w0 : W0 := by exact True.intro) (w1 : W1 := by exact True.intro) (w2 : W2 := by exact True.intro) (s : (Unit -> W0) -> (Unit -> W1) -> (Unit -> W2) -> Unit -> X := by (intro w0 w1 w2 _;(repeat' first|(refine Qz ?_;(first|refine Ws rfl ?_|refine WM rfl ?_|refine Qc rfl rfl rfl ?_|(refine Qw ?_;(first|refine s_neq_asQ rfl rfl hq ?_|refine s_neq rfl rfl ?_|refine s_eql_asQ rfl rfl hq8 ?_|refine s_gtr_asQ rfl rfl hq9 ?_|refine s_gtr rfl rfl ?_|refine Zw rfl rfl ?_|refine ZU rfl rfl (by omega) ?_|refine qC rfl rfl (by omega) ?_|refine s_mul rfl rfl (by omega) ?_))|(refine QK ?_;(first|refine Zx rfl ?_|refine WA rfl rfl (hdg) ?_|refine WA rfl rfl (hnl) ?_))|(refine Q1 ?_;(first|refine ZO rfl rfl ?_|refine W9 rfl rfl ?_))|refine qK rfl ?_|refine s_conv_i rfl (by omega) ?_|refine Qe rfl rfl ?_|refine s_index_str rfl rfl (by first|assumption|omega|(simp only [List.length_take, List.length_drop];omega)) ?_|refine s_sl rfl rfl ?_|refine ZC rfl rfl (fun _ _ => ?_)))|(refine We ?_;(first|refine Wb ?_|refine Zg rfl ?_|refine qd rfl rfl rfl rfl ?_|refine qw rfl rfl rfl rfl ?_|refine o_gu rfl rfl rfl rfl rfl ?_|refine WN rfl rfl (by omega) ?_|refine WD rfl rfl (by omega) ?_))|(refine Wc ?_;(first|refine Q7 ?_|refine Qm ?_|refine QM ?_|refine QV ?_|refine QD rfl ?_|refine QR rfl ?_|refine Qu rfl (by omega) ?_|refine Qn rfl (by omega) ?_|refine W8 rfl ?_|refine Wi ?_)));(all_goals (repeat (rename_i x;(fail_if_success have : Unit := x);revert x)));(first|done|exact w0 ());(first|done|exact w1 ());(first|done|exact w2 ()))) (u : (W0 \/ True) /\ (W1 \/ True) /\ (W2 \/ True) := by (refine ⟨?_, ?_, ?_⟩ <;> first|exact Or.inl True.intro|exact Or.inr True.intro)) : X := s (fun _ => w0) (fun _ => w1) (fun _ => w2) ()
theorem rNumeral_c (s : List UInt8) (ha : s.all digB = true) (hl : s.length <= 3) : Go.Av.Pure Tryz.prog G 114 [Q2 s] (.i (dvM s)) := fun B => by
 have hdg := trivial
 have hnl := trivial
 have hq := trivial
 have hq8 := trivial
 have hq9 := trivial
 refine Qa Tryz.func114 rfl Tryz.ntmps114 rfl (t := [(0, Q2 s)]) rfl fun E hE => ?_
 (refine wkQ0 ?_;intros)
 refine WY (fun i : Nat => ⟨[(0, Q2 s), (3, .i (dvM (s.take i))), (4, .i i)], []⟩) (fun i => i <= s.length) (fun i => s.length - i) 0 ?_ (by omega) ?_
 ·exact zal rfl
 intro i hi
 by_cases hil : i < s.length
 ·have hst : s.take (i + 1) = s.take i ++ [s.getD i 0] := by
   rw [List.take_succ_eq_append_getElem hil, List.getD_eq_getElem?_getD, List.getElem?_eq_getElem hil];rfl
  have e1 := dvM_snoc (s.take i) (s.getD i 0)
  rw [<- hst] at e1
  have hb := dvM_rng (s.take i) (by rw [List.all_eq_true] at ha ⊢;exact fun x hx => ha x (List.mem_of_mem_take hx)) (by rw [List.length_take];omega)
  have hdr : (s.getD i 0).toNat <= 57 := by
   rw [List.all_eq_true] at ha
   have hm : s.getD i 0 ∈ s := by rw [List.getD_eq_getElem?_getD, List.getElem?_eq_getElem hil];exact List.getElem_mem hil
   exact (dig_rng (ha _ hm)).2
  (refine wkQ0 ?_;intros)
  refine ⟨i + 1, by omega, by omega, ?_⟩
  rw [e1]
  exact zal rfl
 ·have hie : i = s.length := by omega
  subst hie
  rw [List.take_length]
  (refine wkQ0 ?_;intros)
  exact e_1 (Tryz.results114) (Qb rfl) (Qd rfl)
def ndM (t : List UInt8) (c : UInt8) : Int := if (Lib.hasPrefix t [c] && qx (t.drop 1)) = true then valM (t.drop 1) else -1
theorem ndM_no {t : List UInt8} {c : UInt8} (h : (Lib.hasPrefix t [c] && qx (t.drop 1)) = false) : ndM t c = -1 := by unfold ndM;rw [h];rfl
theorem pre_one {t : List UInt8} {c : UInt8} (h : Lib.hasPrefix t [c] = true) : 1 <= t.length /\ t.getD 0 0 = c := by
 obtain ⟨h1, h2⟩ := (prefix_iff t [c]).1 h
 cases t with
 | nil => simp at h1
 | cons a r =>
  simp at h2
  exact ⟨by simp, h2⟩
theorem pre_two {t : List UInt8} {c : UInt8} (h1 : 1 <= t.length) (h2 : t.getD 0 0 = c) : Lib.hasPrefix t [c] = true := by
 rw [prefix_iff]
 cases t with
 | nil => simp at h1
 | cons a r =>
  simp at h2
  exact ⟨by simp, by simp [h2]⟩
theorem rNumbered_c (x : Tr) (c : UInt8) (hc : letB c = true) (hk : x.k = kindM x.t) (hxl : x.t.length <= 1000000) : Go.Av.Pure Tryz.prog G 202 [.agg [Q2 x.t, .i x.a, .i x.k], .sc (.int .u8 c.toNat)] (.i (ndM x.t c)) := fun B => by
 obtain ⟨t, a, k⟩ := x
 dsimp only at hk hxl ⊢
 have hdg := trivial
 have hnl := trivial
 by_cases k0 : k = 0
 case neg =>
  have hq := trivial
  have hq8 := trivial
  have hq9 := trivial
  have hnp : Lib.hasPrefix t [c] = false := by
   rw [<- Bool.not_eq_true]
   intro h
   obtain ⟨h1, h2⟩ := pre_one h
   apply k0
   rw [hk]
   unfold kindM
   rw [h2, if_pos (.inr hc)]
  rw [ndM_no (by rw [hnp];rfl)]
  refine Qa Tryz.func202 rfl Tryz.ntmps202 rfl (t := [(0, .agg [Q2 t, .i a, .i k]), (1, .sc (.int .u8 c.toNat))]) rfl fun E hE => ?_
  (refine wkQ0 ?_;intros)
  exact e_1 (Tryz.results202) (Qb rfl) (Qd rfl)
 by_cases hl : t.length < 2 \/ 4 < t.length
 ·have hq := trivial
  have hq8 := trivial
  have hq9 := trivial
  have hnb : qx (t.drop 1) = false := by
   unfold qx
   rw [List.length_drop]
   rcases hl with hl|hl
   ·rw [decide_eq_false (show ¬ 1 <= t.length - 1 by omega)];rfl
   ·rw [decide_eq_false (show ¬ t.length - 1 <= 3 by omega)];simp
  rw [ndM_no (by rw [hnb, Bool.and_false])]
  refine Qa Tryz.func202 rfl Tryz.ntmps202 rfl (t := [(0, .agg [Q2 t, .i a, .i k]), (1, .sc (.int .u8 c.toNat))]) rfl fun E hE => ?_
  rcases hl with hl|hl
  ·(refine wkQ0 ?_;intros)
   exact e_1 (Tryz.results202) (Qb rfl) (Qd rfl)
  ·(refine wkQ0 ?_;intros)
   exact e_1 (Tryz.results202) (Qb rfl) (Qd rfl)
 have hl2 : 2 <= t.length := by omega
 have hl4 : t.length <= 4 := by omega
 have hrl : (t.drop 1).length = t.length - 1 := List.length_drop
 have hq8 := trivial
 have hq9 := trivial
 by_cases hf : ((t.getD 0 0).toNat : Int) = (c.toNat : Int)
 case neg =>
  have hnp : Lib.hasPrefix t [c] = false := by
   rw [<- Bool.not_eq_true]
   intro h
   exact hf (by rw [(pre_one h).2])
  rw [ndM_no (by rw [hnp];rfl)]
  have hq : decide (((t.getD 0 0).toNat : Int) ≠ (c.toNat : Int)) = true := decide_eq_true hf
  refine Qa Tryz.func202 rfl Tryz.ntmps202 rfl (t := [(0, .agg [Q2 t, .i a, .i k]), (1, .sc (.int .u8 c.toNat))]) rfl fun E hE => ?_
  (refine wkQ0 ?_;intros)
  exact e_1 (Tryz.results202) (Qb rfl) (Qd rfl)
 have hq : decide (((t.getD 0 0).toNat : Int) ≠ (c.toNat : Int)) = false := decide_eq_false (fun h => h hf)
 have hpx : Lib.hasPrefix t [c] = true := pre_two (by omega) (UInt8.toNat_inj.1 (by omega))
 have hnd : ndM t c = if qx (t.drop 1) = true then valM (t.drop 1) else -1 := by unfold ndM;rw [hpx, Bool.true_and]
 rw [hnd]
 clear hnd
 by_cases h48 : 1 < (t.drop 1).length /\ (((t.drop 1).getD 0 0).toNat : Int) = 48
 ·have hnb : qx (t.drop 1) = false := by
   unfold qx
   have e : (t.drop 1).getD 0 0 = 48 := UInt8.toNat_inj.1 (by rw [show (48 : UInt8).toNat = 48 from rfl];omega)
   rw [e, decide_eq_false (show ¬ (t.drop 1).length = 1 by omega)];simp
  rw [hnb, if_neg (by decide)]
  obtain ⟨g1, g2⟩ := h48
  have hq8 : decide ((((t.drop 1).getD 0 0).toNat : Int) = 48) = true := decide_eq_true g2
  have hq9 : decide ((1 : Int) < ((t.drop 1).length : Nat)) = true := decide_eq_true (by omega)
  refine Qa Tryz.func202 rfl Tryz.ntmps202 rfl (t := [(0, .agg [Q2 t, .i a, .i k]), (1, .sc (.int .u8 c.toNat))]) rfl fun E hE => ?_
  (refine wkQ0 ?_;intros)
  exact e_1 (Tryz.results202) (Qb rfl) (Qd rfl)
 have hdis : ¬ 1 < (t.drop 1).length \/ (1 < (t.drop 1).length /\ ¬ (((t.drop 1).getD 0 0).toNat : Int) = 48) := by
  by_cases h : 1 < (t.drop 1).length
  ·exact .inr ⟨h, fun e => h48 ⟨h, e⟩⟩
  ·exact .inl h
 have hnbr : qx (t.drop 1) = (t.drop 1).all digB := by
  unfold qx
  rw [decide_eq_true (show 1 <= (t.drop 1).length by omega), decide_eq_true (show (t.drop 1).length <= 3 by omega)]
  have : (decide ((t.drop 1).getD 0 0 ≠ 48) || decide ((t.drop 1).length = 1)) = true := by
   rcases hdis with h|⟨h, h2⟩
   ·rw [decide_eq_true (show (t.drop 1).length = 1 by omega), Bool.or_true]
   ·rw [decide_eq_true (show (t.drop 1).getD 0 0 ≠ 48 from fun e => h2 (by rw [e];rfl)), Bool.true_or]
  rw [this];simp
 clear h48
 have hgetD : ∀ i (h : i < (t.drop 1).length), (t.drop 1).getD i 0 = (t.drop 1)[i] := fun i h => by rw [List.getD_eq_getElem?_getD, List.getElem?_eq_getElem h];rfl
 refine Qa Tryz.func202 rfl Tryz.ntmps202 rfl (t := [(0, .agg [Q2 t, .i a, .i k]), (1, .sc (.int .u8 c.toNat))]) rfl fun E hE => ?_
 rcases hdis with hdis|⟨hdis, hd8⟩
 ·have hq9 : decide ((1 : Int) < ((t.drop 1).length : Nat)) = false := decide_eq_false (by omega)
  (refine wkQ0 ?_;intros)
  refine WY (fun i : Nat => ⟨[(5, Q2 (t.drop 1)), (6, .i i)], []⟩) (fun i => i <= (t.drop 1).length /\ ∀ j (h : j < (t.drop 1).length), j < i -> digB (t.drop 1)[j] = true) (fun i => (t.drop 1).length - i) 0 ?_ ⟨by omega, fun j h hj => by omega⟩ ?_
  ·exact zal rfl
  intro i ⟨hi, hall⟩
  by_cases hil : i < (t.drop 1).length
  ·have hdg := r_digit_c (G := G) ((t.drop 1).getD i 0)
   cases hb : digB ((t.drop 1).getD i 0) with
   | true =>
    rw [hb] at hdg
    (refine wkQ0 ?_;intros)
    refine ⟨i + 1, ⟨by omega, fun j h hj => ?_⟩, by omega, ?_⟩
    ·rcases Nat.lt_or_ge j i with h'|h'
     ·exact hall j h h'
     ·have hji : j = i := by omega
      subst hji
      rw [hgetD j h] at hb;exact hb
    ·exact zal rfl
   | false =>
    rw [hb] at hdg
    have hno : qx (t.drop 1) = false := by
     rw [hnbr, <- Bool.not_eq_true, List.all_eq_true]
     intro h
     have := h _ (List.getElem_mem hil)
     rw [<- hgetD i hil, hb] at this;cases this
    rw [hno, if_neg (by decide)]
    (refine wkQ0 ?_;intros)
    exact e_1 (Tryz.results202) (Qb rfl) (Qd rfl)
  ·have hall2 : (t.drop 1).all digB = true := by
    rw [List.all_eq_true]
    intro x hx
    obtain ⟨j, hj, rfl⟩ := List.getElem_of_mem hx
    exact hall j hj (by omega)
   rw [hall2] at hnbr
   rw [hnbr, if_pos rfl, <- dvM_val hnbr]
   have hnl := rNumeral_c (G := G) (t.drop 1) hall2 (by omega)
   (refine wkQ0 ?_;intros)
   exact e_1 (Tryz.results202) (Qb rfl) (Qd rfl)
 ·have hq8 : decide ((((t.drop 1).getD 0 0).toNat : Int) = 48) = false := decide_eq_false hd8
  have hq9 : decide ((1 : Int) < ((t.drop 1).length : Nat)) = true := decide_eq_true (by omega)
  (refine wkQ0 ?_;intros)
  refine WY (fun i : Nat => ⟨[(5, Q2 (t.drop 1)), (6, .i i)], []⟩) (fun i => i <= (t.drop 1).length /\ ∀ j (h : j < (t.drop 1).length), j < i -> digB (t.drop 1)[j] = true) (fun i => (t.drop 1).length - i) 0 ?_ ⟨by omega, fun j h hj => by omega⟩ ?_
  ·exact zal rfl
  intro i ⟨hi, hall⟩
  by_cases hil : i < (t.drop 1).length
  ·have hdg := r_digit_c (G := G) ((t.drop 1).getD i 0)
   cases hb : digB ((t.drop 1).getD i 0) with
   | true =>
    rw [hb] at hdg
    (refine wkQ0 ?_;intros)
    refine ⟨i + 1, ⟨by omega, fun j h hj => ?_⟩, by omega, ?_⟩
    ·rcases Nat.lt_or_ge j i with h'|h'
     ·exact hall j h h'
     ·have hji : j = i := by omega
      subst hji
      rw [hgetD j h] at hb;exact hb
    ·exact zal rfl
   | false =>
    rw [hb] at hdg
    have hno : qx (t.drop 1) = false := by
     rw [hnbr, <- Bool.not_eq_true, List.all_eq_true]
     intro h
     have := h _ (List.getElem_mem hil)
     rw [<- hgetD i hil, hb] at this;cases this
    rw [hno, if_neg (by decide)]
    (refine wkQ0 ?_;intros)
    exact e_1 (Tryz.results202) (Qb rfl) (Qd rfl)
  ·have hall2 : (t.drop 1).all digB = true := by
    rw [List.all_eq_true]
    intro x hx
    obtain ⟨j, hj, rfl⟩ := List.getElem_of_mem hx
    exact hall j hj (by omega)
   rw [hall2] at hnbr
   rw [hnbr, if_pos rfl, <- dvM_val hnbr]
   have hnl := rNumeral_c (G := G) (t.drop 1) hall2 (by omega)
   (refine wkQ0 ?_;intros)
   exact e_1 (Tryz.results202) (Qb rfl) (Qd rfl)
end Go.Proofs
end
