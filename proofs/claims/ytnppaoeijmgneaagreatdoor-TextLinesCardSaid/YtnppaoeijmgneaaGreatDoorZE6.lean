/-
  Part 6 of the proof: GC GD SA SB SS R4 R5 PX R7 R8 R6 RE.
-/
import Derived.Test.YtnppaoeijmgneaaGreatDoorZE1
import Derived.Test.YtnppaoeijmgneaaGreatDoorZE3
import Derived.Test.YtnppaoeijmgneaaGreatDoorZE5
set_option linter.unusedSimpArgs false
set_option linter.unusedVariables false
set_option maxRecDepth 10000
set_option maxHeartbeats 4000000
section
namespace Go.Proofs
open Go.Av
variable {G : Nat -> DV}
attribute [local irreducible] OpSem Zd Zx ZL ACalls qt AClose RV
open Go.Bl
def preS (a L : Int) : Prop := 0 <= a /\ a + 4 * L <= 1000000000 /\ 1 <= L /\ L <= 500
def preB (a L : Int) : Prop := 0 <= a /\ a + 4 * L <= 1000000000 /\ -50 <= L /\ L <= 500
structure QP (dep : Nat) (c : Int) (ks : List Nd) (a L a' L' : Int) : Prop where
 fit : ∀ x ∈ ks, WA x 5 = true
 dep : ∀ x ∈ ks, Ww x <= dep
 size : L' + (QT ks : Int) <= L
 low : L <= L' \/ -c <= L'
 mono : a <= a'
 used : a' + 4 * L' <= a + 4 * L
theorem run_p {S : GenF} {dep : Nat} {c : Int} (hc : 4 <= c /\ c <= 40) (hS : ∀ a L, preS a L -> QE 5 dep 5 c (S a L).1 a L (S a L).2.1 (S a L).2.2) : ∀ (n : Nat) (a L : Int), 0 <= a -> a + 4 * L <= 1000000000 -> L <= 500 -> QP dep c (runP S n a L).1 a L (runP S n a L).2.1 (runP S n a L).2.2
 | 0, a, L, _, _, _ => by
  rw [runP]
  exact ⟨fun x hx => (by cases hx), fun x hx => (by cases hx), by simp [QT], .inl (by simp), by simp, by simp⟩
 | n + 1, a, L, p1, p2, p3 => by
  rw [runP]
  by_cases hL : 0 < L
  ·rw [if_pos hL]
   have h1 := hS a L ⟨p1, p2, by omega, p3⟩
   have hs := Wh (S a L).1
   have q1 := h1.low
   have q2 := h1.mono
   have q3 := h1.used
   have q4 := h1.size
   have ih := run_p hc hS n (S a L).2.1 (S a L).2.2 (by omega) (by omega) (by omega)
   have r1 := ih.low
   have r2 := ih.mono
   have r3 := ih.used
   have r4 := ih.size
   generalize runP S n (S a L).2.1 (S a L).2.2 = R at *
   generalize S a L = e at *
   refine ⟨fun x hx => ?_, fun x hx => ?_, ?_, ?_, ?_, ?_⟩
   ·rcases List.mem_cons.1 hx with rfl|hx
    ·exact h1.fit
    ·exact ih.fit x hx
   ·rcases List.mem_cons.1 hx with rfl|hx
    ·exact h1.dep
    ·exact ih.dep x hx
   ·rw [QT];dsimp only;omega
   ·dsimp only;omega
   ·dsimp only;omega
   ·dsimp only;omega
  ·rw [if_neg hL]
   exact ⟨fun x hx => (by cases hx), fun x hx => (by cases hx), by simp [QT], .inl (by simp), by simp, by simp⟩
theorem partD_nd0 (v : Nd) : partD (Enc.enc v) 0 4 = some (Enc.enc v) := by cases v;rw [QW];rfl
theorem chBlock (l : List Int) (hl : OkI l) (e : Nat) (he : e <= 8) (S : GenF) (hS : ∀ a L, preS a L -> QE 5 (2 * e + 4) 5 (7 + e) (S a L).1 a L (S a L).2.1 (S a L).2.2 /\ CE Tryz.prog G 79 (fun p g => [.ptr p g 0, .i ((e : Int) - 1)]) (genC l a L) (.agg (Enc.enc (S a L).1)) (genC l (S a L).2.1 (S a L).2.2)) :
  ∃ Bk : GenF, ∀ a L, preB a L -> QE 6 (2 * e + 5) 1 (7 + e) (Bk a L).1 a L (Bk a L).2.1 (Bk a L).2.2 /\ CE Tryz.prog G 37 (fun p g => [.ptr p g 0, .i (e : Nat)]) (genC l a L) (.agg (Enc.enc (Bk a L).1)) (genC l (Bk a L).2.1 (Bk a L).2.2) := by
 refine gen_skolem (pre := preB) (R := fun a L t => QE 6 (2 * e + 5) 1 (7 + e) t.1 a L t.2.1 t.2.2 /\ CE Tryz.prog G 37 (fun p g => [.ptr p g 0, .i (e : Nat)]) (genC l a L) (.agg (Enc.enc t.1)) (genC l t.2.1 t.2.2)) fun a L h => ?_
 obtain ⟨p1, p2, p3, p4⟩ := h
 have b4 := Q9 l a (most := 4) (by decide)
 obtain ⟨N, hN⟩ : ∃ N : Nat, atI l a 4 = (N : Int) := ⟨(atI l a 4).toNat, by omega⟩
 have hq := run_p (S := S) (dep := 2 * e + 4) (c := 7 + e) (by omega) (fun a L h => (hS a L h).1) N (a + 1) (L - 1) (by omega) (by omega) (by omega)
 have hln := runP_len S N (a + 1) (L - 1)
 refine ⟨(.mk 13 0 0 (runP S N (a + 1) (L - 1)).1, (runP S N (a + 1) (L - 1)).2), ?_, fun g B hg => ?_⟩
 ·have q1 := hq.low
  have q2 := hq.mono
  have q3 := hq.used
  have q4 := hq.size
  have q5 := depthL_le hq.dep
  refine ⟨Zk ⟨6, 0, 0, 0, [], 8, 0, 5⟩ rfl (by decide) (by decide) (by decide) (by decide) (by dsimp only;simp;omega) (kidsA rfl hq.fit), ?_, ?_, ?_, ?_, ?_⟩
  ·rw [Ww];omega
  ·rw [Qu];dsimp only;omega
  ·dsimp only;omega
  ·dsimp only;omega
  ·dsimp only;omega
 clear hq
 have hnum := WG (G := G) l hl a (L - 1) 4 (by omega) (by omega)
 rw [hN] at hnum b4
 generalize hT : runP S N (a + 1) (L - 1) = T at *
 refine Qa Tryz.func37 rfl Tryz.ntmps37 rfl (t := [(0, .ptr 0 g 0), (1, .i (e : Nat))]) rfl fun E0 hE0 => ?_
 (repeat' first|(refine Qe ?_;(first|refine QG rfl ?_|refine QJ rfl ?_|refine Qb rfl rfl rfl ?_|refine Zz rfl rfl (by omega) ?_|refine Wi 0 (hnum) rfl rfl rfl rfl ?_|(refine Wl ?_;(first|refine WR rfl rfl rfl rfl ?_|refine Q7 rfl rfl rfl rfl (by rfl) (by rfl) (by rfl) ?_))|refine Qd rfl rfl ?_|refine QQ rfl rfl ?_|refine QA rfl rfl ?_|refine QC (fun _ _ => ?_)))|(refine Qk ?_;(first|refine Qi ?_|refine QN rfl ?_|refine Q5 ?_))|(refine Qj ?_;(first|refine Qn ?_|refine Qc ?_|refine Qf ?_)))
 rename_i g4 hg4 g5 hg5
 refine r_ownin 2 3 4 rfl rfl (fun _ => rfl) (fun gk hgk => ?_)
 refine r_loop5 (fun (i : Nat) (o : List Nd) (b M : Int) (gg : Nat) => ⟨[(0, .ptr 0 g 0), (1, .i (e : Nat)), (4, .ptr 1 g4 0), (5, .ptr 2 g5 0), (6, .i N), (7, .i i)], [.row g (genC l b M), .row g4 [.i 0, .i 0, .i 0, .nil], .row g5 [.i 13, .i 0, .i 0, .ref 3 gg 0 o.length 4], .row gg (Ws o)]⟩) (fun i o b M gg => i <= N /\ o.length <= i /\ E0.N < gg /\ o ++ (runP S (N - i) b M).1 = T.1 /\ (runP S (N - i) b M).2 = T.2 /\ 0 <= b /\ b + 4 * M <= 1000000000 /\ M <= 500 /\ -100 <= M) (fun i _ _ _ _ => N - i) 0 [] (a + 1) (L - 1) gk ?_ ⟨by omega, by simp, hgk, by rw [Nat.sub_zero, hT];rfl, by rw [Nat.sub_zero, hT], by omega, by omega, by omega, by omega⟩ ?_
 ·exact zal rfl
 intro i o b M gg ⟨hi, hol, hgg, h1, h2, m1, m2, m3, m4⟩
 by_cases hiN : i < N
 ·rw [show N - i = (N - (i + 1)) + 1 by omega, runP] at h1 h2
  by_cases hM : 0 < M
  ·rw [if_pos hM] at h1 h2
   obtain ⟨hq, hE1⟩ := hS b M ⟨m1, m2, by omega, m3⟩
   have q1 := hq.low
   have q2 := hq.mono
   have q3 := hq.used
   have q4 := hq.size
   have hd1 : ((e : Nat) : Int) - 1 = (e : Int) - 1 := rfl
   generalize S b M = t at *
   obtain ⟨v1, b1, M1⟩ := t
   dsimp only at *
   have hs := Wh v1
   clear hS
   (repeat' first|(refine Qe ?_;(first|refine QG rfl ?_|refine QJ rfl ?_|refine Qb rfl rfl rfl ?_|(refine Qo ?_;(first|refine Q1 rfl rfl ?_|refine Z6 rfl rfl ?_|refine W3 rfl rfl (by omega) ?_))|(refine Qq ?_;(first|refine ZD (z := v1) rfl rfl rfl rfl rfl rfl rfl (by first|omega|(simp;omega)) (by first|omega|(simp;omega)) (fun _ => rfl) (fun _ _ => ?_)|refine Wi 0 (hE1) rfl rfl rfl rfl ?_))|refine WO rfl rfl ?_|refine Q7 rfl rfl rfl rfl (by rfl) (by rfl) (by rfl) ?_|refine Qd rfl rfl ?_|refine QA rfl rfl ?_))|(refine Qk ?_;(first|refine Qi ?_|refine QN rfl ?_|refine WD rfl rfl rfl rfl ?_|refine We rfl rfl (by omega) ?_))|(refine Qj ?_;(first|refine Qn ?_|refine Qc ?_|refine Qf ?_|(refine Wg ?_;first|(rename_i g4 hg4 ge hge;refine QB (fun p => p :: .row g4 [.i 0, .i 0, .i 0, .nil] :: .row ge (Enc.enc v1) :: []) 6 [(0, true), (1, true), (2, true), (3, false), (4, true), (5, true), (6, false)] (by rfl) (by rfl) (by kernel_rfl) (by decide +kernel) (by decide +kernel) ⟨_, rfl⟩ ?_)|(rename_i g4 hg4 ge hge;refine QB (fun p => p :: .row g4 [.i 0, .i 0, .i 0, .nil] :: .row ge (Enc.enc v1) :: []) 9 [(0, true), (1, true), (2, true), (4, true), (5, true), (3, false), (6, false), (7, true), (8, true), (9, false)] (by rfl) (by rfl) (by kernel_rfl) (by decide +kernel) (by decide +kernel) ⟨_, rfl⟩ ?_)|(rename_i g4 hg4 ge hge;refine QB (fun p => p :: .row g4 [.i 0, .i 0, .i 0, .nil] :: .row ge (Enc.enc v1) :: []) 7 [(0, true), (2, true), (4, true), (5, true), (1, false), (3, false), (6, true), (7, false)] (by rfl) (by rfl) (by kernel_rfl) (by decide +kernel) (by decide +kernel) ⟨_, rfl⟩ ?_)|(rename_i g4 hg4 ge hge;refine QB (fun p => p :: .row g4 [.i 0, .i 0, .i 0, .nil] :: .row ge (Enc.enc v1) :: []) 7 [(0, true), (2, true), (3, true), (1, false), (4, false), (5, true), (6, true), (7, false)] (by rfl) (by rfl) (by kernel_rfl) (by decide +kernel) (by decide +kernel) ⟨_, rfl⟩ ?_)|(rename_i g4 hg4 ge hge;refine QB (fun p => p :: .row g4 [.i 0, .i 0, .i 0, .nil] :: .row ge (Enc.enc v1) :: []) 5 [(0, true), (2, true), (3, true), (1, false), (4, true), (5, false)] (by rfl) (by rfl) (by kernel_rfl) (by decide +kernel) (by decide +kernel) ⟨_, rfl⟩ ?_)|(refine QB (fun p => p) 100 [(0, true)] (by rfl) (by rfl) (by kernel_rfl) (by decide +kernel) (by decide +kernel) ⟨_, rfl⟩ ?_)|(refine QB (fun p => p.1 :: .row g4 [.i 0, .i 0, .i 0, .nil] :: .row g5 [.i 13, .i 0, .i 0, .ref 3 gg 0 o.length 4] :: p.2) 9 [(0, true), (1, true), (2, true), (3, true), (4, true), (5, false), (6, true), (7, false), (8, true), (9, false)] (by rfl) (by rfl) (by kernel_rfl) (by decide +kernel) (by decide +kernel) ⟨(_, _), rfl⟩ ?_)|refine Q3 (by rfl) (by kernel_rfl) (by kernel_rfl) ?_|refine Q2 (by kernel_rfl) (by kernel_rfl) ?_)|refine Qx ?_|refine Qp rfl (by omega) ?_))|(refine Ze ?_;(first|refine Z1 ?_|refine i_z0 ?_|refine i_st rfl rfl (fun _ => (by (repeat' first|(refine Qe ?_;(first|refine QG rfl ?_|refine Qb rfl rfl rfl ?_|refine s_sub_as2 rfl rfl hd1 ⟨by omega, by omega⟩ ?_|refine Wc (z := v1) rfl rfl (by decide) ?_|refine Qd rfl rfl ?_))|exact ⟨rfl, rfl⟩))) ?_|refine i_ef rfl ?_))|refine And.intro (Exists.intro ((_, _)) rfl) ?_)
   refine ⟨i + 1, o ++ [v1], b1, M1, _, ⟨by omega, by simp;omega, by assumption, by rw [List.append_assoc];exact h1, h2, by omega, by omega, by omega, by omega⟩, by omega, ?_⟩
   exact zal rfl
  ·rw [if_neg hM] at h1 h2
   dsimp only at h1 h2
   rw [List.append_nil] at h1
   rw [<- h1, <- h2]
   clear hS
   (repeat' first|(refine Qe ?_;(first|refine QG rfl ?_|(refine Qz ?_;(first|refine WF rfl rfl ?_|refine Qb rfl rfl rfl ?_))|(refine Qo ?_;(first|refine Q1 rfl rfl ?_|refine Z6 rfl rfl ?_))|refine WO rfl rfl ?_|refine WR rfl rfl rfl rfl ?_|refine Qd rfl rfl ?_|refine QA rfl rfl ?_))|(refine Qk ?_;(first|refine Qi ?_|refine QN rfl ?_|refine Q5 ?_|refine WD rfl rfl rfl rfl ?_|refine We rfl rfl (by omega) ?_))|(refine Qj ?_;(first|refine Qn ?_|refine Qc ?_|refine Qm rfl (by omega) ?_|refine WI rfl ?_|refine Qs ?_)))
   exact e_1 (Tryz.results37) (QH (size := 4) rfl rfl rfl rfl) (Zy (D := fun d => .agg [.i 13, .i 0, .i 0, d]) (k := 2) (.node rfl rfl rfl) rfl (by rw [QX];rfl) (by rw [QW];rfl) rfl)
 ·have hie : N - i = 0 := by omega
  rw [hie, runP] at h1 h2
  dsimp only at h1 h2
  rw [List.append_nil] at h1
  rw [<- h1, <- h2]
  clear hS
  (repeat' first|(refine Qe ?_;(first|refine QG rfl ?_|refine WF rfl rfl ?_|refine Q1 rfl rfl ?_|refine Wr rfl rfl ?_|refine WR rfl rfl rfl rfl ?_))|(refine Qk ?_;(first|refine Qi ?_|refine QN rfl ?_|refine Q5 ?_|refine W2 rfl rfl rfl rfl ?_|refine Q6 rfl rfl (by omega) ?_))|(refine Qj ?_;(first|refine Qn ?_|refine Qc ?_|refine Ql rfl ?_|refine WI rfl ?_|refine Qs ?_)))
  exact e_1 (Tryz.results37) (QH (size := 4) rfl rfl rfl rfl) (Zy (D := fun d => .agg [.i 13, .i 0, .i 0, d]) (k := 2) (.node rfl rfl rfl) rfl (by rw [QX];rfl) (by rw [QW];rfl) rfl)
theorem chLeafS (l : List Int) (hl : OkI l) (E2 E1 : GenF) (hE2x : ∀ a L, preE a L -> QE 4 3 1 4 (E2 a L).1 a L (E2 a L).2.1 (E2 a L).2.2 /\ CE Tryz.prog G 125 (fun p g => [.ptr p g 0, .i 2]) (genC l a L) (.agg (Enc.enc (E2 a L).1)) (genC l (E2 a L).2.1 (E2 a L).2.2))
  (hE1x : ∀ a L, preE a L -> QE 4 2 1 2 (E1 a L).1 a L (E1 a L).2.1 (E1 a L).2.2 /\ CE Tryz.prog G 125 (fun p g => [.ptr p g 0, .i 1]) (genC l a L) (.agg (Enc.enc (E1 a L).1)) (genC l (E1 a L).2.1 (E1 a L).2.2)) (dd a L x : Int) (h : preS a L)
  (hx : (dd <= 0 /\ atI l a 14 % 10 = x) \/ (0 < dd /\ L - 1 <= 0 /\ atI l a 14 % 10 = x) \/ (0 < dd /\ 0 < L - 1 /\ atI l a 14 = x)) (hx2 : 0 <= x /\ x <= 9) :
  ∃ t : Nd × Int × Int, QE 5 4 5 7 t.1 a L t.2.1 t.2.2 /\ CE Tryz.prog G 79 (fun p g => [.ptr p g 0, .i dd]) (genC l a L) (.agg (Enc.enc t.1)) (genC l t.2.1 t.2.2) := by
 obtain ⟨p1, p2, p3, p4⟩ := h
 have bx := Q9 l a (most := 14) (by decide)
 have hsm := chSome (G := G) l hl 1 (by decide) E1 hE1x
 have hrq := run_q (E := E1) (w := 4) (dep := 2) (c := 2) (by decide) fun a L h => (hE1x a L h).1
 have hxx : x = 0 \/ x = 1 \/ x = 2 \/ x = 3 \/ x = 4 \/ x = 5 \/ x = 6 \/ x = 7 \/ x = 8 \/ x = 9 := by omega
 rcases hx with hx|hx|hx
 all_goals
  rcases hxx with rfl|rfl|rfl|rfl|rfl|rfl|rfl|rfl|rfl|rfl
  ·obtain ⟨hqv1, hE1⟩ := hE2x (a + 1) (L - 1) ⟨by omega, by omega, by omega, by omega⟩
   obtain ⟨fv1, dv1, sv1, wv1, mv1, uv1⟩ := hqv1
   generalize E2 (a + 1) (L - 1) = tv1 at *
   obtain ⟨v1, b1, M1⟩ := tv1
   dsimp only at *
   have spv1 := Wh v1
   have n6 := Q9 l (b1) (most := 6) (by decide)
   clear hE2x hE1x hsm hrq
   refine ⟨(.mk 14 (atI l b1 6) (0) [v1], b1 + 1, M1), ?_, fun g B hg => ?_⟩
   ·refine ⟨Zk ⟨5, 0, 5, 0, [4], 0, 0, 0⟩ rfl (by decide) (by decide) (by dsimp only;omega) (by dsimp only;omega) (by first|(simp;done)|(simp;omega)) (kids1 fv1), ?_, ?_, ?_, ?_, ?_⟩
    ·rw [Ww];(try simp only [Wx]);omega
    ·rw [Qu];(try simp only [QT]);omega
    ·dsimp only;omega
    ·dsimp only;omega
    ·dsimp only;omega
   ·refine Qa Tryz.func79 rfl Tryz.ntmps79 rfl (t := [(0, .ptr 0 g 0), (1, .i dd)]) rfl fun E0 hE0 => ?_
    (repeat' first|(refine Qe ?_;(first|refine QG rfl ?_|refine QJ rfl ?_|refine Qb rfl rfl rfl ?_|(refine Qo ?_;(first|refine Zz rfl rfl (by omega) ?_|refine Zp rfl rfl ?_|refine QS rfl rfl ?_|refine s_rem rfl rfl (by first|omega|exact nn_shr (by omega)) (by omega) ?_))|(refine Qq ?_;(first|refine Wi 0 (WG l hl _ _ _ (by omega) (by omega)) rfl rfl rfl rfl ?_|refine Wi 0 (hE1) rfl rfl rfl rfl ?_))|(refine Q4 ?_;(first|refine WO rfl rfl ?_|refine Wr rfl rfl ?_))|(refine Wl ?_;(first|refine WR rfl rfl rfl rfl ?_|refine Q7 rfl rfl rfl rfl (by rfl) (by rfl) (by rfl) ?_))|refine Qd rfl rfl ?_|refine QA rfl rfl ?_|refine QC (fun _ _ => ?_)))|(refine Qk ?_;(first|refine Qi ?_|refine QN rfl ?_|refine Q5 ?_|refine WD rfl rfl rfl rfl ?_|refine W2 rfl rfl rfl rfl ?_|refine We rfl rfl (by omega) ?_|refine Q6 rfl rfl (by omega) ?_))|(refine Qj ?_;(first|refine Qn ?_|refine Qc ?_|refine Qf ?_|(refine Wg ?_;first|(rename_i g4 hg4 ge hge;refine QB (fun p => p :: .row g4 [.i 0, .i 0, .i 0, .nil] :: .row ge (Enc.enc v1) :: []) 6 [(0, true), (1, true), (2, true), (3, false), (4, true), (5, true), (6, false)] (by rfl) (by rfl) (by kernel_rfl) (by decide +kernel) (by decide +kernel) ⟨_, rfl⟩ ?_)|(rename_i g4 hg4 ge hge;refine QB (fun p => p :: .row g4 [.i 0, .i 0, .i 0, .nil] :: .row ge (Enc.enc v1) :: []) 9 [(0, true), (1, true), (2, true), (4, true), (5, true), (3, false), (6, false), (7, true), (8, true), (9, false)] (by rfl) (by rfl) (by kernel_rfl) (by decide +kernel) (by decide +kernel) ⟨_, rfl⟩ ?_)|(rename_i g4 hg4 ge hge;refine QB (fun p => p :: .row g4 [.i 0, .i 0, .i 0, .nil] :: .row ge (Enc.enc v1) :: []) 7 [(0, true), (2, true), (4, true), (5, true), (1, false), (3, false), (6, true), (7, false)] (by rfl) (by rfl) (by kernel_rfl) (by decide +kernel) (by decide +kernel) ⟨_, rfl⟩ ?_)|(rename_i g4 hg4 ge hge;refine QB (fun p => p :: .row g4 [.i 0, .i 0, .i 0, .nil] :: .row ge (Enc.enc v1) :: []) 7 [(0, true), (2, true), (3, true), (1, false), (4, false), (5, true), (6, true), (7, false)] (by rfl) (by rfl) (by kernel_rfl) (by decide +kernel) (by decide +kernel) ⟨_, rfl⟩ ?_)|(rename_i g4 hg4 ge hge;refine QB (fun p => p :: .row g4 [.i 0, .i 0, .i 0, .nil] :: .row ge (Enc.enc v1) :: []) 5 [(0, true), (2, true), (3, true), (1, false), (4, true), (5, false)] (by rfl) (by rfl) (by kernel_rfl) (by decide +kernel) (by decide +kernel) ⟨_, rfl⟩ ?_)|(refine QB (fun p => p) 100 [(0, true)] (by rfl) (by rfl) (by kernel_rfl) (by decide +kernel) (by decide +kernel) ⟨_, rfl⟩ ?_)|(refine QB (fun p => p.1 :: .row g4 [.i 0, .i 0, .i 0, .nil] :: .row g5 [.i 13, .i 0, .i 0, .ref 3 gg 0 o.length 4] :: p.2) 9 [(0, true), (1, true), (2, true), (3, true), (4, true), (5, false), (6, true), (7, false), (8, true), (9, false)] (by rfl) (by rfl) (by kernel_rfl) (by decide +kernel) (by decide +kernel) ⟨(_, _), rfl⟩ ?_)|refine Q3 (by rfl) (by kernel_rfl) (by kernel_rfl) ?_|refine Q2 (by kernel_rfl) (by kernel_rfl) ?_)|refine Qx ?_|refine Qh rfl ?_|refine Qp rfl (by omega) ?_|refine Qm rfl (by omega) ?_|refine Qs ?_))|(refine Ze ?_;(first|refine Z1 ?_|refine i_z0 ?_|refine i_st rfl rfl (fun _ => (by (repeat' first|(refine Qe ?_;(first|refine QG rfl ?_|refine WF rfl rfl ?_|refine Wc (z := v1) rfl rfl (by decide) ?_|refine QQ rfl rfl ?_))|exact ⟨rfl, rfl⟩))) ?_|refine i_ef rfl ?_))|refine And.intro (Exists.intro (_) rfl) ?_)
    refine e_1 (Tryz.results79) (QH (size := 4) rfl rfl rfl rfl) ?_
    rw [QW]
    exact c_ce (by first|rfl|(simp [QR, Ws];try rfl)) rfl
  ·obtain ⟨hqv1, hE1⟩ := hE2x (a + 1) (L - 1) ⟨by omega, by omega, by omega, by omega⟩
   obtain ⟨fv1, dv1, sv1, wv1, mv1, uv1⟩ := hqv1
   generalize E2 (a + 1) (L - 1) = tv1 at *
   obtain ⟨v1, b1, M1⟩ := tv1
   dsimp only at *
   have spv1 := Wh v1
   have n6 := Q9 l (b1) (most := 6) (by decide)
   clear hE2x hE1x hsm hrq
   refine ⟨(.mk 14 (atI l b1 6) (0) [v1], b1 + 1, M1), ?_, fun g B hg => ?_⟩
   ·refine ⟨Zk ⟨5, 0, 5, 0, [4], 0, 0, 0⟩ rfl (by decide) (by decide) (by dsimp only;omega) (by dsimp only;omega) (by first|(simp;done)|(simp;omega)) (kids1 fv1), ?_, ?_, ?_, ?_, ?_⟩
    ·rw [Ww];(try simp only [Wx]);omega
    ·rw [Qu];(try simp only [QT]);omega
    ·dsimp only;omega
    ·dsimp only;omega
    ·dsimp only;omega
   ·refine Qa Tryz.func79 rfl Tryz.ntmps79 rfl (t := [(0, .ptr 0 g 0), (1, .i dd)]) rfl fun E0 hE0 => ?_
    (repeat' first|(refine Qe ?_;(first|refine QG rfl ?_|refine QJ rfl ?_|refine Qb rfl rfl rfl ?_|(refine Qo ?_;(first|refine Zz rfl rfl (by omega) ?_|refine Zp rfl rfl ?_|refine QS rfl rfl ?_|refine s_rem rfl rfl (by first|omega|exact nn_shr (by omega)) (by omega) ?_))|(refine Qq ?_;(first|refine Wi 0 (WG l hl _ _ _ (by omega) (by omega)) rfl rfl rfl rfl ?_|refine Wi 0 (hE1) rfl rfl rfl rfl ?_))|(refine Q4 ?_;(first|refine WO rfl rfl ?_|refine Wr rfl rfl ?_))|(refine Wl ?_;(first|refine WR rfl rfl rfl rfl ?_|refine Q7 rfl rfl rfl rfl (by rfl) (by rfl) (by rfl) ?_))|refine Qd rfl rfl ?_|refine QA rfl rfl ?_|refine QC (fun _ _ => ?_)))|(refine Qk ?_;(first|refine Qi ?_|refine QN rfl ?_|refine Q5 ?_|refine WD rfl rfl rfl rfl ?_|refine W2 rfl rfl rfl rfl ?_|refine We rfl rfl (by omega) ?_|refine Q6 rfl rfl (by omega) ?_))|(refine Qj ?_;(first|refine Qn ?_|refine Qc ?_|refine Qf ?_|(refine Wg ?_;first|(rename_i g4 hg4 ge hge;refine QB (fun p => p :: .row g4 [.i 0, .i 0, .i 0, .nil] :: .row ge (Enc.enc v1) :: []) 6 [(0, true), (1, true), (2, true), (3, false), (4, true), (5, true), (6, false)] (by rfl) (by rfl) (by kernel_rfl) (by decide +kernel) (by decide +kernel) ⟨_, rfl⟩ ?_)|(rename_i g4 hg4 ge hge;refine QB (fun p => p :: .row g4 [.i 0, .i 0, .i 0, .nil] :: .row ge (Enc.enc v1) :: []) 9 [(0, true), (1, true), (2, true), (4, true), (5, true), (3, false), (6, false), (7, true), (8, true), (9, false)] (by rfl) (by rfl) (by kernel_rfl) (by decide +kernel) (by decide +kernel) ⟨_, rfl⟩ ?_)|(rename_i g4 hg4 ge hge;refine QB (fun p => p :: .row g4 [.i 0, .i 0, .i 0, .nil] :: .row ge (Enc.enc v1) :: []) 7 [(0, true), (2, true), (4, true), (5, true), (1, false), (3, false), (6, true), (7, false)] (by rfl) (by rfl) (by kernel_rfl) (by decide +kernel) (by decide +kernel) ⟨_, rfl⟩ ?_)|(rename_i g4 hg4 ge hge;refine QB (fun p => p :: .row g4 [.i 0, .i 0, .i 0, .nil] :: .row ge (Enc.enc v1) :: []) 7 [(0, true), (2, true), (3, true), (1, false), (4, false), (5, true), (6, true), (7, false)] (by rfl) (by rfl) (by kernel_rfl) (by decide +kernel) (by decide +kernel) ⟨_, rfl⟩ ?_)|(rename_i g4 hg4 ge hge;refine QB (fun p => p :: .row g4 [.i 0, .i 0, .i 0, .nil] :: .row ge (Enc.enc v1) :: []) 5 [(0, true), (2, true), (3, true), (1, false), (4, true), (5, false)] (by rfl) (by rfl) (by kernel_rfl) (by decide +kernel) (by decide +kernel) ⟨_, rfl⟩ ?_)|(refine QB (fun p => p) 100 [(0, true)] (by rfl) (by rfl) (by kernel_rfl) (by decide +kernel) (by decide +kernel) ⟨_, rfl⟩ ?_)|(refine QB (fun p => p.1 :: .row g4 [.i 0, .i 0, .i 0, .nil] :: .row g5 [.i 13, .i 0, .i 0, .ref 3 gg 0 o.length 4] :: p.2) 9 [(0, true), (1, true), (2, true), (3, true), (4, true), (5, false), (6, true), (7, false), (8, true), (9, false)] (by rfl) (by rfl) (by kernel_rfl) (by decide +kernel) (by decide +kernel) ⟨(_, _), rfl⟩ ?_)|refine Q3 (by rfl) (by kernel_rfl) (by kernel_rfl) ?_|refine Q2 (by kernel_rfl) (by kernel_rfl) ?_)|refine Qx ?_|refine Qh rfl ?_|refine Qp rfl (by omega) ?_|refine Qm rfl (by omega) ?_|refine Qs ?_))|(refine Ze ?_;(first|refine Z1 ?_|refine i_z0 ?_|refine i_st rfl rfl (fun _ => (by (repeat' first|(refine Qe ?_;(first|refine QG rfl ?_|refine WF rfl rfl ?_|refine Wc (z := v1) rfl rfl (by decide) ?_|refine QQ rfl rfl ?_))|exact ⟨rfl, rfl⟩))) ?_|refine i_ef rfl ?_))|refine And.intro (Exists.intro (_) rfl) ?_)
    refine e_1 (Tryz.results79) (QH (size := 4) rfl rfl rfl rfl) ?_
    rw [QW]
    exact c_ce (by first|rfl|(simp [QR, Ws];try rfl)) rfl
  ·obtain ⟨hqv1, hE1⟩ := hE2x (a + 1) (L - 1) ⟨by omega, by omega, by omega, by omega⟩
   obtain ⟨fv1, dv1, sv1, wv1, mv1, uv1⟩ := hqv1
   generalize E2 (a + 1) (L - 1) = tv1 at *
   obtain ⟨v1, b1, M1⟩ := tv1
   dsimp only at *
   have spv1 := Wh v1
   obtain ⟨hqv2, hE2⟩ := hE2x (b1 + 1) (M1) ⟨by omega, by omega, by omega, by omega⟩
   obtain ⟨fv2, dv2, sv2, wv2, mv2, uv2⟩ := hqv2
   generalize E2 (b1 + 1) (M1) = tv2 at *
   obtain ⟨v2, b2, M2⟩ := tv2
   dsimp only at *
   have spv2 := Wh v2
   have n6 := Q9 l (b1) (most := 6) (by decide)
   clear hE2x hE1x hsm hrq
   refine ⟨(.mk 15 (atI l b1 6) (0) [v1, v2], b2, M2), ?_, fun g B hg => ?_⟩
   ·refine ⟨Zk ⟨5, 0, 5, 0, [4, 4], 0, 0, 0⟩ rfl (by decide) (by decide) (by dsimp only;omega) (by dsimp only;omega) (by first|(simp;done)|(simp;omega)) (kids2 fv1 fv2), ?_, ?_, ?_, ?_, ?_⟩
    ·rw [Ww];(try simp only [Wx]);omega
    ·rw [Qu];(try simp only [QT]);omega
    ·dsimp only;omega
    ·dsimp only;omega
    ·dsimp only;omega
   ·refine Qa Tryz.func79 rfl Tryz.ntmps79 rfl (t := [(0, .ptr 0 g 0), (1, .i dd)]) rfl fun E0 hE0 => ?_
    (repeat' first|(refine Qe ?_;(first|refine QG rfl ?_|refine QJ rfl ?_|refine Qb rfl rfl rfl ?_|(refine Qo ?_;(first|refine Zz rfl rfl (by omega) ?_|refine Zp rfl rfl ?_|refine QS rfl rfl ?_|refine s_rem rfl rfl (by first|omega|exact nn_shr (by omega)) (by omega) ?_))|(refine Qq ?_;(first|refine Wi 0 (WG l hl _ _ _ (by omega) (by omega)) rfl rfl rfl rfl ?_|refine Wi 0 (hE1) rfl rfl rfl rfl ?_|refine Wi 0 (hE2) rfl rfl rfl rfl ?_))|(refine Q4 ?_;(first|refine WO rfl rfl ?_|refine Wr rfl rfl ?_))|(refine Wl ?_;(first|refine WR rfl rfl rfl rfl ?_|refine Q7 rfl rfl rfl rfl (by rfl) (by rfl) (by rfl) ?_))|refine Qd rfl rfl ?_|refine QA rfl rfl ?_|refine QC (fun _ _ => ?_)))|(refine Qk ?_;(first|refine Qi ?_|refine QN rfl ?_|refine Q5 ?_|refine WD rfl rfl rfl rfl ?_|refine W2 rfl rfl rfl rfl ?_|refine We rfl rfl (by omega) ?_|refine Q6 rfl rfl (by omega) ?_))|(refine Qj ?_;(first|refine Qn ?_|refine Qc ?_|refine Qf ?_|(refine Wg ?_;first|(rename_i g4 hg4 ge hge;refine QB (fun p => p :: .row g4 [.i 0, .i 0, .i 0, .nil] :: .row ge (Enc.enc v1) :: []) 6 [(0, true), (1, true), (2, true), (3, false), (4, true), (5, true), (6, false)] (by rfl) (by rfl) (by kernel_rfl) (by decide +kernel) (by decide +kernel) ⟨_, rfl⟩ ?_)|(rename_i g4 hg4 ge hge;refine QB (fun p => p :: .row g4 [.i 0, .i 0, .i 0, .nil] :: .row ge (Enc.enc v1) :: []) 9 [(0, true), (1, true), (2, true), (4, true), (5, true), (3, false), (6, false), (7, true), (8, true), (9, false)] (by rfl) (by rfl) (by kernel_rfl) (by decide +kernel) (by decide +kernel) ⟨_, rfl⟩ ?_)|(rename_i g4 hg4 ge hge;refine QB (fun p => p :: .row g4 [.i 0, .i 0, .i 0, .nil] :: .row ge (Enc.enc v1) :: []) 7 [(0, true), (2, true), (4, true), (5, true), (1, false), (3, false), (6, true), (7, false)] (by rfl) (by rfl) (by kernel_rfl) (by decide +kernel) (by decide +kernel) ⟨_, rfl⟩ ?_)|(rename_i g4 hg4 ge hge;refine QB (fun p => p :: .row g4 [.i 0, .i 0, .i 0, .nil] :: .row ge (Enc.enc v1) :: []) 7 [(0, true), (2, true), (3, true), (1, false), (4, false), (5, true), (6, true), (7, false)] (by rfl) (by rfl) (by kernel_rfl) (by decide +kernel) (by decide +kernel) ⟨_, rfl⟩ ?_)|(rename_i g4 hg4 ge hge;refine QB (fun p => p :: .row g4 [.i 0, .i 0, .i 0, .nil] :: .row ge (Enc.enc v1) :: []) 5 [(0, true), (2, true), (3, true), (1, false), (4, true), (5, false)] (by rfl) (by rfl) (by kernel_rfl) (by decide +kernel) (by decide +kernel) ⟨_, rfl⟩ ?_)|(refine QB (fun p => p) 100 [(0, true)] (by rfl) (by rfl) (by kernel_rfl) (by decide +kernel) (by decide +kernel) ⟨_, rfl⟩ ?_)|(refine QB (fun p => p.1 :: .row g4 [.i 0, .i 0, .i 0, .nil] :: .row g5 [.i 13, .i 0, .i 0, .ref 3 gg 0 o.length 4] :: p.2) 9 [(0, true), (1, true), (2, true), (3, true), (4, true), (5, false), (6, true), (7, false), (8, true), (9, false)] (by rfl) (by rfl) (by kernel_rfl) (by decide +kernel) (by decide +kernel) ⟨(_, _), rfl⟩ ?_)|refine Q3 (by rfl) (by kernel_rfl) (by kernel_rfl) ?_|refine Q2 (by kernel_rfl) (by kernel_rfl) ?_)|refine Qx ?_|refine Qh rfl ?_|refine Qp rfl (by omega) ?_|refine Qm rfl (by omega) ?_|refine Qs ?_))|(refine Ze ?_;(first|refine Z1 ?_|refine i_z0 ?_|refine i_st rfl rfl (fun _ => (by (repeat' first|(refine Qe ?_;(first|refine QG rfl ?_|refine WF rfl rfl ?_|refine ZS (y := v1) (z := v2) rfl rfl (by decide) ?_|refine QQ rfl rfl ?_))|exact ⟨rfl, rfl⟩))) ?_|refine i_ef rfl ?_))|refine And.intro (Exists.intro (_) rfl) ?_)
    refine e_1 (Tryz.results79) (QH (size := 4) rfl rfl rfl rfl) ?_
    rw [QW]
    exact c_ce (by first|rfl|(simp [QR, Ws];try rfl)) rfl
  ·obtain ⟨hqv1, hE1⟩ := hE2x (a + 1) (L - 1) ⟨by omega, by omega, by omega, by omega⟩
   obtain ⟨fv1, dv1, sv1, wv1, mv1, uv1⟩ := hqv1
   generalize E2 (a + 1) (L - 1) = tv1 at *
   obtain ⟨v1, b1, M1⟩ := tv1
   dsimp only at *
   have spv1 := Wh v1
   have n6 := Q9 l (b1) (most := 6) (by decide)
   have n3 := Q9 l (b1 + 1) (most := 3) (by decide)
   clear hE2x hE1x hsm hrq
   refine ⟨(.mk 16 (atI l b1 6) (atI l (b1 + 1) 3) [v1], b1 + 1 + 1, M1), ?_, fun g B hg => ?_⟩
   ·refine ⟨Zk ⟨5, 0, 5, 2, [4], 0, 0, 0⟩ rfl (by decide) (by decide) (by dsimp only;omega) (by dsimp only;omega) (by first|(simp;done)|(simp;omega)) (kids1 fv1), ?_, ?_, ?_, ?_, ?_⟩
    ·rw [Ww];(try simp only [Wx]);omega
    ·rw [Qu];(try simp only [QT]);omega
    ·dsimp only;omega
    ·dsimp only;omega
    ·dsimp only;omega
   ·refine Qa Tryz.func79 rfl Tryz.ntmps79 rfl (t := [(0, .ptr 0 g 0), (1, .i dd)]) rfl fun E0 hE0 => ?_
    (repeat' first|(refine Qe ?_;(first|refine QG rfl ?_|refine QJ rfl ?_|refine Qb rfl rfl rfl ?_|(refine Qo ?_;(first|refine Zz rfl rfl (by omega) ?_|refine Zp rfl rfl ?_|refine QS rfl rfl ?_|refine s_rem rfl rfl (by first|omega|exact nn_shr (by omega)) (by omega) ?_))|(refine Qq ?_;(first|refine Wi 0 (WG l hl _ _ _ (by omega) (by omega)) rfl rfl rfl rfl ?_|refine Wi 0 (hE1) rfl rfl rfl rfl ?_))|(refine Q4 ?_;(first|refine WO rfl rfl ?_|refine Wr rfl rfl ?_))|(refine Wl ?_;(first|refine WR rfl rfl rfl rfl ?_|refine Q7 rfl rfl rfl rfl (by rfl) (by rfl) (by rfl) ?_))|refine Qd rfl rfl ?_|refine QA rfl rfl ?_|refine QC (fun _ _ => ?_)))|(refine Qk ?_;(first|refine Qi ?_|refine QN rfl ?_|refine Q5 ?_|refine WD rfl rfl rfl rfl ?_|refine W2 rfl rfl rfl rfl ?_|refine We rfl rfl (by omega) ?_|refine Q6 rfl rfl (by omega) ?_))|(refine Qj ?_;(first|refine Qn ?_|refine Qc ?_|refine Qf ?_|(refine Wg ?_;first|(rename_i g4 hg4 ge hge;refine QB (fun p => p :: .row g4 [.i 0, .i 0, .i 0, .nil] :: .row ge (Enc.enc v1) :: []) 6 [(0, true), (1, true), (2, true), (3, false), (4, true), (5, true), (6, false)] (by rfl) (by rfl) (by kernel_rfl) (by decide +kernel) (by decide +kernel) ⟨_, rfl⟩ ?_)|(rename_i g4 hg4 ge hge;refine QB (fun p => p :: .row g4 [.i 0, .i 0, .i 0, .nil] :: .row ge (Enc.enc v1) :: []) 9 [(0, true), (1, true), (2, true), (4, true), (5, true), (3, false), (6, false), (7, true), (8, true), (9, false)] (by rfl) (by rfl) (by kernel_rfl) (by decide +kernel) (by decide +kernel) ⟨_, rfl⟩ ?_)|(rename_i g4 hg4 ge hge;refine QB (fun p => p :: .row g4 [.i 0, .i 0, .i 0, .nil] :: .row ge (Enc.enc v1) :: []) 7 [(0, true), (2, true), (4, true), (5, true), (1, false), (3, false), (6, true), (7, false)] (by rfl) (by rfl) (by kernel_rfl) (by decide +kernel) (by decide +kernel) ⟨_, rfl⟩ ?_)|(rename_i g4 hg4 ge hge;refine QB (fun p => p :: .row g4 [.i 0, .i 0, .i 0, .nil] :: .row ge (Enc.enc v1) :: []) 7 [(0, true), (2, true), (3, true), (1, false), (4, false), (5, true), (6, true), (7, false)] (by rfl) (by rfl) (by kernel_rfl) (by decide +kernel) (by decide +kernel) ⟨_, rfl⟩ ?_)|(rename_i g4 hg4 ge hge;refine QB (fun p => p :: .row g4 [.i 0, .i 0, .i 0, .nil] :: .row ge (Enc.enc v1) :: []) 5 [(0, true), (2, true), (3, true), (1, false), (4, true), (5, false)] (by rfl) (by rfl) (by kernel_rfl) (by decide +kernel) (by decide +kernel) ⟨_, rfl⟩ ?_)|(refine QB (fun p => p) 100 [(0, true)] (by rfl) (by rfl) (by kernel_rfl) (by decide +kernel) (by decide +kernel) ⟨_, rfl⟩ ?_)|(refine QB (fun p => p.1 :: .row g4 [.i 0, .i 0, .i 0, .nil] :: .row g5 [.i 13, .i 0, .i 0, .ref 3 gg 0 o.length 4] :: p.2) 9 [(0, true), (1, true), (2, true), (3, true), (4, true), (5, false), (6, true), (7, false), (8, true), (9, false)] (by rfl) (by rfl) (by kernel_rfl) (by decide +kernel) (by decide +kernel) ⟨(_, _), rfl⟩ ?_)|refine Q3 (by rfl) (by kernel_rfl) (by kernel_rfl) ?_|refine Q2 (by kernel_rfl) (by kernel_rfl) ?_)|refine Qx ?_|refine Qh rfl ?_|refine Qp rfl (by omega) ?_|refine Qm rfl (by omega) ?_|refine Qs ?_))|(refine Ze ?_;(first|refine Z1 ?_|refine i_z0 ?_|refine i_st rfl rfl (fun _ => (by (repeat' first|(refine Qe ?_;(first|refine QG rfl ?_|refine WF rfl rfl ?_|refine Wc (z := v1) rfl rfl (by decide) ?_|refine QQ rfl rfl ?_))|exact ⟨rfl, rfl⟩))) ?_|refine i_ef rfl ?_))|refine And.intro (Exists.intro (_) rfl) ?_)
    refine e_1 (Tryz.results79) (QH (size := 4) rfl rfl rfl rfl) ?_
    rw [QW]
    exact c_ce (by first|rfl|(simp [QR, Ws];try rfl)) rfl
  ·obtain ⟨hqv1, hE1⟩ := hE2x (a + 1) (L - 1) ⟨by omega, by omega, by omega, by omega⟩
   obtain ⟨fv1, dv1, sv1, wv1, mv1, uv1⟩ := hqv1
   generalize E2 (a + 1) (L - 1) = tv1 at *
   obtain ⟨v1, b1, M1⟩ := tv1
   dsimp only at *
   have spv1 := Wh v1
   clear hE2x hE1x hsm hrq
   refine ⟨(.mk 19 (0) (0) [v1], b1, M1), ?_, fun g B hg => ?_⟩
   ·refine ⟨Zk ⟨5, 0, 0, 0, [4], 0, 0, 0⟩ rfl (by decide) (by decide) (by dsimp only;omega) (by dsimp only;omega) (by first|(simp;done)|(simp;omega)) (kids1 fv1), ?_, ?_, ?_, ?_, ?_⟩
    ·rw [Ww];(try simp only [Wx]);omega
    ·rw [Qu];(try simp only [QT]);omega
    ·dsimp only;omega
    ·dsimp only;omega
    ·dsimp only;omega
   ·refine Qa Tryz.func79 rfl Tryz.ntmps79 rfl (t := [(0, .ptr 0 g 0), (1, .i dd)]) rfl fun E0 hE0 => ?_
    (repeat' first|(refine Qe ?_;(first|refine QG rfl ?_|refine QJ rfl ?_|(refine Qz ?_;(first|refine WF rfl rfl ?_|refine Qb rfl rfl rfl ?_))|(refine Qo ?_;(first|refine Zz rfl rfl (by omega) ?_|refine Zp rfl rfl ?_|refine QS rfl rfl ?_|refine s_rem rfl rfl (by first|omega|exact nn_shr (by omega)) (by omega) ?_))|(refine Qq ?_;(first|refine Wi 0 (WG l hl _ _ _ (by omega) (by omega)) rfl rfl rfl rfl ?_|refine Wi 0 (hE1) rfl rfl rfl rfl ?_))|(refine Q4 ?_;(first|refine WO rfl rfl ?_|refine Wr rfl rfl ?_))|(refine Wl ?_;(first|refine WR rfl rfl rfl rfl ?_|refine Q7 rfl rfl rfl rfl (by rfl) (by rfl) (by rfl) ?_))|refine Wc (z := v1) rfl rfl (by decide) ?_|refine Qd rfl rfl ?_|refine QQ rfl rfl ?_|refine QA rfl rfl ?_|refine QC (fun _ _ => ?_)))|(refine Qk ?_;(first|refine Qi ?_|refine QN rfl ?_|refine Q5 ?_|refine WD rfl rfl rfl rfl ?_|refine W2 rfl rfl rfl rfl ?_|refine We rfl rfl (by omega) ?_|refine Q6 rfl rfl (by omega) ?_))|(refine Qj ?_;(first|refine Qn ?_|refine Qc ?_|refine Qf ?_|refine Qx ?_|refine Qh rfl ?_|refine Qp rfl (by omega) ?_|refine Qm rfl (by omega) ?_|refine Qs ?_)))
    refine e_1 (Tryz.results79) (QH (size := 4) rfl rfl rfl rfl) ?_
    rw [QW]
    exact c_ce (by first|rfl|(simp [QR, Ws];try rfl)) rfl
  ·obtain ⟨hqv1, hE1⟩ := hE2x (a + 1) (L - 1) ⟨by omega, by omega, by omega, by omega⟩
   obtain ⟨fv1, dv1, sv1, wv1, mv1, uv1⟩ := hqv1
   generalize E2 (a + 1) (L - 1) = tv1 at *
   obtain ⟨v1, b1, M1⟩ := tv1
   dsimp only at *
   have spv1 := Wh v1
   clear hE2x hE1x hsm hrq
   refine ⟨(.mk 20 (0) (0) [v1], b1, M1), ?_, fun g B hg => ?_⟩
   ·refine ⟨Zk ⟨5, 0, 0, 0, [4], 0, 0, 0⟩ rfl (by decide) (by decide) (by dsimp only;omega) (by dsimp only;omega) (by first|(simp;done)|(simp;omega)) (kids1 fv1), ?_, ?_, ?_, ?_, ?_⟩
    ·rw [Ww];(try simp only [Wx]);omega
    ·rw [Qu];(try simp only [QT]);omega
    ·dsimp only;omega
    ·dsimp only;omega
    ·dsimp only;omega
   ·refine Qa Tryz.func79 rfl Tryz.ntmps79 rfl (t := [(0, .ptr 0 g 0), (1, .i dd)]) rfl fun E0 hE0 => ?_
    (repeat' first|(refine Qe ?_;(first|refine QG rfl ?_|refine QJ rfl ?_|(refine Qz ?_;(first|refine WF rfl rfl ?_|refine Qb rfl rfl rfl ?_))|(refine Qo ?_;(first|refine Zz rfl rfl (by omega) ?_|refine Zp rfl rfl ?_|refine QS rfl rfl ?_|refine s_rem rfl rfl (by first|omega|exact nn_shr (by omega)) (by omega) ?_))|(refine Qq ?_;(first|refine Wi 0 (WG l hl _ _ _ (by omega) (by omega)) rfl rfl rfl rfl ?_|refine Wi 0 (hE1) rfl rfl rfl rfl ?_))|(refine Q4 ?_;(first|refine WO rfl rfl ?_|refine Wr rfl rfl ?_))|(refine Wl ?_;(first|refine WR rfl rfl rfl rfl ?_|refine Q7 rfl rfl rfl rfl (by rfl) (by rfl) (by rfl) ?_))|refine Wc (z := v1) rfl rfl (by decide) ?_|refine Qd rfl rfl ?_|refine QQ rfl rfl ?_|refine QA rfl rfl ?_|refine QC (fun _ _ => ?_)))|(refine Qk ?_;(first|refine Qi ?_|refine QN rfl ?_|refine Q5 ?_|refine WD rfl rfl rfl rfl ?_|refine W2 rfl rfl rfl rfl ?_|refine We rfl rfl (by omega) ?_|refine Q6 rfl rfl (by omega) ?_))|(refine Qj ?_;(first|refine Qn ?_|refine Qc ?_|refine Qf ?_|refine Qx ?_|refine Qh rfl ?_|refine Qp rfl (by omega) ?_|refine Qm rfl (by omega) ?_|refine Qs ?_)))
    refine e_1 (Tryz.results79) (QH (size := 4) rfl rfl rfl rfl) ?_
    rw [QW]
    exact c_ce (by first|rfl|(simp [QR, Ws];try rfl)) rfl
  ·obtain ⟨hqv1, hE1⟩ := hE2x (a + 1) (L - 1) ⟨by omega, by omega, by omega, by omega⟩
   obtain ⟨fv1, dv1, sv1, wv1, mv1, uv1⟩ := hqv1
   generalize E2 (a + 1) (L - 1) = tv1 at *
   obtain ⟨v1, b1, M1⟩ := tv1
   dsimp only at *
   have spv1 := Wh v1
   have n3 := Q9 l (b1) (most := 3) (by decide)
   clear hE2x hE1x hsm hrq
   refine ⟨(.mk 22 (atI l b1 3) (0) [v1], b1 + 1, M1), ?_, fun g B hg => ?_⟩
   ·refine ⟨Zk ⟨5, 0, 2, 0, [4], 0, 0, 0⟩ rfl (by decide) (by decide) (by dsimp only;omega) (by dsimp only;omega) (by first|(simp;done)|(simp;omega)) (kids1 fv1), ?_, ?_, ?_, ?_, ?_⟩
    ·rw [Ww];(try simp only [Wx]);omega
    ·rw [Qu];(try simp only [QT]);omega
    ·dsimp only;omega
    ·dsimp only;omega
    ·dsimp only;omega
   ·refine Qa Tryz.func79 rfl Tryz.ntmps79 rfl (t := [(0, .ptr 0 g 0), (1, .i dd)]) rfl fun E0 hE0 => ?_
    (repeat' first|(refine Qe ?_;(first|refine QG rfl ?_|refine QJ rfl ?_|refine Qb rfl rfl rfl ?_|(refine Qo ?_;(first|refine Zz rfl rfl (by omega) ?_|refine Zp rfl rfl ?_|refine QS rfl rfl ?_|refine s_rem rfl rfl (by first|omega|exact nn_shr (by omega)) (by omega) ?_))|(refine Qq ?_;(first|refine Wi 0 (WG l hl _ _ _ (by omega) (by omega)) rfl rfl rfl rfl ?_|refine Wi 0 (hE1) rfl rfl rfl rfl ?_))|(refine Q4 ?_;(first|refine WO rfl rfl ?_|refine Wr rfl rfl ?_))|(refine Wl ?_;(first|refine WR rfl rfl rfl rfl ?_|refine Q7 rfl rfl rfl rfl (by rfl) (by rfl) (by rfl) ?_))|refine Qd rfl rfl ?_|refine QA rfl rfl ?_|refine QC (fun _ _ => ?_)))|(refine Qk ?_;(first|refine Qi ?_|refine QN rfl ?_|refine Q5 ?_|refine WD rfl rfl rfl rfl ?_|refine W2 rfl rfl rfl rfl ?_|refine We rfl rfl (by omega) ?_|refine Q6 rfl rfl (by omega) ?_))|(refine Qj ?_;(first|refine Qn ?_|refine Qc ?_|refine Qf ?_|(refine Wg ?_;first|(rename_i g4 hg4 ge hge;refine QB (fun p => p :: .row g4 [.i 0, .i 0, .i 0, .nil] :: .row ge (Enc.enc v1) :: []) 6 [(0, true), (1, true), (2, true), (3, false), (4, true), (5, true), (6, false)] (by rfl) (by rfl) (by kernel_rfl) (by decide +kernel) (by decide +kernel) ⟨_, rfl⟩ ?_)|(rename_i g4 hg4 ge hge;refine QB (fun p => p :: .row g4 [.i 0, .i 0, .i 0, .nil] :: .row ge (Enc.enc v1) :: []) 9 [(0, true), (1, true), (2, true), (4, true), (5, true), (3, false), (6, false), (7, true), (8, true), (9, false)] (by rfl) (by rfl) (by kernel_rfl) (by decide +kernel) (by decide +kernel) ⟨_, rfl⟩ ?_)|(rename_i g4 hg4 ge hge;refine QB (fun p => p :: .row g4 [.i 0, .i 0, .i 0, .nil] :: .row ge (Enc.enc v1) :: []) 7 [(0, true), (2, true), (4, true), (5, true), (1, false), (3, false), (6, true), (7, false)] (by rfl) (by rfl) (by kernel_rfl) (by decide +kernel) (by decide +kernel) ⟨_, rfl⟩ ?_)|(rename_i g4 hg4 ge hge;refine QB (fun p => p :: .row g4 [.i 0, .i 0, .i 0, .nil] :: .row ge (Enc.enc v1) :: []) 7 [(0, true), (2, true), (3, true), (1, false), (4, false), (5, true), (6, true), (7, false)] (by rfl) (by rfl) (by kernel_rfl) (by decide +kernel) (by decide +kernel) ⟨_, rfl⟩ ?_)|(rename_i g4 hg4 ge hge;refine QB (fun p => p :: .row g4 [.i 0, .i 0, .i 0, .nil] :: .row ge (Enc.enc v1) :: []) 5 [(0, true), (2, true), (3, true), (1, false), (4, true), (5, false)] (by rfl) (by rfl) (by kernel_rfl) (by decide +kernel) (by decide +kernel) ⟨_, rfl⟩ ?_)|(refine QB (fun p => p) 100 [(0, true)] (by rfl) (by rfl) (by kernel_rfl) (by decide +kernel) (by decide +kernel) ⟨_, rfl⟩ ?_)|(refine QB (fun p => p.1 :: .row g4 [.i 0, .i 0, .i 0, .nil] :: .row g5 [.i 13, .i 0, .i 0, .ref 3 gg 0 o.length 4] :: p.2) 9 [(0, true), (1, true), (2, true), (3, true), (4, true), (5, false), (6, true), (7, false), (8, true), (9, false)] (by rfl) (by rfl) (by kernel_rfl) (by decide +kernel) (by decide +kernel) ⟨(_, _), rfl⟩ ?_)|refine Q3 (by rfl) (by kernel_rfl) (by kernel_rfl) ?_|refine Q2 (by kernel_rfl) (by kernel_rfl) ?_)|refine Qx ?_|refine Qh rfl ?_|refine Qp rfl (by omega) ?_|refine Qm rfl (by omega) ?_|refine Qs ?_))|(refine Ze ?_;(first|refine Z1 ?_|refine i_z0 ?_|refine i_st rfl rfl (fun _ => (by (repeat' first|(refine Qe ?_;(first|refine QG rfl ?_|refine WF rfl rfl ?_|refine Wc (z := v1) rfl rfl (by decide) ?_|refine QQ rfl rfl ?_))|exact ⟨rfl, rfl⟩))) ?_|refine i_ef rfl ?_))|refine And.intro (Exists.intro (_) rfl) ?_)
    refine e_1 (Tryz.results79) (QH (size := 4) rfl rfl rfl rfl) ?_
    rw [QW]
    exact c_ce (by first|rfl|(simp [QR, Ws];try rfl)) rfl
  ·obtain ⟨hqv1, hE1⟩ := hE2x (a + 1) (L - 1) ⟨by omega, by omega, by omega, by omega⟩
   obtain ⟨fv1, dv1, sv1, wv1, mv1, uv1⟩ := hqv1
   generalize E2 (a + 1) (L - 1) = tv1 at *
   obtain ⟨v1, b1, M1⟩ := tv1
   dsimp only at *
   have spv1 := Wh v1
   have hS1 := hsm (b1 + 1) M1 ⟨by omega, by omega, by omega, by omega⟩ (by omega) (by omega)
   have hb := Q9 l (b1 + 1) (most := 4) (by decide)
   obtain ⟨N, hN⟩ : ∃ N : Nat, atI l (b1 + 1) 4 = (N : Int) := ⟨(atI l (b1 + 1) 4).toNat, by omega⟩
   rw [hN, show ((N : Int)).toNat = N by omega, show ((1 : Nat) : Int) + 1 = 2 from rfl] at hS1
   have hq := hrq N (b1 + 1 + 1) M1 (by omega) ⟨by omega, by omega, by omega, by omega⟩ (by omega)
   have hln := runM_len E1 N (b1 + 1 + 1) M1
   obtain ⟨f2, d2, s2, w2, m2, u2⟩ := hq
   generalize runM E1 N (b1 + 1 + 1) M1 = T at *
   obtain ⟨ks, b2, M2⟩ := T
   dsimp only at *
   have hdl := depthL_le d2
   have n6 := Q9 l (b1) (most := 6) (by decide)
   clear hE2x hE1x hsm hrq
   refine ⟨(.mk 23 (atI l b1 6) (0) ks, b2, M2), ?_, fun g B hg => ?_⟩
   ·refine ⟨Zk ⟨5, 0, 5, 0, [], 3, 0, 4⟩ rfl (by decide) (by decide) (by dsimp only;omega) (by dsimp only;omega) (by first|(simp;done)|(simp;omega)) (kidsA rfl f2), ?_, ?_, ?_, ?_, ?_⟩
    ·rw [Ww];(try simp only [Wx]);omega
    ·rw [Qu];(try simp only [QT]);omega
    ·dsimp only;omega
    ·dsimp only;omega
    ·dsimp only;omega
   ·refine Qa Tryz.func79 rfl Tryz.ntmps79 rfl (t := [(0, .ptr 0 g 0), (1, .i dd)]) rfl fun E0 hE0 => ?_
    (repeat' first|(refine Qe ?_;(first|refine QG rfl ?_|refine QJ rfl ?_|refine Qb rfl rfl rfl ?_|(refine Qo ?_;(first|refine Zz rfl rfl (by omega) ?_|refine Zp rfl rfl ?_|refine QS rfl rfl ?_|refine s_rem rfl rfl (by first|omega|exact nn_shr (by omega)) (by omega) ?_))|(refine Qq ?_;(first|refine Wi 0 (WG l hl _ _ _ (by omega) (by omega)) rfl rfl rfl rfl ?_|refine Wi 0 (hE1) rfl rfl rfl rfl ?_|refine Wi 0 (hS1) rfl rfl rfl rfl ?_))|(refine Q4 ?_;(first|refine WO rfl rfl ?_|refine Wr rfl rfl ?_))|(refine Wl ?_;(first|refine WR rfl rfl rfl rfl ?_|refine Q7 rfl rfl rfl rfl (by rfl) (by rfl) (by rfl) ?_))|refine Qd rfl rfl ?_|refine QQ rfl rfl ?_|refine QA rfl rfl ?_|refine QC (fun _ _ => ?_)))|(refine Qk ?_;(first|refine Qi ?_|refine QN rfl ?_|refine Q5 ?_|refine WD rfl rfl rfl rfl ?_|refine W2 rfl rfl rfl rfl ?_|refine We rfl rfl (by omega) ?_|refine Q6 rfl rfl (by omega) ?_))|(refine Qj ?_;(first|refine Qn ?_|refine Qc ?_|refine Qf ?_|refine Qx ?_|refine Qh rfl ?_|refine Qp rfl (by omega) ?_|refine Qm rfl (by omega) ?_|refine Qs ?_)))
    refine e_1 (Tryz.results79) (QH (size := 4) rfl rfl rfl rfl) ?_
    rw [QW]
    exact c_ce (by first|rfl|(simp [QR, Ws];try rfl)) rfl
  ·obtain ⟨hqv1, hE1⟩ := hE2x (a + 1) (L - 1) ⟨by omega, by omega, by omega, by omega⟩
   obtain ⟨fv1, dv1, sv1, wv1, mv1, uv1⟩ := hqv1
   generalize E2 (a + 1) (L - 1) = tv1 at *
   obtain ⟨v1, b1, M1⟩ := tv1
   dsimp only at *
   have spv1 := Wh v1
   clear hE2x hE1x hsm hrq
   refine ⟨(.mk 24 (0) (0) [v1], b1, M1), ?_, fun g B hg => ?_⟩
   ·refine ⟨Zk ⟨5, 0, 0, 0, [4], 0, 0, 0⟩ rfl (by decide) (by decide) (by dsimp only;omega) (by dsimp only;omega) (by first|(simp;done)|(simp;omega)) (kids1 fv1), ?_, ?_, ?_, ?_, ?_⟩
    ·rw [Ww];(try simp only [Wx]);omega
    ·rw [Qu];(try simp only [QT]);omega
    ·dsimp only;omega
    ·dsimp only;omega
    ·dsimp only;omega
   ·refine Qa Tryz.func79 rfl Tryz.ntmps79 rfl (t := [(0, .ptr 0 g 0), (1, .i dd)]) rfl fun E0 hE0 => ?_
    (repeat' first|(refine Qe ?_;(first|refine QG rfl ?_|refine QJ rfl ?_|(refine Qz ?_;(first|refine WF rfl rfl ?_|refine Qb rfl rfl rfl ?_))|(refine Qo ?_;(first|refine Zz rfl rfl (by omega) ?_|refine Zp rfl rfl ?_|refine QS rfl rfl ?_|refine s_rem rfl rfl (by first|omega|exact nn_shr (by omega)) (by omega) ?_))|(refine Qq ?_;(first|refine Wi 0 (WG l hl _ _ _ (by omega) (by omega)) rfl rfl rfl rfl ?_|refine Wi 0 (hE1) rfl rfl rfl rfl ?_))|(refine Q4 ?_;(first|refine WO rfl rfl ?_|refine Wr rfl rfl ?_))|(refine Wl ?_;(first|refine WR rfl rfl rfl rfl ?_|refine Q7 rfl rfl rfl rfl (by rfl) (by rfl) (by rfl) ?_))|refine Wc (z := v1) rfl rfl (by decide) ?_|refine Qd rfl rfl ?_|refine QQ rfl rfl ?_|refine QA rfl rfl ?_|refine QC (fun _ _ => ?_)))|(refine Qk ?_;(first|refine Qi ?_|refine QN rfl ?_|refine Q5 ?_|refine WD rfl rfl rfl rfl ?_|refine W2 rfl rfl rfl rfl ?_|refine We rfl rfl (by omega) ?_|refine Q6 rfl rfl (by omega) ?_))|(refine Qj ?_;(first|refine Qn ?_|refine Qc ?_|refine Qf ?_|refine Qx ?_|refine Qh rfl ?_|refine Qp rfl (by omega) ?_|refine Qm rfl (by omega) ?_|refine Qs ?_)))
    refine e_1 (Tryz.results79) (QH (size := 4) rfl rfl rfl rfl) ?_
    rw [QW]
    exact c_ce (by first|rfl|(simp [QR, Ws];try rfl)) rfl
  ·obtain ⟨hqv1, hE1⟩ := hE2x (a + 1) (L - 1) ⟨by omega, by omega, by omega, by omega⟩
   obtain ⟨fv1, dv1, sv1, wv1, mv1, uv1⟩ := hqv1
   generalize E2 (a + 1) (L - 1) = tv1 at *
   obtain ⟨v1, b1, M1⟩ := tv1
   dsimp only at *
   have spv1 := Wh v1
   clear hE2x hE1x hsm hrq
   refine ⟨(.mk 25 (0) (0) [], b1, M1), ?_, fun g B hg => ?_⟩
   ·refine ⟨Zk ⟨5, 0, 0, 0, [], 0, 0, 0⟩ rfl (by decide) (by decide) (by dsimp only;omega) (by dsimp only;omega) (by first|(simp;done)|(simp;omega)) (kids0), ?_, ?_, ?_, ?_, ?_⟩
    ·rw [Ww];(try simp only [Wx]);omega
    ·rw [Qu];(try simp only [QT]);omega
    ·dsimp only;omega
    ·dsimp only;omega
    ·dsimp only;omega
   ·refine Qa Tryz.func79 rfl Tryz.ntmps79 rfl (t := [(0, .ptr 0 g 0), (1, .i dd)]) rfl fun E0 hE0 => ?_
    (repeat' first|(refine Qe ?_;(first|refine QG rfl ?_|refine QJ rfl ?_|refine Qb rfl rfl rfl ?_|(refine Qo ?_;(first|refine Zz rfl rfl (by omega) ?_|refine Zp rfl rfl ?_|refine QS rfl rfl ?_|refine s_rem rfl rfl (by first|omega|exact nn_shr (by omega)) (by omega) ?_))|(refine Qq ?_;(first|refine Wi 0 (WG l hl _ _ _ (by omega) (by omega)) rfl rfl rfl rfl ?_|refine Wi 0 (hE1) rfl rfl rfl rfl ?_))|(refine Q4 ?_;(first|refine WO rfl rfl ?_|refine Wr rfl rfl ?_))|(refine Wl ?_;(first|refine WR rfl rfl rfl rfl ?_|refine Q7 rfl rfl rfl rfl (by rfl) (by rfl) (by rfl) ?_))|refine Qd rfl rfl ?_|refine QQ rfl rfl ?_|refine QA rfl rfl ?_|refine QC (fun _ _ => ?_)))|(refine Qk ?_;(first|refine Qi ?_|refine QN rfl ?_|refine Q5 ?_|refine WD rfl rfl rfl rfl ?_|refine W2 rfl rfl rfl rfl ?_|refine We rfl rfl (by omega) ?_|refine Q6 rfl rfl (by omega) ?_))|(refine Qj ?_;(first|refine Qn ?_|refine Qc ?_|refine Qf ?_|refine Qx ?_|refine Qh rfl ?_|refine Qp rfl (by omega) ?_|refine Qm rfl (by omega) ?_|refine Qs ?_)))
    exact e_1 (Tryz.results79) (QH (size := 4) rfl rfl rfl rfl) (W5 (es := 4) (.node rfl rfl rfl) (by show _ = DV.agg (Enc.enc (Nd.mk _ _ _ []));rw [QW];rfl) rfl)
theorem chStmt (l : List Int) (hl : OkI l) : ∀ (e : Nat), e <= 8 -> ∃ S : GenF, ∀ a L, preS a L -> QE 5 (2 * e + 4) 5 (7 + e) (S a L).1 a L (S a L).2.1 (S a L).2.2 /\ CE Tryz.prog G 79 (fun p g => [.ptr p g 0, .i ((e : Int) - 1)]) (genC l a L) (.agg (Enc.enc (S a L).1)) (genC l (S a L).2.1 (S a L).2.2) := by
 obtain ⟨E2, hE2x⟩ := chExpr (G := G) l hl 2 (by decide)
 obtain ⟨E1, hE1x⟩ := chExpr (G := G) l hl 1 (by decide)
 intro e
 induction e with
 | zero =>
  intro _
  refine gen_skolem (pre := preS) (R := fun a L t => QE 5 (2 * 0 + 4) 5 (7 + (0 : Nat)) t.1 a L t.2.1 t.2.2 /\ CE Tryz.prog G 79 (fun p g => [.ptr p g 0, .i (((0 : Nat) : Int) - 1)]) (genC l a L) (.agg (Enc.enc t.1)) (genC l t.2.1 t.2.2)) fun a L h => ?_
  have bx := Q9 l a (most := 14) (by decide)
  exact chLeafS l hl E2 E1 hE2x hE1x (((0 : Nat) : Int) - 1) a L (atI l a 14 % 10) h (.inl ⟨by decide, rfl⟩) (by omega)
 | succ e ih =>
 intro he
 obtain ⟨S, hS⟩ := ih (by omega)
 refine gen_skolem (pre := preS) (R := fun a L t => QE 5 (2 * (e + 1) + 4) 5 (7 + (e + 1 : Nat)) t.1 a L t.2.1 t.2.2 /\ CE Tryz.prog G 79 (fun p g => [.ptr p g 0, .i (((e + 1 : Nat) : Int) - 1)]) (genC l a L) (.agg (Enc.enc t.1)) (genC l t.2.1 t.2.2)) fun a L h => ?_
 have bx := Q9 l a (most := 14) (by decide)
 have lift : (∃ t : Nd × Int × Int, QE 5 4 5 7 t.1 a L t.2.1 t.2.2 /\ CE Tryz.prog G 79 (fun p g => [.ptr p g 0, .i (((e + 1 : Nat) : Int) - 1)]) (genC l a L) (.agg (Enc.enc t.1)) (genC l t.2.1 t.2.2)) -> ∃ t : Nd × Int × Int, QE 5 (2 * (e + 1) + 4) 5 (7 + (e + 1 : Nat)) t.1 a L t.2.1 t.2.2 /\ CE Tryz.prog G 79 (fun p g => [.ptr p g 0, .i (((e + 1 : Nat) : Int) - 1)]) (genC l a L) (.agg (Enc.enc t.1)) (genC l t.2.1 t.2.2) := fun ⟨t, hq, hc⟩ => by
  have q1 := hq.low
  have q2 := hq.dep
  exact ⟨t, ⟨hq.fit, by omega, hq.size, by omega, hq.mono, hq.used⟩, hc⟩
 by_cases hd0 : ((e + 1 : Nat) : Int) - 1 <= 0
 ·exact lift (chLeafS l hl E2 E1 hE2x hE1x _ a L (atI l a 14 % 10) h (.inl ⟨hd0, rfl⟩) (by omega))
 by_cases hlf : L - 1 <= 0
 ·exact lift (chLeafS l hl E2 E1 hE2x hE1x _ a L (atI l a 14 % 10) h (.inr (.inl ⟨by omega, hlf, rfl⟩)) (by omega))
 by_cases hx9 : atI l a 14 <= 9
 ·exact lift (chLeafS l hl E2 E1 hE2x hE1x _ a L (atI l a 14) h (.inr (.inr ⟨by omega, by omega, rfl⟩)) (by omega))
 clear lift
 obtain ⟨Bk, hBk⟩ := chBlock (G := G) l hl e (by omega) S hS
 obtain ⟨p1, p2, p3, p4⟩ := h
 have hed : ((e + 1 : Nat) : Int) - 1 = (e : Nat) := by omega
 rw [hed] at hd0 ⊢
 have hxx : atI l a 14 = 10 \/ atI l a 14 = 11 \/ atI l a 14 = 12 \/ atI l a 14 = 13 := by omega
 generalize hdd : ((e : Nat) : Int) = dd at *
 rcases hxx with hx|hx|hx|hx
 ·obtain ⟨hqv1, hE1⟩ := hE2x (a + 1) (L - 1) ⟨by omega, by omega, by omega, by omega⟩
  obtain ⟨fv1, dv1, sv1, wv1, mv1, uv1⟩ := hqv1
  generalize E2 (a + 1) (L - 1) = tv1 at *
  obtain ⟨v1, b1, M1⟩ := tv1
  dsimp only at *
  have spv1 := Wh v1
  obtain ⟨hqw1, hB1⟩ := hBk (b1) (M1) ⟨by omega, by omega, by omega, by omega⟩
  obtain ⟨fw1, dw1, sw1, ww1, mw1, uw1⟩ := hqw1
  generalize Bk (b1) (M1) = tw1 at *
  obtain ⟨w1, c1, K1⟩ := tw1
  dsimp only at *
  have spw1 := Wh w1
  obtain ⟨hqw2, hB2⟩ := hBk (c1) (K1) ⟨by omega, by omega, by omega, by omega⟩
  obtain ⟨fw2, dw2, sw2, ww2, mw2, uw2⟩ := hqw2
  generalize Bk (c1) (K1) = tw2 at *
  obtain ⟨w2, c2, K2⟩ := tw2
  dsimp only at *
  have spw2 := Wh w2
  clear hE2x hE1x hS hBk ih
  refine ⟨(.mk 17 (0) (0) [v1, w1, w2], c2, K2), ?_, fun g B hg => ?_⟩
  ·refine ⟨Zk ⟨5, 0, 0, 0, [4, 6, 6], 0, 0, 0⟩ rfl (by decide) (by decide) (by dsimp only;omega) (by dsimp only;omega) (by first|(simp;done)|(simp;omega)) (kids3 fv1 fw1 fw2), ?_, ?_, ?_, ?_, ?_⟩
   ·rw [Ww];(try simp only [Wx]);omega
   ·rw [Qu];(try simp only [QT]);omega
   ·dsimp only;omega
   ·dsimp only;omega
   ·dsimp only;omega
  ·refine Qa Tryz.func79 rfl Tryz.ntmps79 rfl (t := [(0, .ptr 0 g 0), (1, .i dd)]) rfl fun E0 hE0 => ?_
   (repeat' first|(refine Qe ?_;(first|refine QG rfl ?_|refine QJ rfl ?_|refine Qb rfl rfl rfl ?_|(refine Qo ?_;(first|refine Zz rfl rfl (by omega) ?_|refine Zp rfl rfl ?_|refine QS rfl rfl ?_))|(refine Qq ?_;(first|refine Wi 0 (WG l hl _ _ _ (by omega) (by omega)) rfl rfl rfl rfl ?_|refine Wi 0 (hE1) rfl rfl rfl rfl ?_|refine Wi 0 (hB1) rfl rfl rfl rfl ?_|refine Wi 0 (hB2) rfl rfl rfl rfl ?_))|refine Wr rfl rfl ?_|(refine Wl ?_;(first|refine WR rfl rfl rfl rfl ?_|refine Q7 rfl rfl rfl rfl (by rfl) (by rfl) (by rfl) ?_))|refine Qd rfl rfl ?_|refine QA rfl rfl ?_|refine QC (fun _ _ => ?_)))|(refine Qk ?_;(first|refine Qi ?_|refine QN rfl ?_|refine Q5 ?_|refine WD rfl rfl rfl rfl ?_|refine Q6 rfl rfl (by omega) ?_))|(refine Qj ?_;(first|refine Qn ?_|refine Qc ?_|refine Qf ?_|(refine Wg ?_;first|(rename_i g4 hg4 ge hge;refine QB (fun p => p :: .row g4 [.i 0, .i 0, .i 0, .nil] :: .row ge (Enc.enc v1) :: []) 6 [(0, true), (1, true), (2, true), (3, false), (4, true), (5, true), (6, false)] (by rfl) (by rfl) (by kernel_rfl) (by decide +kernel) (by decide +kernel) ⟨_, rfl⟩ ?_)|(rename_i g4 hg4 ge hge;refine QB (fun p => p :: .row g4 [.i 0, .i 0, .i 0, .nil] :: .row ge (Enc.enc v1) :: []) 9 [(0, true), (1, true), (2, true), (4, true), (5, true), (3, false), (6, false), (7, true), (8, true), (9, false)] (by rfl) (by rfl) (by kernel_rfl) (by decide +kernel) (by decide +kernel) ⟨_, rfl⟩ ?_)|(rename_i g4 hg4 ge hge;refine QB (fun p => p :: .row g4 [.i 0, .i 0, .i 0, .nil] :: .row ge (Enc.enc v1) :: []) 7 [(0, true), (2, true), (4, true), (5, true), (1, false), (3, false), (6, true), (7, false)] (by rfl) (by rfl) (by kernel_rfl) (by decide +kernel) (by decide +kernel) ⟨_, rfl⟩ ?_)|(rename_i g4 hg4 ge hge;refine QB (fun p => p :: .row g4 [.i 0, .i 0, .i 0, .nil] :: .row ge (Enc.enc v1) :: []) 7 [(0, true), (2, true), (3, true), (1, false), (4, false), (5, true), (6, true), (7, false)] (by rfl) (by rfl) (by kernel_rfl) (by decide +kernel) (by decide +kernel) ⟨_, rfl⟩ ?_)|(rename_i g4 hg4 ge hge;refine QB (fun p => p :: .row g4 [.i 0, .i 0, .i 0, .nil] :: .row ge (Enc.enc v1) :: []) 5 [(0, true), (2, true), (3, true), (1, false), (4, true), (5, false)] (by rfl) (by rfl) (by kernel_rfl) (by decide +kernel) (by decide +kernel) ⟨_, rfl⟩ ?_)|(refine QB (fun p => p) 100 [(0, true)] (by rfl) (by rfl) (by kernel_rfl) (by decide +kernel) (by decide +kernel) ⟨_, rfl⟩ ?_)|(refine QB (fun p => p.1 :: .row g4 [.i 0, .i 0, .i 0, .nil] :: .row g5 [.i 13, .i 0, .i 0, .ref 3 gg 0 o.length 4] :: p.2) 9 [(0, true), (1, true), (2, true), (3, true), (4, true), (5, false), (6, true), (7, false), (8, true), (9, false)] (by rfl) (by rfl) (by kernel_rfl) (by decide +kernel) (by decide +kernel) ⟨(_, _), rfl⟩ ?_)|refine Q3 (by rfl) (by kernel_rfl) (by kernel_rfl) ?_|refine Q2 (by kernel_rfl) (by kernel_rfl) ?_)|refine Qx ?_|refine Qp rfl (by omega) ?_|refine Qm rfl (by omega) ?_|refine Qs ?_))|(refine Ze ?_;(first|refine Z1 ?_|refine i_z0 ?_|refine i_st rfl rfl (fun _ => (by (repeat' first|(refine Qe ?_;(first|refine QG rfl ?_|refine WF rfl rfl ?_|refine s_bslice_three (x := v1) (y := w1) (z := w2) rfl rfl (by decide) ?_|refine QQ rfl rfl ?_))|exact ⟨rfl, rfl⟩))) ?_|refine i_ef rfl ?_))|refine And.intro (Exists.intro (_) rfl) ?_)
   refine e_1 (Tryz.results79) (QH (size := 4) rfl rfl rfl rfl) ?_
   rw [QW]
   exact c_ce (by first|rfl|(simp [QR, Ws];try rfl)) rfl
 ·obtain ⟨hqv1, hE1⟩ := hE2x (a + 1) (L - 1) ⟨by omega, by omega, by omega, by omega⟩
  obtain ⟨fv1, dv1, sv1, wv1, mv1, uv1⟩ := hqv1
  generalize E2 (a + 1) (L - 1) = tv1 at *
  obtain ⟨v1, b1, M1⟩ := tv1
  dsimp only at *
  have spv1 := Wh v1
  obtain ⟨hqw1, hB1⟩ := hBk (b1) (M1) ⟨by omega, by omega, by omega, by omega⟩
  obtain ⟨fw1, dw1, sw1, ww1, mw1, uw1⟩ := hqw1
  generalize Bk (b1) (M1) = tw1 at *
  obtain ⟨w1, c1, K1⟩ := tw1
  dsimp only at *
  have spw1 := Wh w1
  clear hE2x hE1x hS hBk ih
  refine ⟨(.mk 18 (0) (0) [v1, w1], c1, K1), ?_, fun g B hg => ?_⟩
  ·refine ⟨Zk ⟨5, 0, 0, 0, [4, 6], 0, 0, 0⟩ rfl (by decide) (by decide) (by dsimp only;omega) (by dsimp only;omega) (by first|(simp;done)|(simp;omega)) (kids2 fv1 fw1), ?_, ?_, ?_, ?_, ?_⟩
   ·rw [Ww];(try simp only [Wx]);omega
   ·rw [Qu];(try simp only [QT]);omega
   ·dsimp only;omega
   ·dsimp only;omega
   ·dsimp only;omega
  ·refine Qa Tryz.func79 rfl Tryz.ntmps79 rfl (t := [(0, .ptr 0 g 0), (1, .i dd)]) rfl fun E0 hE0 => ?_
   (repeat' first|(refine Qe ?_;(first|refine QG rfl ?_|refine QJ rfl ?_|refine Qb rfl rfl rfl ?_|(refine Qo ?_;(first|refine Zz rfl rfl (by omega) ?_|refine Zp rfl rfl ?_|refine QS rfl rfl ?_))|(refine Qq ?_;(first|refine Wi 0 (WG l hl _ _ _ (by omega) (by omega)) rfl rfl rfl rfl ?_|refine Wi 0 (hE1) rfl rfl rfl rfl ?_|refine Wi 0 (hB1) rfl rfl rfl rfl ?_))|refine Wr rfl rfl ?_|(refine Wl ?_;(first|refine WR rfl rfl rfl rfl ?_|refine Q7 rfl rfl rfl rfl (by rfl) (by rfl) (by rfl) ?_))|refine Qd rfl rfl ?_|refine QA rfl rfl ?_|refine QC (fun _ _ => ?_)))|(refine Qk ?_;(first|refine Qi ?_|refine QN rfl ?_|refine Q5 ?_|refine WD rfl rfl rfl rfl ?_|refine Q6 rfl rfl (by omega) ?_))|(refine Qj ?_;(first|refine Qn ?_|refine Qc ?_|refine Qf ?_|(refine Wg ?_;first|(rename_i g4 hg4 ge hge;refine QB (fun p => p :: .row g4 [.i 0, .i 0, .i 0, .nil] :: .row ge (Enc.enc v1) :: []) 6 [(0, true), (1, true), (2, true), (3, false), (4, true), (5, true), (6, false)] (by rfl) (by rfl) (by kernel_rfl) (by decide +kernel) (by decide +kernel) ⟨_, rfl⟩ ?_)|(rename_i g4 hg4 ge hge;refine QB (fun p => p :: .row g4 [.i 0, .i 0, .i 0, .nil] :: .row ge (Enc.enc v1) :: []) 9 [(0, true), (1, true), (2, true), (4, true), (5, true), (3, false), (6, false), (7, true), (8, true), (9, false)] (by rfl) (by rfl) (by kernel_rfl) (by decide +kernel) (by decide +kernel) ⟨_, rfl⟩ ?_)|(rename_i g4 hg4 ge hge;refine QB (fun p => p :: .row g4 [.i 0, .i 0, .i 0, .nil] :: .row ge (Enc.enc v1) :: []) 7 [(0, true), (2, true), (4, true), (5, true), (1, false), (3, false), (6, true), (7, false)] (by rfl) (by rfl) (by kernel_rfl) (by decide +kernel) (by decide +kernel) ⟨_, rfl⟩ ?_)|(rename_i g4 hg4 ge hge;refine QB (fun p => p :: .row g4 [.i 0, .i 0, .i 0, .nil] :: .row ge (Enc.enc v1) :: []) 7 [(0, true), (2, true), (3, true), (1, false), (4, false), (5, true), (6, true), (7, false)] (by rfl) (by rfl) (by kernel_rfl) (by decide +kernel) (by decide +kernel) ⟨_, rfl⟩ ?_)|(rename_i g4 hg4 ge hge;refine QB (fun p => p :: .row g4 [.i 0, .i 0, .i 0, .nil] :: .row ge (Enc.enc v1) :: []) 5 [(0, true), (2, true), (3, true), (1, false), (4, true), (5, false)] (by rfl) (by rfl) (by kernel_rfl) (by decide +kernel) (by decide +kernel) ⟨_, rfl⟩ ?_)|(refine QB (fun p => p) 100 [(0, true)] (by rfl) (by rfl) (by kernel_rfl) (by decide +kernel) (by decide +kernel) ⟨_, rfl⟩ ?_)|(refine QB (fun p => p.1 :: .row g4 [.i 0, .i 0, .i 0, .nil] :: .row g5 [.i 13, .i 0, .i 0, .ref 3 gg 0 o.length 4] :: p.2) 9 [(0, true), (1, true), (2, true), (3, true), (4, true), (5, false), (6, true), (7, false), (8, true), (9, false)] (by rfl) (by rfl) (by kernel_rfl) (by decide +kernel) (by decide +kernel) ⟨(_, _), rfl⟩ ?_)|refine Q3 (by rfl) (by kernel_rfl) (by kernel_rfl) ?_|refine Q2 (by kernel_rfl) (by kernel_rfl) ?_)|refine Qx ?_|refine Qp rfl (by omega) ?_|refine Qm rfl (by omega) ?_|refine Qs ?_))|(refine Ze ?_;(first|refine Z1 ?_|refine i_z0 ?_|refine i_st rfl rfl (fun _ => (by (repeat' first|(refine Qe ?_;(first|refine QG rfl ?_|refine WF rfl rfl ?_|refine ZS (y := v1) (z := w1) rfl rfl (by decide) ?_|refine QQ rfl rfl ?_))|exact ⟨rfl, rfl⟩))) ?_|refine i_ef rfl ?_))|refine And.intro (Exists.intro (_) rfl) ?_)
   refine e_1 (Tryz.results79) (QH (size := 4) rfl rfl rfl rfl) ?_
   rw [QW]
   exact c_ce (by first|rfl|(simp [QR, Ws];try rfl)) rfl
 ·obtain ⟨hqv1, hE1⟩ := hE2x (a + 1) (L - 1) ⟨by omega, by omega, by omega, by omega⟩
  obtain ⟨fv1, dv1, sv1, wv1, mv1, uv1⟩ := hqv1
  generalize E2 (a + 1) (L - 1) = tv1 at *
  obtain ⟨v1, b1, M1⟩ := tv1
  dsimp only at *
  have spv1 := Wh v1
  have n6 := Q9 l (b1) (most := 6) (by decide)
  obtain ⟨hqw1, hB1⟩ := hBk (b1 + 1) (M1) ⟨by omega, by omega, by omega, by omega⟩
  obtain ⟨fw1, dw1, sw1, ww1, mw1, uw1⟩ := hqw1
  generalize Bk (b1 + 1) (M1) = tw1 at *
  obtain ⟨w1, c1, K1⟩ := tw1
  dsimp only at *
  have spw1 := Wh w1
  obtain ⟨hqw2, hB2⟩ := hBk (c1) (K1) ⟨by omega, by omega, by omega, by omega⟩
  obtain ⟨fw2, dw2, sw2, ww2, mw2, uw2⟩ := hqw2
  generalize Bk (c1) (K1) = tw2 at *
  obtain ⟨w2, c2, K2⟩ := tw2
  dsimp only at *
  have spw2 := Wh w2
  clear hE2x hE1x hS hBk ih
  refine ⟨(.mk 21 (atI l b1 6) (0) [w1, w2], c2, K2), ?_, fun g B hg => ?_⟩
  ·refine ⟨Zk ⟨5, 0, 5, 0, [6, 6], 0, 0, 0⟩ rfl (by decide) (by decide) (by dsimp only;omega) (by dsimp only;omega) (by first|(simp;done)|(simp;omega)) (kids2 fw1 fw2), ?_, ?_, ?_, ?_, ?_⟩
   ·rw [Ww];(try simp only [Wx]);omega
   ·rw [Qu];(try simp only [QT]);omega
   ·dsimp only;omega
   ·dsimp only;omega
   ·dsimp only;omega
  ·refine Qa Tryz.func79 rfl Tryz.ntmps79 rfl (t := [(0, .ptr 0 g 0), (1, .i dd)]) rfl fun E0 hE0 => ?_
   (repeat' first|(refine Qe ?_;(first|refine QG rfl ?_|refine QJ rfl ?_|refine Qb rfl rfl rfl ?_|(refine Qo ?_;(first|refine Zz rfl rfl (by omega) ?_|refine Zp rfl rfl ?_|refine QS rfl rfl ?_))|(refine Qq ?_;(first|refine Wi 0 (WG l hl _ _ _ (by omega) (by omega)) rfl rfl rfl rfl ?_|refine Wi 0 (hE1) rfl rfl rfl rfl ?_|refine Wi 0 (hB1) rfl rfl rfl rfl ?_|refine Wi 0 (hB2) rfl rfl rfl rfl ?_))|refine Wr rfl rfl ?_|(refine Wl ?_;(first|refine WR rfl rfl rfl rfl ?_|refine Q7 rfl rfl rfl rfl (by rfl) (by rfl) (by rfl) ?_))|refine ZS (y := w1) (z := w2) rfl rfl (by decide) ?_|refine Qd rfl rfl ?_|refine QQ rfl rfl ?_|refine QA rfl rfl ?_|refine QC (fun _ _ => ?_)))|(refine Qk ?_;(first|refine Qi ?_|refine QN rfl ?_|refine Q5 ?_|refine WD rfl rfl rfl rfl ?_|refine Q6 rfl rfl (by omega) ?_))|(refine Qj ?_;(first|refine Qn ?_|refine Qc ?_|refine Qf ?_|refine Qx ?_|refine Qp rfl (by omega) ?_|refine Qm rfl (by omega) ?_|refine Qs ?_)))
   refine e_1 (Tryz.results79) (QH (size := 4) rfl rfl rfl rfl) ?_
   rw [QW]
   exact c_ce (by first|rfl|(simp [QR, Ws];try rfl)) rfl
 ·obtain ⟨hqv1, hE1⟩ := hE2x (a + 1) (L - 1) ⟨by omega, by omega, by omega, by omega⟩
  obtain ⟨fv1, dv1, sv1, wv1, mv1, uv1⟩ := hqv1
  generalize E2 (a + 1) (L - 1) = tv1 at *
  obtain ⟨v1, b1, M1⟩ := tv1
  dsimp only at *
  have spv1 := Wh v1
  obtain ⟨hqw1, hB1⟩ := hBk (b1) (M1) ⟨by omega, by omega, by omega, by omega⟩
  obtain ⟨fw1, dw1, sw1, ww1, mw1, uw1⟩ := hqw1
  generalize Bk (b1) (M1) = tw1 at *
  obtain ⟨w1, c1, K1⟩ := tw1
  dsimp only at *
  have spw1 := Wh w1
  clear hE2x hE1x hS hBk ih
  refine ⟨(w1, c1, K1), ⟨fit_block fw1, by dsimp only;omega, by dsimp only;omega, by dsimp only;omega, by dsimp only;omega, by dsimp only;omega⟩, fun g B hg => ?_⟩
  refine Qa Tryz.func79 rfl Tryz.ntmps79 rfl (t := [(0, .ptr 0 g 0), (1, .i dd)]) rfl fun E0 hE0 => ?_
  (repeat' first|(refine Qe ?_;(first|refine QG rfl ?_|refine QJ rfl ?_|refine Qb rfl rfl rfl ?_|(refine Qo ?_;(first|refine Zz rfl rfl (by omega) ?_|refine Zp rfl rfl ?_|refine QS rfl rfl ?_))|(refine Qq ?_;(first|refine Wi 0 (WG l hl _ _ _ (by omega) (by omega)) rfl rfl rfl rfl ?_|refine Wi 0 (hE1) rfl rfl rfl rfl ?_|refine Wi 0 (hB1) rfl rfl rfl rfl ?_))|refine Wr rfl rfl ?_|(refine Wl ?_;(first|refine WR rfl rfl rfl rfl ?_|refine Q7 rfl rfl rfl rfl (by rfl) (by rfl) (by rfl) ?_))|refine Qd rfl rfl ?_|refine QA rfl rfl ?_|refine QC (fun _ _ => ?_)))|(refine Qk ?_;(first|refine Qi ?_|refine QN rfl ?_|refine Q5 ?_|refine WD rfl rfl rfl rfl ?_|refine Q6 rfl rfl (by omega) ?_))|(refine Qj ?_;(first|refine Qn ?_|refine Qc ?_|refine Qf ?_|refine Qx ?_|refine Qm rfl (by omega) ?_|refine Qs ?_)))
  exact e_1 (Tryz.results79) (QH (size := 4) rfl rfl (partD_nd0 _) (Enc.len _)) (c_ce rfl rfl)
def kindV (l : List Int) (a : Int) : Nd × Int :=
 if atI l a 4 = 0 then (.mk 1 0 0 [], a + 1) else if atI l a 4 = 1 then (.mk 2 (1 + atI l (a + 1) 4) 0 [], a + 1 + 1)
 else if atI l a 4 = 2 then (.mk 3 0 0 [.mk (atI l (a + 1) 2) 0 0 [], .mk (atI l (a + 1 + 1) 2) 0 0 []], a + 1 + 1 + 1) else (.mk 0 0 0 [], a + 1)
theorem fit_plain {k : Int} (h : k = 0 \/ k = 1) {w : Int} (hw : w = 2 \/ w = 3) : WA (.mk k 0 0 []) w = true := by
 rcases h with rfl|rfl <;> rcases hw with rfl|rfl <;> decide
theorem kind_ok (l : List Int) (a : Int) : WA (kindV l a).1 2 = true /\ Ww (kindV l a).1 <= 2 /\ Qu (kindV l a).1 <= 3 /\ a + 1 <= (kindV l a).2 /\ (kindV l a).2 <= a + 3 := by
 have b4 := Q9 l (a + 1) (most := 4) (by decide)
 have bA := Q9 l (a + 1) (most := 2) (by decide)
 have bB := Q9 l (a + 1 + 1) (most := 2) (by decide)
 unfold kindV
 repeat' split
 ·refine ⟨fit_plain (.inr rfl) (.inl rfl), ?_, ?_, ?_, ?_⟩
  ·simp [Ww, Wx]
  ·simp [Qu, QT]
  ·dsimp only;omega
  ·dsimp only;omega
 ·refine ⟨Zk ⟨2, 1, 4, 0, [], 0, 0, 0⟩ rfl (by decide) (by decide) (by dsimp only;omega) (by decide) (by simp) kids0, ?_, ?_, ?_, ?_⟩
  ·simp [Ww, Wx]
  ·simp [Qu, QT]
  ·dsimp only;omega
  ·dsimp only;omega
 ·refine ⟨Zk ⟨2, 0, 0, 0, [], 3, 1, 3⟩ rfl (by decide) (by decide) (by decide) (by decide) (by simp) (kidsA rfl ?_), ?_, ?_, ?_, ?_⟩
  ·intro x hx
   simp only [List.mem_cons, List.not_mem_nil, or_false] at hx
   rcases hx with rfl|rfl
   ·exact fit_plain (by omega) (.inr rfl)
   ·exact fit_plain (by omega) (.inr rfl)
  ·simp [Ww, Wx]
  ·simp [Qu, QT]
  ·dsimp only;omega
  ·dsimp only;omega
 ·refine ⟨fit_plain (.inl rfl) (.inl rfl), ?_, ?_, ?_, ?_⟩
  ·simp [Ww, Wx]
  ·simp [Qu, QT]
  ·dsimp only;omega
  ·dsimp only;omega
theorem kind_c (l : List Int) (hl : OkI l) (a L : Int) (ha : 0 <= a /\ a <= 1000000000) : CE Tryz.prog G 36 (fun p g => [.ptr p g 0]) (genC l a L) (.agg (Enc.enc (kindV l a).1)) (genC l (kindV l a).2 L) := fun g B hg => by
 have bx := Q9 l a (most := 4) (by decide)
 have b4 := Q9 l (a + 1) (most := 4) (by decide)
 unfold kindV
 have hx : atI l a 4 = 0 \/ atI l a 4 = 1 \/ atI l a 4 = 2 \/ atI l a 4 = 3 := by omega
 rcases hx with hx|hx|hx|hx
 ·rw [if_pos hx]
  refine Qa Tryz.func36 rfl Tryz.ntmps36 rfl (t := [(0, .ptr 0 g 0)]) rfl fun E0 hE0 => ?_
  (repeat' first|(refine Qe ?_;(first|refine QG rfl ?_|refine QJ rfl ?_|refine QS rfl rfl ?_|refine Wi 0 (WG l hl _ _ _ (by omega) (by omega)) rfl rfl rfl rfl ?_|refine WR rfl rfl rfl rfl ?_|refine QQ rfl rfl ?_|refine QC (fun _ _ => ?_)))|(refine Qk ?_;(first|refine Qi ?_|refine QN rfl ?_|refine Q5 ?_))|(refine Qj ?_;(first|refine Qn ?_|refine Qc ?_|refine Qf ?_|refine Qp rfl (by omega) ?_|refine Qs ?_)))
  exact e_1 (Tryz.results36) (QH (size := 4) rfl rfl rfl rfl) (W5 (es := 4) (.node rfl rfl rfl) (by show _ = DV.agg (Enc.enc (Nd.mk _ _ _ []));rw [QW];rfl) rfl)
 ·rw [if_neg (by omega), if_pos hx]
  refine Qa Tryz.func36 rfl Tryz.ntmps36 rfl (t := [(0, .ptr 0 g 0)]) rfl fun E0 hE0 => ?_
  (repeat' first|(refine Qe ?_;(first|refine QG rfl ?_|refine QJ rfl ?_|(refine Qo ?_;(first|refine QS rfl rfl ?_|refine W3 rfl rfl (by omega) ?_))|refine Wi 0 (WG l hl _ _ _ (by omega) (by omega)) rfl rfl rfl rfl ?_|refine WR rfl rfl rfl rfl ?_|refine QQ rfl rfl ?_|refine QC (fun _ _ => ?_)))|(refine Qk ?_;(first|refine Qi ?_|refine QN rfl ?_|refine Q5 ?_))|(refine Qj ?_;(first|refine Qn ?_|refine Qc ?_|refine Qf ?_|refine Qp rfl (by omega) ?_|refine Qm rfl (by omega) ?_|refine Qs ?_)))
  exact e_1 (Tryz.results36) (QH (size := 4) rfl rfl rfl rfl) (W5 (es := 4) (.node rfl rfl rfl) (by show _ = DV.agg (Enc.enc (Nd.mk _ _ _ []));rw [QW];rfl) rfl)
 ·rw [if_neg (by omega), if_neg (by omega), if_pos hx]
  have hnumA := WG (G := G) l hl (a + 1) L 2 (by omega) (by decide)
  have hnumB := WG (G := G) l hl (a + 1 + 1) L 2 (by omega) (by decide)
  generalize atI l (a + 1) 2 = tyA at *
  generalize atI l (a + 1 + 1) 2 = tyB at *
  refine Qa Tryz.func36 rfl Tryz.ntmps36 rfl (t := [(0, .ptr 0 g 0)]) rfl fun E0 hE0 => ?_
  (repeat' first|(refine Qe ?_;(first|refine QG rfl ?_|refine QJ rfl ?_|refine QS rfl rfl ?_|(refine Qq ?_;(first|refine Wi 0 (hnumA) rfl rfl rfl rfl ?_|refine Wi 0 (hnumB) rfl rfl rfl rfl ?_|refine Wi 0 (WG l hl _ _ _ (by omega) (by omega)) rfl rfl rfl rfl ?_))|refine WR rfl rfl rfl rfl ?_|(refine g_build ?_;(first|refine s_build_nd (k := tyA) (n := 0) (mm := 0) rfl rfl ?_|refine s_build_nd (k := tyB) (n := 0) (mm := 0) rfl rfl ?_|refine QQ rfl rfl ?_))|refine ZS (y := Nd.mk tyA 0 0 []) (z := Nd.mk tyB 0 0 []) rfl rfl (by decide) ?_|refine QC (fun _ _ => ?_)))|(refine Qk ?_;(first|refine Qi ?_|refine QN rfl ?_|refine Q5 ?_))|(refine Qj ?_;(first|refine Qn ?_|refine Qc ?_|refine Qf ?_|refine Qp rfl (by omega) ?_|refine Qm rfl (by omega) ?_|refine Qs ?_)))
  refine e_1 (Tryz.results36) (QH (size := 4) rfl rfl rfl rfl) ?_
  rw [QW]
  exact c_ce (by first|rfl|(simp [QR, Ws];try rfl)) rfl
 ·rw [if_neg (by omega), if_neg (by omega), if_neg (by omega)]
  refine Qa Tryz.func36 rfl Tryz.ntmps36 rfl (t := [(0, .ptr 0 g 0)]) rfl fun E0 hE0 => ?_
  (repeat' first|(refine Qe ?_;(first|refine QG rfl ?_|refine QJ rfl ?_|refine QS rfl rfl ?_|refine Wi 0 (WG l hl _ _ _ (by omega) (by omega)) rfl rfl rfl rfl ?_|refine WR rfl rfl rfl rfl ?_|refine QQ rfl rfl ?_|refine QC (fun _ _ => ?_)))|(refine Qk ?_;(first|refine Qi ?_|refine QN rfl ?_|refine Q5 ?_))|(refine Qj ?_;(first|refine Qn ?_|refine Qc ?_|refine Qf ?_|refine Qx ?_|refine Qm rfl (by omega) ?_|refine Qs ?_)))
  exact e_1 (Tryz.results36) (QH (size := 4) rfl rfl rfl rfl) (W5 (es := 4) (.node rfl rfl rfl) (by show _ = DV.agg (Enc.enc (Nd.mk _ _ _ []));rw [QW];rfl) rfl)
end Go.Proofs
end
section
namespace Go.Proofs
open Go.Av Go.Bl
def tys0 (l : List Int) (a : Int) (k : Nat) : List Nd := (List.range k).map fun j => .mk (atI l (a + (j : Nat)) 2) 0 0 []
theorem tys0_succ (l : List Int) (a : Int) (k : Nat) : tys0 l a (k + 1) = tys0 l a k ++ [.mk (atI l (a + (k : Nat)) 2) 0 0 []] := by
 unfold tys0;rw [List.range_succ, List.map_append];rfl
theorem tys0_len (l : List Int) (a : Int) (k : Nat) : (tys0 l a k).length = k := by unfold tys0;simp
theorem tys0_mem {l : List Int} {a : Int} {k : Nat} {x : Nd} (h : x ∈ tys0 l a k) : ∃ t, (t = 0 \/ t = 1) /\ x = .mk t 0 0 [] := by
 unfold tys0 at h
 obtain ⟨j, _, rfl⟩ := List.mem_map.1 h
 have := Q9 l (a + (j : Nat)) (most := 2) (by decide)
 exact ⟨_, by omega, rfl⟩
def kindG (l : List Int) : GenF := fun a L => ((kindV l a).1, (kindV l a).2, L)
theorem kinds_ok (l : List Int) : ∀ (n : Nat) (a L : Int), (∀ x ∈ (runM (kindG l) n a L).1, WA x 2 = true /\ Ww x <= 2) /\ QT (runM (kindG l) n a L).1 <= 3 * n /\ a <= (runM (kindG l) n a L).2.1 /\ (runM (kindG l) n a L).2.1 <= a + 3 * n /\ (runM (kindG l) n a L).2.2 = L
 | 0, a, L => by
  rw [runM]
  exact ⟨fun x hx => (by cases hx), by simp [QT], by simp, by simp, rfl⟩
 | n + 1, a, L => by
  rw [runM]
  obtain ⟨k1, k2, k3, k4, k5⟩ := kind_ok l a
  have ih := kinds_ok l n (kindG l a L).2.1 (kindG l a L).2.2
  obtain ⟨i1, i2, i3, i4, i5⟩ := ih
  have e : (kindG l a L).2.1 = (kindV l a).2 := rfl
  refine ⟨fun x hx => ?_, ?_, ?_, ?_, ?_⟩
  ·rcases List.mem_cons.1 hx with rfl|hx
   ·exact ⟨k1, k2⟩
   ·exact i1 x hx
  ·rw [QT]
   have : Qu (kindG l a L).1 <= 3 := k3
   omega
  ·(try dsimp only);omega
  ·(try dsimp only);omega
  ·exact i5
def funT0 (l : List Int) (a : Int) : List Nd × Int × Int := runM (kindG l) (atI l (a + 1 + (atI l a 4).toNat) 3).toNat (a + 1 + (atI l a 4).toNat + 1) 40
def funG (l : List Int) (Bk : GenF) : GenF := fun a _ =>
 (.mk 26 (atI l a 4) 0 (tys0 l (a + 1) (atI l a 4).toNat ++ (funT0 l a).1 ++ [(Bk (funT0 l a).2.1 40).1]), (Bk (funT0 l a).2.1 40).2.1, (Bk (funT0 l a).2.1 40).2.2)
theorem fit_fun {n m : Int} {tl : List Nd} {b : Nd} (hn : 0 <= n /\ n <= 3) (hm : m = 0) (hl : n <= (tl.length : Int) /\ tl.length <= 6) (hb : WA b 6 = true) (ht : ∀ i (h : i < tl.length), WA tl[i] (if (i : Int) < n then 3 else 2) = true) : WA (.mk 26 n m (tl ++ [b])) 1 = true := by
 subst hm
 rw [WA, if_pos (by decide), if_pos rfl, fitsF_eq]
 have h0 : isB (shapesL.getD (26 : Int).toNat noSh) 1 = true := by decide
 have h1 : rngB (shapesL.getD (26 : Int).toNat noSh) n 0 = true := by
  show rngB ⟨1, 0, 3, 0, [], 0, 0, 0⟩ n 0 = true
  unfold rngB;simp [hn]
 rw [h0, h1, Bool.true_and, Bool.true_and]
 unfold funB
 have e0 : ((tl ++ [b]).map WA).length = tl.length + 1 := by simp
 rw [e0]
 have e1 : ((tl ++ [b]).map WA).getD (tl.length + 1 - 1) noF = WA b := by
  rw [qo (tl ++ [b]) WA (by simp)]
  congr 1
  simp
 rw [e1, hb]
 have e2 : decide (n <= ((tl.length + 1 : Nat) : Int) - 1) = true := by simp;omega
 have e3 : decide (((tl.length + 1 : Nat) : Int) - 1 <= 6) = true := by simp;omega
 rw [e2, e3]
 simp only [Bool.true_and, Bool.and_true]
 rw [allI_iff]
 intro i hi
 have hi2 : i < tl.length := by omega
 rw [qo (tl ++ [b]) WA (by simp;omega)]
 rw [List.getElem_append_left hi2]
 exact ht i hi2
structure QF (f : Nd) (a a' : Int) : Prop where
 fit : WA f 1 = true
 dep : Ww f <= 14
 size : Qu f <= 72
 mono : a <= a'
 used : a' <= a + 300
theorem sizeL_plain {ks : List Nd} (h : ∀ x ∈ ks, ∃ t, (t = 0 \/ t = 1) /\ x = Nd.mk t 0 0 []) : QT ks = ks.length /\ ∀ x ∈ ks, Ww x <= 2 := by
 induction ks with
 | nil => exact ⟨rfl, fun x hx => by cases hx⟩
 | cons y r ih =>
  obtain ⟨t, _, rfl⟩ := h y (by simp)
  obtain ⟨i1, i2⟩ := ih fun x hx => h x (by simp [hx])
  refine ⟨by rw [QT, i1, Qu, QT, List.length_cons];omega, fun x hx => ?_⟩
  rcases List.mem_cons.1 hx with rfl|hx
  ·simp [Ww, Wx]
  ·exact i2 x hx
theorem fun_q (l : List Int) (Bk : GenF) (hB : ∀ a L, preB a L -> QE 6 13 1 11 (Bk a L).1 a L (Bk a L).2.1 (Bk a L).2.2) (a L : Int) (ha : 0 <= a /\ a <= 100000) : QF (funG l Bk a L).1 a (funG l Bk a L).2.1 /\ preB (funT0 l a).2.1 40 := by
 have b4 := Q9 l a (most := 4) (by decide)
 have b3 := Q9 l (a + 1 + (atI l a 4).toNat) (most := 3) (by decide)
 have hk := kinds_ok l (atI l (a + 1 + (atI l a 4).toNat) 3).toNat (a + 1 + (atI l a 4).toNat + 1) 40
 have hkl := runM_len (kindG l) (atI l (a + 1 + (atI l a 4).toNat) 3).toNat (a + 1 + (atI l a 4).toNat + 1) 40
 have hF : funT0 l a = runM (kindG l) (atI l (a + 1 + (atI l a 4).toNat) 3).toNat (a + 1 + (atI l a 4).toNat + 1) 40 := rfl
 rw [<- hF] at hk hkl
 obtain ⟨k1, k2, k3, k4, k5⟩ := hk
 have hpre : preB (funT0 l a).2.1 40 := ⟨by omega, by omega, by omega, by omega⟩
 refine ⟨?_, hpre⟩
 obtain ⟨q1, q2, q3, q4, q5, q6⟩ := hB _ _ hpre
 unfold funG
 dsimp only
 generalize hT : funT0 l a = T at *
 generalize Bk T.2.1 40 = e at *
 obtain ⟨b, c, K⟩ := e
 dsimp only at *
 have hs := Wh b
 have ht0 := fun x => tys0_mem (l := l) (a := a + 1) (k := (atI l a 4).toNat) (x := x)
 obtain ⟨p1, p2⟩ := sizeL_plain ht0
 have htl := tys0_len l (a + 1) (atI l a 4).toNat
 generalize tys0 l (a + 1) (atI l a 4).toNat = t0 at *
 refine ⟨fit_fun (by omega) rfl (by rw [List.length_append];omega) q1 (fun i hi => ?_), ?_, ?_, ?_, ?_⟩
 ·by_cases h0 : i < t0.length
  ·rw [List.getElem_append_left h0, if_pos (by omega)]
   obtain ⟨t, ht, hx⟩ := ht0 _ (List.getElem_mem h0)
   rw [hx]
   exact fit_plain ht (.inr rfl)
  ·rw [List.getElem_append_right (by omega), if_neg (by omega)]
   exact (k1 _ (List.getElem_mem _)).1
 ·rw [Ww, depthL_app, depthL_app, qG]
  have h1 := depthL_le p2
  have h2 : Wx T.1 <= 2 := depthL_le fun x hx => (k1 x hx).2
  omega
 ·rw [Qu, ZY, ZY, sizeL1]
  omega
 ·omega
 ·omega
theorem funs_q (l : List Int) (Bk : GenF) (hB : ∀ a L, preB a L -> QE 6 13 1 11 (Bk a L).1 a L (Bk a L).2.1 (Bk a L).2.2) : ∀ (n : Nat) (a L : Int), 0 <= a -> a + 300 * n <= 100000 -> (∀ x ∈ (runM (funG l Bk) n a L).1, WA x 1 = true /\ Ww x <= 14) /\ QT (runM (funG l Bk) n a L).1 <= 72 * n
 | 0, a, L, _, _ => by
  rw [runM]
  exact ⟨fun x hx => (by cases hx), by simp [QT]⟩
 | n + 1, a, L, ha, hb => by
  rw [runM]
  obtain ⟨⟨q1, q2, q3, q4, q5⟩, _⟩ := fun_q l Bk hB a L ⟨ha, by omega⟩
  obtain ⟨i1, i2⟩ := funs_q l Bk hB n (funG l Bk a L).2.1 (funG l Bk a L).2.2 (by omega) (by omega)
  refine ⟨fun x hx => ?_, ?_⟩
  ·rcases List.mem_cons.1 hx with rfl|hx
   ·exact ⟨q1, q2⟩
   ·exact i1 x hx
  ·rw [QT];omega
theorem prog_valid {n : Int} {fs : List Nd} (hn : 0 <= n /\ n <= 3) (hl : 1 <= fs.length /\ fs.length <= 6) (hf : ∀ x ∈ fs, WA x 1 = true /\ Ww x <= 15) (hs : QT fs <= 255) : validM (.mk 27 n 0 fs) = true := by
 have h1 : WA (.mk 27 n 0 fs) 0 = true := Zk ⟨0, 0, 3, 0, [], 6, 1, 1⟩ rfl (by decide) (by decide) (by dsimp only;omega) (by decide) (by dsimp only;simp;omega) (kidsA rfl fun x hx => (hf x hx).1)
 have h2 : Qu (.mk 27 n 0 fs) <= 256 := by rw [Qu];omega
 have h3 : Ww (.mk 27 n 0 fs) <= 16 := by
  rw [Ww]
  have : Wx fs <= 15 := depthL_le fun x hx => (hf x hx).2
  omega
 unfold validM
 rw [h1, decide_eq_true h2, decide_eq_true h3];rfl
def sampleV (l : List Int) (Bk : GenF) : Nd := .mk 27 (atI l 0 4) 0 (runM (funG l Bk) (1 + atI l 1 3).toNat 2 0).1
theorem sample_ok (l : List Int) (Bk : GenF) (hB : ∀ a L, preB a L -> QE 6 13 1 11 (Bk a L).1 a L (Bk a L).2.1 (Bk a L).2.2) : validM (sampleV l Bk) = true := by
 have b4 := Q9 l 0 (most := 4) (by decide)
 have b3 := Q9 l 1 (most := 3) (by decide)
 obtain ⟨h1, h2⟩ := funs_q l Bk hB (1 + atI l 1 3).toNat 2 0 (by decide) (by omega)
 have h3 := runM_len (funG l Bk) (1 + atI l 1 3).toNat 2 0
 exact prog_valid (by omega) (by omega) (fun x hx => ⟨(h1 x hx).1, by have := (h1 x hx).2;omega⟩) (by omega)
end Go.Proofs
end
section
namespace Go.Proofs
open Go.Av
variable {G : Nat -> DV}
attribute [local irreducible] OpSem Zd Zx ZL ACalls qt AClose RV
open Go.Bl
section
variable {P : Program} {G : Nat -> DV} {E : AX} {n : Nat} {N : ASt -> Prop} {xs : List (Nat × (ASt -> Prop))} {R : ASt -> Prop}
theorem r_pubin_at {t : Fr} {σ σ1 σ' : List ABlk} {c : Code} (i m j : Nat) {gm k g len es len0 es0 : Nat} {cs ds : List DV} (hi : Go.Av.look t i = DV.ref k g 0 len0 es0) (hm : σ[m]? = some (.row gm cs)) (hj : cs[j]? = some (DV.ref k g 0 len es)) (hk : σ[k]? = some (.row g ds)) (hl : len * es = ds.length)
  (hσ1 : setA σ k .gone = some σ1) (hσ' : setA σ1 m (.row gm (cs.set j (.sl es ds))) = some σ') (kk : Zd P G E n c N xs R ⟨t, σ'⟩) (hne : m ≠ k := by decide) : Zd P G E n c N xs R ⟨t, σ⟩ := r_pubin m j hm hj hk hl hσ1 hσ' kk hne
end
theorem sample_c (l : List Int) (hl : OkI l) : ∃ v, validM v = true /\ (∃ n ks, v = .mk 27 n 0 ks) /\ Go.Av.Pure Tryz.prog G 10 [QR l] (.agg (Enc.enc v)) := by
 obtain ⟨S, hS⟩ := chStmt (G := G) l hl 4 (by decide)
 obtain ⟨Bk, hBk⟩ := chBlock (G := G) l hl 4 (by decide) S hS
 have hB1 : ∀ a L, preB a L -> QE 6 13 1 11 (Bk a L).1 a L (Bk a L).2.1 (Bk a L).2.2 := fun a L h => (hBk a L h).1
 have hB2 : ∀ a L, preB a L -> CE Tryz.prog G 37 (fun p g => [.ptr p g 0, .i 4]) (genC l a L) (.agg (Enc.enc (Bk a L).1)) (genC l (Bk a L).2.1 (Bk a L).2.2) := fun a L h => (hBk a L h).2
 have hv := sample_ok l Bk hB1
 clear hBk hS
 refine ⟨sampleV l Bk, hv, ⟨_, _, rfl⟩, fun B => ?_⟩
 clear hv
 unfold sampleV
 have b4 := Q9 l 0 (most := 4) (by decide)
 have b3 := Q9 l 1 (most := 3) (by decide)
 have hn0 : atI l (0 + 1) 3 = atI l 1 3 := rfl
 obtain ⟨Nf, hNf⟩ : ∃ Nf : Nat, 1 + atI l 1 3 = (Nf : Int) := ⟨(1 + atI l 1 3).toNat, by omega⟩
 rw [hNf, show ((Nf : Int)).toNat = Nf by omega, QW]
 generalize hT : runM (funG l Bk) Nf 2 0 = T at *
 refine Qa Tryz.func10 rfl Tryz.ntmps10 rfl (t := [(0, QR l)]) rfl fun E0 hE0 => ?_
 have hnumA := trivial
 have hkd := trivial
 have hblk := trivial
 have hfe := trivial
 (repeat' first|(refine Qe ?_;(first|refine QG rfl ?_|refine QJ rfl ?_|refine W3 rfl rfl (by omega) ?_|refine Wi 1 (WG l hl _ _ _ (by omega) (by omega)) rfl rfl rfl rfl ?_|refine WR rfl rfl rfl rfl ?_|refine QQ rfl rfl ?_|refine QC (fun _ _ => ?_)|refine QU rfl rfl (fun _ _ => ?_)))|(refine Qk ?_;(first|refine Qi ?_|refine QN rfl ?_|refine Q5 ?_))|(refine Qj ?_;(first|refine Qn ?_|refine Qc ?_|refine Qf ?_)))
 rename_i g2 hg2 gc hgc gp hgp
 refine r_ownin 2 3 4 rfl rfl (fun _ => rfl) (fun gk hgk => ?_)
 refine r_loop5 (fun (i : Nat) (o : List Nd) (a Lc : Int) (gg : Nat) => ⟨[(2, .ptr 0 g2 0), (3, .ptr 1 gc 0), (4, .ptr 2 gp 0), (5, .i (1 + atI l (0 + 1) 3)), (6, .i i)], [.row g2 [.i 0, .i 0, .i 0, .nil], .row gc (genC l a Lc), .row gp [.i 27, .i (atI l 0 4), .i 0, .ref 3 gg 0 o.length 4], .row gg (Ws o)]⟩) (fun i o a Lc gg => i <= Nf /\ o.length <= i /\ E0.N < gg /\ o ++ (runM (funG l Bk) (Nf - i) a Lc).1 = T.1 /\ 0 <= a /\ a + 300 * (Nf - i : Int) <= 100000) (fun i _ _ _ _ => Nf - i) 0 [] 2 0 gk ?_ ⟨by omega, by simp, hgk, by rw [Nat.sub_zero, hT];rfl, by omega, by omega⟩ ?_
 ·exact zal rfl
 intro i o a Lc gg ⟨hi, hol, hgg, h1, m1, m2⟩
 generalize hn00 : atI l 0 4 = n0 at *
 by_cases hiN : i < Nf
 ·rw [show Nf - i = (Nf - (i + 1)) + 1 by omega, runM] at h1
  obtain ⟨⟨_, _, _, u1, u2⟩, hpre⟩ := fun_q l Bk hB1 a Lc ⟨m1, by omega⟩
  have hblk := hB2 _ _ hpre
  generalize hf : funG l Bk a Lc = F at *
  unfold funG at hf
  have c4 := Q9 l a (most := 4) (by decide)
  obtain ⟨m, hm⟩ : ∃ m : Nat, atI l a 4 = (m : Int) := ⟨(atI l a 4).toNat, by omega⟩
  have hnumA := WG (G := G) l hl a 40 4 (by omega) (by decide)
  rw [hm] at hnumA hf
  unfold funT0 at hf hblk
  rw [hm] at hf hblk
  rw [show ((m : Int)).toNat = m by omega] at hf hblk
  have c3 := Q9 l (a + 1 + m) (most := 3) (by decide)
  obtain ⟨K, hK⟩ : ∃ K : Nat, atI l (a + 1 + m) 3 = (K : Int) := ⟨(atI l (a + 1 + m) 3).toNat, by omega⟩
  have hK3 : (K : Int) < 3 := by omega
  have hm3 : (m : Int) < 4 := by omega
  rw [hK] at hf hblk
  rw [show ((K : Int)).toNat = K by omega] at hf hblk
  have hko := kinds_ok l K (a + 1 + m + 1) 40
  generalize hT2 : runM (kindG l) K (a + 1 + m + 1) 40 = T2 at *
  obtain ⟨ks2, a2, l2⟩ := T2
  dsimp only at *
  generalize hv1 : Bk a2 40 = v at *
  obtain ⟨v1, b1, M1⟩ := v
  dsimp only at *
  clear hB2
  have hfe := trivial
  (repeat' first|(refine Qe ?_;(first|refine QG rfl ?_|refine QJ rfl ?_|refine Q1 rfl rfl ?_|refine Wi 1 (hnumA) rfl rfl rfl rfl ?_|(refine Wl ?_;(first|refine WR rfl rfl rfl rfl ?_|refine Q7 rfl rfl rfl rfl (by rfl) (by rfl) (by rfl) ?_))|refine QQ rfl rfl ?_|refine Qd rfl rfl ?_|refine QA rfl rfl ?_|refine QC (fun _ _ => ?_)))|(refine Qk ?_;(first|refine Qi ?_|refine QN rfl ?_|refine Q5 ?_))|(refine Qj ?_;(first|refine Qn ?_|refine Qc ?_|refine Qf ?_|refine Qx ?_|refine Qp rfl (by omega) ?_)))
  rename_i g7 hg7
  refine r_ownin 4 3 4 rfl rfl (fun _ => rfl) (fun gk2 hgk2 => ?_)
  refine r_loop5 (fun (k : Nat) (ks : List Nd) (b : Int) (_ : Unit) (gh : Nat) => ⟨[(2, .ptr 0 g2 0), (3, .ptr 1 gc 0), (4, .ptr 2 gp 0), (5, .i (1 + atI l (0 + 1) 3)), (6, .i i), (7, .ptr 4 g7 0), (8, .i k)], [.row g2 [.i 0, .i 0, .i 0, .nil], .row gc (genC l b 40), .row gp [.i 27, .i n0, .i 0, .ref 3 gg 0 o.length 4], .row gg (Ws o), .row g7 [.i 26, .i (m : Nat), .i 0, .ref 5 gh 0 ks.length 4], .row gh (Ws ks)]⟩) (fun k ks b _ gh => k <= m /\ E0.N < gh /\ ks = tys0 l (a + 1) k /\ b = a + 1 + (k : Nat)) (fun k _ _ _ _ => m - k) 0 [] (a + 1) () gk2 ?_ ⟨by omega, hgk2, rfl, by omega⟩ ?_
  ·exact zal rfl
  intro k ks b _ gh ⟨hk, hgh, hks, hb⟩
  by_cases hkm : k < m
  ·have bt := Q9 l b (most := 2) (by decide)
   have hnumA := WG (G := G) l hl b 40 2 (by omega) (by decide)
   have hkl : ks.length = k := by rw [hks];exact tys0_len l (a + 1) k
   have hks2 := tys0_succ l (a + 1) k
   rw [<- hks, <- hb] at hks2
   generalize hty : atI l b 2 = ty0 at *
   have hkd := trivial
   have hblk := trivial
   (repeat' first|(refine Qe ?_;(first|refine QG rfl ?_|refine QJ rfl ?_|refine Qb rfl rfl rfl ?_|(refine Qo ?_;(first|refine Q1 rfl rfl ?_|refine W3 rfl rfl (by omega) ?_))|(refine Qq ?_;(first|refine ZD (z := (Nd.mk ty0 0 0 [])) rfl rfl rfl rfl rfl rfl rfl (by first|omega|(simp;omega)) (by first|omega|(simp;omega)) (fun _ => rfl) (fun _ _ => ?_)|refine Wi 1 (hnumA) rfl rfl rfl rfl ?_))|refine Q7 rfl rfl rfl rfl (by rfl) (by rfl) (by rfl) ?_|refine Qd rfl rfl ?_))|(refine Qk ?_;(first|refine Qi ?_|refine QN rfl ?_))|(refine Qj ?_;(first|refine Qn ?_|refine Qc ?_|refine Qf ?_|(refine Wg ?_;first|(refine QB (fun p => .row g2 [.i 0, .i 0, .i 0, .nil] :: p.1 :: .row gp [.i 27, .i n0, .i 0, .ref 3 gg 0 o.length 4] :: .row gg (Ws o) :: .row g7 [.i 26, .i (m : Nat), .i 0, .ref 5 gh 0 ks.length 4] :: p.2) 7 [(0, true), (1, true), (2, true), (3, false), (4, true), (5, false), (6, true), (7, false)] (by rfl) (by rfl) (by kernel_rfl) (by decide +kernel) (by decide +kernel) ⟨(_, _), rfl⟩ ?_)|(refine QB (fun p => .row g2 [.i 0, .i 0, .i 0, .nil] :: p.1 :: .row gp [.i 27, .i n0, .i 0, .ref 3 gg 0 o.length 4] :: .row gg (Ws o) :: .row g7 [.i 26, .i (m : Nat), .i 0, .ref 5 gh 0 ks.length 4] :: p.2) 8 [(0, true), (1, true), (2, true), (3, false), (4, true), (5, true), (6, false), (7, true), (8, false)] (by rfl) (by rfl) (by kernel_rfl) (by decide +kernel) (by decide +kernel) ⟨(_, _), rfl⟩ ?_)|refine Q3 (by rfl) (by kernel_rfl) (by kernel_rfl) ?_|refine Q2 (by kernel_rfl) (by kernel_rfl) ?_)|refine Qx ?_|refine Qp rfl (by omega) ?_))|(refine Ze ?_;(first|refine Z1 ?_|refine i_z0 ?_|refine i_st rfl rfl (fun _ => (by (repeat' first|(refine Qe ?_;(first|refine QG rfl ?_|refine Qb rfl rfl rfl ?_|refine s_build_nd (k := ty0) (n := 0) (mm := 0) rfl rfl ?_|refine Wc (z := Nd.mk ty0 0 0 []) rfl rfl (by decide) ?_|refine Qd rfl rfl ?_))|exact ⟨rfl, rfl⟩))) ?_|refine i_ef rfl ?_))|refine And.intro (Exists.intro ((_, _)) rfl) ?_)
   refine ⟨k + 1, ks ++ [.mk ty0 0 0 []], b + 1, (), _, ⟨by omega, by assumption, hks2.symm, by omega⟩, by omega, ?_⟩
   exact zal rfl
  ·have hkm2 : m = k := by omega
   have hkl : ks.length = k := by rw [hks];exact tys0_len l (a + 1) k
   subst hkm2
   rw [<- hb] at hK
   have hnumA := WG (G := G) l hl b 40 3 (by omega) (by decide)
   rw [hK] at hnumA
   have hblkS := hblk
   have hblk := trivial
   have hkd := trivial
   (repeat' first|(refine Qe ?_;(first|refine QG rfl ?_|refine QJ rfl ?_|refine Qb rfl rfl rfl ?_|refine Q1 rfl rfl ?_|refine Wi 1 (hnumA) rfl rfl rfl rfl ?_|refine Qd rfl rfl ?_))|(refine Qk ?_;(first|refine Qi ?_|refine QN rfl ?_))|(refine Qj ?_;(first|refine Qn ?_|refine Qc ?_|refine Qf ?_|refine Qm rfl (by omega) ?_|refine WI rfl ?_)))
   clear hnumA
   refine r_loop5 (fun (j : Nat) (ks : List Nd) (b : Int) (_ : Unit) (gh : Nat) => ⟨[(2, .ptr 0 g2 0), (3, .ptr 1 gc 0), (4, .ptr 2 gp 0), (5, .i (1 + atI l (0 + 1) 3)), (6, .i i), (7, .ptr 4 g7 0), (9, .i K), (10, .i j)], [.row g2 [.i 0, .i 0, .i 0, .nil], .row gc (genC l b 40), .row gp [.i 27, .i n0, .i 0, .ref 3 gg 0 o.length 4], .row gg (Ws o), .row g7 [.i 26, .i (m : Nat), .i 0, .ref 5 gh 0 ks.length 4], .row gh (Ws ks)]⟩) (fun j ks b _ gh => j <= K /\ ks.length <= 4 + j /\ E0.N < gh /\ ks ++ (runM (kindG l) (K - j) b 40).1 = tys0 l (a + 1) m ++ ks2 /\ (runM (kindG l) (K - j) b 40).2.1 = a2 /\ 0 <= b /\ b + 3 * (K - j : Int) <= 200000) (fun j _ _ _ _ => K - j) 0 ks (b + 1) () gh ?_ ⟨by omega, by omega, hgh, by rw [Nat.sub_zero, hb, hT2, hks], by rw [Nat.sub_zero, hb, hT2], by omega, by omega⟩ ?_
   ·exact zal rfl
   intro j ks b _ gh ⟨hj, hkl, hgh, h3, h4, n1, n2⟩
   by_cases hjK : j < K
   ·rw [show K - j = (K - (j + 1)) + 1 by omega, runM] at h3 h4
    have hkd := kind_c (G := G) l hl b 40 (by omega)
    obtain ⟨_, _, _, w1, w2⟩ := kind_ok l b
    unfold kindG at h3 h4
    dsimp only at h3 h4
    generalize kindV l b = w at *
    obtain ⟨v1, c1⟩ := w
    dsimp only at *
    have hnumA := trivial
    clear hblkS
    (repeat' first|(refine Qe ?_;(first|refine QG rfl ?_|refine QJ rfl ?_|(refine Qo ?_;(first|refine Q1 rfl rfl ?_|refine W3 rfl rfl (by omega) ?_))|(refine Qq ?_;(first|refine ZD (z := v1) rfl rfl rfl rfl rfl rfl rfl (by first|omega|(simp;omega)) (by first|omega|(simp;omega)) (fun _ => rfl) (fun _ _ => ?_)|refine Wi 1 (hkd) rfl rfl rfl rfl ?_))|refine Q7 rfl rfl rfl rfl (by rfl) (by rfl) (by rfl) ?_))|(refine Qk ?_;(first|refine Qi ?_|refine QN rfl ?_))|(refine Qj ?_;(first|refine Qn ?_|refine Qc ?_|refine Qf ?_|(refine Wg ?_;first|(refine QB (fun p => .row g2 [.i 0, .i 0, .i 0, .nil] :: p.1 :: .row gp [.i 27, .i n0, .i 0, .ref 3 gg 0 o.length 4] :: .row gg (Ws o) :: .row g7 [.i 26, .i (m : Nat), .i 0, .ref 5 gh 0 ks.length 4] :: p.2) 7 [(0, true), (1, true), (2, true), (3, false), (4, true), (5, false), (6, true), (7, false)] (by rfl) (by rfl) (by kernel_rfl) (by decide +kernel) (by decide +kernel) ⟨(_, _), rfl⟩ ?_)|(refine QB (fun p => .row g2 [.i 0, .i 0, .i 0, .nil] :: p.1 :: .row gp [.i 27, .i n0, .i 0, .ref 3 gg 0 o.length 4] :: .row gg (Ws o) :: .row g7 [.i 26, .i (m : Nat), .i 0, .ref 5 gh 0 ks.length 4] :: p.2) 8 [(0, true), (1, true), (2, true), (3, false), (4, true), (5, true), (6, false), (7, true), (8, false)] (by rfl) (by rfl) (by kernel_rfl) (by decide +kernel) (by decide +kernel) ⟨(_, _), rfl⟩ ?_)|refine Q3 (by rfl) (by kernel_rfl) (by kernel_rfl) ?_|refine Q2 (by kernel_rfl) (by kernel_rfl) ?_)|refine Qx ?_|refine Qp rfl (by omega) ?_))|(refine Ze ?_;(first|refine Z1 ?_|refine i_z0 ?_|refine i_st rfl rfl (fun _ => (by (repeat' first|(refine Qe ?_;(first|refine QG rfl ?_|refine Qb rfl rfl rfl ?_|refine Wc (z := v1) rfl rfl (by decide) ?_|refine Qd rfl rfl ?_))|exact ⟨rfl, rfl⟩))) ?_|refine i_ef rfl ?_))|refine And.intro (Exists.intro ((_, _)) rfl) ?_)
    refine ⟨j + 1, ks ++ [v1], c1, (), _, ⟨by omega, by simp;omega, by assumption, by rw [List.append_assoc];exact h3, h4, by omega, by omega⟩, by omega, ?_⟩
    exact zal rfl
   ·have hje : K - j = 0 := by omega
    rw [hje, runM] at h3 h4
    dsimp only at h3 h4
    rw [List.append_nil] at h3
    subst h4
    have hblk := hblkS
    have hnumA := trivial
    have hkd := trivial
    obtain ⟨fN, hfN⟩ : ∃ fN, fN = Nd.mk 26 (m : Nat) 0 (ks ++ [v1]) := ⟨_, rfl⟩
    have hfe : Enc.enc fN = [.i 26, .i (m : Nat), .i 0, QR (ks ++ [v1])] := by rw [hfN, QW]
    rw [<- h3, <- hfN] at hf
    subst hf
    dsimp only at *
    (repeat' first|(refine Qe ?_;(first|refine QG rfl ?_|refine QJ rfl ?_|(refine Qz ?_;(first|refine WF rfl rfl ?_|refine Qb rfl rfl rfl ?_))|(refine Qo ?_;(first|refine Q1 rfl rfl ?_|refine W3 rfl rfl (by omega) ?_))|(refine Qq ?_;(first|refine ZD (z := v1) rfl rfl rfl rfl rfl rfl rfl (by first|omega|(simp;omega)) (by first|omega|(simp;omega)) (fun _ => rfl) (fun _ _ => ?_)|refine ZD (z := fN) rfl rfl rfl rfl rfl rfl rfl (by first|omega|(simp;omega)) (by first|omega|(simp;omega)) (fun _ => rfl) (fun _ _ => ?_)|refine Wi 1 (hblk) rfl rfl rfl rfl ?_))|refine Q7 rfl rfl rfl rfl (by rfl) (by rfl) (by rfl) ?_|refine Wc (z := fN) rfl (by rw [hfe];rfl) (by decide) ?_|refine Qd rfl rfl ?_))|(refine Qk ?_;(first|refine Qi ?_|refine QN rfl ?_|refine Q5 ?_))|(refine Qj ?_;(first|refine r_pubin_at 64 4 3 rfl rfl rfl rfl (by first|exact (QX _).symm|rfl) rfl rfl ?_|refine Qn ?_|refine Qc ?_|(refine Wg ?_;first|(refine QB (fun p => .row g2 [.i 0, .i 0, .i 0, .nil] :: p.1 :: .row gp [.i 27, .i n0, .i 0, .ref 3 gg 0 o.length 4] :: .row gg (Ws o) :: .row g7 [.i 26, .i (m : Nat), .i 0, .ref 5 gh 0 ks.length 4] :: p.2) 7 [(0, true), (1, true), (2, true), (3, false), (4, true), (5, false), (6, true), (7, false)] (by rfl) (by rfl) (by kernel_rfl) (by decide +kernel) (by decide +kernel) ⟨(_, _), rfl⟩ ?_)|(refine QB (fun p => .row g2 [.i 0, .i 0, .i 0, .nil] :: p.1 :: .row gp [.i 27, .i n0, .i 0, .ref 3 gg 0 o.length 4] :: .row gg (Ws o) :: .row g7 [.i 26, .i (m : Nat), .i 0, .ref 5 gh 0 ks.length 4] :: p.2) 8 [(0, true), (1, true), (2, true), (3, false), (4, true), (5, true), (6, false), (7, true), (8, false)] (by rfl) (by rfl) (by kernel_rfl) (by decide +kernel) (by decide +kernel) ⟨(_, _), rfl⟩ ?_)|refine Q3 (by rfl) (by kernel_rfl) (by kernel_rfl) ?_|refine Q2 (by kernel_rfl) (by kernel_rfl) ?_)|refine Qm rfl (by omega) ?_|refine WI rfl ?_))|(refine Ze ?_;(first|refine Z1 ?_|refine i_z0 ?_|refine i_st rfl rfl (fun _ => (by (repeat' first|(refine Qe ?_;(first|refine QG rfl ?_|refine Qb rfl rfl rfl ?_|refine Wc (z := v1) rfl rfl (by decide) ?_|refine Qd rfl rfl ?_))|exact ⟨rfl, rfl⟩))) ?_|refine i_ef rfl ?_))|refine And.intro (Exists.intro ((_, _)) rfl) ?_)
    refine ⟨i + 1, o ++ [fN], b1, M1, _, ⟨by omega, by simp;omega, by assumption, by rw [List.append_assoc];exact h1, by omega, by omega⟩, by omega, ?_⟩
    exact zal rfl
 ·have hie : Nf - i = 0 := by omega
  rw [hie, runM] at h1
  dsimp only at h1
  rw [List.append_nil] at h1
  rw [<- h1]
  have hnumA := trivial
  have hkd := trivial
  have hblk := trivial
  have hfe := trivial
  clear hB2
  refine r_pubin 2 3 rfl rfl rfl (QX _).symm rfl rfl ?_
  (repeat' first|(refine Qe ?_;(first|refine QG rfl ?_|refine WF rfl rfl ?_|refine Q1 rfl rfl ?_|refine WR rfl rfl rfl rfl ?_))|(refine Qk ?_;(first|refine Qi ?_|refine QN rfl ?_|refine Q5 ?_))|(refine Qj ?_;(first|refine Qn ?_|refine Qc ?_|refine Qm rfl (by omega) ?_|refine WI rfl ?_|refine Qs ?_)))
  exact e_1 (Tryz.results10) (QH (size := 4) rfl rfl rfl rfl) (Qw rfl)
def frmN (v : Nd) (d : DV) : DV := match v with|.mk k n m _ => .agg [.i k, .i n, .i m, d]
def kidsN (v : Nd) : List Nd := match v with|.mk _ _ _ ks => ks
theorem frmN_ok (v : Nd) : FrmD (frmN v) := by cases v;exact .node rfl rfl rfl
theorem frmN_enc (v : Nd) : frmN v (.sl 4 (Ws (kidsN v))) = .agg (Enc.enc v) := by cases v;rw [QW];rfl
theorem variable_rc (L : ZK) (hL : OkL L) (E : Rd1) (r0 : Nat) (hE : ElC G 176 L E r0) (S : RS) (hr : rM L S <= r0 + 1) :
  CO Tryz.prog G 199 (fun p g => [.ptr p g 0]) (rdC L S) (frmN (WH L E S).1) (kidsN (WH L E S).1).length 4 (Ws (kidsN (WH L E S).1)) (rdC L (WH L E S).2) /\ rM L (WH L E S).2 <= rM L S := by
 have hnb := numbered_c (G := G) L S hL 118
 have hnl := rM_numbered L 118 S
 unfold WH
 generalize (Qr L 118 S).1 = v at *
 generalize (Qr L 118 S).2 = S1 at *
 unfold varTail
 by_cases h1 : Wb L S1 = [91]
 ·have hv1 := Z8 (G := G) L S1 hL [91] (by decide) h1
  have hrn := (WW h1 (by decide)).1
  obtain ⟨hE2, hle2⟩ := hE (Qy S1) (by omega)
  rw [if_pos h1]
  generalize (E (Qy S1)).1 = xE at *
  generalize (E (Qy S1)).2 = S2 at *
  have htk := take_c (G := G) L S2 hL [93] (by decide)
  have htl := rM_take (L := L) (S := S2) [93] (by decide)
  refine ⟨fun g B hg => ?_, by first|omega|(simp only;omega)⟩
  refine Qa Tryz.func199 rfl Tryz.ntmps199 rfl (t := [(0, .ptr 0 g 0)]) rfl fun E0 hE1 => ?_
  (repeat' first|(refine Qe ?_;(first|refine QG rfl ?_|refine QJ rfl ?_|refine WF rfl rfl ?_|(refine Qq ?_;(first|refine Wi 0 (hnb) rfl rfl rfl rfl ?_|refine Wi 0 (hv1) rfl rfl rfl rfl ?_|refine Wi 0 (htk) rfl rfl rfl rfl ?_|refine Wi 0 (hE2) rfl rfl rfl rfl ?_))|(refine Wl ?_;(first|refine WR rfl rfl rfl rfl ?_|refine Q7 rfl rfl rfl rfl (by rfl) (by rfl) (by rfl) ?_))|refine s_bslice_own1 (z := xE) rfl rfl rfl rfl (fun _ _ => ?_)|refine Qd rfl rfl ?_|refine QQ rfl rfl ?_|refine QC (fun _ _ => ?_)))|(refine Qk ?_;(first|refine Qi ?_|refine QN rfl ?_|refine Q5 ?_))|(refine Qj ?_;(first|refine Qn ?_|refine Qc ?_|refine Qf ?_|refine Qh rfl ?_|refine Qs ?_)))
  exact e_1 (Tryz.results199) (QH (size := 4) rfl rfl rfl rfl) (c_co (k := 3) (D2 := frmN (.mk 7 v 0 [xE])) (frmN_ok _) hE1 (by omega) rfl rfl rfl rfl rfl rfl)
 rw [if_neg h1]
 have hv1 := qc (G := G) L S1 hL [91] (by decide) h1
 by_cases h2 : Wb L S1 = [46]
 ·have hv2 := Z8 (G := G) L S1 hL [46] (by decide) h2
  have hrn := (WW h2 (by decide)).1
  rw [if_pos h2]
  have hnm := qK (G := G) L (Qy S1) hL
  have hnl2 := rM_numeral L (Qy S1)
  generalize (QK L (Qy S1)).1 = m at *
  generalize (QK L (Qy S1)).2 = S2 at *
  refine ⟨fun g B hg => ?_, by first|omega|(simp only;omega)⟩
  refine Qa Tryz.func199 rfl Tryz.ntmps199 rfl (t := [(0, .ptr 0 g 0)]) rfl fun E0 hE1 => ?_
  (repeat' first|(refine Qe ?_;(first|refine QG rfl ?_|refine QJ rfl ?_|refine WF rfl rfl ?_|(refine Qq ?_;(first|refine Wi 0 (hnb) rfl rfl rfl rfl ?_|refine Wi 0 (hv1) rfl rfl rfl rfl ?_|refine Wi 0 (hv2) rfl rfl rfl rfl ?_|refine Wi 0 (hnm) rfl rfl rfl rfl ?_))|(refine Wl ?_;(first|refine WR rfl rfl rfl rfl ?_|refine Q7 rfl rfl rfl rfl (by rfl) (by rfl) (by rfl) ?_))|refine Qd rfl rfl ?_|refine QQ rfl rfl ?_|refine QC (fun _ _ => ?_)))|(refine Qk ?_;(first|refine Qi ?_|refine QN rfl ?_|refine Q5 ?_))|(refine Qj ?_;(first|refine Qn ?_|refine Qc ?_|refine Qf ?_|refine Qh rfl ?_|refine Ql rfl ?_|refine Qs ?_)))
  exact e_1 (Tryz.results199) (QH (size := 4) rfl rfl rfl rfl) (c_co_nil (D2 := frmN (.mk 8 v m [])) (frmN_ok _) hE1 rfl rfl rfl rfl)
 ·rw [if_neg h2]
  have hv2 := qc (G := G) L S1 hL [46] (by decide) h2
  refine ⟨fun g B hg => ?_, by first|omega|(simp only;omega)⟩
  refine Qa Tryz.func199 rfl Tryz.ntmps199 rfl (t := [(0, .ptr 0 g 0)]) rfl fun E0 hE1 => ?_
  (repeat' first|(refine Qe ?_;(first|refine QG rfl ?_|refine QJ rfl ?_|refine WF rfl rfl ?_|(refine Qq ?_;(first|refine Wi 0 (hnb) rfl rfl rfl rfl ?_|refine Wi 0 (hv1) rfl rfl rfl rfl ?_|refine Wi 0 (hv2) rfl rfl rfl rfl ?_))|refine WR rfl rfl rfl rfl ?_|refine QQ rfl rfl ?_|refine QC (fun _ _ => ?_)))|(refine Qk ?_;(first|refine Qi ?_|refine QN rfl ?_|refine Q5 ?_))|(refine Qj ?_;(first|refine Qn ?_|refine Qc ?_|refine Qf ?_|refine Qx ?_|refine Ql rfl ?_|refine Qs ?_)))
  exact e_1 (Tryz.results199) (QH (size := 4) rfl rfl rfl rfl) (c_co_nil (D2 := frmN (.mk 6 v 0 [])) (frmN_ok _) hE1 rfl rfl rfl rfl)
theorem idxS_c (l : List Str) (s : List UInt8) (hl : l.length <= 4611686018427387904) : Go.Av.Pure Tryz.prog G 221 [QR l, WQ s] (.i (findP (fun x : Str => decide (s = x.l)) l)) := fun B => by
 refine Qa Tryz.func221 rfl Tryz.ntmps221 rfl (t := [(0, QR l), (1, WQ s)]) rfl fun E hE => ?_
 (repeat' first|(refine Qe ?_;(first|refine QG rfl ?_|refine QJ rfl ?_|refine Qt rfl ?_))|(refine Qk ?_;(first|refine Qi ?_|refine QN rfl ?_))|(refine Qj ?_;(first|refine Qn ?_|refine Qc ?_|refine Qf ?_)))
 refine qb (fun k : Nat => ⟨[(0, QR l), (1, WQ s), (7, .i l.length), (8, .i k)], []⟩) (fun k => k <= l.length /\ ∀ j (h : j < l.length), j < k -> decide (s = l[j].l) = false) (fun k => l.length - k) 0 ?_ ⟨by omega, fun j h hj => by omega⟩ ?_
 ·exact zal rfl
 intro k ⟨hk, hno⟩
 by_cases hkl : k < l.length
 ·by_cases hx : s = l[k].l
  ·have hd : decide (s = l[k].l) = true := decide_eq_true hx
   (repeat' first|(refine Qe ?_;(first|refine QG rfl ?_|refine QJ rfl ?_|refine QM rfl ?_|refine Qv rfl rfl (by first|assumption|omega|(simp;done)|(simp;omega)) ?_|(refine Qo ?_;(first|refine Q1 rfl rfl ?_|refine WN rfl rfl ?_))))|(refine Qk ?_;(first|refine Qi ?_|refine QN rfl ?_))|(refine Qj ?_;(first|refine Qn ?_|refine Qc ?_|refine Qf ?_|refine Qx ?_|refine Qp rfl (by omega) ?_|refine Qs ?_)))
   refine e_1 Tryz.results221 (Qg rfl) (Qw ?_)
   rw [findP_some (p := fun x : Str => decide (s = x.l)) hkl hd hno]
  ·have hd : decide (s = l[k].l) = false := decide_eq_false hx
   (repeat' first|(refine Qe ?_;(first|refine QG rfl ?_|refine QJ rfl ?_|refine QM rfl ?_|refine Qv rfl rfl (by first|assumption|omega|(simp;done)|(simp;omega)) ?_|(refine Qo ?_;(first|refine W3 rfl rfl (by omega) ?_|refine Q1 rfl rfl ?_|refine WN rfl rfl ?_))))|(refine Qk ?_;(first|refine Qi ?_|refine QN rfl ?_))|(refine Qj ?_;(first|refine Qn ?_|refine Qc ?_|refine Qf ?_|refine Qx ?_|refine Qp rfl (by omega) ?_|refine Qm rfl (by omega) ?_)))
   refine ⟨k + 1, ⟨hkl, fun j hj hjk => ?_⟩, by omega, ?_⟩
   ·rcases Nat.lt_or_ge j k with h'|h'
    ·exact hno j hj h'
    ·have : j = k := by omega
     subst this;exact hd
   ·exact zal rfl
 ·have hk' : k = l.length := by omega
  (repeat' first|(refine Qe ?_;(first|refine QJ rfl ?_|refine Q1 rfl rfl ?_))|(refine Qk ?_;(first|refine Qi ?_|refine QN rfl ?_))|(refine Qj ?_;(first|refine Qn ?_|refine Qc ?_|refine Qm rfl (by omega) ?_|refine WI rfl ?_|refine Qs ?_)))
  refine e_1 Tryz.results221 (Qg rfl) (Qw ?_)
  rw [findP_none (p := fun x : Str => decide (s = x.l)) fun j hj => hno j hj (by omega)]
theorem opIdx_eq (s : List UInt8) : findP (fun x : Str => decide (s = x.l)) (opTexts.map Str.mk) = qW s := by
 unfold findP qW
 rw [List.findIdx?_map]
 have : ((fun x : Str => decide (s = x.l)) ∘ Str.mk) = fun t => decide (t = s) := by
  funext t
  show decide (s = t) = decide (t = s)
  rw [Bool.eq_iff_iff];simp [eq_comm]
 rw [this]
 try (cases List.findIdx? (fun t => decide (t = s)) opTexts <;> rfl)
theorem opIdx_ne {s : List UInt8} (h : 0 <= qW s) : s ≠ [] /\ qW s < 14 := by
 constructor
 ·rintro rfl;revert h;decide
 ·unfold qW at h ⊢
  cases hf : opTexts.findIdx? (fun t => decide (t = s)) with
  | none => rw [hf] at h;simp at h
  | some i =>
   obtain ⟨hi, _⟩ := List.findIdx?_eq_some_iff_getElem.1 hf
   have : opTexts.length = 14 := rfl
   simp only;omega
theorem binary_rc (hG1 : G 1 = spaceT) (L : ZK) (hL : OkL L) (E : Rd1) (r0 : Nat) (hE : ElC G 176 L E r0) (S : RS) (hr : rM L S <= r0) :
  CE Tryz.prog G 200 (fun p g => [.ptr p g 0]) (rdC L S) (.agg (Enc.enc (qC L E S).1)) (rdC L (qC L E S).2) /\ rM L (qC L E S).2 <= rM L S := by
 obtain ⟨hEa, hla⟩ := hE S hr
 have hops := ops_c (G := G) hG1
 unfold qC
 generalize (E S).1 = a at *
 generalize (E S).2 = S1 at *
 have hnw := ql (G := G) L S1 hL
 have hix := idxS_c (G := G) (opTexts.map Str.mk) (Wb L S1) (by decide)
 rw [opIdx_eq] at hix
 have hfl := fail_c (G := G) L S1
 have hne := opIdx_ne (s := Wb L S1)
 by_cases ho : qW (Wb L S1) < 0
 ·rw [if_pos ho]
  refine ⟨fun g B hg => ?_, by simp only;rw [qz];omega⟩
  refine Qa Tryz.func200 rfl Tryz.ntmps200 rfl (t := [(0, .ptr 0 g 0)]) rfl fun E0 hE1 => ?_
  (repeat' first|(refine Qe ?_;(first|refine QG rfl ?_|refine QJ rfl ?_|refine Q1 rfl rfl ?_|(refine Qq ?_;(first|refine QZ rfl rfl (hops) ?_|refine QZ rfl rfl (hix) ?_|refine Wi 0 (hEa) rfl rfl rfl rfl ?_|refine Wi 0 (hnw) rfl rfl rfl rfl ?_|refine Wi 0 (hfl) rfl rfl rfl rfl ?_))|refine WR rfl rfl rfl rfl ?_|refine QQ rfl rfl ?_|refine QC (fun _ _ => ?_)))|(refine Qk ?_;(first|refine Qi ?_|refine QN rfl ?_|refine Q5 ?_))|(refine Qj ?_;(first|refine Qn ?_|refine Qc ?_|refine Qp rfl (by omega) ?_|refine Qs ?_)))
  exact e_1 (Tryz.results200) (QH (size := 4) rfl rfl rfl rfl) (W5 (es := 4) (.node rfl rfl rfl) (by show _ = DV.agg (Enc.enc (Nd.mk 0 0 0 []));rw [QW];rfl) rfl)
 ·rw [if_neg ho]
  obtain ⟨hn0, hn14⟩ := hne (by omega)
  obtain ⟨q1, q2, q3⟩ := now_at hn0
  have hrn := (WW (L := L) (S := S1) rfl hn0).1
  obtain ⟨hEb, hlb⟩ := hE (Qy S1) (by omega)
  generalize (E (Qy S1)).1 = b at *
  generalize (E (Qy S1)).2 = S2 at *
  have htk := take_c (G := G) L S2 hL [41] (by decide)
  have htl := rM_take (L := L) (S := S2) [41] (by decide)
  have hll := hL.1
  obtain ⟨p, bd⟩ := S1
  simp only at q1 q2
  subst q1
  have hat : (p : Int) + 1 = (p + 1 : Nat) := by omega
  generalize qW (Wb L ⟨p, false⟩) = io at *
  refine ⟨fun g B hg => ?_, by first|omega|(simp only;omega)⟩
  refine Qa Tryz.func200 rfl Tryz.ntmps200 rfl (t := [(0, .ptr 0 g 0)]) rfl fun E0 hE1 => ?_
  (repeat' first|(refine Qe ?_;(first|refine QG rfl ?_|refine QJ rfl ?_|(refine Qz ?_;(first|refine WF rfl rfl ?_|refine Qb rfl rfl rfl ?_))|(refine Qo ?_;(first|refine s_add_as (a := (p : Int)) (b := 1) rfl rfl hat ⟨by omega, by omega⟩ ?_|refine Q1 rfl rfl ?_))|(refine Qq ?_;(first|refine QZ rfl rfl (hops) ?_|refine QZ rfl rfl (hix) ?_|refine Wi 0 (hEa) rfl rfl rfl rfl ?_|refine Wi 0 (hnw) rfl rfl rfl rfl ?_|refine Wi 0 (hEb) rfl rfl rfl rfl ?_|refine Wi 0 (htk) rfl rfl rfl rfl ?_))|(refine Wl ?_;(first|refine WR rfl rfl rfl rfl ?_|refine Q7 rfl rfl rfl rfl (by rfl) (by rfl) (by rfl) ?_))|refine ZS (y := a) (z := b) rfl rfl (by decide) ?_|refine Qd rfl rfl ?_|refine QQ rfl rfl ?_|refine QA rfl rfl ?_|refine QC (fun _ _ => ?_)))|(refine Qk ?_;(first|refine Qi ?_|refine QN rfl ?_|refine Q5 ?_))|(refine Qj ?_;(first|refine Qn ?_|refine Qc ?_|refine Qx ?_|refine Qm rfl (by omega) ?_|refine Qs ?_)))
  refine e_1 (Tryz.results200) (QH (size := 4) rfl rfl rfl rfl) ?_
  rw [QW]
  exact c_ce rfl rfl
end Go.Proofs
end
section
namespace Go.Proofs
open Go.Av Go.Bl
section
variable {α β : Type} {i : Nat} {c : Prop}
def JT (i : Nat) (T T' : RS -> RS) : Prop := ∀ S, S.p <= (T S).p /\ (S.bad = true -> (T S).bad = true) /\ ((T S).p <= i -> T' S = T S)
def J (i : Nat) (c : Prop) (F F' : RS -> α × RS) : Prop := ∀ S, S.p <= (F S).2.p /\ (S.bad = true -> (F S).2.bad = true) /\ ((F S).2.p <= i -> (F' S).2 = (F S).2 /\ (c -> (F S).2.bad = false -> (F' S).1 = (F S).1))
theorem J.pre {T T' : RS -> RS} {F F' : RS -> α × RS} (hT : JT i T T') (h : J i c F F') : J i c (fun S => F (T S)) (fun S => F' (T' S)) := fun S => by
 obtain ⟨a1, a2, a3⟩ := hT S
 obtain ⟨b1, b2, b3⟩ := h (T S)
 refine ⟨Nat.le_trans a1 b1, fun hb => b2 (a2 hb), fun hp => ?_⟩
 show (F' (T' S)).2 = (F (T S)).2 /\ (c -> (F (T S)).2.bad = false -> (F' (T' S)).1 = (F (T S)).1)
 rw [a3 (Nat.le_trans b1 hp)]
 exact b3 hp
theorem J.bind {F F' : RS -> α × RS} {K K' : α -> RS -> β × RS} (h : J i c F F') (hk : ∀ a a', J i (c /\ a' = a) (K a) (K' a')) : J i c (fun S => K (F S).1 (F S).2) (fun S => K' (F' S).1 (F' S).2) := fun S => by
 obtain ⟨a1, a2, a3⟩ := h S
 obtain ⟨b1, b2, b3⟩ := hk (F S).1 (F' S).1 (F S).2
 refine ⟨Nat.le_trans a1 b1, fun hb => b2 (a2 hb), fun hp => ?_⟩
 obtain ⟨e1, e2⟩ := a3 (Nat.le_trans b1 hp)
 obtain ⟨f1, f2⟩ := b3 hp
 show (K' (F' S).1 (F' S).2).2 = (K (F S).1 (F S).2).2 /\ (c -> (K (F S).1 (F S).2).2.bad = false -> (K' (F' S).1 (F' S).2).1 = (K (F S).1 (F S).2).1)
 rw [e1]
 refine ⟨f1, fun hc hb => f2 ⟨hc, e2 hc ?_⟩ hb⟩
 cases hbb : (F S).2.bad with
 | false => rfl
 | true => rw [b2 hbb] at hb;cases hb
theorem J.ite {P P' : RS -> Prop} [DecidablePred P] [DecidablePred P'] {F F' H H' : RS -> α × RS} (hP : ∀ S, S.p <= i -> (P' S ↔ P S)) (h1 : J i c F F') (h2 : J i c H H') : J i c (fun S => if P S then F S else H S) (fun S => if P' S then F' S else H' S) := fun S => by
 obtain ⟨a1, a2, a3⟩ := h1 S
 obtain ⟨b1, b2, b3⟩ := h2 S
 by_cases hp : P S
 ·simp only [if_pos hp]
  refine ⟨a1, a2, fun h => ?_⟩
  rw [if_pos ((hP S (Nat.le_trans a1 h)).2 hp)]
  exact a3 h
 ·simp only [if_neg hp]
  refine ⟨b1, b2, fun h => ?_⟩
  rw [if_neg fun h' => hp ((hP S (Nat.le_trans b1 h)).1 h')]
  exact b3 h
theorem J.val {T T' : RS -> RS} {a a' : α} (hT : JT i T T') (h : c -> a' = a) : J i c (fun S => (a, T S)) (fun S => (a', T' S)) := fun S => by
 obtain ⟨a1, a2, a3⟩ := hT S
 exact ⟨a1, a2, fun hp => ⟨a3 hp, fun hc _ => h hc⟩⟩
theorem JT.id : JT i (fun S => S) (fun S => S) := fun S => ⟨Nat.le_refl _, fun h => h, fun _ => rfl⟩
theorem J.fail {F F' : RS -> α × RS} (h : ∀ S, S.p <= (F S).2.p /\ (F S).2.bad = true /\ ((F S).2.p <= i -> (F' S).2 = (F S).2)) : J i c F F' := fun S => by
 obtain ⟨a1, a2, a3⟩ := h S
 exact ⟨a1, fun _ => a2, fun hp => ⟨a3 hp, fun _ hb => by rw [a2] at hb;cases hb⟩⟩
theorem J.post {T T' : RS -> RS} {F F' : RS -> α × RS} (hT : JT i T T') (h : J i c F F') : J i c (fun S => ((F S).1, T (F S).2)) (fun S => ((F' S).1, T' (F' S).2)) :=
 h.bind (K := fun a S => (a, T S)) (K' := fun a S => (a, T' S)) fun a a' => J.val hT fun hc => hc.2
theorem J.map {F F' : RS -> α × RS} {u u' : α -> β} (h : J i c F F') (hu : ∀ a, c -> u' a = u a) : J i c (fun S => (u (F S).1, (F S).2)) (fun S => (u' (F' S).1, (F' S).2)) :=
 h.bind (K := fun a S => (u a, S)) (K' := fun a S => (u' a, S)) fun a a' => J.val JT.id fun hc => by rw [hc.2];exact hu a hc.1
theorem J.weak {c' : Prop} {F F' : RS -> α × RS} (h : J i c F F') (hc : c' -> c) : J i c' F F' := fun S => by
 obtain ⟨a1, a2, a3⟩ := h S
 exact ⟨a1, a2, fun hp => ⟨(a3 hp).1, fun h' => (a3 hp).2 (hc h')⟩⟩
end
structure Ag (L L' : ZK) (i : Nat) : Prop where
 tok : ∀ j, j <= i -> (L'.getD j ([], 0)).1 = (L.getD j ([], 0)).1
 len : ∀ j, j <= i -> (j < L'.length ↔ j < L.length)
theorem Ag.refl (L : ZK) (i : Nat) : Ag L L i := ⟨fun _ _ => rfl, fun _ _ => Iff.rfl⟩
section
variable {L L' : ZK} {i : Nat} {c : Prop} {z z' : Nd}
theorem Ag.now (h : Ag L L' i) {S : RS} (hp : S.p <= i) : Wb L' S = Wb L S := by unfold Wb;rw [h.tok _ hp]
theorem JT.next : JT i Qy Qy := fun S => ⟨Nat.le_succ _, fun h => h, fun _ => rfl⟩
theorem JT.fail : JT i W7 W7 := fun S => ⟨Nat.le_refl _, fun h => rfl, fun _ => rfl⟩
theorem JT.take (h : Ag L L' i) (s : List UInt8) : JT i (Wa L s) (Wa L' s) := fun S => by
 unfold Wa
 by_cases hn : Wb L S = s
 ·simp only [if_pos hn]
  refine ⟨Nat.le_succ _, fun h => h, fun hp => ?_⟩
  rw [h.now (Nat.le_trans (Nat.le_succ _) hp), if_pos hn]
 ·simp only [if_neg hn]
  refine ⟨Nat.le_refl _, fun h => rfl, fun hp => ?_⟩
  rw [h.now (S := S) hp, if_neg hn]
theorem J.numeral (h : Ag L L' i) : J i c (QK L) (QK L') := by
 refine J.ite (P := fun S => numB (Wb L S) = true) (P' := fun S => numB (Wb L' S) = true) (F := fun S => (valM (Wb L S), Qy S)) (F' := fun S => (valM (Wb L' S), Qy S)) (H := fun S => (0, W7 S)) (H' := fun S => (0, W7 S)) (fun S hp => by rw [h.now hp]) (fun S => ?_) (J.val JT.fail fun _ => rfl)
 refine ⟨Nat.le_succ _, fun h => h, fun hp => ⟨rfl, fun _ _ => ?_⟩⟩
 show valM (Wb L' S) = valM (Wb L S)
 rw [h.now (Nat.le_trans (Nat.le_succ _) hp)]
theorem Ag.is (h : Ag L L' i) {S : RS} (hp : S.p <= i) (x : UInt8) : isM L' x S = isM L x S := by unfold isM;rw [h.now hp]
theorem J.numbered (h : Ag L L' i) (x : UInt8) : J i c (Qr L x) (Qr L' x) := by
 refine J.ite (P := fun S => isM L x S = true) (P' := fun S => isM L' x S = true) (F := fun S => (valM ((Wb L S).drop 1), Qy S)) (F' := fun S => (valM ((Wb L' S).drop 1), Qy S)) (H := fun S => (0, W7 S)) (H' := fun S => (0, W7 S)) (fun S hp => by rw [h.is hp]) (fun S => ?_) (J.val JT.fail fun _ => rfl)
 refine ⟨Nat.le_succ _, fun h => h, fun hp => ⟨rfl, fun _ _ => ?_⟩⟩
 show valM ((Wb L' S).drop 1) = valM ((Wb L S).drop 1)
 rw [h.now (Nat.le_trans (Nat.le_succ _) hp)]
theorem Ag.nowIff (h : Ag L L' i) (s : List UInt8) : ∀ S : RS, S.p <= i -> (Wb L' S = s ↔ Wb L S = s) := fun S hp => by rw [h.now hp]
theorem J.loop (h : Ag L L' i) {E E' : Rd1} (hE : ∀ c, J i c E E') : ∀ (k : Nat) (c : Prop) (o o' : List Nd), (c -> o' = o) -> J i c (Wq L E k o) (Wq L' E' k o')
 | 0, c, o, o', ho => J.val (a := o) (a' := o') JT.id ho
 | k + 1, c, o, o', ho => by
  refine J.ite (P := fun S => Wb L S = [44]) (P' := fun S => Wb L' S = [44]) (F := fun S => Wq L E k (o ++ [(E (Qy S)).1]) (E (Qy S)).2) (F' := fun S => Wq L' E' k (o' ++ [(E' (Qy S)).1]) (E' (Qy S)).2) (H := fun S => (o, S)) (H' := fun S => (o', S)) (h.nowIff _) ?_ (J.val JT.id ho)
  refine J.pre (F := fun S => Wq L E k (o ++ [(E S).1]) (E S).2) (F' := fun S => Wq L' E' k (o' ++ [(E' S).1]) (E' S).2) JT.next ?_
  exact (hE c).bind (K := fun a S => Wq L E k (o ++ [a]) S) (K' := fun a S => Wq L' E' k (o' ++ [a]) S) fun a a' => J.loop h hE k _ _ _ fun hc => by rw [ho hc.1, hc.2]
theorem J.lst (h : Ag L L' i) {E E' : Rd1} (hE : ∀ c, J i c E E') (k : Nat) : J i c (Z0 L E k) (Z0 L' E' k) :=
 (hE c).bind (K := fun a S => ((Wq L E k [a] S).1, Wa L [41] (Wq L E k [a] S).2)) (K' := fun a S => ((Wq L' E' k [a] S).1, Wa L' [41] (Wq L' E' k [a] S).2)) fun a a' => J.post (JT.take h _) (J.loop h hE k _ _ _ fun hc => by rw [hc.2])
theorem J.arg (h : Ag L L' i) {E E' : Rd1} (hE : ∀ c, J i c E E') (k : Nat) : J i c (WZ L E k) (WZ L' E' k) := by
 refine J.pre (F := fun S => if Wb L S = [41] then ([], Qy S) else Z0 L E k S) (F' := fun S => if Wb L' S = [41] then ([], Qy S) else Z0 L' E' k S) (JT.take h [40]) ?_
 exact J.ite (P := fun S => Wb L S = [41]) (P' := fun S => Wb L' S = [41]) (F := fun S => ([], Qy S)) (F' := fun S => ([], Qy S)) (h.nowIff _) (J.val JT.next fun _ => rfl) (J.lst h hE k)
theorem J.vtail (h : Ag L L' i) {E E' : Rd1} (hE : ∀ c, J i c E E') (a a' : Int) : J i (c /\ a' = a) (varTail L E a) (varTail L' E' a') := by
 refine J.ite (P := fun S => Wb L S = [91]) (P' := fun S => Wb L' S = [91]) (F := fun S => (Nd.mk 7 a 0 [(E (Qy S)).1], Wa L [93] (E (Qy S)).2)) (F' := fun S => (Nd.mk 7 a' 0 [(E' (Qy S)).1], Wa L' [93] (E' (Qy S)).2)) (h.nowIff _) ?_ ?_
 ·refine J.pre (F := fun S => (Nd.mk 7 a 0 [(E S).1], Wa L [93] (E S).2)) (F' := fun S => (Nd.mk 7 a' 0 [(E' S).1], Wa L' [93] (E' S).2)) JT.next ?_
  exact (hE _).bind (K := fun x S => (Nd.mk 7 a 0 [x], Wa L [93] S)) (K' := fun x S => (Nd.mk 7 a' 0 [x], Wa L' [93] S)) fun x x' => J.val (JT.take h _) fun hc => by rw [hc.2, hc.1.2]
 ·refine J.ite (P := fun S => Wb L S = [46]) (P' := fun S => Wb L' S = [46]) (F := fun S => (Nd.mk 8 a (QK L (Qy S)).1 [], (QK L (Qy S)).2)) (F' := fun S => (Nd.mk 8 a' (QK L' (Qy S)).1 [], (QK L' (Qy S)).2)) (H := fun S => (Nd.mk 6 a 0 [], S)) (H' := fun S => (Nd.mk 6 a' 0 [], S)) (h.nowIff _) ?_ (J.val JT.id fun hc => by rw [hc.2])
  refine J.pre (F := fun S => (Nd.mk 8 a (QK L S).1 [], (QK L S).2)) (F' := fun S => (Nd.mk 8 a' (QK L' S).1 [], (QK L' S).2)) JT.next ?_
  exact (J.numeral h).map (u := fun x => Nd.mk 8 a x []) (u' := fun x => Nd.mk 8 a' x []) fun x hc => by rw [hc.2]
theorem J.variable (h : Ag L L' i) {E E' : Rd1} (hE : ∀ c, J i c E E') : J i c (WH L E) (WH L' E') :=
 (J.numbered h 118).bind (K := fun a S => varTail L E a S) (K' := fun a S => varTail L' E' a S) fun a a' => J.vtail h hE a a'
theorem J.binary (h : Ag L L' i) {E E' : Rd1} (hE : ∀ c, J i c E E') : J i c (qC L E) (qC L' E') := by
 refine (hE c).bind (K := fun a S => if qW (Wb L S) < 0 then (zNd, W7 S) else (Nd.mk 9 (qW (Wb L S)) 0 [a, (E (Qy S)).1], Wa L [41] (E (Qy S)).2)) (K' := fun a S => if qW (Wb L' S) < 0 then (zNd, W7 S) else (Nd.mk 9 (qW (Wb L' S)) 0 [a, (E' (Qy S)).1], Wa L' [41] (E' (Qy S)).2)) fun a a' => ?_
 refine J.ite (P := fun S => qW (Wb L S) < 0) (P' := fun S => qW (Wb L' S) < 0) (F := fun S => (zNd, W7 S)) (F' := fun S => (zNd, W7 S)) (fun S hp => by rw [h.now hp]) (J.val JT.fail fun _ => rfl) fun S => ?_
 have hb : ∀ c x x', (c -> x' = x) -> J i c (fun S => (Nd.mk 9 x 0 [a, (E S).1], Wa L [41] (E S).2)) (fun S => (Nd.mk 9 x' 0 [a', (E' S).1], Wa L' [41] (E' S).2)) -> True := fun _ _ _ _ _ => trivial
 have key : ∀ x, J i (c /\ a' = a) (fun S => (Nd.mk 9 x 0 [a, (E S).1], Wa L [41] (E S).2)) (fun S => (Nd.mk 9 x 0 [a', (E' S).1], Wa L' [41] (E' S).2)) := fun x =>
  (hE _).bind (K := fun y S => (Nd.mk 9 x 0 [a, y], Wa L [41] S)) (K' := fun y S => (Nd.mk 9 x 0 [a', y], Wa L' [41] S)) fun y y' => J.val (JT.take h _) fun hc => by rw [hc.2, hc.1.2]
 obtain ⟨a1, a2, a3⟩ := key (qW (Wb L S)) (Qy S)
 refine ⟨Nat.le_trans (Nat.le_succ _) a1, a2, fun hp => ?_⟩
 have := a3 hp
 show (Nd.mk 9 (qW (Wb L' S)) 0 [a', (E' (Qy S)).1], Wa L' [41] (E' (Qy S)).2).2 = _ /\ (_ -> _ -> (Nd.mk 9 (qW (Wb L' S)) 0 [a', (E' (Qy S)).1], Wa L' [41] (E' (Qy S)).2).1 = _)
 rw [h.now (Nat.le_trans (Nat.le_trans (Nat.le_succ _) a1) hp)]
 exact this
theorem J.node1 {E E' : Rd1} (k : Int) (hE : ∀ c, J i c E E') : J i c (fun S => (Nd.mk k 0 0 [(E S).1], (E S).2)) (fun S => (Nd.mk k 0 0 [(E' S).1], (E' S).2)) := (hE c).map (u := fun x => Nd.mk k 0 0 [x]) (u' := fun x => Nd.mk k 0 0 [x]) fun _ _ => rfl
theorem J.expr (h : Ag L L' i) : ∀ (n : Nat) (c : Prop), J i c (WP L z n) (WP L' z' n)
 | 0, c => J.val (a := zNd) (a' := zNd) JT.fail fun _ => rfl
 | n + 1, c => by
  have hE := J.expr h n
  refine J.ite (P := fun S => numB (Wb L S) = true) (P' := fun S => numB (Wb L' S) = true) (F := fun S => (Nd.mk 4 (QK L S).1 0 [], (QK L S).2)) (F' := fun S => (Nd.mk 4 (QK L' S).1 0 [], (QK L' S).2)) (fun S hp => by rw [h.now hp]) ((J.numeral h).map (u := fun x => Nd.mk 4 x 0 []) (u' := fun x => Nd.mk 4 x 0 []) fun _ _ => rfl) ?_
  refine J.ite (P := fun S => isM L 118 S = true) (P' := fun S => isM L' 118 S = true) (F := WH L (WP L z n)) (F' := WH L' (WP L' z' n)) (fun S hp => by rw [h.is hp]) (J.variable h hE) ?_
  refine J.ite (P := fun S => isM L 102 S = true) (P' := fun S => isM L' 102 S = true) (F := fun S => (Nd.mk 11 (Qr L 102 S).1 0 (WZ L (WP L z n) n (Qr L 102 S).2).1, (WZ L (WP L z n) n (Qr L 102 S).2).2)) (F' := fun S => (Nd.mk 11 (Qr L' 102 S).1 0 (WZ L' (WP L' z' n) n (Qr L' 102 S).2).1, (WZ L' (WP L' z' n) n (Qr L' 102 S).2).2)) (fun S hp => by rw [h.is hp]) ?_ ?_
  ·refine (J.numbered h 102).bind (K := fun a S => (Nd.mk 11 a 0 (WZ L (WP L z n) n S).1, (WZ L (WP L z n) n S).2)) (K' := fun a S => (Nd.mk 11 a 0 (WZ L' (WP L' z' n) n S).1, (WZ L' (WP L' z' n) n S).2)) fun a a' => ?_
   exact (J.arg h hE n).map (u := fun x => Nd.mk 11 a 0 x) (u' := fun x => Nd.mk 11 a' 0 x) fun x hc => by rw [hc.2]
  refine J.ite (P := fun S => Wb L S = [45]) (P' := fun S => Wb L' S = [45]) (F := fun S => if Wb L (Qy S) = [48] then (z, W7 (Qy S)) else (Nd.mk 4 (-(QK L (Qy S)).1) 0 [], (QK L (Qy S)).2)) (F' := fun S => if Wb L' (Qy S) = [48] then (z', W7 (Qy S)) else (Nd.mk 4 (-(QK L' (Qy S)).1) 0 [], (QK L' (Qy S)).2)) (h.nowIff _) ?_ ?_
  ·refine J.pre (F := fun S => if Wb L S = [48] then (z, W7 S) else (Nd.mk 4 (-(QK L S).1) 0 [], (QK L S).2)) (F' := fun S => if Wb L' S = [48] then (z', W7 S) else (Nd.mk 4 (-(QK L' S).1) 0 [], (QK L' S).2)) JT.next ?_
   refine J.ite (P := fun S => Wb L S = [48]) (P' := fun S => Wb L' S = [48]) (F := fun S => (z, W7 S)) (F' := fun S => (z', W7 S)) (h.nowIff _) (J.fail fun S => ⟨Nat.le_refl _, rfl, fun _ => rfl⟩) ?_
   exact (J.numeral h).map (u := fun x => Nd.mk 4 (-x) 0 []) (u' := fun x => Nd.mk 4 (-x) 0 []) fun _ _ => rfl
  refine J.ite (P := fun S => Wb L S = wTrue) (P' := fun S => Wb L' S = wTrue) (F := fun S => (Nd.mk 5 1 0 [], Qy S)) (F' := fun S => (Nd.mk 5 1 0 [], Qy S)) (h.nowIff _) (J.val JT.next fun _ => rfl) ?_
  refine J.ite (P := fun S => Wb L S = wFalse) (P' := fun S => Wb L' S = wFalse) (F := fun S => (Nd.mk 5 0 0 [], Qy S)) (F' := fun S => (Nd.mk 5 0 0 [], Qy S)) (h.nowIff _) (J.val JT.next fun _ => rfl) ?_
  refine J.ite (P := fun S => Wb L S = [40]) (P' := fun S => Wb L' S = [40]) (F := fun S => qC L (WP L z n) (Qy S)) (F' := fun S => qC L' (WP L' z' n) (Qy S)) (h.nowIff _) (J.pre JT.next (J.binary h hE)) ?_
  refine J.ite (P := fun S => Wb L S = [33]) (P' := fun S => Wb L' S = [33]) (F := fun S => (Nd.mk 10 0 0 [(WP L z n (Qy S)).1], (WP L z n (Qy S)).2)) (F' := fun S => (Nd.mk 10 0 0 [(WP L' z' n (Qy S)).1], (WP L' z' n (Qy S)).2)) (h.nowIff _) (J.pre (F := fun S => (Nd.mk 10 0 0 [(WP L z n S).1], (WP L z n S).2)) (F' := fun S => (Nd.mk 10 0 0 [(WP L' z' n S).1], (WP L' z' n S).2)) JT.next (J.node1 10 hE)) ?_
  refine J.ite (P := fun S => Wb L S = wRecv) (P' := fun S => Wb L' S = wRecv) (F := fun S => (Nd.mk 12 (Qr L 99 (Qy S)).1 0 [], (Qr L 99 (Qy S)).2)) (F' := fun S => (Nd.mk 12 (Qr L' 99 (Qy S)).1 0 [], (Qr L' 99 (Qy S)).2)) (H := fun S => (zNd, W7 S)) (H' := fun S => (zNd, W7 S)) (h.nowIff _) ?_ (J.val JT.fail fun _ => rfl)
  exact J.pre (F := fun S => (Nd.mk 12 (Qr L 99 S).1 0 [], (Qr L 99 S).2)) (F' := fun S => (Nd.mk 12 (Qr L' 99 S).1 0 [], (Qr L' 99 S).2)) JT.next ((J.numbered h 99).map (u := fun x => Nd.mk 12 x 0 []) (u' := fun x => Nd.mk 12 x 0 []) fun _ _ => rfl)
theorem J.typed (h : Ag L L' i) : ∀ (n : Nat) (c : Prop), J i c (WU L n) (WU L' n)
 | 0, c => J.val (a := zNd) (a' := zNd) JT.fail fun _ => rfl
 | n + 1, c => by
  have hE := J.typed h n
  refine J.ite (P := fun S => Wb L S = wInt) (P' := fun S => Wb L' S = wInt) (F := fun S => (Nd.mk 0 0 0 [], Qy S)) (F' := fun S => (Nd.mk 0 0 0 [], Qy S)) (h.nowIff _) (J.val JT.next fun _ => rfl) ?_
  refine J.ite (P := fun S => Wb L S = wBool) (P' := fun S => Wb L' S = wBool) (F := fun S => (Nd.mk 1 0 0 [], Qy S)) (F' := fun S => (Nd.mk 1 0 0 [], Qy S)) (h.nowIff _) (J.val JT.next fun _ => rfl) ?_
  refine J.ite (P := fun S => Wb L S = wArr) (P' := fun S => Wb L' S = wArr) (F := fun S => (Nd.mk 2 (QK L (Qy S)).1 0 [], (QK L (Qy S)).2)) (F' := fun S => (Nd.mk 2 (QK L' (Qy S)).1 0 [], (QK L' (Qy S)).2)) (h.nowIff _) ?_ ?_
  ·exact J.pre (F := fun S => (Nd.mk 2 (QK L S).1 0 [], (QK L S).2)) (F' := fun S => (Nd.mk 2 (QK L' S).1 0 [], (QK L' S).2)) JT.next ((J.numeral h).map (u := fun x => Nd.mk 2 x 0 []) (u' := fun x => Nd.mk 2 x 0 []) fun _ _ => rfl)
  refine J.ite (P := fun S => Wb L S = wRec) (P' := fun S => Wb L' S = wRec) (F := fun S => (Nd.mk 3 0 0 (Z0 L (WU L n) n (Wa L [40] (Qy S))).1, (Z0 L (WU L n) n (Wa L [40] (Qy S))).2)) (F' := fun S => (Nd.mk 3 0 0 (Z0 L' (WU L' n) n (Wa L' [40] (Qy S))).1, (Z0 L' (WU L' n) n (Wa L' [40] (Qy S))).2)) (H := fun S => (zNd, W7 S)) (H' := fun S => (zNd, W7 S)) (h.nowIff _) ?_ (J.val JT.fail fun _ => rfl)
  refine J.pre (F := fun S => (Nd.mk 3 0 0 (Z0 L (WU L n) n (Wa L [40] S)).1, (Z0 L (WU L n) n (Wa L [40] S)).2)) (F' := fun S => (Nd.mk 3 0 0 (Z0 L' (WU L' n) n (Wa L' [40] S)).1, (Z0 L' (WU L' n) n (Wa L' [40] S)).2)) JT.next ?_
  refine J.pre (F := fun S => (Nd.mk 3 0 0 (Z0 L (WU L n) n S).1, (Z0 L (WU L n) n S).2)) (F' := fun S => (Nd.mk 3 0 0 (Z0 L' (WU L' n) n S).1, (Z0 L' (WU L' n) n S).2)) (JT.take h [40]) ?_
  exact (J.lst h hE n).map (u := fun x => Nd.mk 3 0 0 x) (u' := fun x => Nd.mk 3 0 0 x) fun _ _ => rfl
theorem J.bloop (h : Ag L L' i) {E E' : Rd1} (hE : ∀ c, J i c E E') : ∀ (k : Nat) (c : Prop) (o o' : List Nd), (c -> o' = o) -> J i c (WK L E k o) (WK L' E' k o')
 | 0, c, o, o', ho => J.val (a := o) (a' := o') JT.id ho
 | k + 1, c, o, o', ho => by
  refine J.ite (P := fun S => S.bad = true) (P' := fun S => S.bad = true) (F := fun S => (o, S)) (F' := fun S => (o', S)) (fun _ _ => Iff.rfl) (J.val JT.id ho) ?_
  refine J.ite (P := fun S => Wb L S = [125]) (P' := fun S => Wb L' S = [125]) (F := fun S => (o, Qy S)) (F' := fun S => (o', Qy S)) (h.nowIff _) (J.val JT.next ho) ?_
  exact (hE c).bind (K := fun a S => WK L E k (o ++ [a]) S) (K' := fun a S => WK L' E' k (o' ++ [a]) S) fun a a' => J.bloop h hE k _ _ _ fun hc => by rw [ho hc.1, hc.2]
theorem J.block (h : Ag L L' i) {E E' : Rd1} (hE : ∀ c, J i c E E') (k : Nat) (c : Prop) : J i c (Wt L E k) (Wt L' E' k) := by
 refine J.pre (F := fun S => (Nd.mk 13 0 0 (WK L E k [] S).1, (WK L E k [] S).2)) (F' := fun S => (Nd.mk 13 0 0 (WK L' E' k [] S).1, (WK L' E' k [] S).2)) (JT.take h [123]) ?_
 exact (J.bloop h hE k c [] [] fun _ => rfl).map (u := fun x => Nd.mk 13 0 0 x) (u' := fun x => Nd.mk 13 0 0 x) fun _ _ => rfl
theorem J.atail (h : Ag L L' i) {E E' : Rd1} (hE : ∀ c, J i c E E') (a a' : Nd) : J i (c /\ a' = a) (fun S => (setM a (E (Wa L [61] S)).1, (E (Wa L [61] S)).2)) (fun S => (setM a' (E' (Wa L' [61] S)).1, (E' (Wa L' [61] S)).2)) := by
 refine J.pre (F := fun S => (setM a (E S).1, (E S).2)) (F' := fun S => (setM a' (E' S).1, (E' S).2)) (JT.take h [61]) ?_
 exact (hE _).map (u := fun x => setM a x) (u' := fun x => setM a' x) fun x hc => by rw [hc.2]
theorem J.assign (h : Ag L L' i) {E E' : Rd1} (hE : ∀ c, J i c E E') : J i c (qZ L E) (qZ L' E') :=
 (J.variable h hE).bind (K := fun a S => (setM a (E (Wa L [61] S)).1, (E (Wa L [61] S)).2)) (K' := fun a S => (setM a (E' (Wa L' [61] S)).1, (E' (Wa L' [61] S)).2)) fun a a' => J.atail h hE a a'
theorem J.one {E E' : Rd1} (hE : ∀ c, J i c E E') (k n n' : Int) (hn : c -> n' = n) : J i c (oneM E k n) (oneM E' k n') :=
 (hE c).map (u := fun x => Nd.mk k n 0 [x]) (u' := fun x => Nd.mk k n' 0 [x]) fun x hc => by rw [hn hc]
theorem J.iff (h : Ag L L' i) {E E' B B' : Rd1} (hE : ∀ c, J i c E E') (hB : ∀ c, J i c B B') : J i c (ifM L E B) (ifM L' E' B') := by
 refine (hE c).bind (K := fun x S => (Nd.mk 17 0 0 [x, (B S).1, (B (Wa L wElse (B S).2)).1], (B (Wa L wElse (B S).2)).2)) (K' := fun x S => (Nd.mk 17 0 0 [x, (B' S).1, (B' (Wa L' wElse (B' S).2)).1], (B' (Wa L' wElse (B' S).2)).2)) fun x x' => ?_
 refine (hB _).bind (K := fun y S => (Nd.mk 17 0 0 [x, y, (B (Wa L wElse S)).1], (B (Wa L wElse S)).2)) (K' := fun y S => (Nd.mk 17 0 0 [x', y, (B' (Wa L' wElse S)).1], (B' (Wa L' wElse S)).2)) fun y y' => ?_
 refine J.pre (F := fun S => (Nd.mk 17 0 0 [x, y, (B S).1], (B S).2)) (F' := fun S => (Nd.mk 17 0 0 [x', y', (B' S).1], (B' S).2)) (JT.take h wElse) ?_
 exact (hB _).map (u := fun w => Nd.mk 17 0 0 [x, y, w]) (u' := fun w => Nd.mk 17 0 0 [x', y', w]) fun w hc => by rw [hc.2, hc.1.2]
theorem J.whil {E E' B B' : Rd1} (hE : ∀ c, J i c E E') (hB : ∀ c, J i c B B') : J i c (whileM E B) (whileM E' B') := by
 refine (hE c).bind (K := fun x S => (Nd.mk 18 0 0 [x, (B S).1], (B S).2)) (K' := fun x S => (Nd.mk 18 0 0 [x, (B' S).1], (B' S).2)) fun x x' => ?_
 exact (hB _).map (u := fun w => Nd.mk 18 0 0 [x, w]) (u' := fun w => Nd.mk 18 0 0 [x', w]) fun w hc => by rw [hc.2]
theorem J.tri (h : Ag L L' i) {B B' : Rd1} (hB : ∀ c, J i c B B') : J i c (tryM L B) (tryM L' B') := by
 refine (hB c).bind (K := fun x S => (Nd.mk 21 (Qr L 118 (Wa L q7 S)).1 0 [x, (B (Qr L 118 (Wa L q7 S)).2).1], (B (Qr L 118 (Wa L q7 S)).2).2)) (K' := fun x S => (Nd.mk 21 (Qr L' 118 (Wa L' q7 S)).1 0 [x, (B' (Qr L' 118 (Wa L' q7 S)).2).1], (B' (Qr L' 118 (Wa L' q7 S)).2).2)) fun x x' => ?_
 refine J.pre (F := fun S => (Nd.mk 21 (Qr L 118 S).1 0 [x, (B (Qr L 118 S).2).1], (B (Qr L 118 S).2).2)) (F' := fun S => (Nd.mk 21 (Qr L' 118 S).1 0 [x', (B' (Qr L' 118 S).2).1], (B' (Qr L' 118 S).2).2)) (JT.take h q7) ?_
 refine (J.numbered h 118).bind (K := fun v S => (Nd.mk 21 v 0 [x, (B S).1], (B S).2)) (K' := fun v S => (Nd.mk 21 v 0 [x', (B' S).1], (B' S).2)) fun v v' => ?_
 exact (hB _).map (u := fun w => Nd.mk 21 v 0 [x, w]) (u' := fun w => Nd.mk 21 v' 0 [x', w]) fun w hc => by rw [hc.2, hc.1.2]
theorem J.stmt (h : Ag L L' i) {E E' : Rd1} (hE : ∀ c, J i c E E') (q : Nat) : ∀ (n : Nat) (c : Prop), J i c (WS L E q n) (WS L' E' q n)
 | 0, c => J.val (a := zNd) (a' := zNd) JT.fail fun _ => rfl
 | n + 1, c => by
  have hB : ∀ c, J i c (Wt L (WS L E q n) n) (Wt L' (WS L' E' q n) n) := fun c => J.block h (J.stmt h hE q n) n c
  refine J.ite (P := fun S => Wb L S = [123]) (P' := fun S => Wb L' S = [123]) (F := Wt L (WS L E q n) n) (F' := Wt L' (WS L' E' q n) n) (h.nowIff _) (hB c) ?_
  refine J.ite (P := fun S => isM L 118 S = true) (P' := fun S => isM L' 118 S = true) (F := qZ L E) (F' := qZ L' E') (fun S hp => by rw [h.is hp]) (J.assign h hE) ?_
  refine J.ite (P := fun S => Wb L S = wIf) (P' := fun S => Wb L' S = wIf) (F := fun S => ifM L E (Wt L (WS L E q n) n) (Qy S)) (F' := fun S => ifM L' E' (Wt L' (WS L' E' q n) n) (Qy S)) (h.nowIff _) (J.pre JT.next (J.iff h hE hB)) ?_
  refine J.ite (P := fun S => Wb L S = wWhile) (P' := fun S => Wb L' S = wWhile) (F := fun S => whileM E (Wt L (WS L E q n) n) (Qy S)) (F' := fun S => whileM E' (Wt L' (WS L' E' q n) n) (Qy S)) (h.nowIff _) (J.pre JT.next (J.whil hE hB)) ?_
  refine J.ite (P := fun S => Wb L S = wReturn) (P' := fun S => Wb L' S = wReturn) (F := fun S => oneM E 19 0 (Qy S)) (F' := fun S => oneM E' 19 0 (Qy S)) (h.nowIff _) (J.pre JT.next (J.one hE 19 0 0 fun _ => rfl)) ?_
  refine J.ite (P := fun S => Wb L S = wThrow) (P' := fun S => Wb L' S = wThrow) (F := fun S => oneM E 20 0 (Qy S)) (F' := fun S => oneM E' 20 0 (Qy S)) (h.nowIff _) (J.pre JT.next (J.one hE 20 0 0 fun _ => rfl)) ?_
  refine J.ite (P := fun S => Wb L S = wOut) (P' := fun S => Wb L' S = wOut) (F := fun S => oneM E 24 0 (Qy S)) (F' := fun S => oneM E' 24 0 (Qy S)) (h.nowIff _) (J.pre JT.next (J.one hE 24 0 0 fun _ => rfl)) ?_
  refine J.ite (P := fun S => Wb L S = wSkip) (P' := fun S => Wb L' S = wSkip) (F := fun S => (Nd.mk 25 0 0 [], Qy S)) (F' := fun S => (Nd.mk 25 0 0 [], Qy S)) (h.nowIff _) (J.val JT.next fun _ => rfl) ?_
  refine J.ite (P := fun S => Wb L S = wTry) (P' := fun S => Wb L' S = wTry) (F := fun S => tryM L (Wt L (WS L E q n) n) (Qy S)) (F' := fun S => tryM L' (Wt L' (WS L' E' q n) n) (Qy S)) (h.nowIff _) (J.pre JT.next (J.tri h hB)) ?_
  refine J.ite (P := fun S => Wb L S = wSend) (P' := fun S => Wb L' S = wSend) (F := fun S => oneM E 22 (Qr L 99 (Qy S)).1 (Qr L 99 (Qy S)).2) (F' := fun S => oneM E' 22 (Qr L' 99 (Qy S)).1 (Qr L' 99 (Qy S)).2) (h.nowIff _) ?_ ?_
  ·exact J.pre (F := fun S => oneM E 22 (Qr L 99 S).1 (Qr L 99 S).2) (F' := fun S => oneM E' 22 (Qr L' 99 S).1 (Qr L' 99 S).2) JT.next ((J.numbered h 99).bind (K := fun a S => oneM E 22 a S) (K' := fun a S => oneM E' 22 a S) fun a a' => J.one hE 22 a a' fun hc => hc.2)
  refine J.ite (P := fun S => Wb L S = wSpawn) (P' := fun S => Wb L' S = wSpawn) (F := fun S => (Nd.mk 23 (Qr L 102 (Qy S)).1 0 (WZ L E q (Qr L 102 (Qy S)).2).1, (WZ L E q (Qr L 102 (Qy S)).2).2)) (F' := fun S => (Nd.mk 23 (Qr L' 102 (Qy S)).1 0 (WZ L' E' q (Qr L' 102 (Qy S)).2).1, (WZ L' E' q (Qr L' 102 (Qy S)).2).2)) (H := fun S => (zNd, W7 S)) (H' := fun S => (zNd, W7 S)) (h.nowIff _) ?_ (J.val JT.fail fun _ => rfl)
  refine J.pre (F := fun S => (Nd.mk 23 (Qr L 102 S).1 0 (WZ L E q (Qr L 102 S).2).1, (WZ L E q (Qr L 102 S).2).2)) (F' := fun S => (Nd.mk 23 (Qr L' 102 S).1 0 (WZ L' E' q (Qr L' 102 S).2).1, (WZ L' E' q (Qr L' 102 S).2).2)) JT.next ?_
  refine (J.numbered h 102).bind (K := fun a S => (Nd.mk 23 a 0 (WZ L E q S).1, (WZ L E q S).2)) (K' := fun a S => (Nd.mk 23 a 0 (WZ L' E' q S).1, (WZ L' E' q S).2)) fun a a' => ?_
  exact (J.arg h hE q).map (u := fun x => Nd.mk 23 a 0 x) (u' := fun x => Nd.mk 23 a' 0 x) fun x hc => by rw [hc.2]
end
end Go.Proofs
end
section
namespace Go.Proofs
open Go.Av
variable {G : Nat -> DV}
attribute [local irreducible] OpSem Zd Zx ZL ACalls qt AClose RV
open Go.Bl
abbrev Lp3 {α β γ : Type} (I : α -> β -> γ -> ASt) (pre : α -> β -> γ -> Prop) (μ : α -> β -> γ -> Nat) (x : α) (y : β) (z : γ) (st' : ASt) : Prop := ∃ x' y' z', pre x' y' z' /\ μ x' y' z' < μ x y z /\ ALe st' (I x' y' z')
theorem r_loop3n {P : Program} {G : Nat -> DV} {E : AX} {n : Nat} {N : ASt -> Prop} {xs : List (Nat × (ASt -> Prop))} {R : ASt -> Prop} {st : ASt} {c : Code} {α β γ : Type} (I : α -> β -> γ -> ASt) (pre : α -> β -> γ -> Prop) (μ : α -> β -> γ -> Nat) (x0 : α) (y0 : β) (z0 : γ) (h0 : ALe st (I x0 y0 z0)) (hp0 : pre x0 y0 z0)
  (round : ∀ x y z, pre x y z -> Zd P G E n c (Lp3 I pre μ x y z) xs R (I x y z)) : Zd P G E n (.loop c) N xs R st := r_loop3 I pre μ x0 y0 z0 h0 hp0 round
def mM (L : ZK) (S : RS) : Nat := if S.bad = true then 0 else L.length - S.p + 1
theorem rm_mM (L : ZK) (S : RS) : rM L S <= mM L S /\ mM L S <= rM L S + 1 := by
 unfold rM mM;split <;> omega
def Eats (L : ZK) (T : Rd1) : Prop := ∀ S, S.bad = false -> mM L (T S).2 < mM L S
theorem mm_next {L : ZK} {S : RS} {s : List UInt8} (h : Wb L S = s) (hs : s ≠ []) : mM L (Qy S) < mM L S := by
 obtain ⟨h1, h2, h3⟩ := now_at (L := L) (S := S) (by rw [h];exact hs)
 unfold mM Qy
 rw [h1]
 simp;omega
theorem mm_fail {L : ZK} {S : RS} (h : S.bad = false) : mM L (W7 S) < mM L S := by
 unfold mM W7;rw [h];simp
theorem mm_take {L : ZK} {S : RS} (s : List UInt8) (hs : s ≠ []) : mM L (Wa L s S) <= rM L S /\ rM L (Wa L s S) <= rM L S - 1 := by
 unfold Wa
 split
 ·rename_i h
  obtain ⟨h1, h2, h3⟩ := now_at (L := L) (S := S) (by rw [h];exact hs)
  unfold mM rM Qy
  rw [h1]
  simp;omega
 ·unfold mM rM W7;simp
theorem bad_neg {S : RS} (h : S.bad = false) : badI S < 0 := by unfold badI;rw [h];simp
theorem bad_pos {S : RS} (h : S.bad = true) : 0 <= badI S := by unfold badI;rw [if_pos h];omega
theorem bloop_bad {L : ZK} {T : Rd1} {o : List Nd} {S : RS} (h : S.bad = true) : ∀ k, WK L T k o S = (o, S)
 | 0 => rfl
 | k + 1 => by rw [WK, if_pos h]
theorem block_rc (L : ZK) (hL : OkL L) (T : Rd1) (r0 k : Nat) (hT : ElC G 152 L T r0) (he : Eats L T) (S : RS) (hr : rM L S <= r0 + 1) (hk : rM L S + 1 <= k) :
  CE Tryz.prog G 111 (fun p g => [.ptr p g 0]) (rdC L S) (.agg (Enc.enc (Wt L T k S).1)) (rdC L (Wt L T k S).2) := fun g B hg => by
 have htk := take_c (G := G) L S hL [123] (by decide)
 have hle := mm_take (L := L) (S := S) [123] (by decide)
 have hle0 : rM L (Wa L [123] S) <= r0 := by omega
 unfold Wt
 generalize Wa L [123] S = S1 at *
 have hr1000 : rM L S <= 1000000 := by unfold rM;split <;> have := hL.1 <;> omega
 refine Qa Tryz.func111 rfl Tryz.ntmps111 rfl (t := [(0, .ptr 0 g 0)]) rfl fun E0 hE1 => ?_
 (repeat' first|(refine Qe ?_;(first|refine QG rfl ?_|refine Wi 0 (htk) rfl rfl rfl rfl ?_|refine WR rfl rfl rfl rfl ?_|refine QQ rfl rfl ?_|refine QC (fun _ _ => ?_)))|(refine Qk ?_;(first|refine Qi ?_|refine QN rfl ?_|refine Q5 ?_))|(refine Qj ?_;(first|refine Qn ?_|refine Qc ?_|refine Qf ?_)))
 rename_i g2 hg2 gn hgn
 refine r_ownin 2 3 4 rfl rfl (fun _ => rfl) (fun gk hgk => ?_)
 refine r_loop3n (fun (o : List Nd) (Q : RS) (gg : Nat) => ⟨[(0, .ptr 0 g 0), (2, .ptr 1 g2 0), (3, .ptr 2 gn 0)], [.row g (rdC L Q), .row g2 [.i 0, .i 0, .i 0, .nil], .row gn [.i 13, .i 0, .i 0, .ref 3 gg 0 o.length 4], .row gg (Ws o)]⟩) (fun o Q gg => E0.N < gg /\ rM L Q <= r0 /\ o.length + mM L Q <= rM L S + 1 /\ ∃ k', WK L T k [] S1 = WK L T k' o Q /\ mM L Q + 1 <= k') (fun o Q gg => mM L Q) [] S1 gk ?_ ⟨hgk, hle0, by have := rm_mM L S1;simp;omega, k, rfl, by have := rm_mM L S1;omega⟩ ?_
 ·exact zal rfl
 intro o Q gg ⟨hgg, hq1, hq2, k', hk1, hk2⟩
 have hol : o.length <= 2000000 := by omega
 rw [hk1]
 cases hb : Q.bad with
 | true =>
  have hbi := bad_pos hb
  rw [bloop_bad hb]
  (repeat' first|(refine Qe ?_;(first|refine QG rfl ?_|(refine Qz ?_;(first|refine WF rfl rfl ?_|refine Qb rfl rfl rfl ?_))|refine Q1 rfl rfl ?_|refine Wr rfl rfl ?_|refine WR rfl rfl rfl rfl ?_|refine Qd rfl rfl ?_|refine QA rfl rfl ?_))|(refine Qk ?_;(first|refine Qi ?_|refine QN rfl ?_|refine Q5 ?_|refine W2 rfl rfl rfl rfl ?_|refine Q6 rfl rfl (by omega) ?_))|(refine Qj ?_;(first|refine Qn ?_|refine Qc ?_|refine Ql rfl ?_|refine WI rfl ?_|refine Qs ?_)))
  exact e_1 (Tryz.results111) (QH (size := 4) rfl rfl rfl rfl) (Zy (D := fun d => .agg [.i 13, .i 0, .i 0, d]) (k := 2) (.node rfl rfl rfl) rfl (by rw [QX];rfl) (by rw [QW];rfl) rfl)
 | false =>
  have hbi := bad_neg hb
  match k', hk1, hk2 with
  | k2 + 1, hk1, hk2 =>
  by_cases hc : Wb L Q = [125]
  ·have hv1 := Z8 (G := G) L Q hL [125] (by decide) hc
   have hend : WK L T (k2 + 1) o Q = (o, Qy Q) := by rw [WK, if_neg (by rw [hb];decide), if_pos hc]
   rw [hend]
   (repeat' first|(refine Qe ?_;(first|refine QG rfl ?_|(refine Qz ?_;(first|refine WF rfl rfl ?_|refine Qb rfl rfl rfl ?_))|refine Q1 rfl rfl ?_|refine Wi 0 (hv1) rfl rfl rfl rfl ?_|refine WO rfl rfl ?_|refine WR rfl rfl rfl rfl ?_|refine Wn rfl ?_|refine Qd rfl rfl ?_|refine QA rfl rfl ?_))|(refine Qk ?_;(first|refine Qi ?_|refine QN rfl ?_|refine Q5 ?_|refine WD rfl rfl rfl rfl ?_|refine We rfl rfl (by omega) ?_))|(refine Qj ?_;(first|refine Qn ?_|refine Qc ?_|refine Ql rfl ?_|refine WI rfl ?_|refine Qs ?_)))
   exact e_1 (Tryz.results111) (QH (size := 4) rfl rfl rfl rfl) (Zy (D := fun d => .agg [.i 13, .i 0, .i 0, d]) (k := 2) (.node rfl rfl rfl) rfl (by rw [QX];rfl) (by rw [QW];rfl) rfl)
  ·have hv1 := qc (G := G) L Q hL [125] (by decide) hc
   have hrec : WK L T (k2 + 1) o Q = WK L T k2 (o ++ [(T Q).1]) (T Q).2 := by rw [WK, if_neg (by rw [hb];decide), if_neg hc]
   have hlt := he Q hb
   obtain ⟨hT2, hrT⟩ := hT Q hq1
   generalize hx2 : (T Q).1 = x2 at *
   generalize hS2 : (T Q).2 = S2 at *
   (repeat' first|(refine Qe ?_;(first|refine QG rfl ?_|refine Qb rfl rfl rfl ?_|refine Q1 rfl rfl ?_|(refine Qq ?_;(first|refine ZD (z := x2) rfl rfl rfl rfl rfl rfl rfl (by first|omega|(simp;omega)) (by first|omega|(simp;omega)) (fun _ => rfl) (fun _ _ => ?_)|refine Wi 0 (hv1) rfl rfl rfl rfl ?_|refine Wi 0 (hT2) rfl rfl rfl rfl ?_))|refine WO rfl rfl ?_|refine Q7 rfl rfl rfl rfl (by rfl) (by rfl) (by rfl) ?_|refine Wn rfl ?_|refine Qd rfl rfl ?_|refine QA rfl rfl ?_))|(refine Qk ?_;(first|refine Qi ?_|refine QN rfl ?_|refine WD rfl rfl rfl rfl ?_|refine We rfl rfl (by omega) ?_))|(refine Qj ?_;(first|refine Qn ?_|refine Qc ?_|refine Qf ?_|(refine Wg ?_;first|(refine QB (fun p => p.1 :: .row g2 [.i 0, .i 0, .i 0, .nil] :: .row gn [.i 13, .i 0, .i 0, .ref 3 gg 0 o.length 4] :: p.2) 7 [(0, true), (1, true), (2, true), (3, false), (4, true), (5, false), (6, true), (7, false)] (by rfl) (by rfl) (by kernel_rfl) (by decide +kernel) (by decide +kernel) ⟨(_, _), rfl⟩ ?_)|refine Q3 (by rfl) (by kernel_rfl) (by kernel_rfl) ?_|refine Q2 (by kernel_rfl) (by kernel_rfl) ?_)|refine Qx ?_|refine Qh rfl ?_))|(refine Ze ?_;(first|refine Z1 ?_|refine i_z0 ?_|refine i_st rfl rfl (fun _ => (by (repeat' first|(refine Qe ?_;(first|refine QG rfl ?_|refine Qb rfl rfl rfl ?_|refine Wc (z := x2) rfl rfl (by decide) ?_|refine Qd rfl rfl ?_))|exact ⟨rfl, rfl⟩))) ?_|refine i_ef rfl ?_))|refine And.intro (Exists.intro ((_, _)) rfl) ?_)
   refine ⟨o ++ [x2], S2, _, ⟨by assumption, by omega, by simp;omega, k2, hrec, by omega⟩, by omega, ?_⟩
   exact zal rfl
section
variable {P : Program} {G : Nat -> DV} {B : Nat} {f : Operand -> DV} {σ : List ABlk} {K : DV -> List ABlk -> Prop} {dst : Option Tmp} {type : TypeId} {pos : String} {after : Array Edge} {gd : Option (Nat × Bool)} {E : AX}
theorem s_callv_og {x : Operand} {args : Array Operand} {ts : Array TypeId} {fid : FuncId} {first cap es : List DV} {d0 : Nat -> DV} {σ1 : Nat -> List ABlk} [FnOk P fid] (hx : f x = .fn (.func fid) first cap) (hds : reL (first ++ args.toList.map f ++ cap) = some es) (h : ACalls P G B fid es σ (fun d τ => ∃ g', B < g' /\ d = d0 g' /\ τ = σ1 g')) (kk : ∀ g', B < g' -> K (d0 g') (σ1 g')) :
  OpSem P G B ⟨dst, .call ⟨.value x, args, ts⟩, type, pos, after, gd⟩ f σ K := s_callv hx hds (h.mono fun _ _ ⟨g', hg, e1, e2⟩ => by rw [e1, e2];exact kk g' hg)
theorem c_co3 {D D2 : DV -> DV} {B k gk len len2 es es2 : Nat} {ks k2 : List DV} {b0 b1 b2 : ABlk} {r : List ABlk} (hD : FrmD D) (hB : B <= E.N) (hk1 : 3 <= k) (hk : (b0 :: b1 :: b2 :: r)[k]? = some (.row gk k2)) (hDD : D2 = D) (hl : len2 = len) (he : es2 = es) (hks : k2 = ks) :
  AClose E (fun d' τ' => ∃ g', B < g' /\ d' = D (.ref 3 g' 0 len es) /\ τ' = [b0, b1, b2, .row g' ks]) (D2 (.ref k gk 0 len2 es2)) (b0 :: b1 :: b2 :: r) := by
 subst hDD hl he hks
 refine (hD.close (c_own (m := 3) (R := fun d' τ' => ∃ g', B < g' /\ d' = .ref 3 g' 0 len2 es2 /\ τ' = [b0, b1, b2, .row g' k2]) hk1 hk fun g' hg' => ⟨g', by omega, rfl, rfl⟩) ?_).mono ?_
 ·rintro d0 σ' ⟨g', _, rfl, _⟩;rfl
 ·rintro d' σ' ⟨d0, ⟨g', h1, rfl, h3⟩, rfl⟩
  exact ⟨g', h1, rfl, h3⟩
end
theorem stmt1_rc (L : ZK) (E : Rd1) (r0 : Nat) (hE : ElC G 176 L E r0) (S : RS) (hr : rM L S <= r0) (kk : Int) (g gb g2 B : Nat) (hg : g <= B) :
  ACalls Tryz.prog G B 175 [.i kk, .ptr 1 gb 0] [.row g (rdC L S), .row gb [.ptr 0 g 0], .row g2 [.i 0, .i 0, .i 0, .nil]] (fun d τ => ∃ g', B < g' /\ d = .agg [.i kk, .i 0, .i 0, .ref 3 g' 0 [(E S).1].length 4] /\ τ = [.row g (rdC L (E S).2), .row gb [.ptr 0 g 0], .row g2 [.i 0, .i 0, .i 0, .nil], .row g' (Ws [(E S).1])]) := by
 obtain ⟨hE2, _⟩ := hE S hr
 generalize (E S).1 = xE at *
 generalize (E S).2 = S2 at *
 refine Qa Tryz.func175 rfl Tryz.ntmps175 rfl (t := [(0, .i kk), (1, .ptr 1 gb 0)]) rfl fun E0 hE1 => ?_
 (repeat' first|(refine Qe ?_;(first|refine QG rfl ?_|refine Qb rfl rfl rfl ?_|refine Wi 0 (hE2) rfl rfl rfl rfl ?_|refine WR rfl rfl rfl rfl ?_|refine s_bslice_own1 (z := xE) rfl rfl rfl rfl (fun _ _ => ?_)|refine QQ rfl rfl ?_|refine QC (fun _ _ => ?_)))|(refine Qk ?_;(first|refine Qi ?_|refine QN rfl ?_|refine Q5 ?_))|(refine Qj ?_;(first|refine Qn ?_|refine Qc ?_|refine Qs ?_)))
 exact e_1 (Tryz.results175) (QH (size := 4) rfl rfl rfl rfl) (c_co3 (k := 4) (D := fun d => .agg [.i kk, .i 0, .i 0, d]) (.node rfl rfl rfl) hE1 (by omega) rfl rfl rfl rfl rfl)
theorem assign_rc (L : ZK) (hL : OkL L) (E : Rd1) (r0 : Nat) (hE : ElC G 176 L E r0) (S : RS) (hr : rM L S <= r0 + 1) (hw : isM L 118 S = true) :
  CE Tryz.prog G 178 (fun p g => [.ptr p g 0]) (rdC L S) (.agg (Enc.enc (qZ L E S).1)) (rdC L (qZ L E S).2) := fun g B hg => by
 obtain ⟨hv, hvl⟩ := variable_rc (G := G) L hL E r0 hE S hr
 have hlt : rM L (WH L E S).2 <= r0 := by
  have h1 := (WW (L := L) (S := S) rfl (is_now hw).1).1
  have h2 : (Qr L 118 S).2 = Qy S := by unfold Qr;rw [if_pos hw]
  have hn : rM L (Qr L 118 S).2 <= r0 := by rw [h2];omega
  unfold WH varTail
  generalize (Qr L 118 S).2 = S1 at *
  split
  ·rename_i hc
   have h3 := (WW hc (by decide)).1
   have h4 := (hE (Qy S1) (by omega)).2
   have h5 := rM_take (L := L) (S := (E (Qy S1)).2) [93] (by decide)
   show rM L (Wa L [93] (E (Qy S1)).2) <= r0
   omega
  ·split
   ·rename_i hc
    have h3 := (WW hc (by decide)).1
    have h4 := rM_numeral L (Qy S1)
    show rM L (QK L (Qy S1)).2 <= r0
    omega
   ·exact hn
 have hkl : (kidsN (WH L E S).1).length <= 1 := by
  unfold WH varTail
  repeat' split
  all_goals simp [kidsN]
 unfold qZ
 generalize (WH L E S).1 = v at *
 generalize (WH L E S).2 = S1 at *
 obtain ⟨k, n, m, ks⟩ := v
 have hvar : CO Tryz.prog G 199 (fun p g => [.ptr p g 0]) (rdC L S) (fun d => .agg [.i k, .i n, .i m, d]) ks.length 4 (Ws ks) (rdC L S1) := hv
 have htk := take_c (G := G) L S1 hL [61] (by decide)
 have hle := rM_take (L := L) (S := S1) [61] (by decide)
 generalize Wa L [61] S1 = S2 at *
 obtain ⟨hx2, _⟩ := hE S2 (by omega)
 generalize (E S2).1 = x2 at *
 generalize (E S2).2 = S3 at *
 unfold setM setKind
 dsimp only
 have hkl : ks.length <= 1 := hkl
 by_cases k7 : k = 7
 ·rw [if_pos k7]
  refine Qa Tryz.func178 rfl Tryz.ntmps178 rfl (t := [(0, .ptr 0 g 0)]) rfl fun E0 hE1 => ?_
  (repeat' first|(refine Qe ?_;(first|refine QG rfl ?_|refine QJ rfl ?_|(refine Qz ?_;(first|refine WF rfl rfl ?_|refine Qb rfl rfl rfl ?_))|refine QS rfl rfl ?_|(refine Qq ?_;(first|refine ZD (z := x2) rfl rfl rfl rfl rfl rfl rfl (by first|omega|(simp;omega)) (by first|omega|(simp;omega)) (fun _ => rfl) (fun _ _ => ?_)|refine Wi 0 (hx2) rfl rfl rfl rfl ?_|refine Wi 0 (htk) rfl rfl rfl rfl ?_|refine s_co 0 (hvar) (by first|exact .id|exact .node rfl rfl rfl) rfl rfl rfl rfl (QO _) (fun _ _ => ?_)))|(refine Wl ?_;(first|refine WR rfl rfl rfl rfl ?_|refine Q7 rfl rfl rfl rfl (by rfl) (by rfl) (by rfl) ?_))|refine Qd rfl rfl ?_|refine QC (fun _ _ => ?_)))|(refine Qk ?_;(first|refine Qi ?_|refine QN rfl ?_|refine Q5 ?_))|(refine Qj ?_;(first|refine Qn ?_|refine Qc ?_|refine Qf ?_|(refine Wg ?_;first|(rename_i g2 hg2 gk hgk gn hgn;refine QB (fun p => p.1 :: .row g2 [.i 0, .i 0, .i 0, .nil] :: p.2 :: .row gn [.i k, .i n, .i m, .ref 2 gk 0 ks.length 4] :: []) 7 [(0, true), (1, true), (2, true), (3, false), (4, true), (5, false), (6, true), (7, false)] (by rfl) (by rfl) (by kernel_rfl) (by decide +kernel) (by decide +kernel) ⟨(_, _), rfl⟩ ?_)|(refine QB (fun p => p.1 :: p.2 :: []) 100 [(0, true)] (by rfl) (by rfl) (by kernel_rfl) (by decide +kernel) (by decide +kernel) ⟨(_, _), rfl⟩ ?_)|(refine QB (fun p => p) 100 [(0, true)] (by rfl) (by rfl) (by kernel_rfl) (by decide +kernel) (by decide +kernel) ⟨_, rfl⟩ ?_)|refine Q3 (by rfl) (by kernel_rfl) (by kernel_rfl) ?_|refine Q2 (by kernel_rfl) (by kernel_rfl) ?_)|refine Qp rfl (by omega) ?_|refine Qs ?_))|(refine Ze ?_;(first|refine Z1 ?_|refine i_z0 ?_|refine i_st rfl rfl (fun _ => (by (repeat' first|(refine Qe ?_;(first|refine QG rfl ?_|refine Qb rfl rfl rfl ?_|refine Wc (z := x2) rfl rfl (by decide) ?_|refine Qd rfl rfl ?_))|exact ⟨rfl, rfl⟩))) ?_|refine i_ef rfl ?_))|refine And.intro (Exists.intro ((_, _)) rfl) ?_)
  exact e_1 (Tryz.results178) (QH (size := 4) rfl rfl rfl rfl) (Zy (D := fun d => .agg [.i 15, .i n, .i m, d]) (k := 1) (.node rfl rfl rfl) rfl (by rw [QX];rfl) (by rw [QW];rfl) rfl)
 rw [if_neg k7]
 by_cases k8 : k = 8
 ·rw [if_pos k8]
  refine Qa Tryz.func178 rfl Tryz.ntmps178 rfl (t := [(0, .ptr 0 g 0)]) rfl fun E0 hE1 => ?_
  (repeat' first|(refine Qe ?_;(first|refine QG rfl ?_|refine QJ rfl ?_|(refine Qz ?_;(first|refine WF rfl rfl ?_|refine Qb rfl rfl rfl ?_))|refine QS rfl rfl ?_|(refine Qq ?_;(first|refine ZD (z := x2) rfl rfl rfl rfl rfl rfl rfl (by first|omega|(simp;omega)) (by first|omega|(simp;omega)) (fun _ => rfl) (fun _ _ => ?_)|refine Wi 0 (hx2) rfl rfl rfl rfl ?_|refine Wi 0 (htk) rfl rfl rfl rfl ?_|refine s_co 0 (hvar) (by first|exact .id|exact .node rfl rfl rfl) rfl rfl rfl rfl (QO _) (fun _ _ => ?_)))|(refine Wl ?_;(first|refine WR rfl rfl rfl rfl ?_|refine Q7 rfl rfl rfl rfl (by rfl) (by rfl) (by rfl) ?_))|refine Qd rfl rfl ?_|refine QC (fun _ _ => ?_)))|(refine Qk ?_;(first|refine Qi ?_|refine QN rfl ?_|refine Q5 ?_))|(refine Qj ?_;(first|refine Qn ?_|refine Qc ?_|refine Qf ?_|(refine Wg ?_;first|(rename_i g2 hg2 gk hgk gn hgn;refine QB (fun p => p.1 :: .row g2 [.i 0, .i 0, .i 0, .nil] :: p.2 :: .row gn [.i k, .i n, .i m, .ref 2 gk 0 ks.length 4] :: []) 7 [(0, true), (1, true), (2, true), (3, false), (4, true), (5, false), (6, true), (7, false)] (by rfl) (by rfl) (by kernel_rfl) (by decide +kernel) (by decide +kernel) ⟨(_, _), rfl⟩ ?_)|(refine QB (fun p => p.1 :: p.2 :: []) 100 [(0, true)] (by rfl) (by rfl) (by kernel_rfl) (by decide +kernel) (by decide +kernel) ⟨(_, _), rfl⟩ ?_)|(refine QB (fun p => p) 100 [(0, true)] (by rfl) (by rfl) (by kernel_rfl) (by decide +kernel) (by decide +kernel) ⟨_, rfl⟩ ?_)|refine Q3 (by rfl) (by kernel_rfl) (by kernel_rfl) ?_|refine Q2 (by kernel_rfl) (by kernel_rfl) ?_)|refine Qp rfl (by omega) ?_|refine Qm rfl (by omega) ?_|refine Qs ?_))|(refine Ze ?_;(first|refine Z1 ?_|refine i_z0 ?_|refine i_st rfl rfl (fun _ => (by (repeat' first|(refine Qe ?_;(first|refine QG rfl ?_|refine Qb rfl rfl rfl ?_|refine Wc (z := x2) rfl rfl (by decide) ?_|refine Qd rfl rfl ?_))|exact ⟨rfl, rfl⟩))) ?_|refine i_ef rfl ?_))|refine And.intro (Exists.intro ((_, _)) rfl) ?_)
  exact e_1 (Tryz.results178) (QH (size := 4) rfl rfl rfl rfl) (Zy (D := fun d => .agg [.i 16, .i n, .i m, d]) (k := 1) (.node rfl rfl rfl) rfl (by rw [QX];rfl) (by rw [QW];rfl) rfl)
 ·rw [if_neg k8]
  refine Qa Tryz.func178 rfl Tryz.ntmps178 rfl (t := [(0, .ptr 0 g 0)]) rfl fun E0 hE1 => ?_
  (repeat' first|(refine Qe ?_;(first|refine QG rfl ?_|refine QJ rfl ?_|(refine Qz ?_;(first|refine WF rfl rfl ?_|refine Qb rfl rfl rfl ?_))|refine QS rfl rfl ?_|(refine Qq ?_;(first|refine ZD (z := x2) rfl rfl rfl rfl rfl rfl rfl (by first|omega|(simp;omega)) (by first|omega|(simp;omega)) (fun _ => rfl) (fun _ _ => ?_)|refine Wi 0 (hx2) rfl rfl rfl rfl ?_|refine Wi 0 (htk) rfl rfl rfl rfl ?_|refine s_co 0 (hvar) (by first|exact .id|exact .node rfl rfl rfl) rfl rfl rfl rfl (QO _) (fun _ _ => ?_)))|(refine Wl ?_;(first|refine WR rfl rfl rfl rfl ?_|refine Q7 rfl rfl rfl rfl (by rfl) (by rfl) (by rfl) ?_))|refine Qd rfl rfl ?_|refine QC (fun _ _ => ?_)))|(refine Qk ?_;(first|refine Qi ?_|refine QN rfl ?_|refine Q5 ?_))|(refine Qj ?_;(first|refine Qn ?_|refine Qc ?_|refine Qf ?_|(refine Wg ?_;first|(rename_i g2 hg2 gk hgk gn hgn;refine QB (fun p => p.1 :: .row g2 [.i 0, .i 0, .i 0, .nil] :: p.2 :: .row gn [.i k, .i n, .i m, .ref 2 gk 0 ks.length 4] :: []) 7 [(0, true), (1, true), (2, true), (3, false), (4, true), (5, false), (6, true), (7, false)] (by rfl) (by rfl) (by kernel_rfl) (by decide +kernel) (by decide +kernel) ⟨(_, _), rfl⟩ ?_)|(refine QB (fun p => p.1 :: p.2 :: []) 100 [(0, true)] (by rfl) (by rfl) (by kernel_rfl) (by decide +kernel) (by decide +kernel) ⟨(_, _), rfl⟩ ?_)|(refine QB (fun p => p) 100 [(0, true)] (by rfl) (by rfl) (by kernel_rfl) (by decide +kernel) (by decide +kernel) ⟨_, rfl⟩ ?_)|refine Q3 (by rfl) (by kernel_rfl) (by kernel_rfl) ?_|refine Q2 (by kernel_rfl) (by kernel_rfl) ?_)|refine Qm rfl (by omega) ?_|refine Qs ?_))|(refine Ze ?_;(first|refine Z1 ?_|refine i_z0 ?_|refine i_st rfl rfl (fun _ => (by (repeat' first|(refine Qe ?_;(first|refine QG rfl ?_|refine Qb rfl rfl rfl ?_|refine Wc (z := x2) rfl rfl (by decide) ?_|refine Qd rfl rfl ?_))|exact ⟨rfl, rfl⟩))) ?_|refine i_ef rfl ?_))|refine And.intro (Exists.intro ((_, _)) rfl) ?_)
  exact e_1 (Tryz.results178) (QH (size := 4) rfl rfl rfl rfl) (Zy (D := fun d => .agg [.i 14, .i n, .i m, d]) (k := 1) (.node rfl rfl rfl) rfl (by rw [QX];rfl) (by rw [QW];rfl) rfl)
theorem agg4_nil {L : Lay} {a b c : DV} {es : Nat} {v : Value} (h : VRep L (.agg [a, b, c, .sc (.slice none 0 0)]) v) : VRep L (.agg [a, b, c, .sl es []]) v := by
 cases h with|agg _ vs hl ho hg =>
 refine .agg _ _ hl (fun e he => ?_) fun j e hj => ?_
 ·simp only [List.mem_cons, List.not_mem_nil, or_false] at he
  rcases he with rfl|rfl|rfl|rfl
  ·exact ho _ (by simp)
  ·exact ho _ (by simp)
  ·exact ho _ (by simp)
  ·rfl
 ·match j with
  | 0 => exact hg 0 e hj
  | 1 => exact hg 1 e hj
  | 2 => exact hg 2 e hj
  | 3 => simp at hj;subst hj;exact Zm (hg 3 _ rfl)
  | j + 4 => simp at hj
theorem partD_node (v : Nd) : partD (Enc.enc v) 0 4 = some (Enc.enc v) := by cases v;rw [QW];rfl
theorem numeralM_le (L : ZK) (S : RS) : 0 <= (QK L S).1 /\ (QK L S).1 <= 999 := by
 unfold QK
 split
 ·rename_i h;exact ⟨(val_num h).2.1, (val_num h).2.2⟩
 ·simp
theorem args_le {F : FuncId} {L : ZK} {E : Rd1} {r0 : Nat} (hE : ElC G F L E r0) (k : Nat) (S : RS) (h : rM L S <= r0) : rM L (WZ L E k S).2 <= rM L S := by
 have h1 := rM_take (L := L) (S := S) [40] (by decide)
 unfold WZ
 split
 ·rename_i hc
  have := (WW hc (by decide)).1
  show rM L (Qy (Wa L [40] S)) <= _
  omega
 ·have := list_le hE k (Wa L [40] S) (by omega)
  omega
theorem one_c (k n : Int) : Go.Av.Pure Tryz.prog G 198 [.i k, .i n] (.agg [.i k, .i n, .i 0, QR ([] : List Nd)]) := fun B => by
 refine Qa Tryz.func198 rfl Tryz.ntmps198 rfl (t := [(0, .i k), (1, .i n)]) rfl fun E hE => ?_
 (repeat' first|(refine Qe ?_;(first|refine QG rfl ?_|refine WR rfl rfl rfl rfl ?_|refine QQ rfl rfl ?_|refine QC (fun _ _ => ?_)))|(refine Qk ?_;(first|refine Qi ?_|refine QN rfl ?_|refine Q5 ?_))|(refine Qj ?_;(first|refine Qn ?_|refine Qc ?_|refine Qs ?_)))
 exact e_1 (Tryz.results198) (QH (size := 4) rfl rfl rfl rfl) (ZB (d2 := .agg [.i k, .i n, .i 0, .sl 4 []]) (fun L v h => agg4_nil h) (Qw rfl))
theorem expr_rc (hG1 : G 1 = spaceT) (L : ZK) (hL : OkL L) : ∀ (n : Nat) (S : RS), rM L S + 2 <= n -> CE Tryz.prog G 176 (fun p g => [.ptr p g 0]) (rdC L S) (.agg (Enc.enc (WP L (.mk 4 0 0 []) n S).1)) (rdC L (WP L (.mk 4 0 0 []) n S).2) /\ rM L (WP L (.mk 4 0 0 []) n S).2 <= rM L S := by
 intro n
 induction n with
 | zero => intro S h;omega
 | succ n ih =>
 intro S hn
 rw [WP]
 have htn := tnum_c (G := G) (Wb L S) (now_len hL S)
 by_cases h1 : numB (Wb L S) = true
 ·rw [if_pos h1]
  rw [h1] at htn
  have hnm := qK (G := G) L S hL
  have hnl := rM_numeral L S
  refine ⟨fun g B hg => ?_, by first|omega|(simp only;omega)⟩
  refine Qa Tryz.func176 rfl Tryz.ntmps176 rfl (t := [(0, .ptr 0 g 0)]) rfl fun E0 hE1 => ?_
  (repeat' first|(refine Qe ?_;(first|refine QG rfl ?_|refine QJ rfl ?_|(refine Qq ?_;(first|refine QZ rfl rfl (htn) ?_|refine qy rfl (one_c _ _) (by repeat' first|exact Wf|exact Wu _|exact WB (QO _)|exact QO _|refine ZG ?_ ?_|refine Zq ?_|refine Wv ?_|refine Wp ?_|exact WL|refine Q8 ?_ ?_|refine WB ?_) ?_|refine Wi 0 (ql L S hL) rfl rfl rfl rfl ?_|refine Wi 0 (hnm) rfl rfl rfl rfl ?_))|refine WR rfl rfl rfl rfl ?_|refine QC (fun _ _ => ?_)))|(refine Qk ?_;(first|refine Qi ?_|refine QN rfl ?_|refine Q5 ?_))|(refine Qj ?_;(first|refine Qn ?_|refine Qc ?_|refine Qf ?_|refine Qh rfl ?_|refine Qs ?_)))
  refine e_1 (Tryz.results176) (QH (size := 4) rfl rfl rfl rfl) ?_
  rw [QW]
  exact c_ce rfl rfl
 rw [if_neg h1]
 rw [show numB (Wb L S) = false by simpa using h1] at htn
 have his1 := is_c (G := G) L S hL 118
 have hel : rM L S >= 1 -> ElC G 176 L (WP L (.mk 4 0 0 []) n) (rM L S - 1) := fun _ Q hQ => ih Q (by omega)
 by_cases h2 : isM L 118 S = true
 ·rw [if_pos h2]
  rw [h2] at his1
  have hrn := (WW (L := L) (S := S) rfl (is_now h2).1).1
  obtain ⟨hv, hvl⟩ := variable_rc (G := G) L hL _ _ (hel (by omega)) S (by omega)
  have hvar := (hv.pub (frmN_ok _) (by rw [QX];rfl)).conv (frmN_enc _) rfl
  refine ⟨fun g B hg => ?_, by first|exact hvl|omega|(simp only;omega)|(simp only;rw [qz];omega)⟩
  refine Qa Tryz.func176 rfl Tryz.ntmps176 rfl (t := [(0, .ptr 0 g 0)]) rfl fun E0 hE1 => ?_
  (repeat' first|(refine Qe ?_;(first|refine QG rfl ?_|refine QJ rfl ?_|(refine Qq ?_;(first|refine QZ rfl rfl (htn) ?_|refine Wi 0 (ql L S hL) rfl rfl rfl rfl ?_|refine Wi 0 (his1) rfl rfl rfl rfl ?_|refine Wi 0 (hvar) rfl rfl rfl rfl ?_))|refine WR rfl rfl rfl rfl ?_|refine QC (fun _ _ => ?_)))|(refine Qk ?_;(first|refine Qi ?_|refine QN rfl ?_|refine Q5 ?_))|(refine Qj ?_;(first|refine Qn ?_|refine Qc ?_|refine Qf ?_|refine Qh rfl ?_|refine Ql rfl ?_|refine Qs ?_)))
  exact e_1 (Tryz.results176) (QH (size := 4) rfl rfl (partD_node _) (Enc.len _)) (c_ce rfl rfl)
 rw [if_neg h2]
 rw [show isM L 118 S = false by simpa using h2] at his1
 have his2 := is_c (G := G) L S hL 102
 by_cases h3 : isM L 102 S = true
 ·rw [if_pos h3]
  rw [h3] at his2
  have hrn := (WW (L := L) (S := S) rfl (is_now h3).1).1
  have hnb := numbered_c (G := G) L S hL 102
  have hr2 : rM L (Qr L 102 S).2 + 1 = rM L S := by unfold Qr;rw [if_pos h3];exact hrn
  generalize (Qr L 102 S).1 = v at *
  generalize (Qr L 102 S).2 = S1 at *
  have hargs := args_rc (G := G) 176 L _ _ n hL (hel (by omega)) S1 (by omega) (by omega)
  have hal := args_le (hel (by omega)) n S1 (by omega)
  refine ⟨fun g B hg => ?_, by first|omega|(simp only;omega)|(simp only;rw [qz];omega)⟩
  refine Qa Tryz.func176 rfl Tryz.ntmps176 rfl (t := [(0, .ptr 0 g 0)]) rfl fun E0 hE1 => ?_
  (repeat' first|(refine Qe ?_;(first|refine QG rfl ?_|refine QJ rfl ?_|refine WF rfl rfl ?_|(refine Qq ?_;(first|refine QZ rfl rfl (htn) ?_|refine qy rfl (one_c _ _) (by repeat' first|exact Wf|exact Wu _|exact WB (QO _)|exact QO _|refine ZG ?_ ?_|refine Zq ?_|refine Wv ?_|refine Wp ?_|exact WL|refine Q8 ?_ ?_|refine WB ?_) ?_|refine Wi 0 (ql L S hL) rfl rfl rfl rfl ?_|refine Wi 0 (his1) rfl rfl rfl rfl ?_|refine Wi 0 (his2) rfl rfl rfl rfl ?_|refine Wi 0 (hnb) rfl rfl rfl rfl ?_|refine s_co 0 (hargs) (by first|exact .id|exact .node rfl rfl rfl) rfl rfl rfl rfl (QO _) (fun _ _ => ?_)))|(refine Wl ?_;(first|refine WR rfl rfl rfl rfl ?_|refine Q7 rfl rfl rfl rfl (by rfl) (by rfl) (by rfl) ?_))|refine Qd rfl rfl ?_|refine QV rfl rfl ?_|refine QC (fun _ _ => ?_)))|(refine Qk ?_;(first|refine Qi ?_|refine QN rfl ?_|refine Q5 ?_))|(refine Qj ?_;(first|refine Qn ?_|refine Qc ?_|refine Qf ?_|refine Qh rfl ?_|refine Ql rfl ?_|refine Qs ?_)))
  exact e_1 (Tryz.results176) (QH (size := 4) rfl rfl rfl rfl) (Zy (D := fun d => .agg [.i 11, .i v, .i 0, d]) (k := 2) (.node rfl rfl rfl) rfl (by rw [QX];rfl) (by rw [QW];rfl) rfl)
 rw [if_neg h3]
 rw [show isM L 102 S = false by simpa using h3] at his2
 by_cases h4 : Wb L S = [45]
 ·rw [if_pos h4]
  have hrn := (WW h4 (by decide)).1
  have hnw2 := ql (G := G) L (Qy S) hL
  by_cases h5 : Wb L (Qy S) = [48]
  ·rw [if_pos h5]
   have hd : decide (Wb L (Qy S) = [48]) = true := decide_eq_true h5
   have hfl := fail_c (G := G) L (Qy S)
   have hnm := qK (G := G) L (W7 (Qy S)) hL
   rw [show QK L (W7 (Qy S)) = (0, W7 (Qy S)) by unfold QK Wb W7;simp [numB]] at hnm
   refine ⟨fun g B hg => ?_, by first|omega|(simp only;omega)|(simp only;rw [qz];omega)⟩
   refine Qa Tryz.func176 rfl Tryz.ntmps176 rfl (t := [(0, .ptr 0 g 0)]) rfl fun E0 hE1 => ?_
   (repeat' first|(refine Qe ?_;(first|refine QG rfl ?_|refine QJ rfl ?_|refine WN rfl rfl ?_|(refine Qq ?_;(first|refine QZ rfl rfl (htn) ?_|refine qy rfl (one_c _ _) (by repeat' first|exact Wf|exact Wu _|exact WB (QO _)|exact QO _|refine ZG ?_ ?_|refine Zq ?_|refine Wv ?_|refine Wp ?_|exact WL|refine Q8 ?_ ?_|refine WB ?_) ?_|refine Wi 0 (ql L S hL) rfl rfl rfl rfl ?_|refine Wi 0 (his1) rfl rfl rfl rfl ?_|refine Wi 0 (his2) rfl rfl rfl rfl ?_|refine Wi 0 (hnw2) rfl rfl rfl rfl ?_|refine Wi 0 (Z8 L S hL _ (by decide) (by assumption)) rfl rfl rfl rfl ?_|refine Wi 0 (hnm) rfl rfl rfl rfl ?_|refine Wi 0 (hfl) rfl rfl rfl rfl ?_))|refine WR rfl rfl rfl rfl ?_|refine s_neg rfl (by omega) ?_|refine QC (fun _ _ => ?_)))|(refine Qk ?_;(first|refine Qi ?_|refine QN rfl ?_|refine Q5 ?_))|(refine Qj ?_;(first|refine Qn ?_|refine Qc ?_|refine Qf ?_|refine Qh rfl ?_|refine Ql rfl ?_|refine Qp rfl (by omega) ?_|refine Qs ?_)))
   refine e_1 (Tryz.results176) (QH (size := 4) rfl rfl rfl rfl) ?_
   rw [QW]
   exact c_ce rfl rfl
  ·rw [if_neg h5]
   have hd : decide (Wb L (Qy S) = [48]) = false := decide_eq_false h5
   have hnm := qK (G := G) L (Qy S) hL
   have hnl := rM_numeral L (Qy S)
   have hnb := numeralM_le L (Qy S)
   generalize (QK L (Qy S)).1 = v at *
   generalize (QK L (Qy S)).2 = S2 at *
   refine ⟨fun g B hg => ?_, by first|omega|(simp only;omega)|(simp only;rw [qz];omega)⟩
   refine Qa Tryz.func176 rfl Tryz.ntmps176 rfl (t := [(0, .ptr 0 g 0)]) rfl fun E0 hE1 => ?_
   (repeat' first|(refine Qe ?_;(first|refine QG rfl ?_|refine QJ rfl ?_|refine WN rfl rfl ?_|(refine Qq ?_;(first|refine QZ rfl rfl (htn) ?_|refine qy rfl (one_c _ _) (by repeat' first|exact Wf|exact Wu _|exact WB (QO _)|exact QO _|refine ZG ?_ ?_|refine Zq ?_|refine Wv ?_|refine Wp ?_|exact WL|refine Q8 ?_ ?_|refine WB ?_) ?_|refine Wi 0 (ql L S hL) rfl rfl rfl rfl ?_|refine Wi 0 (his1) rfl rfl rfl rfl ?_|refine Wi 0 (his2) rfl rfl rfl rfl ?_|refine Wi 0 (hnw2) rfl rfl rfl rfl ?_|refine Wi 0 (Z8 L S hL _ (by decide) (by assumption)) rfl rfl rfl rfl ?_|refine Wi 0 (hnm) rfl rfl rfl rfl ?_))|refine WR rfl rfl rfl rfl ?_|refine s_neg rfl (by omega) ?_|refine QC (fun _ _ => ?_)))|(refine Qk ?_;(first|refine Qi ?_|refine QN rfl ?_|refine Q5 ?_))|(refine Qj ?_;(first|refine Qn ?_|refine Qc ?_|refine Qf ?_|refine Qx ?_|refine Qh rfl ?_|refine Ql rfl ?_|refine Qm rfl (by omega) ?_|refine Qs ?_)))
   refine e_1 (Tryz.results176) (QH (size := 4) rfl rfl rfl rfl) ?_
   rw [QW]
   exact c_ce rfl rfl
 rw [if_neg h4]
 by_cases hwTrue : Wb L S = wTrue
 ·rw [if_pos hwTrue]
  have hrn := (WW hwTrue (by decide)).1
  refine ⟨fun g B hg => ?_, by first|omega|(simp only;omega)|(simp only;rw [qz];omega)⟩
  refine Qa Tryz.func176 rfl Tryz.ntmps176 rfl (t := [(0, .ptr 0 g 0)]) rfl fun E0 hE1 => ?_
  (repeat' first|(refine Qe ?_;(first|refine QG rfl ?_|refine QJ rfl ?_|(refine Qq ?_;(first|refine QZ rfl rfl (htn) ?_|refine qy rfl (one_c _ _) (by repeat' first|exact Wf|exact Wu _|exact WB (QO _)|exact QO _|refine ZG ?_ ?_|refine Zq ?_|refine Wv ?_|refine Wp ?_|exact WL|refine Q8 ?_ ?_|refine WB ?_) ?_|refine Wi 0 (ql L S hL) rfl rfl rfl rfl ?_|refine Wi 0 (his1) rfl rfl rfl rfl ?_|refine Wi 0 (his2) rfl rfl rfl rfl ?_|refine Wi 0 (qc L S hL _ (by decide) (by assumption)) rfl rfl rfl rfl ?_|refine Wi 0 (Z8 L S hL _ (by decide) (by assumption)) rfl rfl rfl rfl ?_))|refine WR rfl rfl rfl rfl ?_|refine QC (fun _ _ => ?_)))|(refine Qk ?_;(first|refine Qi ?_|refine QN rfl ?_|refine Q5 ?_))|(refine Qj ?_;(first|refine Qn ?_|refine Qc ?_|refine Qf ?_|refine Qh rfl ?_|refine Ql rfl ?_|refine Qs ?_)))
  refine e_1 (Tryz.results176) (QH (size := 4) rfl rfl rfl rfl) ?_
  rw [QW]
  exact c_ce rfl rfl
 rw [if_neg hwTrue]
 by_cases hwFalse : Wb L S = wFalse
 ·rw [if_pos hwFalse]
  have hrn := (WW hwFalse (by decide)).1
  refine ⟨fun g B hg => ?_, by first|omega|(simp only;omega)|(simp only;rw [qz];omega)⟩
  refine Qa Tryz.func176 rfl Tryz.ntmps176 rfl (t := [(0, .ptr 0 g 0)]) rfl fun E0 hE1 => ?_
  (repeat' first|(refine Qe ?_;(first|refine QG rfl ?_|refine QJ rfl ?_|(refine Qq ?_;(first|refine QZ rfl rfl (htn) ?_|refine qy rfl (one_c _ _) (by repeat' first|exact Wf|exact Wu _|exact WB (QO _)|exact QO _|refine ZG ?_ ?_|refine Zq ?_|refine Wv ?_|refine Wp ?_|exact WL|refine Q8 ?_ ?_|refine WB ?_) ?_|refine Wi 0 (ql L S hL) rfl rfl rfl rfl ?_|refine Wi 0 (his1) rfl rfl rfl rfl ?_|refine Wi 0 (his2) rfl rfl rfl rfl ?_|refine Wi 0 (qc L S hL _ (by decide) (by assumption)) rfl rfl rfl rfl ?_|refine Wi 0 (Z8 L S hL _ (by decide) (by assumption)) rfl rfl rfl rfl ?_))|refine WR rfl rfl rfl rfl ?_|refine QC (fun _ _ => ?_)))|(refine Qk ?_;(first|refine Qi ?_|refine QN rfl ?_|refine Q5 ?_))|(refine Qj ?_;(first|refine Qn ?_|refine Qc ?_|refine Qf ?_|refine Qh rfl ?_|refine Ql rfl ?_|refine Qs ?_)))
  refine e_1 (Tryz.results176) (QH (size := 4) rfl rfl rfl rfl) ?_
  rw [QW]
  exact c_ce rfl rfl
 rw [if_neg hwFalse]
 by_cases h6 : Wb L S = [40]
 ·rw [if_pos h6]
  have hrn := (WW h6 (by decide)).1
  obtain ⟨hbin, hbl⟩ := binary_rc (G := G) hG1 L hL _ _ (hel (by omega)) (Qy S) (by omega)
  refine ⟨fun g B hg => ?_, by omega⟩
  refine Qa Tryz.func176 rfl Tryz.ntmps176 rfl (t := [(0, .ptr 0 g 0)]) rfl fun E0 hE1 => ?_
  (repeat' first|(refine Qe ?_;(first|refine QG rfl ?_|refine QJ rfl ?_|(refine Qq ?_;(first|refine QZ rfl rfl (htn) ?_|refine Wi 0 (ql L S hL) rfl rfl rfl rfl ?_|refine Wi 0 (his1) rfl rfl rfl rfl ?_|refine Wi 0 (his2) rfl rfl rfl rfl ?_|refine Wi 0 (qc L S hL _ (by decide) (by assumption)) rfl rfl rfl rfl ?_|refine Wi 0 (Z8 L S hL _ (by decide) (by assumption)) rfl rfl rfl rfl ?_|refine Wi 0 (hbin) rfl rfl rfl rfl ?_))|refine WR rfl rfl rfl rfl ?_|refine QC (fun _ _ => ?_)))|(refine Qk ?_;(first|refine Qi ?_|refine QN rfl ?_|refine Q5 ?_))|(refine Qj ?_;(first|refine Qn ?_|refine Qc ?_|refine Qf ?_|refine Qh rfl ?_|refine Ql rfl ?_|refine Qs ?_)))
  exact e_1 (Tryz.results176) (QH (size := 4) rfl rfl (partD_node _) (Enc.len _)) (c_ce rfl rfl)
 rw [if_neg h6]
 by_cases h7 : Wb L S = [33]
 ·rw [if_pos h7]
  have hrn := (WW h7 (by decide)).1
  obtain ⟨hE2, hl2⟩ := hel (by omega) (Qy S) (by omega)
  generalize (WP L (.mk 4 0 0 []) n (Qy S)).1 = xE at *
  generalize (WP L (.mk 4 0 0 []) n (Qy S)).2 = S2 at *
  refine ⟨fun g B hg => ?_, by first|omega|(simp only;omega)|(simp only;rw [qz];omega)⟩
  refine Qa Tryz.func176 rfl Tryz.ntmps176 rfl (t := [(0, .ptr 0 g 0)]) rfl fun E0 hE1 => ?_
  (repeat' first|(refine Qe ?_;(first|refine QG rfl ?_|refine QJ rfl ?_|(refine Qq ?_;(first|refine QZ rfl rfl (htn) ?_|refine Wi 0 (ql L S hL) rfl rfl rfl rfl ?_|refine Wi 0 (his1) rfl rfl rfl rfl ?_|refine Wi 0 (his2) rfl rfl rfl rfl ?_|refine Wi 0 (qc L S hL _ (by decide) (by assumption)) rfl rfl rfl rfl ?_|refine Wi 0 (Z8 L S hL _ (by decide) (by assumption)) rfl rfl rfl rfl ?_|refine Wi 0 (hE2) rfl rfl rfl rfl ?_))|refine WR rfl rfl rfl rfl ?_|refine Wc (z := xE) rfl rfl (by decide) ?_|refine QQ rfl rfl ?_|refine QC (fun _ _ => ?_)))|(refine Qk ?_;(first|refine Qi ?_|refine QN rfl ?_|refine Q5 ?_))|(refine Qj ?_;(first|refine Qn ?_|refine Qc ?_|refine Qf ?_|refine Qh rfl ?_|refine Ql rfl ?_|refine Qs ?_)))
  refine e_1 (Tryz.results176) (QH (size := 4) rfl rfl rfl rfl) ?_
  rw [QW]
  exact c_ce (by simp [QR, Ws];try rfl) rfl
 rw [if_neg h7]
 by_cases h8 : Wb L S = wRecv
 ·rw [if_pos h8]
  have hrn := (WW h8 (by decide)).1
  have hnb := numbered_c (G := G) L (Qy S) hL 99
  have hnl := rM_numbered L 99 (Qy S)
  refine ⟨fun g B hg => ?_, by first|omega|(simp only;omega)|(simp only;rw [qz];omega)⟩
  refine Qa Tryz.func176 rfl Tryz.ntmps176 rfl (t := [(0, .ptr 0 g 0)]) rfl fun E0 hE1 => ?_
  (repeat' first|(refine Qe ?_;(first|refine QG rfl ?_|refine QJ rfl ?_|(refine Qq ?_;(first|refine QZ rfl rfl (htn) ?_|refine qy rfl (one_c _ _) (by repeat' first|exact Wf|exact Wu _|exact WB (QO _)|exact QO _|refine ZG ?_ ?_|refine Zq ?_|refine Wv ?_|refine Wp ?_|exact WL|refine Q8 ?_ ?_|refine WB ?_) ?_|refine Wi 0 (ql L S hL) rfl rfl rfl rfl ?_|refine Wi 0 (his1) rfl rfl rfl rfl ?_|refine Wi 0 (his2) rfl rfl rfl rfl ?_|refine Wi 0 (qc L S hL _ (by decide) (by assumption)) rfl rfl rfl rfl ?_|refine Wi 0 (Z8 L S hL _ (by decide) (by assumption)) rfl rfl rfl rfl ?_|refine Wi 0 (hnb) rfl rfl rfl rfl ?_))|refine WR rfl rfl rfl rfl ?_|refine QC (fun _ _ => ?_)))|(refine Qk ?_;(first|refine Qi ?_|refine QN rfl ?_|refine Q5 ?_))|(refine Qj ?_;(first|refine Qn ?_|refine Qc ?_|refine Qf ?_|refine Qh rfl ?_|refine Ql rfl ?_|refine Qs ?_)))
  refine e_1 (Tryz.results176) (QH (size := 4) rfl rfl rfl rfl) ?_
  rw [QW]
  exact c_ce rfl rfl
 rw [if_neg h8]
 refine ⟨fun g B hg => ?_, by first|omega|(simp only;omega)|(simp only;rw [qz];omega)⟩
 refine Qa Tryz.func176 rfl Tryz.ntmps176 rfl (t := [(0, .ptr 0 g 0)]) rfl fun E0 hE1 => ?_
 (repeat' first|(refine Qe ?_;(first|refine QG rfl ?_|refine QJ rfl ?_|(refine Qq ?_;(first|refine QZ rfl rfl (htn) ?_|refine Wi 0 (ql L S hL) rfl rfl rfl rfl ?_|refine Wi 0 (his1) rfl rfl rfl rfl ?_|refine Wi 0 (his2) rfl rfl rfl rfl ?_|refine Wi 0 (qc L S hL _ (by decide) (by assumption)) rfl rfl rfl rfl ?_|refine Wi 0 (fail_c L S) rfl rfl rfl rfl ?_))|refine WR rfl rfl rfl rfl ?_|refine QQ rfl rfl ?_|refine QC (fun _ _ => ?_)))|(refine Qk ?_;(first|refine Qi ?_|refine QN rfl ?_|refine Q5 ?_))|(refine Qj ?_;(first|refine Qn ?_|refine Qc ?_|refine Qf ?_|refine Qx ?_|refine Ql rfl ?_|refine Qs ?_)))
 exact e_1 (Tryz.results176) (QH (size := 4) rfl rfl rfl rfl) (W5 (es := 4) (.node rfl rfl rfl) (by show _ = DV.agg (Enc.enc (Nd.mk 0 0 0 []));rw [QW];rfl) rfl)
end Go.Proofs
end
section
namespace Go.Proofs
open Go.Av Go.Bl
theorem jr {α : Type} {L : ZK} {F : RS -> α × RS} (h : ∀ i, J i True F F) (S : RS) : rM L (F S).2 <= rM L S /\ mM L (F S).2 <= mM L S := by
 obtain ⟨h1, h2, _⟩ := h 0 S
 unfold rM mM
 cases hb : S.bad with
 | true => rw [h2 hb];simp
 | false => constructor <;> split <;> simp <;> omega
theorem jB {L : ZK} {T : Rd1} (hT : ∀ i c, J i c T T) (k i : Nat) (c : Prop) : J i c (Wt L T k) (Wt L T k) := J.block (Ag.refl L i) (hT i) k c
theorem jS {L : ZK} {E : Rd1} (hE : ∀ i c, J i c E E) (q n i : Nat) (c : Prop) : J i c (WS L E q n) (WS L E q n) := J.stmt (Ag.refl L i) (hE i) q n c
theorem mm_is {L : ZK} {S : RS} {c : UInt8} (h : isM L c S = true) : mM L (Qr L c S).2 < mM L S := by
 have h1 := mm_next (L := L) (S := S) rfl (is_now h).1
 unfold Qr;rw [if_pos h];exact h1
theorem eats_st {L : ZK} {E : Rd1} (hE : ∀ i c, J i c E E) (q n : Nat) : Eats L (WS L E q (n + 1)) := by
 intro S hb
 rw [WS]
 have hB : ∀ i c, J i c (Wt L (WS L E q n) n) (Wt L (WS L E q n) n) := fun i c => jB (fun i c => jS hE q n i c) n i c
 have nx : ∀ {α : Type} {F : RS -> α × RS} {s : List UInt8}, (∀ i, J i True F F) -> Wb L S = s -> s ≠ [] -> mM L (F (Qy S)).2 < mM L S := fun hF h1 h2 => Nat.lt_of_le_of_lt (jr hF (Qy S)).2 (mm_next h1 h2)
 by_cases h : Wb L S = [123]
 ·rw [if_pos h]
  have h1 := (mm_take (L := L) (S := S) [123] (by decide)).1
  have h2 := rm_mM L S
  have h3 : rM L S < mM L S := by unfold rM mM;rw [hb];simp
  have h4 : mM L (WK L (WS L E q n) n [] (Wa L [123] S)).2 <= mM L (Wa L [123] S) := (jr (fun i => J.bloop (Ag.refl L i) (fun c => jS hE q n i c) n True [] [] fun _ => rfl) _).2
  show mM L (WK L (WS L E q n) n [] (Wa L [123] S)).2 < _
  omega
 rw [if_neg h]
 clear h
 by_cases h : isM L 118 S = true
 ·rw [if_pos h]
  have h1 := mm_is h
  have h2 : mM L (WH L E S).2 <= mM L (Qr L 118 S).2 := (jr (fun i => (J.vtail (Ag.refl L i) (hE i) _ _ : J i (True /\ (Qr L 118 S).1 = (Qr L 118 S).1) _ _).weak fun _ => ⟨trivial, rfl⟩) _).2
  have h3 : mM L (qZ L E S).2 <= mM L (WH L E S).2 := (jr (fun i => (J.atail (Ag.refl L i) (hE i) _ _ : J i (True /\ (WH L E S).1 = (WH L E S).1) _ _).weak fun _ => ⟨trivial, rfl⟩) _).2
  omega
 rw [if_neg h]
 clear h
 by_cases h : Wb L S = wIf
 ·rw [if_pos h]
  exact nx (F := ifM L E (Wt L (WS L E q n) n)) (fun i => J.iff (Ag.refl L i) (hE i) (hB i)) h (by decide)
 rw [if_neg h]
 clear h
 by_cases h : Wb L S = wWhile
 ·rw [if_pos h]
  exact nx (F := whileM E (Wt L (WS L E q n) n)) (fun i => J.whil (hE i) (hB i)) h (by decide)
 rw [if_neg h]
 clear h
 by_cases h : Wb L S = wReturn
 ·rw [if_pos h]
  exact nx (F := oneM E 19 0) (fun i => J.one (hE i) _ _ _ fun _ => rfl) h (by decide)
 rw [if_neg h]
 clear h
 by_cases h : Wb L S = wThrow
 ·rw [if_pos h]
  exact nx (F := oneM E 20 0) (fun i => J.one (hE i) _ _ _ fun _ => rfl) h (by decide)
 rw [if_neg h]
 clear h
 by_cases h : Wb L S = wOut
 ·rw [if_pos h]
  exact nx (F := oneM E 24 0) (fun i => J.one (hE i) _ _ _ fun _ => rfl) h (by decide)
 rw [if_neg h]
 clear h
 by_cases h : Wb L S = wSkip
 ·rw [if_pos h]
  exact mm_next h (by decide)
 rw [if_neg h]
 clear h
 by_cases h : Wb L S = wTry
 ·rw [if_pos h]
  exact nx (F := tryM L (Wt L (WS L E q n) n)) (fun i => J.tri (Ag.refl L i) (hB i)) h (by decide)
 rw [if_neg h]
 clear h
 by_cases h : Wb L S = wSend
 ·rw [if_pos h]
  have h1 := mm_next h (by decide)
  have h2 := (jr (L := L) (F := Qr L 99) (fun i => J.numbered (Ag.refl L i) 99) (Qy S)).2
  have h3 := (jr (L := L) (F := oneM E 22 (Qr L 99 (Qy S)).1) (fun i => J.one (hE i) _ _ _ fun _ => rfl) (Qr L 99 (Qy S)).2).2
  omega
 rw [if_neg h]
 clear h
 by_cases h : Wb L S = wSpawn
 ·rw [if_pos h]
  have h1 := mm_next h (by decide)
  have h2 := (jr (L := L) (F := Qr L 102) (fun i => J.numbered (Ag.refl L i) 102) (Qy S)).2
  have h3 := (jr (L := L) (F := WZ L E q) (fun i => J.arg (Ag.refl L i) (hE i) q) (Qr L 102 (Qy S)).2).2
  show mM L (WZ L E q (Qr L 102 (Qy S)).2).2 < _
  omega
 rw [if_neg h]
 exact mm_fail hb
end Go.Proofs
end
