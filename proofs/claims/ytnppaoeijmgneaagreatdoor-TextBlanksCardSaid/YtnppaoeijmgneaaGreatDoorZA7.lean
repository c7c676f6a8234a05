/-
  Part 7 of the proof: GD AvD3 SA SB SS.
-/
import Derived.Test.YtnppaoeijmgneaaGreatDoorZA1
import Derived.Test.YtnppaoeijmgneaaGreatDoorZA6
set_option linter.unusedSimpArgs false
set_option linter.unusedVariables false
set_option maxRecDepth 10000
set_option maxHeartbeats 4000000
section
namespace Go.Proofs
open Go.Av
variable {G : Nat -> DV}
attribute [local irreducible] OpSem ZA ZV Z8 ACalls AEnd AClose RV
open Go.Bl
theorem chLeafS (l : List Int) (hl : OkI l) (E2 E1 : GenF) (hE2x : ∀ a L, preE a L -> QE 4 3 1 4 (E2 a L).1 a L (E2 a L).2.1 (E2 a L).2.2 /\ CE Tryz.prog G 125 (fun p g => [.ptr p g 0, .i 2]) (genC l a L) (.agg (Enc.enc (E2 a L).1)) (genC l (E2 a L).2.1 (E2 a L).2.2))
  (hE1x : ∀ a L, preE a L -> QE 4 2 1 2 (E1 a L).1 a L (E1 a L).2.1 (E1 a L).2.2 /\ CE Tryz.prog G 125 (fun p g => [.ptr p g 0, .i 1]) (genC l a L) (.agg (Enc.enc (E1 a L).1)) (genC l (E1 a L).2.1 (E1 a L).2.2)) (dd a L x : Int) (h : preS a L)
  (hx : (dd <= 0 /\ atI l a 14 % 10 = x) \/ (0 < dd /\ L - 1 <= 0 /\ atI l a 14 % 10 = x) \/ (0 < dd /\ 0 < L - 1 /\ atI l a 14 = x)) (hx2 : 0 <= x /\ x <= 9) :
  ∃ t : Nd × Int × Int, QE 5 4 5 7 t.1 a L t.2.1 t.2.2 /\ CE Tryz.prog G 79 (fun p g => [.ptr p g 0, .i dd]) (genC l a L) (.agg (Enc.enc t.1)) (genC l t.2.1 t.2.2) := by
 obtain ⟨p1, p2, p3, p4⟩ := h
 have bx := QX l a (most := 14) (by decide)
 have hsm := chSome (G := G) l hl 1 (by decide) E1 hE1x
 have hrq := run_q (E := E1) (w := 4) (dep := 2) (c := 2) (by decide) fun a L h => (hE1x a L h).1
 have hxx : x = 0 \/ x = 1 \/ x = 2 \/ x = 3 \/ x = 4 \/ x = 5 \/ x = 6 \/ x = 7 \/ x = 8 \/ x = 9 := by omega
 rcases hx with hx | hx | hx
 ·rcases hxx with rfl | rfl | rfl | rfl | rfl | rfl | rfl | rfl | rfl | rfl
  ·obtain ⟨hqv1, hE1⟩ := hE2x (a + 1) (L - 1) ⟨by omega, by omega, by omega, by omega⟩
   obtain ⟨fv1, dv1, sv1, wv1, mv1, uv1⟩ := hqv1
   generalize E2 (a + 1) (L - 1) = tv1 at *
   obtain ⟨v1, b1, M1⟩ := tv1
   dsimp only at *
   have spv1 := QZ v1
   have n6 := QX l (b1) (most := 6) (by decide)
   clear hE2x hE1x hsm hrq
   refine ⟨(.mk 14 (atI l b1 6) (0) [v1], b1 + 1, M1), ?_, fun g B hg => ?_⟩
   ·refine ⟨WT ⟨5, 0, 5, 0, [4], 0, 0, 0⟩ rfl (by decide) (by decide) (by dsimp only; omega) (by dsimp only; omega) (by first | (simp; done) | (simp; omega)) (kids1 fv1), ?_, ?_, ?_, ?_, ?_⟩
    ·rw [Wn]; (try simp only [Wo]); omega
    ·rw [QI]; (try simp only [QT]); omega
    ·dsimp only; omega
    ·dsimp only; omega
    ·dsimp only; omega
   ·refine Qa Tryz.func79 rfl Tryz.ntmps79 rfl (t := [(0, .ptr 0 g 0), (1, .i dd)]) rfl fun E0 hE0 => ?_
    (repeat' first | (refine Qo ?_; (first | (refine Qj ?_; refine QU rfl ?_) | (refine Qd ?_; refine Q5 rfl ?_) | (refine Ql ?_; refine Qf rfl rfl rfl ?_) | (refine Qh ?_; (first | refine W1 rfl rfl (by omega) ?_ | refine W3 rfl rfl ?_ | refine Wc rfl rfl ?_ | refine qe rfl rfl (by first | omega | exact nn_shr (by omega)) (by omega) ?_)) | (refine Qk ?_; (first | refine Wf 0 (Wm l hl _ _ _ (by omega) (by omega)) rfl rfl rfl rfl ?_ | refine Wf 0 (hE1) rfl rfl rfl rfl ?_)) | (refine QJ ?_; refine Ze rfl rfl ?_) | (refine Qx ?_; (first | refine Qe rfl rfl rfl (by first | assumption | exact Enc.len _ | rfl) (by first | assumption | exact Enc.len _ | rfl) rfl ?_ | refine Q8 rfl rfl rfl rfl (by rfl) (by rfl) (by rfl) ?_)) | (refine Qb ?_; refine Qg rfl rfl ?_) | (refine Qy ?_; refine Qt rfl rfl ?_) | (refine QG ?_; refine QD (fun _ _ => ?_)))) | (refine Qv ?_; (first | refine Qu ?_ | refine QY rfl ?_ | refine Q1 ?_ | refine Zl rfl rfl rfl rfl ?_ | refine Wv rfl rfl (by omega) ?_)) | (refine Qs ?_; (first | refine Qw ?_ | refine Qc ?_ | refine Qm ?_ | (refine WJ ?_; first | (rename_i g4 hg4 ge hge; refine Qq (fun p => p :: .row g4 [.i 0, .i 0, .i 0, .nil] :: .row ge (Enc.enc v1) :: []) 6 [(0, true), (1, true), (2, true), (3, false), (4, true), (5, true), (6, false)] (by rfl) (by rfl) (by kernel_rfl) (by decide +kernel) (by decide +kernel) ⟨_, rfl⟩ ?_) | (rename_i g4 hg4 ge hge; refine Qq (fun p => p :: .row g4 [.i 0, .i 0, .i 0, .nil] :: .row ge (Enc.enc v1) :: []) 9 [(0, true), (1, true), (2, true), (4, true), (5, true), (3, false), (6, false), (7, true), (8, true), (9, false)] (by rfl) (by rfl) (by kernel_rfl) (by decide +kernel) (by decide +kernel) ⟨_, rfl⟩ ?_) | (rename_i g4 hg4 ge hge; refine Qq (fun p => p :: .row g4 [.i 0, .i 0, .i 0, .nil] :: .row ge (Enc.enc v1) :: []) 7 [(0, true), (2, true), (4, true), (5, true), (1, false), (3, false), (6, true), (7, false)] (by rfl) (by rfl) (by kernel_rfl) (by decide +kernel) (by decide +kernel) ⟨_, rfl⟩ ?_) | (rename_i g4 hg4 ge hge; refine Qq (fun p => p :: .row g4 [.i 0, .i 0, .i 0, .nil] :: .row ge (Enc.enc v1) :: []) 7 [(0, true), (2, true), (3, true), (1, false), (4, false), (5, true), (6, true), (7, false)] (by rfl) (by rfl) (by kernel_rfl) (by decide +kernel) (by decide +kernel) ⟨_, rfl⟩ ?_) | (rename_i g4 hg4 ge hge; refine Qq (fun p => p :: .row g4 [.i 0, .i 0, .i 0, .nil] :: .row ge (Enc.enc v1) :: []) 5 [(0, true), (2, true), (3, true), (1, false), (4, true), (5, false)] (by rfl) (by rfl) (by kernel_rfl) (by decide +kernel) (by decide +kernel) ⟨_, rfl⟩ ?_) | (refine Qq (fun p => p) 100 [(0, true)] (by rfl) (by rfl) (by kernel_rfl) (by decide +kernel) (by decide +kernel) ⟨_, rfl⟩ ?_) | (refine Qq (fun p => p.1 :: .row g4 [.i 0, .i 0, .i 0, .nil] :: .row g5 [.i 13, .i 0, .i 0, .ref 3 gg 0 o.length 4] :: p.2) 9 [(0, true), (1, true), (2, true), (3, true), (4, true), (5, false), (6, true), (7, false), (8, true), (9, false)] (by rfl) (by rfl) (by kernel_rfl) (by decide +kernel) (by decide +kernel) ⟨(_, _), rfl⟩ ?_) | refine Ws (by rfl) (by kernel_rfl) (by kernel_rfl) ?_ | refine Wr (by kernel_rfl) (by kernel_rfl) ?_) | refine QR ?_ | refine QB rfl ?_ | refine Qr rfl (by omega) ?_ | refine QM ?_)) | (refine W8 ?_; (first | refine ZH ?_ | refine i_z0 ?_ | refine i_st rfl rfl (fun _ => (by (repeat' first | (refine Qo ?_; (first | (refine Qj ?_; refine QU rfl ?_) | (refine Ql ?_; refine Qi rfl rfl (by first | assumption | exact Enc.len _ | rfl) ?_) | (refine QK ?_; refine Q0 (z := v1) rfl rfl (by decide) ?_) | (refine QS ?_; refine QC rfl rfl ?_))) | exact ⟨rfl, rfl⟩))) ?_ | refine i_ef rfl ?_)) | refine And.intro (Exists.intro (_) rfl) ?_)
    refine e_1 (Tryz.results79) (QA (size := 4) rfl rfl rfl rfl) ?_
    rw [Q3]
    exact qb (by first | rfl | (simp [Wi, WH]; try rfl)) rfl
  ·obtain ⟨hqv1, hE1⟩ := hE2x (a + 1) (L - 1) ⟨by omega, by omega, by omega, by omega⟩
   obtain ⟨fv1, dv1, sv1, wv1, mv1, uv1⟩ := hqv1
   generalize E2 (a + 1) (L - 1) = tv1 at *
   obtain ⟨v1, b1, M1⟩ := tv1
   dsimp only at *
   have spv1 := QZ v1
   have n6 := QX l (b1) (most := 6) (by decide)
   clear hE2x hE1x hsm hrq
   refine ⟨(.mk 14 (atI l b1 6) (0) [v1], b1 + 1, M1), ?_, fun g B hg => ?_⟩
   ·refine ⟨WT ⟨5, 0, 5, 0, [4], 0, 0, 0⟩ rfl (by decide) (by decide) (by dsimp only; omega) (by dsimp only; omega) (by first | (simp; done) | (simp; omega)) (kids1 fv1), ?_, ?_, ?_, ?_, ?_⟩
    ·rw [Wn]; (try simp only [Wo]); omega
    ·rw [QI]; (try simp only [QT]); omega
    ·dsimp only; omega
    ·dsimp only; omega
    ·dsimp only; omega
   ·refine Qa Tryz.func79 rfl Tryz.ntmps79 rfl (t := [(0, .ptr 0 g 0), (1, .i dd)]) rfl fun E0 hE0 => ?_
    (repeat' first | (refine Qo ?_; (first | (refine Qj ?_; refine QU rfl ?_) | (refine Qd ?_; refine Q5 rfl ?_) | (refine Ql ?_; refine Qf rfl rfl rfl ?_) | (refine Qh ?_; (first | refine W1 rfl rfl (by omega) ?_ | refine W3 rfl rfl ?_ | refine Wc rfl rfl ?_ | refine qe rfl rfl (by first | omega | exact nn_shr (by omega)) (by omega) ?_)) | (refine Qk ?_; (first | refine Wf 0 (Wm l hl _ _ _ (by omega) (by omega)) rfl rfl rfl rfl ?_ | refine Wf 0 (hE1) rfl rfl rfl rfl ?_)) | (refine QJ ?_; refine Ze rfl rfl ?_) | (refine Qx ?_; (first | refine Qe rfl rfl rfl (by first | assumption | exact Enc.len _ | rfl) (by first | assumption | exact Enc.len _ | rfl) rfl ?_ | refine Q8 rfl rfl rfl rfl (by rfl) (by rfl) (by rfl) ?_)) | (refine Qb ?_; refine Qg rfl rfl ?_) | (refine Qy ?_; refine Qt rfl rfl ?_) | (refine QG ?_; refine QD (fun _ _ => ?_)))) | (refine Qv ?_; (first | refine Qu ?_ | refine QY rfl ?_ | refine Q1 ?_ | refine Zl rfl rfl rfl rfl ?_ | refine Wv rfl rfl (by omega) ?_)) | (refine Qs ?_; (first | refine Qw ?_ | refine Qc ?_ | refine Qm ?_ | (refine WJ ?_; first | (rename_i g4 hg4 ge hge; refine Qq (fun p => p :: .row g4 [.i 0, .i 0, .i 0, .nil] :: .row ge (Enc.enc v1) :: []) 6 [(0, true), (1, true), (2, true), (3, false), (4, true), (5, true), (6, false)] (by rfl) (by rfl) (by kernel_rfl) (by decide +kernel) (by decide +kernel) ⟨_, rfl⟩ ?_) | (rename_i g4 hg4 ge hge; refine Qq (fun p => p :: .row g4 [.i 0, .i 0, .i 0, .nil] :: .row ge (Enc.enc v1) :: []) 9 [(0, true), (1, true), (2, true), (4, true), (5, true), (3, false), (6, false), (7, true), (8, true), (9, false)] (by rfl) (by rfl) (by kernel_rfl) (by decide +kernel) (by decide +kernel) ⟨_, rfl⟩ ?_) | (rename_i g4 hg4 ge hge; refine Qq (fun p => p :: .row g4 [.i 0, .i 0, .i 0, .nil] :: .row ge (Enc.enc v1) :: []) 7 [(0, true), (2, true), (4, true), (5, true), (1, false), (3, false), (6, true), (7, false)] (by rfl) (by rfl) (by kernel_rfl) (by decide +kernel) (by decide +kernel) ⟨_, rfl⟩ ?_) | (rename_i g4 hg4 ge hge; refine Qq (fun p => p :: .row g4 [.i 0, .i 0, .i 0, .nil] :: .row ge (Enc.enc v1) :: []) 7 [(0, true), (2, true), (3, true), (1, false), (4, false), (5, true), (6, true), (7, false)] (by rfl) (by rfl) (by kernel_rfl) (by decide +kernel) (by decide +kernel) ⟨_, rfl⟩ ?_) | (rename_i g4 hg4 ge hge; refine Qq (fun p => p :: .row g4 [.i 0, .i 0, .i 0, .nil] :: .row ge (Enc.enc v1) :: []) 5 [(0, true), (2, true), (3, true), (1, false), (4, true), (5, false)] (by rfl) (by rfl) (by kernel_rfl) (by decide +kernel) (by decide +kernel) ⟨_, rfl⟩ ?_) | (refine Qq (fun p => p) 100 [(0, true)] (by rfl) (by rfl) (by kernel_rfl) (by decide +kernel) (by decide +kernel) ⟨_, rfl⟩ ?_) | (refine Qq (fun p => p.1 :: .row g4 [.i 0, .i 0, .i 0, .nil] :: .row g5 [.i 13, .i 0, .i 0, .ref 3 gg 0 o.length 4] :: p.2) 9 [(0, true), (1, true), (2, true), (3, true), (4, true), (5, false), (6, true), (7, false), (8, true), (9, false)] (by rfl) (by rfl) (by kernel_rfl) (by decide +kernel) (by decide +kernel) ⟨(_, _), rfl⟩ ?_) | refine Ws (by rfl) (by kernel_rfl) (by kernel_rfl) ?_ | refine Wr (by kernel_rfl) (by kernel_rfl) ?_) | refine QB rfl ?_ | refine Qr rfl (by omega) ?_ | refine Qn rfl (by omega) ?_ | refine QM ?_)) | (refine W8 ?_; (first | refine ZH ?_ | refine i_z0 ?_ | refine i_st rfl rfl (fun _ => (by (repeat' first | (refine Qo ?_; (first | (refine Qj ?_; refine QU rfl ?_) | (refine Ql ?_; refine Qi rfl rfl (by first | assumption | exact Enc.len _ | rfl) ?_) | (refine QK ?_; refine Q0 (z := v1) rfl rfl (by decide) ?_) | (refine QS ?_; refine QC rfl rfl ?_))) | exact ⟨rfl, rfl⟩))) ?_ | refine i_ef rfl ?_)) | refine And.intro (Exists.intro (_) rfl) ?_)
    refine e_1 (Tryz.results79) (QA (size := 4) rfl rfl rfl rfl) ?_
    rw [Q3]
    exact qb (by first | rfl | (simp [Wi, WH]; try rfl)) rfl
  ·obtain ⟨hqv1, hE1⟩ := hE2x (a + 1) (L - 1) ⟨by omega, by omega, by omega, by omega⟩
   obtain ⟨fv1, dv1, sv1, wv1, mv1, uv1⟩ := hqv1
   generalize E2 (a + 1) (L - 1) = tv1 at *
   obtain ⟨v1, b1, M1⟩ := tv1
   dsimp only at *
   have spv1 := QZ v1
   obtain ⟨hqv2, hE2⟩ := hE2x (b1 + 1) (M1) ⟨by omega, by omega, by omega, by omega⟩
   obtain ⟨fv2, dv2, sv2, wv2, mv2, uv2⟩ := hqv2
   generalize E2 (b1 + 1) (M1) = tv2 at *
   obtain ⟨v2, b2, M2⟩ := tv2
   dsimp only at *
   have spv2 := QZ v2
   have n6 := QX l (b1) (most := 6) (by decide)
   clear hE2x hE1x hsm hrq
   refine ⟨(.mk 15 (atI l b1 6) (0) [v1, v2], b2, M2), ?_, fun g B hg => ?_⟩
   ·refine ⟨WT ⟨5, 0, 5, 0, [4, 4], 0, 0, 0⟩ rfl (by decide) (by decide) (by dsimp only; omega) (by dsimp only; omega) (by first | (simp; done) | (simp; omega)) (kids2 fv1 fv2), ?_, ?_, ?_, ?_, ?_⟩
    ·rw [Wn]; (try simp only [Wo]); omega
    ·rw [QI]; (try simp only [QT]); omega
    ·dsimp only; omega
    ·dsimp only; omega
    ·dsimp only; omega
   ·refine Qa Tryz.func79 rfl Tryz.ntmps79 rfl (t := [(0, .ptr 0 g 0), (1, .i dd)]) rfl fun E0 hE0 => ?_
    (repeat' first | (refine Qo ?_; (first | (refine Qj ?_; refine QU rfl ?_) | (refine Qd ?_; refine Q5 rfl ?_) | (refine Ql ?_; refine Qf rfl rfl rfl ?_) | (refine Qh ?_; (first | refine W1 rfl rfl (by omega) ?_ | refine W3 rfl rfl ?_ | refine Wc rfl rfl ?_ | refine qe rfl rfl (by first | omega | exact nn_shr (by omega)) (by omega) ?_)) | (refine Qk ?_; (first | refine Wf 0 (Wm l hl _ _ _ (by omega) (by omega)) rfl rfl rfl rfl ?_ | refine Wf 0 (hE1) rfl rfl rfl rfl ?_ | refine Wf 0 (hE2) rfl rfl rfl rfl ?_)) | (refine QJ ?_; refine Ze rfl rfl ?_) | (refine Qx ?_; (first | refine Qe rfl rfl rfl (by first | assumption | exact Enc.len _ | rfl) (by first | assumption | exact Enc.len _ | rfl) rfl ?_ | refine Q8 rfl rfl rfl rfl (by rfl) (by rfl) (by rfl) ?_)) | (refine Qb ?_; refine Qg rfl rfl ?_) | (refine Qy ?_; refine Qt rfl rfl ?_) | (refine QG ?_; refine QD (fun _ _ => ?_)))) | (refine Qv ?_; (first | refine Qu ?_ | refine QY rfl ?_ | refine Q1 ?_ | refine Zl rfl rfl rfl rfl ?_ | refine Wv rfl rfl (by omega) ?_)) | (refine Qs ?_; (first | refine Qw ?_ | refine Qc ?_ | refine Qm ?_ | (refine WJ ?_; first | (rename_i g4 hg4 ge hge; refine Qq (fun p => p :: .row g4 [.i 0, .i 0, .i 0, .nil] :: .row ge (Enc.enc v1) :: []) 6 [(0, true), (1, true), (2, true), (3, false), (4, true), (5, true), (6, false)] (by rfl) (by rfl) (by kernel_rfl) (by decide +kernel) (by decide +kernel) ⟨_, rfl⟩ ?_) | (rename_i g4 hg4 ge hge; refine Qq (fun p => p :: .row g4 [.i 0, .i 0, .i 0, .nil] :: .row ge (Enc.enc v1) :: []) 9 [(0, true), (1, true), (2, true), (4, true), (5, true), (3, false), (6, false), (7, true), (8, true), (9, false)] (by rfl) (by rfl) (by kernel_rfl) (by decide +kernel) (by decide +kernel) ⟨_, rfl⟩ ?_) | (rename_i g4 hg4 ge hge; refine Qq (fun p => p :: .row g4 [.i 0, .i 0, .i 0, .nil] :: .row ge (Enc.enc v1) :: []) 7 [(0, true), (2, true), (4, true), (5, true), (1, false), (3, false), (6, true), (7, false)] (by rfl) (by rfl) (by kernel_rfl) (by decide +kernel) (by decide +kernel) ⟨_, rfl⟩ ?_) | (rename_i g4 hg4 ge hge; refine Qq (fun p => p :: .row g4 [.i 0, .i 0, .i 0, .nil] :: .row ge (Enc.enc v1) :: []) 7 [(0, true), (2, true), (3, true), (1, false), (4, false), (5, true), (6, true), (7, false)] (by rfl) (by rfl) (by kernel_rfl) (by decide +kernel) (by decide +kernel) ⟨_, rfl⟩ ?_) | (rename_i g4 hg4 ge hge; refine Qq (fun p => p :: .row g4 [.i 0, .i 0, .i 0, .nil] :: .row ge (Enc.enc v1) :: []) 5 [(0, true), (2, true), (3, true), (1, false), (4, true), (5, false)] (by rfl) (by rfl) (by kernel_rfl) (by decide +kernel) (by decide +kernel) ⟨_, rfl⟩ ?_) | (refine Qq (fun p => p) 100 [(0, true)] (by rfl) (by rfl) (by kernel_rfl) (by decide +kernel) (by decide +kernel) ⟨_, rfl⟩ ?_) | (refine Qq (fun p => p.1 :: .row g4 [.i 0, .i 0, .i 0, .nil] :: .row g5 [.i 13, .i 0, .i 0, .ref 3 gg 0 o.length 4] :: p.2) 9 [(0, true), (1, true), (2, true), (3, true), (4, true), (5, false), (6, true), (7, false), (8, true), (9, false)] (by rfl) (by rfl) (by kernel_rfl) (by decide +kernel) (by decide +kernel) ⟨(_, _), rfl⟩ ?_) | refine Ws (by rfl) (by kernel_rfl) (by kernel_rfl) ?_ | refine Wr (by kernel_rfl) (by kernel_rfl) ?_) | refine QB rfl ?_ | refine Qr rfl (by omega) ?_ | refine Qn rfl (by omega) ?_ | refine QM ?_)) | (refine W8 ?_; (first | refine ZH ?_ | refine i_z0 ?_ | refine i_st rfl rfl (fun _ => (by (repeat' first | (refine Qo ?_; (first | (refine Qj ?_; refine QU rfl ?_) | (refine Ql ?_; refine Qi rfl rfl (by first | assumption | exact Enc.len _ | rfl) ?_) | (refine QK ?_; refine ZJ (y := v1) (z := v2) rfl rfl (by decide) ?_) | (refine QS ?_; refine QC rfl rfl ?_))) | exact ⟨rfl, rfl⟩))) ?_ | refine i_ef rfl ?_)) | refine And.intro (Exists.intro (_) rfl) ?_)
    refine e_1 (Tryz.results79) (QA (size := 4) rfl rfl rfl rfl) ?_
    rw [Q3]
    exact qb (by first | rfl | (simp [Wi, WH]; try rfl)) rfl
  ·obtain ⟨hqv1, hE1⟩ := hE2x (a + 1) (L - 1) ⟨by omega, by omega, by omega, by omega⟩
   obtain ⟨fv1, dv1, sv1, wv1, mv1, uv1⟩ := hqv1
   generalize E2 (a + 1) (L - 1) = tv1 at *
   obtain ⟨v1, b1, M1⟩ := tv1
   dsimp only at *
   have spv1 := QZ v1
   have n6 := QX l (b1) (most := 6) (by decide)
   have n3 := QX l (b1 + 1) (most := 3) (by decide)
   clear hE2x hE1x hsm hrq
   refine ⟨(.mk 16 (atI l b1 6) (atI l (b1 + 1) 3) [v1], b1 + 1 + 1, M1), ?_, fun g B hg => ?_⟩
   ·refine ⟨WT ⟨5, 0, 5, 2, [4], 0, 0, 0⟩ rfl (by decide) (by decide) (by dsimp only; omega) (by dsimp only; omega) (by first | (simp; done) | (simp; omega)) (kids1 fv1), ?_, ?_, ?_, ?_, ?_⟩
    ·rw [Wn]; (try simp only [Wo]); omega
    ·rw [QI]; (try simp only [QT]); omega
    ·dsimp only; omega
    ·dsimp only; omega
    ·dsimp only; omega
   ·refine Qa Tryz.func79 rfl Tryz.ntmps79 rfl (t := [(0, .ptr 0 g 0), (1, .i dd)]) rfl fun E0 hE0 => ?_
    (repeat' first | (refine Qo ?_; (first | (refine Qj ?_; refine QU rfl ?_) | (refine Qd ?_; refine Q5 rfl ?_) | (refine Ql ?_; refine Qf rfl rfl rfl ?_) | (refine Qh ?_; (first | refine W1 rfl rfl (by omega) ?_ | refine W3 rfl rfl ?_ | refine Wc rfl rfl ?_ | refine qe rfl rfl (by first | omega | exact nn_shr (by omega)) (by omega) ?_)) | (refine Qk ?_; (first | refine Wf 0 (Wm l hl _ _ _ (by omega) (by omega)) rfl rfl rfl rfl ?_ | refine Wf 0 (hE1) rfl rfl rfl rfl ?_)) | (refine QJ ?_; refine Ze rfl rfl ?_) | (refine Qx ?_; (first | refine Qe rfl rfl rfl (by first | assumption | exact Enc.len _ | rfl) (by first | assumption | exact Enc.len _ | rfl) rfl ?_ | refine Q8 rfl rfl rfl rfl (by rfl) (by rfl) (by rfl) ?_)) | (refine Qb ?_; refine Qg rfl rfl ?_) | (refine Qy ?_; refine Qt rfl rfl ?_) | (refine QG ?_; refine QD (fun _ _ => ?_)))) | (refine Qv ?_; (first | refine Qu ?_ | refine QY rfl ?_ | refine Q1 ?_ | refine Zl rfl rfl rfl rfl ?_ | refine Wv rfl rfl (by omega) ?_)) | (refine Qs ?_; (first | refine Qw ?_ | refine Qc ?_ | refine Qm ?_ | (refine WJ ?_; first | (rename_i g4 hg4 ge hge; refine Qq (fun p => p :: .row g4 [.i 0, .i 0, .i 0, .nil] :: .row ge (Enc.enc v1) :: []) 6 [(0, true), (1, true), (2, true), (3, false), (4, true), (5, true), (6, false)] (by rfl) (by rfl) (by kernel_rfl) (by decide +kernel) (by decide +kernel) ⟨_, rfl⟩ ?_) | (rename_i g4 hg4 ge hge; refine Qq (fun p => p :: .row g4 [.i 0, .i 0, .i 0, .nil] :: .row ge (Enc.enc v1) :: []) 9 [(0, true), (1, true), (2, true), (4, true), (5, true), (3, false), (6, false), (7, true), (8, true), (9, false)] (by rfl) (by rfl) (by kernel_rfl) (by decide +kernel) (by decide +kernel) ⟨_, rfl⟩ ?_) | (rename_i g4 hg4 ge hge; refine Qq (fun p => p :: .row g4 [.i 0, .i 0, .i 0, .nil] :: .row ge (Enc.enc v1) :: []) 7 [(0, true), (2, true), (4, true), (5, true), (1, false), (3, false), (6, true), (7, false)] (by rfl) (by rfl) (by kernel_rfl) (by decide +kernel) (by decide +kernel) ⟨_, rfl⟩ ?_) | (rename_i g4 hg4 ge hge; refine Qq (fun p => p :: .row g4 [.i 0, .i 0, .i 0, .nil] :: .row ge (Enc.enc v1) :: []) 7 [(0, true), (2, true), (3, true), (1, false), (4, false), (5, true), (6, true), (7, false)] (by rfl) (by rfl) (by kernel_rfl) (by decide +kernel) (by decide +kernel) ⟨_, rfl⟩ ?_) | (rename_i g4 hg4 ge hge; refine Qq (fun p => p :: .row g4 [.i 0, .i 0, .i 0, .nil] :: .row ge (Enc.enc v1) :: []) 5 [(0, true), (2, true), (3, true), (1, false), (4, true), (5, false)] (by rfl) (by rfl) (by kernel_rfl) (by decide +kernel) (by decide +kernel) ⟨_, rfl⟩ ?_) | (refine Qq (fun p => p) 100 [(0, true)] (by rfl) (by rfl) (by kernel_rfl) (by decide +kernel) (by decide +kernel) ⟨_, rfl⟩ ?_) | (refine Qq (fun p => p.1 :: .row g4 [.i 0, .i 0, .i 0, .nil] :: .row g5 [.i 13, .i 0, .i 0, .ref 3 gg 0 o.length 4] :: p.2) 9 [(0, true), (1, true), (2, true), (3, true), (4, true), (5, false), (6, true), (7, false), (8, true), (9, false)] (by rfl) (by rfl) (by kernel_rfl) (by decide +kernel) (by decide +kernel) ⟨(_, _), rfl⟩ ?_) | refine Ws (by rfl) (by kernel_rfl) (by kernel_rfl) ?_ | refine Wr (by kernel_rfl) (by kernel_rfl) ?_) | refine QB rfl ?_ | refine Qr rfl (by omega) ?_ | refine Qn rfl (by omega) ?_ | refine QM ?_)) | (refine W8 ?_; (first | refine ZH ?_ | refine i_z0 ?_ | refine i_st rfl rfl (fun _ => (by (repeat' first | (refine Qo ?_; (first | (refine Qj ?_; refine QU rfl ?_) | (refine Ql ?_; refine Qi rfl rfl (by first | assumption | exact Enc.len _ | rfl) ?_) | (refine QK ?_; refine Q0 (z := v1) rfl rfl (by decide) ?_) | (refine QS ?_; refine QC rfl rfl ?_))) | exact ⟨rfl, rfl⟩))) ?_ | refine i_ef rfl ?_)) | refine And.intro (Exists.intro (_) rfl) ?_)
    refine e_1 (Tryz.results79) (QA (size := 4) rfl rfl rfl rfl) ?_
    rw [Q3]
    exact qb (by first | rfl | (simp [Wi, WH]; try rfl)) rfl
  ·obtain ⟨hqv1, hE1⟩ := hE2x (a + 1) (L - 1) ⟨by omega, by omega, by omega, by omega⟩
   obtain ⟨fv1, dv1, sv1, wv1, mv1, uv1⟩ := hqv1
   generalize E2 (a + 1) (L - 1) = tv1 at *
   obtain ⟨v1, b1, M1⟩ := tv1
   dsimp only at *
   have spv1 := QZ v1
   clear hE2x hE1x hsm hrq
   refine ⟨(.mk 19 (0) (0) [v1], b1, M1), ?_, fun g B hg => ?_⟩
   ·refine ⟨WT ⟨5, 0, 0, 0, [4], 0, 0, 0⟩ rfl (by decide) (by decide) (by dsimp only; omega) (by dsimp only; omega) (by first | (simp; done) | (simp; omega)) (kids1 fv1), ?_, ?_, ?_, ?_, ?_⟩
    ·rw [Wn]; (try simp only [Wo]); omega
    ·rw [QI]; (try simp only [QT]); omega
    ·dsimp only; omega
    ·dsimp only; omega
    ·dsimp only; omega
   ·refine Qa Tryz.func79 rfl Tryz.ntmps79 rfl (t := [(0, .ptr 0 g 0), (1, .i dd)]) rfl fun E0 hE0 => ?_
    (repeat' first | (refine Qo ?_; (first | (refine Qj ?_; refine QU rfl ?_) | (refine Qd ?_; refine Q5 rfl ?_) | (refine Ql ?_; (first | refine Qi rfl rfl (by first | assumption | exact Enc.len _ | rfl) ?_ | refine Qf rfl rfl rfl ?_)) | (refine Qh ?_; (first | refine W1 rfl rfl (by omega) ?_ | refine W3 rfl rfl ?_ | refine Wc rfl rfl ?_ | refine qe rfl rfl (by first | omega | exact nn_shr (by omega)) (by omega) ?_)) | (refine Qk ?_; (first | refine Wf 0 (Wm l hl _ _ _ (by omega) (by omega)) rfl rfl rfl rfl ?_ | refine Wf 0 (hE1) rfl rfl rfl rfl ?_)) | (refine QJ ?_; refine Ze rfl rfl ?_) | (refine Qx ?_; (first | refine Qe rfl rfl rfl (by first | assumption | exact Enc.len _ | rfl) (by first | assumption | exact Enc.len _ | rfl) rfl ?_ | refine Q8 rfl rfl rfl rfl (by rfl) (by rfl) (by rfl) ?_)) | (refine QK ?_; refine Q0 (z := v1) rfl rfl (by decide) ?_) | (refine Qb ?_; refine Qg rfl rfl ?_) | (refine QS ?_; refine QC rfl rfl ?_) | (refine Qy ?_; refine Qt rfl rfl ?_) | (refine QG ?_; refine QD (fun _ _ => ?_)))) | (refine Qv ?_; (first | refine Qu ?_ | refine QY rfl ?_ | refine Q1 ?_ | refine Zl rfl rfl rfl rfl ?_ | refine Wv rfl rfl (by omega) ?_)) | (refine Qs ?_; (first | refine Qw ?_ | refine Qc ?_ | refine Qm ?_ | refine QB rfl ?_ | refine Qr rfl (by omega) ?_ | refine Qn rfl (by omega) ?_ | refine QM ?_)))
    refine e_1 (Tryz.results79) (QA (size := 4) rfl rfl rfl rfl) ?_
    rw [Q3]
    exact qb (by first | rfl | (simp [Wi, WH]; try rfl)) rfl
  ·obtain ⟨hqv1, hE1⟩ := hE2x (a + 1) (L - 1) ⟨by omega, by omega, by omega, by omega⟩
   obtain ⟨fv1, dv1, sv1, wv1, mv1, uv1⟩ := hqv1
   generalize E2 (a + 1) (L - 1) = tv1 at *
   obtain ⟨v1, b1, M1⟩ := tv1
   dsimp only at *
   have spv1 := QZ v1
   clear hE2x hE1x hsm hrq
   refine ⟨(.mk 20 (0) (0) [v1], b1, M1), ?_, fun g B hg => ?_⟩
   ·refine ⟨WT ⟨5, 0, 0, 0, [4], 0, 0, 0⟩ rfl (by decide) (by decide) (by dsimp only; omega) (by dsimp only; omega) (by first | (simp; done) | (simp; omega)) (kids1 fv1), ?_, ?_, ?_, ?_, ?_⟩
    ·rw [Wn]; (try simp only [Wo]); omega
    ·rw [QI]; (try simp only [QT]); omega
    ·dsimp only; omega
    ·dsimp only; omega
    ·dsimp only; omega
   ·refine Qa Tryz.func79 rfl Tryz.ntmps79 rfl (t := [(0, .ptr 0 g 0), (1, .i dd)]) rfl fun E0 hE0 => ?_
    (repeat' first | (refine Qo ?_; (first | (refine Qj ?_; refine QU rfl ?_) | (refine Qd ?_; refine Q5 rfl ?_) | (refine Ql ?_; (first | refine Qi rfl rfl (by first | assumption | exact Enc.len _ | rfl) ?_ | refine Qf rfl rfl rfl ?_)) | (refine Qh ?_; (first | refine W1 rfl rfl (by omega) ?_ | refine W3 rfl rfl ?_ | refine Wc rfl rfl ?_ | refine qe rfl rfl (by first | omega | exact nn_shr (by omega)) (by omega) ?_)) | (refine Qk ?_; (first | refine Wf 0 (Wm l hl _ _ _ (by omega) (by omega)) rfl rfl rfl rfl ?_ | refine Wf 0 (hE1) rfl rfl rfl rfl ?_)) | (refine QJ ?_; refine Ze rfl rfl ?_) | (refine Qx ?_; (first | refine Qe rfl rfl rfl (by first | assumption | exact Enc.len _ | rfl) (by first | assumption | exact Enc.len _ | rfl) rfl ?_ | refine Q8 rfl rfl rfl rfl (by rfl) (by rfl) (by rfl) ?_)) | (refine QK ?_; refine Q0 (z := v1) rfl rfl (by decide) ?_) | (refine Qb ?_; refine Qg rfl rfl ?_) | (refine QS ?_; refine QC rfl rfl ?_) | (refine Qy ?_; refine Qt rfl rfl ?_) | (refine QG ?_; refine QD (fun _ _ => ?_)))) | (refine Qv ?_; (first | refine Qu ?_ | refine QY rfl ?_ | refine Q1 ?_ | refine Zl rfl rfl rfl rfl ?_ | refine Wv rfl rfl (by omega) ?_)) | (refine Qs ?_; (first | refine Qw ?_ | refine Qc ?_ | refine Qm ?_ | refine QB rfl ?_ | refine Qr rfl (by omega) ?_ | refine Qn rfl (by omega) ?_ | refine QM ?_)))
    refine e_1 (Tryz.results79) (QA (size := 4) rfl rfl rfl rfl) ?_
    rw [Q3]
    exact qb (by first | rfl | (simp [Wi, WH]; try rfl)) rfl
  ·obtain ⟨hqv1, hE1⟩ := hE2x (a + 1) (L - 1) ⟨by omega, by omega, by omega, by omega⟩
   obtain ⟨fv1, dv1, sv1, wv1, mv1, uv1⟩ := hqv1
   generalize E2 (a + 1) (L - 1) = tv1 at *
   obtain ⟨v1, b1, M1⟩ := tv1
   dsimp only at *
   have spv1 := QZ v1
   have n3 := QX l (b1) (most := 3) (by decide)
   clear hE2x hE1x hsm hrq
   refine ⟨(.mk 22 (atI l b1 3) (0) [v1], b1 + 1, M1), ?_, fun g B hg => ?_⟩
   ·refine ⟨WT ⟨5, 0, 2, 0, [4], 0, 0, 0⟩ rfl (by decide) (by decide) (by dsimp only; omega) (by dsimp only; omega) (by first | (simp; done) | (simp; omega)) (kids1 fv1), ?_, ?_, ?_, ?_, ?_⟩
    ·rw [Wn]; (try simp only [Wo]); omega
    ·rw [QI]; (try simp only [QT]); omega
    ·dsimp only; omega
    ·dsimp only; omega
    ·dsimp only; omega
   ·refine Qa Tryz.func79 rfl Tryz.ntmps79 rfl (t := [(0, .ptr 0 g 0), (1, .i dd)]) rfl fun E0 hE0 => ?_
    (repeat' first | (refine Qo ?_; (first | (refine Qj ?_; refine QU rfl ?_) | (refine Qd ?_; refine Q5 rfl ?_) | (refine Ql ?_; refine Qf rfl rfl rfl ?_) | (refine Qh ?_; (first | refine W1 rfl rfl (by omega) ?_ | refine W3 rfl rfl ?_ | refine Wc rfl rfl ?_ | refine qe rfl rfl (by first | omega | exact nn_shr (by omega)) (by omega) ?_)) | (refine Qk ?_; (first | refine Wf 0 (Wm l hl _ _ _ (by omega) (by omega)) rfl rfl rfl rfl ?_ | refine Wf 0 (hE1) rfl rfl rfl rfl ?_)) | (refine QJ ?_; refine Ze rfl rfl ?_) | (refine Qx ?_; (first | refine Qe rfl rfl rfl (by first | assumption | exact Enc.len _ | rfl) (by first | assumption | exact Enc.len _ | rfl) rfl ?_ | refine Q8 rfl rfl rfl rfl (by rfl) (by rfl) (by rfl) ?_)) | (refine Qb ?_; refine Qg rfl rfl ?_) | (refine Qy ?_; refine Qt rfl rfl ?_) | (refine QG ?_; refine QD (fun _ _ => ?_)))) | (refine Qv ?_; (first | refine Qu ?_ | refine QY rfl ?_ | refine Q1 ?_ | refine Zl rfl rfl rfl rfl ?_ | refine Wv rfl rfl (by omega) ?_)) | (refine Qs ?_; (first | refine Qw ?_ | refine Qc ?_ | refine Qm ?_ | (refine WJ ?_; first | (rename_i g4 hg4 ge hge; refine Qq (fun p => p :: .row g4 [.i 0, .i 0, .i 0, .nil] :: .row ge (Enc.enc v1) :: []) 6 [(0, true), (1, true), (2, true), (3, false), (4, true), (5, true), (6, false)] (by rfl) (by rfl) (by kernel_rfl) (by decide +kernel) (by decide +kernel) ⟨_, rfl⟩ ?_) | (rename_i g4 hg4 ge hge; refine Qq (fun p => p :: .row g4 [.i 0, .i 0, .i 0, .nil] :: .row ge (Enc.enc v1) :: []) 9 [(0, true), (1, true), (2, true), (4, true), (5, true), (3, false), (6, false), (7, true), (8, true), (9, false)] (by rfl) (by rfl) (by kernel_rfl) (by decide +kernel) (by decide +kernel) ⟨_, rfl⟩ ?_) | (rename_i g4 hg4 ge hge; refine Qq (fun p => p :: .row g4 [.i 0, .i 0, .i 0, .nil] :: .row ge (Enc.enc v1) :: []) 7 [(0, true), (2, true), (4, true), (5, true), (1, false), (3, false), (6, true), (7, false)] (by rfl) (by rfl) (by kernel_rfl) (by decide +kernel) (by decide +kernel) ⟨_, rfl⟩ ?_) | (rename_i g4 hg4 ge hge; refine Qq (fun p => p :: .row g4 [.i 0, .i 0, .i 0, .nil] :: .row ge (Enc.enc v1) :: []) 7 [(0, true), (2, true), (3, true), (1, false), (4, false), (5, true), (6, true), (7, false)] (by rfl) (by rfl) (by kernel_rfl) (by decide +kernel) (by decide +kernel) ⟨_, rfl⟩ ?_) | (rename_i g4 hg4 ge hge; refine Qq (fun p => p :: .row g4 [.i 0, .i 0, .i 0, .nil] :: .row ge (Enc.enc v1) :: []) 5 [(0, true), (2, true), (3, true), (1, false), (4, true), (5, false)] (by rfl) (by rfl) (by kernel_rfl) (by decide +kernel) (by decide +kernel) ⟨_, rfl⟩ ?_) | (refine Qq (fun p => p) 100 [(0, true)] (by rfl) (by rfl) (by kernel_rfl) (by decide +kernel) (by decide +kernel) ⟨_, rfl⟩ ?_) | (refine Qq (fun p => p.1 :: .row g4 [.i 0, .i 0, .i 0, .nil] :: .row g5 [.i 13, .i 0, .i 0, .ref 3 gg 0 o.length 4] :: p.2) 9 [(0, true), (1, true), (2, true), (3, true), (4, true), (5, false), (6, true), (7, false), (8, true), (9, false)] (by rfl) (by rfl) (by kernel_rfl) (by decide +kernel) (by decide +kernel) ⟨(_, _), rfl⟩ ?_) | refine Ws (by rfl) (by kernel_rfl) (by kernel_rfl) ?_ | refine Wr (by kernel_rfl) (by kernel_rfl) ?_) | refine QB rfl ?_ | refine Qr rfl (by omega) ?_ | refine Qn rfl (by omega) ?_ | refine QM ?_)) | (refine W8 ?_; (first | refine ZH ?_ | refine i_z0 ?_ | refine i_st rfl rfl (fun _ => (by (repeat' first | (refine Qo ?_; (first | (refine Qj ?_; refine QU rfl ?_) | (refine Ql ?_; refine Qi rfl rfl (by first | assumption | exact Enc.len _ | rfl) ?_) | (refine QK ?_; refine Q0 (z := v1) rfl rfl (by decide) ?_) | (refine QS ?_; refine QC rfl rfl ?_))) | exact ⟨rfl, rfl⟩))) ?_ | refine i_ef rfl ?_)) | refine And.intro (Exists.intro (_) rfl) ?_)
    refine e_1 (Tryz.results79) (QA (size := 4) rfl rfl rfl rfl) ?_
    rw [Q3]
    exact qb (by first | rfl | (simp [Wi, WH]; try rfl)) rfl
  ·obtain ⟨hqv1, hE1⟩ := hE2x (a + 1) (L - 1) ⟨by omega, by omega, by omega, by omega⟩
   obtain ⟨fv1, dv1, sv1, wv1, mv1, uv1⟩ := hqv1
   generalize E2 (a + 1) (L - 1) = tv1 at *
   obtain ⟨v1, b1, M1⟩ := tv1
   dsimp only at *
   have spv1 := QZ v1
   have hS1 := hsm (b1 + 1) M1 ⟨by omega, by omega, by omega, by omega⟩ (by omega) (by omega)
   have hb := QX l (b1 + 1) (most := 4) (by decide)
   obtain ⟨N, hN⟩ : ∃ N : Nat, atI l (b1 + 1) 4 = (N : Int) := ⟨(atI l (b1 + 1) 4).toNat, by omega⟩
   rw [hN, show ((N : Int)).toNat = N by omega, show ((1 : Nat) : Int) + 1 = 2 from rfl] at hS1
   have hq := hrq N (b1 + 1 + 1) M1 (by omega) ⟨by omega, by omega, by omega, by omega⟩ (by omega)
   have hln := runM_len E1 N (b1 + 1 + 1) M1
   obtain ⟨f2, d2, s2, w2, m2, u2⟩ := hq
   generalize runM E1 N (b1 + 1 + 1) M1 = T at *
   obtain ⟨ks, b2, M2⟩ := T
   dsimp only at *
   have hdl := qQ d2
   have n6 := QX l (b1) (most := 6) (by decide)
   clear hE2x hE1x hsm hrq
   refine ⟨(.mk 23 (atI l b1 6) (0) ks, b2, M2), ?_, fun g B hg => ?_⟩
   ·refine ⟨WT ⟨5, 0, 5, 0, [], 3, 0, 4⟩ rfl (by decide) (by decide) (by dsimp only; omega) (by dsimp only; omega) (by first | (simp; done) | (simp; omega)) (kidsA rfl f2), ?_, ?_, ?_, ?_, ?_⟩
    ·rw [Wn]; (try simp only [Wo]); omega
    ·rw [QI]; (try simp only [QT]); omega
    ·dsimp only; omega
    ·dsimp only; omega
    ·dsimp only; omega
   ·refine Qa Tryz.func79 rfl Tryz.ntmps79 rfl (t := [(0, .ptr 0 g 0), (1, .i dd)]) rfl fun E0 hE0 => ?_
    (repeat' first | (refine Qo ?_; (first | (refine Qj ?_; refine QU rfl ?_) | (refine Qd ?_; refine Q5 rfl ?_) | (refine Ql ?_; refine Qf rfl rfl rfl ?_) | (refine Qh ?_; (first | refine W1 rfl rfl (by omega) ?_ | refine W3 rfl rfl ?_ | refine Wc rfl rfl ?_ | refine qe rfl rfl (by first | omega | exact nn_shr (by omega)) (by omega) ?_)) | (refine Qk ?_; (first | refine Wf 0 (Wm l hl _ _ _ (by omega) (by omega)) rfl rfl rfl rfl ?_ | refine Wf 0 (hE1) rfl rfl rfl rfl ?_ | refine Wf 0 (hS1) rfl rfl rfl rfl ?_)) | (refine QJ ?_; refine Ze rfl rfl ?_) | (refine Qx ?_; (first | refine Qe rfl rfl rfl (by first | assumption | exact Enc.len _ | rfl) (by first | assumption | exact Enc.len _ | rfl) rfl ?_ | refine Q8 rfl rfl rfl rfl (by rfl) (by rfl) (by rfl) ?_)) | (refine Qb ?_; refine Qg rfl rfl ?_) | (refine QS ?_; refine QC rfl rfl ?_) | (refine Qy ?_; refine Qt rfl rfl ?_) | (refine QG ?_; refine QD (fun _ _ => ?_)))) | (refine Qv ?_; (first | refine Qu ?_ | refine QY rfl ?_ | refine Q1 ?_ | refine Zl rfl rfl rfl rfl ?_ | refine Wv rfl rfl (by omega) ?_)) | (refine Qs ?_; (first | refine Qw ?_ | refine Qc ?_ | refine Qm ?_ | refine QB rfl ?_ | refine Qr rfl (by omega) ?_ | refine Qn rfl (by omega) ?_ | refine QM ?_)))
    refine e_1 (Tryz.results79) (QA (size := 4) rfl rfl rfl rfl) ?_
    rw [Q3]
    exact qb (by first | rfl | (simp [Wi, WH]; try rfl)) rfl
  ·obtain ⟨hqv1, hE1⟩ := hE2x (a + 1) (L - 1) ⟨by omega, by omega, by omega, by omega⟩
   obtain ⟨fv1, dv1, sv1, wv1, mv1, uv1⟩ := hqv1
   generalize E2 (a + 1) (L - 1) = tv1 at *
   obtain ⟨v1, b1, M1⟩ := tv1
   dsimp only at *
   have spv1 := QZ v1
   clear hE2x hE1x hsm hrq
   refine ⟨(.mk 24 (0) (0) [v1], b1, M1), ?_, fun g B hg => ?_⟩
   ·refine ⟨WT ⟨5, 0, 0, 0, [4], 0, 0, 0⟩ rfl (by decide) (by decide) (by dsimp only; omega) (by dsimp only; omega) (by first | (simp; done) | (simp; omega)) (kids1 fv1), ?_, ?_, ?_, ?_, ?_⟩
    ·rw [Wn]; (try simp only [Wo]); omega
    ·rw [QI]; (try simp only [QT]); omega
    ·dsimp only; omega
    ·dsimp only; omega
    ·dsimp only; omega
   ·refine Qa Tryz.func79 rfl Tryz.ntmps79 rfl (t := [(0, .ptr 0 g 0), (1, .i dd)]) rfl fun E0 hE0 => ?_
    (repeat' first | (refine Qo ?_; (first | (refine Qj ?_; refine QU rfl ?_) | (refine Qd ?_; refine Q5 rfl ?_) | (refine Ql ?_; (first | refine Qi rfl rfl (by first | assumption | exact Enc.len _ | rfl) ?_ | refine Qf rfl rfl rfl ?_)) | (refine Qh ?_; (first | refine W1 rfl rfl (by omega) ?_ | refine W3 rfl rfl ?_ | refine Wc rfl rfl ?_ | refine qe rfl rfl (by first | omega | exact nn_shr (by omega)) (by omega) ?_)) | (refine Qk ?_; (first | refine Wf 0 (Wm l hl _ _ _ (by omega) (by omega)) rfl rfl rfl rfl ?_ | refine Wf 0 (hE1) rfl rfl rfl rfl ?_)) | (refine QJ ?_; refine Ze rfl rfl ?_) | (refine Qx ?_; (first | refine Qe rfl rfl rfl (by first | assumption | exact Enc.len _ | rfl) (by first | assumption | exact Enc.len _ | rfl) rfl ?_ | refine Q8 rfl rfl rfl rfl (by rfl) (by rfl) (by rfl) ?_)) | (refine QK ?_; refine Q0 (z := v1) rfl rfl (by decide) ?_) | (refine Qb ?_; refine Qg rfl rfl ?_) | (refine QS ?_; refine QC rfl rfl ?_) | (refine Qy ?_; refine Qt rfl rfl ?_) | (refine QG ?_; refine QD (fun _ _ => ?_)))) | (refine Qv ?_; (first | refine Qu ?_ | refine QY rfl ?_ | refine Q1 ?_ | refine Zl rfl rfl rfl rfl ?_ | refine Wv rfl rfl (by omega) ?_)) | (refine Qs ?_; (first | refine Qw ?_ | refine Qc ?_ | refine Qm ?_ | refine QB rfl ?_ | refine Qr rfl (by omega) ?_ | refine Qn rfl (by omega) ?_ | refine QM ?_)))
    refine e_1 (Tryz.results79) (QA (size := 4) rfl rfl rfl rfl) ?_
    rw [Q3]
    exact qb (by first | rfl | (simp [Wi, WH]; try rfl)) rfl
  ·obtain ⟨hqv1, hE1⟩ := hE2x (a + 1) (L - 1) ⟨by omega, by omega, by omega, by omega⟩
   obtain ⟨fv1, dv1, sv1, wv1, mv1, uv1⟩ := hqv1
   generalize E2 (a + 1) (L - 1) = tv1 at *
   obtain ⟨v1, b1, M1⟩ := tv1
   dsimp only at *
   have spv1 := QZ v1
   clear hE2x hE1x hsm hrq
   refine ⟨(.mk 25 (0) (0) [], b1, M1), ?_, fun g B hg => ?_⟩
   ·refine ⟨WT ⟨5, 0, 0, 0, [], 0, 0, 0⟩ rfl (by decide) (by decide) (by dsimp only; omega) (by dsimp only; omega) (by first | (simp; done) | (simp; omega)) (kids0), ?_, ?_, ?_, ?_, ?_⟩
    ·rw [Wn]; (try simp only [Wo]); omega
    ·rw [QI]; (try simp only [QT]); omega
    ·dsimp only; omega
    ·dsimp only; omega
    ·dsimp only; omega
   ·refine Qa Tryz.func79 rfl Tryz.ntmps79 rfl (t := [(0, .ptr 0 g 0), (1, .i dd)]) rfl fun E0 hE0 => ?_
    (repeat' first | (refine Qo ?_; (first | (refine Qj ?_; refine QU rfl ?_) | (refine Qd ?_; refine Q5 rfl ?_) | (refine Ql ?_; refine Qf rfl rfl rfl ?_) | (refine Qh ?_; (first | refine W1 rfl rfl (by omega) ?_ | refine W3 rfl rfl ?_ | refine Wc rfl rfl ?_ | refine qe rfl rfl (by first | omega | exact nn_shr (by omega)) (by omega) ?_)) | (refine Qk ?_; (first | refine Wf 0 (Wm l hl _ _ _ (by omega) (by omega)) rfl rfl rfl rfl ?_ | refine Wf 0 (hE1) rfl rfl rfl rfl ?_)) | (refine QJ ?_; refine Ze rfl rfl ?_) | (refine Qx ?_; (first | refine Qe rfl rfl rfl (by first | assumption | exact Enc.len _ | rfl) (by first | assumption | exact Enc.len _ | rfl) rfl ?_ | refine Q8 rfl rfl rfl rfl (by rfl) (by rfl) (by rfl) ?_)) | (refine Qb ?_; refine Qg rfl rfl ?_) | (refine QS ?_; refine QC rfl rfl ?_) | (refine Qy ?_; refine Qt rfl rfl ?_) | (refine QG ?_; refine QD (fun _ _ => ?_)))) | (refine Qv ?_; (first | refine Qu ?_ | refine QY rfl ?_ | refine Q1 ?_ | refine Zl rfl rfl rfl rfl ?_ | refine Wv rfl rfl (by omega) ?_)) | (refine Qs ?_; (first | refine Qw ?_ | refine Qc ?_ | refine Qm ?_ | refine QB rfl ?_ | refine Qr rfl (by omega) ?_ | refine Qn rfl (by omega) ?_ | refine QM ?_)))
    exact e_1 (Tryz.results79) (QA (size := 4) rfl rfl rfl rfl) (W7 (es := 4) (.node rfl rfl rfl) (by show _ = DV.agg (Enc.enc (Nd.mk _ _ _ [])); rw [Q3]; rfl) rfl)
 ·rcases hxx with rfl | rfl | rfl | rfl | rfl | rfl | rfl | rfl | rfl | rfl
  ·obtain ⟨hqv1, hE1⟩ := hE2x (a + 1) (L - 1) ⟨by omega, by omega, by omega, by omega⟩
   obtain ⟨fv1, dv1, sv1, wv1, mv1, uv1⟩ := hqv1
   generalize E2 (a + 1) (L - 1) = tv1 at *
   obtain ⟨v1, b1, M1⟩ := tv1
   dsimp only at *
   have spv1 := QZ v1
   have n6 := QX l (b1) (most := 6) (by decide)
   clear hE2x hE1x hsm hrq
   refine ⟨(.mk 14 (atI l b1 6) (0) [v1], b1 + 1, M1), ?_, fun g B hg => ?_⟩
   ·refine ⟨WT ⟨5, 0, 5, 0, [4], 0, 0, 0⟩ rfl (by decide) (by decide) (by dsimp only; omega) (by dsimp only; omega) (by first | (simp; done) | (simp; omega)) (kids1 fv1), ?_, ?_, ?_, ?_, ?_⟩
    ·rw [Wn]; (try simp only [Wo]); omega
    ·rw [QI]; (try simp only [QT]); omega
    ·dsimp only; omega
    ·dsimp only; omega
    ·dsimp only; omega
   ·refine Qa Tryz.func79 rfl Tryz.ntmps79 rfl (t := [(0, .ptr 0 g 0), (1, .i dd)]) rfl fun E0 hE0 => ?_
    (repeat' first | (refine Qo ?_; (first | (refine Qj ?_; refine QU rfl ?_) | (refine Qd ?_; refine Q5 rfl ?_) | (refine Ql ?_; refine Qf rfl rfl rfl ?_) | (refine Qh ?_; (first | refine W1 rfl rfl (by omega) ?_ | refine W3 rfl rfl ?_ | refine Wc rfl rfl ?_ | refine qe rfl rfl (by first | omega | exact nn_shr (by omega)) (by omega) ?_)) | (refine Qk ?_; (first | refine Wf 0 (Wm l hl _ _ _ (by omega) (by omega)) rfl rfl rfl rfl ?_ | refine Wf 0 (hE1) rfl rfl rfl rfl ?_)) | (refine QJ ?_; refine WZ rfl rfl ?_) | (refine Qx ?_; (first | refine Qe rfl rfl rfl (by first | assumption | exact Enc.len _ | rfl) (by first | assumption | exact Enc.len _ | rfl) rfl ?_ | refine Q8 rfl rfl rfl rfl (by rfl) (by rfl) (by rfl) ?_)) | (refine Qb ?_; refine Qg rfl rfl ?_) | (refine Qy ?_; refine Qt rfl rfl ?_) | (refine QG ?_; refine QD (fun _ _ => ?_)))) | (refine Qv ?_; (first | refine Qu ?_ | refine QY rfl ?_ | refine Q1 ?_ | refine WX rfl rfl rfl rfl ?_ | refine We rfl rfl (by omega) ?_)) | (refine Qs ?_; (first | refine Qw ?_ | refine Qc ?_ | refine Qm ?_ | (refine WJ ?_; first | (rename_i g4 hg4 ge hge; refine Qq (fun p => p :: .row g4 [.i 0, .i 0, .i 0, .nil] :: .row ge (Enc.enc v1) :: []) 6 [(0, true), (1, true), (2, true), (3, false), (4, true), (5, true), (6, false)] (by rfl) (by rfl) (by kernel_rfl) (by decide +kernel) (by decide +kernel) ⟨_, rfl⟩ ?_) | (rename_i g4 hg4 ge hge; refine Qq (fun p => p :: .row g4 [.i 0, .i 0, .i 0, .nil] :: .row ge (Enc.enc v1) :: []) 9 [(0, true), (1, true), (2, true), (4, true), (5, true), (3, false), (6, false), (7, true), (8, true), (9, false)] (by rfl) (by rfl) (by kernel_rfl) (by decide +kernel) (by decide +kernel) ⟨_, rfl⟩ ?_) | (rename_i g4 hg4 ge hge; refine Qq (fun p => p :: .row g4 [.i 0, .i 0, .i 0, .nil] :: .row ge (Enc.enc v1) :: []) 7 [(0, true), (2, true), (4, true), (5, true), (1, false), (3, false), (6, true), (7, false)] (by rfl) (by rfl) (by kernel_rfl) (by decide +kernel) (by decide +kernel) ⟨_, rfl⟩ ?_) | (rename_i g4 hg4 ge hge; refine Qq (fun p => p :: .row g4 [.i 0, .i 0, .i 0, .nil] :: .row ge (Enc.enc v1) :: []) 7 [(0, true), (2, true), (3, true), (1, false), (4, false), (5, true), (6, true), (7, false)] (by rfl) (by rfl) (by kernel_rfl) (by decide +kernel) (by decide +kernel) ⟨_, rfl⟩ ?_) | (rename_i g4 hg4 ge hge; refine Qq (fun p => p :: .row g4 [.i 0, .i 0, .i 0, .nil] :: .row ge (Enc.enc v1) :: []) 5 [(0, true), (2, true), (3, true), (1, false), (4, true), (5, false)] (by rfl) (by rfl) (by kernel_rfl) (by decide +kernel) (by decide +kernel) ⟨_, rfl⟩ ?_) | (refine Qq (fun p => p) 100 [(0, true)] (by rfl) (by rfl) (by kernel_rfl) (by decide +kernel) (by decide +kernel) ⟨_, rfl⟩ ?_) | (refine Qq (fun p => p.1 :: .row g4 [.i 0, .i 0, .i 0, .nil] :: .row g5 [.i 13, .i 0, .i 0, .ref 3 gg 0 o.length 4] :: p.2) 9 [(0, true), (1, true), (2, true), (3, true), (4, true), (5, false), (6, true), (7, false), (8, true), (9, false)] (by rfl) (by rfl) (by kernel_rfl) (by decide +kernel) (by decide +kernel) ⟨(_, _), rfl⟩ ?_) | refine Ws (by rfl) (by kernel_rfl) (by kernel_rfl) ?_ | refine Wr (by kernel_rfl) (by kernel_rfl) ?_) | refine QR ?_ | refine Qr rfl (by omega) ?_ | refine QM ?_)) | (refine W8 ?_; (first | refine ZH ?_ | refine i_z0 ?_ | refine i_st rfl rfl (fun _ => (by (repeat' first | (refine Qo ?_; (first | (refine Qj ?_; refine QU rfl ?_) | (refine Ql ?_; refine Qi rfl rfl (by first | assumption | exact Enc.len _ | rfl) ?_) | (refine QK ?_; refine Q0 (z := v1) rfl rfl (by decide) ?_) | (refine QS ?_; refine QC rfl rfl ?_))) | exact ⟨rfl, rfl⟩))) ?_ | refine i_ef rfl ?_)) | refine And.intro (Exists.intro (_) rfl) ?_)
    refine e_1 (Tryz.results79) (QA (size := 4) rfl rfl rfl rfl) ?_
    rw [Q3]
    exact qb (by first | rfl | (simp [Wi, WH]; try rfl)) rfl
  ·obtain ⟨hqv1, hE1⟩ := hE2x (a + 1) (L - 1) ⟨by omega, by omega, by omega, by omega⟩
   obtain ⟨fv1, dv1, sv1, wv1, mv1, uv1⟩ := hqv1
   generalize E2 (a + 1) (L - 1) = tv1 at *
   obtain ⟨v1, b1, M1⟩ := tv1
   dsimp only at *
   have spv1 := QZ v1
   have n6 := QX l (b1) (most := 6) (by decide)
   clear hE2x hE1x hsm hrq
   refine ⟨(.mk 14 (atI l b1 6) (0) [v1], b1 + 1, M1), ?_, fun g B hg => ?_⟩
   ·refine ⟨WT ⟨5, 0, 5, 0, [4], 0, 0, 0⟩ rfl (by decide) (by decide) (by dsimp only; omega) (by dsimp only; omega) (by first | (simp; done) | (simp; omega)) (kids1 fv1), ?_, ?_, ?_, ?_, ?_⟩
    ·rw [Wn]; (try simp only [Wo]); omega
    ·rw [QI]; (try simp only [QT]); omega
    ·dsimp only; omega
    ·dsimp only; omega
    ·dsimp only; omega
   ·refine Qa Tryz.func79 rfl Tryz.ntmps79 rfl (t := [(0, .ptr 0 g 0), (1, .i dd)]) rfl fun E0 hE0 => ?_
    (repeat' first | (refine Qo ?_; (first | (refine Qj ?_; refine QU rfl ?_) | (refine Qd ?_; refine Q5 rfl ?_) | (refine Ql ?_; refine Qf rfl rfl rfl ?_) | (refine Qh ?_; (first | refine W1 rfl rfl (by omega) ?_ | refine W3 rfl rfl ?_ | refine Wc rfl rfl ?_ | refine qe rfl rfl (by first | omega | exact nn_shr (by omega)) (by omega) ?_)) | (refine Qk ?_; (first | refine Wf 0 (Wm l hl _ _ _ (by omega) (by omega)) rfl rfl rfl rfl ?_ | refine Wf 0 (hE1) rfl rfl rfl rfl ?_)) | (refine QJ ?_; refine WZ rfl rfl ?_) | (refine Qx ?_; (first | refine Qe rfl rfl rfl (by first | assumption | exact Enc.len _ | rfl) (by first | assumption | exact Enc.len _ | rfl) rfl ?_ | refine Q8 rfl rfl rfl rfl (by rfl) (by rfl) (by rfl) ?_)) | (refine Qb ?_; refine Qg rfl rfl ?_) | (refine Qy ?_; refine Qt rfl rfl ?_) | (refine QG ?_; refine QD (fun _ _ => ?_)))) | (refine Qv ?_; (first | refine Qu ?_ | refine QY rfl ?_ | refine Q1 ?_ | refine WX rfl rfl rfl rfl ?_ | refine We rfl rfl (by omega) ?_)) | (refine Qs ?_; (first | refine Qw ?_ | refine Qc ?_ | refine Qm ?_ | (refine WJ ?_; first | (rename_i g4 hg4 ge hge; refine Qq (fun p => p :: .row g4 [.i 0, .i 0, .i 0, .nil] :: .row ge (Enc.enc v1) :: []) 6 [(0, true), (1, true), (2, true), (3, false), (4, true), (5, true), (6, false)] (by rfl) (by rfl) (by kernel_rfl) (by decide +kernel) (by decide +kernel) ⟨_, rfl⟩ ?_) | (rename_i g4 hg4 ge hge; refine Qq (fun p => p :: .row g4 [.i 0, .i 0, .i 0, .nil] :: .row ge (Enc.enc v1) :: []) 9 [(0, true), (1, true), (2, true), (4, true), (5, true), (3, false), (6, false), (7, true), (8, true), (9, false)] (by rfl) (by rfl) (by kernel_rfl) (by decide +kernel) (by decide +kernel) ⟨_, rfl⟩ ?_) | (rename_i g4 hg4 ge hge; refine Qq (fun p => p :: .row g4 [.i 0, .i 0, .i 0, .nil] :: .row ge (Enc.enc v1) :: []) 7 [(0, true), (2, true), (4, true), (5, true), (1, false), (3, false), (6, true), (7, false)] (by rfl) (by rfl) (by kernel_rfl) (by decide +kernel) (by decide +kernel) ⟨_, rfl⟩ ?_) | (rename_i g4 hg4 ge hge; refine Qq (fun p => p :: .row g4 [.i 0, .i 0, .i 0, .nil] :: .row ge (Enc.enc v1) :: []) 7 [(0, true), (2, true), (3, true), (1, false), (4, false), (5, true), (6, true), (7, false)] (by rfl) (by rfl) (by kernel_rfl) (by decide +kernel) (by decide +kernel) ⟨_, rfl⟩ ?_) | (rename_i g4 hg4 ge hge; refine Qq (fun p => p :: .row g4 [.i 0, .i 0, .i 0, .nil] :: .row ge (Enc.enc v1) :: []) 5 [(0, true), (2, true), (3, true), (1, false), (4, true), (5, false)] (by rfl) (by rfl) (by kernel_rfl) (by decide +kernel) (by decide +kernel) ⟨_, rfl⟩ ?_) | (refine Qq (fun p => p) 100 [(0, true)] (by rfl) (by rfl) (by kernel_rfl) (by decide +kernel) (by decide +kernel) ⟨_, rfl⟩ ?_) | (refine Qq (fun p => p.1 :: .row g4 [.i 0, .i 0, .i 0, .nil] :: .row g5 [.i 13, .i 0, .i 0, .ref 3 gg 0 o.length 4] :: p.2) 9 [(0, true), (1, true), (2, true), (3, true), (4, true), (5, false), (6, true), (7, false), (8, true), (9, false)] (by rfl) (by rfl) (by kernel_rfl) (by decide +kernel) (by decide +kernel) ⟨(_, _), rfl⟩ ?_) | refine Ws (by rfl) (by kernel_rfl) (by kernel_rfl) ?_ | refine Wr (by kernel_rfl) (by kernel_rfl) ?_) | refine Qr rfl (by omega) ?_ | refine Qn rfl (by omega) ?_ | refine QM ?_)) | (refine W8 ?_; (first | refine ZH ?_ | refine i_z0 ?_ | refine i_st rfl rfl (fun _ => (by (repeat' first | (refine Qo ?_; (first | (refine Qj ?_; refine QU rfl ?_) | (refine Ql ?_; refine Qi rfl rfl (by first | assumption | exact Enc.len _ | rfl) ?_) | (refine QK ?_; refine Q0 (z := v1) rfl rfl (by decide) ?_) | (refine QS ?_; refine QC rfl rfl ?_))) | exact ⟨rfl, rfl⟩))) ?_ | refine i_ef rfl ?_)) | refine And.intro (Exists.intro (_) rfl) ?_)
    refine e_1 (Tryz.results79) (QA (size := 4) rfl rfl rfl rfl) ?_
    rw [Q3]
    exact qb (by first | rfl | (simp [Wi, WH]; try rfl)) rfl
  ·obtain ⟨hqv1, hE1⟩ := hE2x (a + 1) (L - 1) ⟨by omega, by omega, by omega, by omega⟩
   obtain ⟨fv1, dv1, sv1, wv1, mv1, uv1⟩ := hqv1
   generalize E2 (a + 1) (L - 1) = tv1 at *
   obtain ⟨v1, b1, M1⟩ := tv1
   dsimp only at *
   have spv1 := QZ v1
   obtain ⟨hqv2, hE2⟩ := hE2x (b1 + 1) (M1) ⟨by omega, by omega, by omega, by omega⟩
   obtain ⟨fv2, dv2, sv2, wv2, mv2, uv2⟩ := hqv2
   generalize E2 (b1 + 1) (M1) = tv2 at *
   obtain ⟨v2, b2, M2⟩ := tv2
   dsimp only at *
   have spv2 := QZ v2
   have n6 := QX l (b1) (most := 6) (by decide)
   clear hE2x hE1x hsm hrq
   refine ⟨(.mk 15 (atI l b1 6) (0) [v1, v2], b2, M2), ?_, fun g B hg => ?_⟩
   ·refine ⟨WT ⟨5, 0, 5, 0, [4, 4], 0, 0, 0⟩ rfl (by decide) (by decide) (by dsimp only; omega) (by dsimp only; omega) (by first | (simp; done) | (simp; omega)) (kids2 fv1 fv2), ?_, ?_, ?_, ?_, ?_⟩
    ·rw [Wn]; (try simp only [Wo]); omega
    ·rw [QI]; (try simp only [QT]); omega
    ·dsimp only; omega
    ·dsimp only; omega
    ·dsimp only; omega
   ·refine Qa Tryz.func79 rfl Tryz.ntmps79 rfl (t := [(0, .ptr 0 g 0), (1, .i dd)]) rfl fun E0 hE0 => ?_
    (repeat' first | (refine Qo ?_; (first | (refine Qj ?_; refine QU rfl ?_) | (refine Qd ?_; refine Q5 rfl ?_) | (refine Ql ?_; refine Qf rfl rfl rfl ?_) | (refine Qh ?_; (first | refine W1 rfl rfl (by omega) ?_ | refine W3 rfl rfl ?_ | refine Wc rfl rfl ?_ | refine qe rfl rfl (by first | omega | exact nn_shr (by omega)) (by omega) ?_)) | (refine Qk ?_; (first | refine Wf 0 (Wm l hl _ _ _ (by omega) (by omega)) rfl rfl rfl rfl ?_ | refine Wf 0 (hE1) rfl rfl rfl rfl ?_ | refine Wf 0 (hE2) rfl rfl rfl rfl ?_)) | (refine QJ ?_; refine WZ rfl rfl ?_) | (refine Qx ?_; (first | refine Qe rfl rfl rfl (by first | assumption | exact Enc.len _ | rfl) (by first | assumption | exact Enc.len _ | rfl) rfl ?_ | refine Q8 rfl rfl rfl rfl (by rfl) (by rfl) (by rfl) ?_)) | (refine Qb ?_; refine Qg rfl rfl ?_) | (refine Qy ?_; refine Qt rfl rfl ?_) | (refine QG ?_; refine QD (fun _ _ => ?_)))) | (refine Qv ?_; (first | refine Qu ?_ | refine QY rfl ?_ | refine Q1 ?_ | refine WX rfl rfl rfl rfl ?_ | refine We rfl rfl (by omega) ?_)) | (refine Qs ?_; (first | refine Qw ?_ | refine Qc ?_ | refine Qm ?_ | (refine WJ ?_; first | (rename_i g4 hg4 ge hge; refine Qq (fun p => p :: .row g4 [.i 0, .i 0, .i 0, .nil] :: .row ge (Enc.enc v1) :: []) 6 [(0, true), (1, true), (2, true), (3, false), (4, true), (5, true), (6, false)] (by rfl) (by rfl) (by kernel_rfl) (by decide +kernel) (by decide +kernel) ⟨_, rfl⟩ ?_) | (rename_i g4 hg4 ge hge; refine Qq (fun p => p :: .row g4 [.i 0, .i 0, .i 0, .nil] :: .row ge (Enc.enc v1) :: []) 9 [(0, true), (1, true), (2, true), (4, true), (5, true), (3, false), (6, false), (7, true), (8, true), (9, false)] (by rfl) (by rfl) (by kernel_rfl) (by decide +kernel) (by decide +kernel) ⟨_, rfl⟩ ?_) | (rename_i g4 hg4 ge hge; refine Qq (fun p => p :: .row g4 [.i 0, .i 0, .i 0, .nil] :: .row ge (Enc.enc v1) :: []) 7 [(0, true), (2, true), (4, true), (5, true), (1, false), (3, false), (6, true), (7, false)] (by rfl) (by rfl) (by kernel_rfl) (by decide +kernel) (by decide +kernel) ⟨_, rfl⟩ ?_) | (rename_i g4 hg4 ge hge; refine Qq (fun p => p :: .row g4 [.i 0, .i 0, .i 0, .nil] :: .row ge (Enc.enc v1) :: []) 7 [(0, true), (2, true), (3, true), (1, false), (4, false), (5, true), (6, true), (7, false)] (by rfl) (by rfl) (by kernel_rfl) (by decide +kernel) (by decide +kernel) ⟨_, rfl⟩ ?_) | (rename_i g4 hg4 ge hge; refine Qq (fun p => p :: .row g4 [.i 0, .i 0, .i 0, .nil] :: .row ge (Enc.enc v1) :: []) 5 [(0, true), (2, true), (3, true), (1, false), (4, true), (5, false)] (by rfl) (by rfl) (by kernel_rfl) (by decide +kernel) (by decide +kernel) ⟨_, rfl⟩ ?_) | (refine Qq (fun p => p) 100 [(0, true)] (by rfl) (by rfl) (by kernel_rfl) (by decide +kernel) (by decide +kernel) ⟨_, rfl⟩ ?_) | (refine Qq (fun p => p.1 :: .row g4 [.i 0, .i 0, .i 0, .nil] :: .row g5 [.i 13, .i 0, .i 0, .ref 3 gg 0 o.length 4] :: p.2) 9 [(0, true), (1, true), (2, true), (3, true), (4, true), (5, false), (6, true), (7, false), (8, true), (9, false)] (by rfl) (by rfl) (by kernel_rfl) (by decide +kernel) (by decide +kernel) ⟨(_, _), rfl⟩ ?_) | refine Ws (by rfl) (by kernel_rfl) (by kernel_rfl) ?_ | refine Wr (by kernel_rfl) (by kernel_rfl) ?_) | refine Qr rfl (by omega) ?_ | refine Qn rfl (by omega) ?_ | refine QM ?_)) | (refine W8 ?_; (first | refine ZH ?_ | refine i_z0 ?_ | refine i_st rfl rfl (fun _ => (by (repeat' first | (refine Qo ?_; (first | (refine Qj ?_; refine QU rfl ?_) | (refine Ql ?_; refine Qi rfl rfl (by first | assumption | exact Enc.len _ | rfl) ?_) | (refine QK ?_; refine ZJ (y := v1) (z := v2) rfl rfl (by decide) ?_) | (refine QS ?_; refine QC rfl rfl ?_))) | exact ⟨rfl, rfl⟩))) ?_ | refine i_ef rfl ?_)) | refine And.intro (Exists.intro (_) rfl) ?_)
    refine e_1 (Tryz.results79) (QA (size := 4) rfl rfl rfl rfl) ?_
    rw [Q3]
    exact qb (by first | rfl | (simp [Wi, WH]; try rfl)) rfl
  ·obtain ⟨hqv1, hE1⟩ := hE2x (a + 1) (L - 1) ⟨by omega, by omega, by omega, by omega⟩
   obtain ⟨fv1, dv1, sv1, wv1, mv1, uv1⟩ := hqv1
   generalize E2 (a + 1) (L - 1) = tv1 at *
   obtain ⟨v1, b1, M1⟩ := tv1
   dsimp only at *
   have spv1 := QZ v1
   have n6 := QX l (b1) (most := 6) (by decide)
   have n3 := QX l (b1 + 1) (most := 3) (by decide)
   clear hE2x hE1x hsm hrq
   refine ⟨(.mk 16 (atI l b1 6) (atI l (b1 + 1) 3) [v1], b1 + 1 + 1, M1), ?_, fun g B hg => ?_⟩
   ·refine ⟨WT ⟨5, 0, 5, 2, [4], 0, 0, 0⟩ rfl (by decide) (by decide) (by dsimp only; omega) (by dsimp only; omega) (by first | (simp; done) | (simp; omega)) (kids1 fv1), ?_, ?_, ?_, ?_, ?_⟩
    ·rw [Wn]; (try simp only [Wo]); omega
    ·rw [QI]; (try simp only [QT]); omega
    ·dsimp only; omega
    ·dsimp only; omega
    ·dsimp only; omega
   ·refine Qa Tryz.func79 rfl Tryz.ntmps79 rfl (t := [(0, .ptr 0 g 0), (1, .i dd)]) rfl fun E0 hE0 => ?_
    (repeat' first | (refine Qo ?_; (first | (refine Qj ?_; refine QU rfl ?_) | (refine Qd ?_; refine Q5 rfl ?_) | (refine Ql ?_; refine Qf rfl rfl rfl ?_) | (refine Qh ?_; (first | refine W1 rfl rfl (by omega) ?_ | refine W3 rfl rfl ?_ | refine Wc rfl rfl ?_ | refine qe rfl rfl (by first | omega | exact nn_shr (by omega)) (by omega) ?_)) | (refine Qk ?_; (first | refine Wf 0 (Wm l hl _ _ _ (by omega) (by omega)) rfl rfl rfl rfl ?_ | refine Wf 0 (hE1) rfl rfl rfl rfl ?_)) | (refine QJ ?_; refine WZ rfl rfl ?_) | (refine Qx ?_; (first | refine Qe rfl rfl rfl (by first | assumption | exact Enc.len _ | rfl) (by first | assumption | exact Enc.len _ | rfl) rfl ?_ | refine Q8 rfl rfl rfl rfl (by rfl) (by rfl) (by rfl) ?_)) | (refine Qb ?_; refine Qg rfl rfl ?_) | (refine Qy ?_; refine Qt rfl rfl ?_) | (refine QG ?_; refine QD (fun _ _ => ?_)))) | (refine Qv ?_; (first | refine Qu ?_ | refine QY rfl ?_ | refine Q1 ?_ | refine WX rfl rfl rfl rfl ?_ | refine We rfl rfl (by omega) ?_)) | (refine Qs ?_; (first | refine Qw ?_ | refine Qc ?_ | refine Qm ?_ | (refine WJ ?_; first | (rename_i g4 hg4 ge hge; refine Qq (fun p => p :: .row g4 [.i 0, .i 0, .i 0, .nil] :: .row ge (Enc.enc v1) :: []) 6 [(0, true), (1, true), (2, true), (3, false), (4, true), (5, true), (6, false)] (by rfl) (by rfl) (by kernel_rfl) (by decide +kernel) (by decide +kernel) ⟨_, rfl⟩ ?_) | (rename_i g4 hg4 ge hge; refine Qq (fun p => p :: .row g4 [.i 0, .i 0, .i 0, .nil] :: .row ge (Enc.enc v1) :: []) 9 [(0, true), (1, true), (2, true), (4, true), (5, true), (3, false), (6, false), (7, true), (8, true), (9, false)] (by rfl) (by rfl) (by kernel_rfl) (by decide +kernel) (by decide +kernel) ⟨_, rfl⟩ ?_) | (rename_i g4 hg4 ge hge; refine Qq (fun p => p :: .row g4 [.i 0, .i 0, .i 0, .nil] :: .row ge (Enc.enc v1) :: []) 7 [(0, true), (2, true), (4, true), (5, true), (1, false), (3, false), (6, true), (7, false)] (by rfl) (by rfl) (by kernel_rfl) (by decide +kernel) (by decide +kernel) ⟨_, rfl⟩ ?_) | (rename_i g4 hg4 ge hge; refine Qq (fun p => p :: .row g4 [.i 0, .i 0, .i 0, .nil] :: .row ge (Enc.enc v1) :: []) 7 [(0, true), (2, true), (3, true), (1, false), (4, false), (5, true), (6, true), (7, false)] (by rfl) (by rfl) (by kernel_rfl) (by decide +kernel) (by decide +kernel) ⟨_, rfl⟩ ?_) | (rename_i g4 hg4 ge hge; refine Qq (fun p => p :: .row g4 [.i 0, .i 0, .i 0, .nil] :: .row ge (Enc.enc v1) :: []) 5 [(0, true), (2, true), (3, true), (1, false), (4, true), (5, false)] (by rfl) (by rfl) (by kernel_rfl) (by decide +kernel) (by decide +kernel) ⟨_, rfl⟩ ?_) | (refine Qq (fun p => p) 100 [(0, true)] (by rfl) (by rfl) (by kernel_rfl) (by decide +kernel) (by decide +kernel) ⟨_, rfl⟩ ?_) | (refine Qq (fun p => p.1 :: .row g4 [.i 0, .i 0, .i 0, .nil] :: .row g5 [.i 13, .i 0, .i 0, .ref 3 gg 0 o.length 4] :: p.2) 9 [(0, true), (1, true), (2, true), (3, true), (4, true), (5, false), (6, true), (7, false), (8, true), (9, false)] (by rfl) (by rfl) (by kernel_rfl) (by decide +kernel) (by decide +kernel) ⟨(_, _), rfl⟩ ?_) | refine Ws (by rfl) (by kernel_rfl) (by kernel_rfl) ?_ | refine Wr (by kernel_rfl) (by kernel_rfl) ?_) | refine Qr rfl (by omega) ?_ | refine Qn rfl (by omega) ?_ | refine QM ?_)) | (refine W8 ?_; (first | refine ZH ?_ | refine i_z0 ?_ | refine i_st rfl rfl (fun _ => (by (repeat' first | (refine Qo ?_; (first | (refine Qj ?_; refine QU rfl ?_) | (refine Ql ?_; refine Qi rfl rfl (by first | assumption | exact Enc.len _ | rfl) ?_) | (refine QK ?_; refine Q0 (z := v1) rfl rfl (by decide) ?_) | (refine QS ?_; refine QC rfl rfl ?_))) | exact ⟨rfl, rfl⟩))) ?_ | refine i_ef rfl ?_)) | refine And.intro (Exists.intro (_) rfl) ?_)
    refine e_1 (Tryz.results79) (QA (size := 4) rfl rfl rfl rfl) ?_
    rw [Q3]
    exact qb (by first | rfl | (simp [Wi, WH]; try rfl)) rfl
  ·obtain ⟨hqv1, hE1⟩ := hE2x (a + 1) (L - 1) ⟨by omega, by omega, by omega, by omega⟩
   obtain ⟨fv1, dv1, sv1, wv1, mv1, uv1⟩ := hqv1
   generalize E2 (a + 1) (L - 1) = tv1 at *
   obtain ⟨v1, b1, M1⟩ := tv1
   dsimp only at *
   have spv1 := QZ v1
   clear hE2x hE1x hsm hrq
   refine ⟨(.mk 19 (0) (0) [v1], b1, M1), ?_, fun g B hg => ?_⟩
   ·refine ⟨WT ⟨5, 0, 0, 0, [4], 0, 0, 0⟩ rfl (by decide) (by decide) (by dsimp only; omega) (by dsimp only; omega) (by first | (simp; done) | (simp; omega)) (kids1 fv1), ?_, ?_, ?_, ?_, ?_⟩
    ·rw [Wn]; (try simp only [Wo]); omega
    ·rw [QI]; (try simp only [QT]); omega
    ·dsimp only; omega
    ·dsimp only; omega
    ·dsimp only; omega
   ·refine Qa Tryz.func79 rfl Tryz.ntmps79 rfl (t := [(0, .ptr 0 g 0), (1, .i dd)]) rfl fun E0 hE0 => ?_
    (repeat' first | (refine Qo ?_; (first | (refine Qj ?_; refine QU rfl ?_) | (refine Qd ?_; refine Q5 rfl ?_) | (refine Ql ?_; (first | refine Qi rfl rfl (by first | assumption | exact Enc.len _ | rfl) ?_ | refine Qf rfl rfl rfl ?_)) | (refine Qh ?_; (first | refine W1 rfl rfl (by omega) ?_ | refine W3 rfl rfl ?_ | refine Wc rfl rfl ?_ | refine qe rfl rfl (by first | omega | exact nn_shr (by omega)) (by omega) ?_)) | (refine Qk ?_; (first | refine Wf 0 (Wm l hl _ _ _ (by omega) (by omega)) rfl rfl rfl rfl ?_ | refine Wf 0 (hE1) rfl rfl rfl rfl ?_)) | (refine QJ ?_; refine WZ rfl rfl ?_) | (refine Qx ?_; (first | refine Qe rfl rfl rfl (by first | assumption | exact Enc.len _ | rfl) (by first | assumption | exact Enc.len _ | rfl) rfl ?_ | refine Q8 rfl rfl rfl rfl (by rfl) (by rfl) (by rfl) ?_)) | (refine QK ?_; refine Q0 (z := v1) rfl rfl (by decide) ?_) | (refine Qb ?_; refine Qg rfl rfl ?_) | (refine QS ?_; refine QC rfl rfl ?_) | (refine Qy ?_; refine Qt rfl rfl ?_) | (refine QG ?_; refine QD (fun _ _ => ?_)))) | (refine Qv ?_; (first | refine Qu ?_ | refine QY rfl ?_ | refine Q1 ?_ | refine WX rfl rfl rfl rfl ?_ | refine We rfl rfl (by omega) ?_)) | (refine Qs ?_; (first | refine Qw ?_ | refine Qc ?_ | refine Qm ?_ | refine Qr rfl (by omega) ?_ | refine Qn rfl (by omega) ?_ | refine QM ?_)))
    refine e_1 (Tryz.results79) (QA (size := 4) rfl rfl rfl rfl) ?_
    rw [Q3]
    exact qb (by first | rfl | (simp [Wi, WH]; try rfl)) rfl
  ·obtain ⟨hqv1, hE1⟩ := hE2x (a + 1) (L - 1) ⟨by omega, by omega, by omega, by omega⟩
   obtain ⟨fv1, dv1, sv1, wv1, mv1, uv1⟩ := hqv1
   generalize E2 (a + 1) (L - 1) = tv1 at *
   obtain ⟨v1, b1, M1⟩ := tv1
   dsimp only at *
   have spv1 := QZ v1
   clear hE2x hE1x hsm hrq
   refine ⟨(.mk 20 (0) (0) [v1], b1, M1), ?_, fun g B hg => ?_⟩
   ·refine ⟨WT ⟨5, 0, 0, 0, [4], 0, 0, 0⟩ rfl (by decide) (by decide) (by dsimp only; omega) (by dsimp only; omega) (by first | (simp; done) | (simp; omega)) (kids1 fv1), ?_, ?_, ?_, ?_, ?_⟩
    ·rw [Wn]; (try simp only [Wo]); omega
    ·rw [QI]; (try simp only [QT]); omega
    ·dsimp only; omega
    ·dsimp only; omega
    ·dsimp only; omega
   ·refine Qa Tryz.func79 rfl Tryz.ntmps79 rfl (t := [(0, .ptr 0 g 0), (1, .i dd)]) rfl fun E0 hE0 => ?_
    (repeat' first | (refine Qo ?_; (first | (refine Qj ?_; refine QU rfl ?_) | (refine Qd ?_; refine Q5 rfl ?_) | (refine Ql ?_; (first | refine Qi rfl rfl (by first | assumption | exact Enc.len _ | rfl) ?_ | refine Qf rfl rfl rfl ?_)) | (refine Qh ?_; (first | refine W1 rfl rfl (by omega) ?_ | refine W3 rfl rfl ?_ | refine Wc rfl rfl ?_ | refine qe rfl rfl (by first | omega | exact nn_shr (by omega)) (by omega) ?_)) | (refine Qk ?_; (first | refine Wf 0 (Wm l hl _ _ _ (by omega) (by omega)) rfl rfl rfl rfl ?_ | refine Wf 0 (hE1) rfl rfl rfl rfl ?_)) | (refine QJ ?_; refine WZ rfl rfl ?_) | (refine Qx ?_; (first | refine Qe rfl rfl rfl (by first | assumption | exact Enc.len _ | rfl) (by first | assumption | exact Enc.len _ | rfl) rfl ?_ | refine Q8 rfl rfl rfl rfl (by rfl) (by rfl) (by rfl) ?_)) | (refine QK ?_; refine Q0 (z := v1) rfl rfl (by decide) ?_) | (refine Qb ?_; refine Qg rfl rfl ?_) | (refine QS ?_; refine QC rfl rfl ?_) | (refine Qy ?_; refine Qt rfl rfl ?_) | (refine QG ?_; refine QD (fun _ _ => ?_)))) | (refine Qv ?_; (first | refine Qu ?_ | refine QY rfl ?_ | refine Q1 ?_ | refine WX rfl rfl rfl rfl ?_ | refine We rfl rfl (by omega) ?_)) | (refine Qs ?_; (first | refine Qw ?_ | refine Qc ?_ | refine Qm ?_ | refine Qr rfl (by omega) ?_ | refine Qn rfl (by omega) ?_ | refine QM ?_)))
    refine e_1 (Tryz.results79) (QA (size := 4) rfl rfl rfl rfl) ?_
    rw [Q3]
    exact qb (by first | rfl | (simp [Wi, WH]; try rfl)) rfl
  ·obtain ⟨hqv1, hE1⟩ := hE2x (a + 1) (L - 1) ⟨by omega, by omega, by omega, by omega⟩
   obtain ⟨fv1, dv1, sv1, wv1, mv1, uv1⟩ := hqv1
   generalize E2 (a + 1) (L - 1) = tv1 at *
   obtain ⟨v1, b1, M1⟩ := tv1
   dsimp only at *
   have spv1 := QZ v1
   have n3 := QX l (b1) (most := 3) (by decide)
   clear hE2x hE1x hsm hrq
   refine ⟨(.mk 22 (atI l b1 3) (0) [v1], b1 + 1, M1), ?_, fun g B hg => ?_⟩
   ·refine ⟨WT ⟨5, 0, 2, 0, [4], 0, 0, 0⟩ rfl (by decide) (by decide) (by dsimp only; omega) (by dsimp only; omega) (by first | (simp; done) | (simp; omega)) (kids1 fv1), ?_, ?_, ?_, ?_, ?_⟩
    ·rw [Wn]; (try simp only [Wo]); omega
    ·rw [QI]; (try simp only [QT]); omega
    ·dsimp only; omega
    ·dsimp only; omega
    ·dsimp only; omega
   ·refine Qa Tryz.func79 rfl Tryz.ntmps79 rfl (t := [(0, .ptr 0 g 0), (1, .i dd)]) rfl fun E0 hE0 => ?_
    (repeat' first | (refine Qo ?_; (first | (refine Qj ?_; refine QU rfl ?_) | (refine Qd ?_; refine Q5 rfl ?_) | (refine Ql ?_; refine Qf rfl rfl rfl ?_) | (refine Qh ?_; (first | refine W1 rfl rfl (by omega) ?_ | refine W3 rfl rfl ?_ | refine Wc rfl rfl ?_ | refine qe rfl rfl (by first | omega | exact nn_shr (by omega)) (by omega) ?_)) | (refine Qk ?_; (first | refine Wf 0 (Wm l hl _ _ _ (by omega) (by omega)) rfl rfl rfl rfl ?_ | refine Wf 0 (hE1) rfl rfl rfl rfl ?_)) | (refine QJ ?_; refine WZ rfl rfl ?_) | (refine Qx ?_; (first | refine Qe rfl rfl rfl (by first | assumption | exact Enc.len _ | rfl) (by first | assumption | exact Enc.len _ | rfl) rfl ?_ | refine Q8 rfl rfl rfl rfl (by rfl) (by rfl) (by rfl) ?_)) | (refine Qb ?_; refine Qg rfl rfl ?_) | (refine Qy ?_; refine Qt rfl rfl ?_) | (refine QG ?_; refine QD (fun _ _ => ?_)))) | (refine Qv ?_; (first | refine Qu ?_ | refine QY rfl ?_ | refine Q1 ?_ | refine WX rfl rfl rfl rfl ?_ | refine We rfl rfl (by omega) ?_)) | (refine Qs ?_; (first | refine Qw ?_ | refine Qc ?_ | refine Qm ?_ | (refine WJ ?_; first | (rename_i g4 hg4 ge hge; refine Qq (fun p => p :: .row g4 [.i 0, .i 0, .i 0, .nil] :: .row ge (Enc.enc v1) :: []) 6 [(0, true), (1, true), (2, true), (3, false), (4, true), (5, true), (6, false)] (by rfl) (by rfl) (by kernel_rfl) (by decide +kernel) (by decide +kernel) ⟨_, rfl⟩ ?_) | (rename_i g4 hg4 ge hge; refine Qq (fun p => p :: .row g4 [.i 0, .i 0, .i 0, .nil] :: .row ge (Enc.enc v1) :: []) 9 [(0, true), (1, true), (2, true), (4, true), (5, true), (3, false), (6, false), (7, true), (8, true), (9, false)] (by rfl) (by rfl) (by kernel_rfl) (by decide +kernel) (by decide +kernel) ⟨_, rfl⟩ ?_) | (rename_i g4 hg4 ge hge; refine Qq (fun p => p :: .row g4 [.i 0, .i 0, .i 0, .nil] :: .row ge (Enc.enc v1) :: []) 7 [(0, true), (2, true), (4, true), (5, true), (1, false), (3, false), (6, true), (7, false)] (by rfl) (by rfl) (by kernel_rfl) (by decide +kernel) (by decide +kernel) ⟨_, rfl⟩ ?_) | (rename_i g4 hg4 ge hge; refine Qq (fun p => p :: .row g4 [.i 0, .i 0, .i 0, .nil] :: .row ge (Enc.enc v1) :: []) 7 [(0, true), (2, true), (3, true), (1, false), (4, false), (5, true), (6, true), (7, false)] (by rfl) (by rfl) (by kernel_rfl) (by decide +kernel) (by decide +kernel) ⟨_, rfl⟩ ?_) | (rename_i g4 hg4 ge hge; refine Qq (fun p => p :: .row g4 [.i 0, .i 0, .i 0, .nil] :: .row ge (Enc.enc v1) :: []) 5 [(0, true), (2, true), (3, true), (1, false), (4, true), (5, false)] (by rfl) (by rfl) (by kernel_rfl) (by decide +kernel) (by decide +kernel) ⟨_, rfl⟩ ?_) | (refine Qq (fun p => p) 100 [(0, true)] (by rfl) (by rfl) (by kernel_rfl) (by decide +kernel) (by decide +kernel) ⟨_, rfl⟩ ?_) | (refine Qq (fun p => p.1 :: .row g4 [.i 0, .i 0, .i 0, .nil] :: .row g5 [.i 13, .i 0, .i 0, .ref 3 gg 0 o.length 4] :: p.2) 9 [(0, true), (1, true), (2, true), (3, true), (4, true), (5, false), (6, true), (7, false), (8, true), (9, false)] (by rfl) (by rfl) (by kernel_rfl) (by decide +kernel) (by decide +kernel) ⟨(_, _), rfl⟩ ?_) | refine Ws (by rfl) (by kernel_rfl) (by kernel_rfl) ?_ | refine Wr (by kernel_rfl) (by kernel_rfl) ?_) | refine Qr rfl (by omega) ?_ | refine Qn rfl (by omega) ?_ | refine QM ?_)) | (refine W8 ?_; (first | refine ZH ?_ | refine i_z0 ?_ | refine i_st rfl rfl (fun _ => (by (repeat' first | (refine Qo ?_; (first | (refine Qj ?_; refine QU rfl ?_) | (refine Ql ?_; refine Qi rfl rfl (by first | assumption | exact Enc.len _ | rfl) ?_) | (refine QK ?_; refine Q0 (z := v1) rfl rfl (by decide) ?_) | (refine QS ?_; refine QC rfl rfl ?_))) | exact ⟨rfl, rfl⟩))) ?_ | refine i_ef rfl ?_)) | refine And.intro (Exists.intro (_) rfl) ?_)
    refine e_1 (Tryz.results79) (QA (size := 4) rfl rfl rfl rfl) ?_
    rw [Q3]
    exact qb (by first | rfl | (simp [Wi, WH]; try rfl)) rfl
  ·obtain ⟨hqv1, hE1⟩ := hE2x (a + 1) (L - 1) ⟨by omega, by omega, by omega, by omega⟩
   obtain ⟨fv1, dv1, sv1, wv1, mv1, uv1⟩ := hqv1
   generalize E2 (a + 1) (L - 1) = tv1 at *
   obtain ⟨v1, b1, M1⟩ := tv1
   dsimp only at *
   have spv1 := QZ v1
   have hS1 := hsm (b1 + 1) M1 ⟨by omega, by omega, by omega, by omega⟩ (by omega) (by omega)
   have hb := QX l (b1 + 1) (most := 4) (by decide)
   obtain ⟨N, hN⟩ : ∃ N : Nat, atI l (b1 + 1) 4 = (N : Int) := ⟨(atI l (b1 + 1) 4).toNat, by omega⟩
   rw [hN, show ((N : Int)).toNat = N by omega, show ((1 : Nat) : Int) + 1 = 2 from rfl] at hS1
   have hq := hrq N (b1 + 1 + 1) M1 (by omega) ⟨by omega, by omega, by omega, by omega⟩ (by omega)
   have hln := runM_len E1 N (b1 + 1 + 1) M1
   obtain ⟨f2, d2, s2, w2, m2, u2⟩ := hq
   generalize runM E1 N (b1 + 1 + 1) M1 = T at *
   obtain ⟨ks, b2, M2⟩ := T
   dsimp only at *
   have hdl := qQ d2
   have n6 := QX l (b1) (most := 6) (by decide)
   clear hE2x hE1x hsm hrq
   refine ⟨(.mk 23 (atI l b1 6) (0) ks, b2, M2), ?_, fun g B hg => ?_⟩
   ·refine ⟨WT ⟨5, 0, 5, 0, [], 3, 0, 4⟩ rfl (by decide) (by decide) (by dsimp only; omega) (by dsimp only; omega) (by first | (simp; done) | (simp; omega)) (kidsA rfl f2), ?_, ?_, ?_, ?_, ?_⟩
    ·rw [Wn]; (try simp only [Wo]); omega
    ·rw [QI]; (try simp only [QT]); omega
    ·dsimp only; omega
    ·dsimp only; omega
    ·dsimp only; omega
   ·refine Qa Tryz.func79 rfl Tryz.ntmps79 rfl (t := [(0, .ptr 0 g 0), (1, .i dd)]) rfl fun E0 hE0 => ?_
    (repeat' first | (refine Qo ?_; (first | (refine Qj ?_; refine QU rfl ?_) | (refine Qd ?_; refine Q5 rfl ?_) | (refine Ql ?_; refine Qf rfl rfl rfl ?_) | (refine Qh ?_; (first | refine W1 rfl rfl (by omega) ?_ | refine W3 rfl rfl ?_ | refine Wc rfl rfl ?_ | refine qe rfl rfl (by first | omega | exact nn_shr (by omega)) (by omega) ?_)) | (refine Qk ?_; (first | refine Wf 0 (Wm l hl _ _ _ (by omega) (by omega)) rfl rfl rfl rfl ?_ | refine Wf 0 (hE1) rfl rfl rfl rfl ?_ | refine Wf 0 (hS1) rfl rfl rfl rfl ?_)) | (refine QJ ?_; refine WZ rfl rfl ?_) | (refine Qx ?_; (first | refine Qe rfl rfl rfl (by first | assumption | exact Enc.len _ | rfl) (by first | assumption | exact Enc.len _ | rfl) rfl ?_ | refine Q8 rfl rfl rfl rfl (by rfl) (by rfl) (by rfl) ?_)) | (refine Qb ?_; refine Qg rfl rfl ?_) | (refine QS ?_; refine QC rfl rfl ?_) | (refine Qy ?_; refine Qt rfl rfl ?_) | (refine QG ?_; refine QD (fun _ _ => ?_)))) | (refine Qv ?_; (first | refine Qu ?_ | refine QY rfl ?_ | refine Q1 ?_ | refine WX rfl rfl rfl rfl ?_ | refine We rfl rfl (by omega) ?_)) | (refine Qs ?_; (first | refine Qw ?_ | refine Qc ?_ | refine Qm ?_ | refine Qr rfl (by omega) ?_ | refine Qn rfl (by omega) ?_ | refine QM ?_)))
    refine e_1 (Tryz.results79) (QA (size := 4) rfl rfl rfl rfl) ?_
    rw [Q3]
    exact qb (by first | rfl | (simp [Wi, WH]; try rfl)) rfl
  ·obtain ⟨hqv1, hE1⟩ := hE2x (a + 1) (L - 1) ⟨by omega, by omega, by omega, by omega⟩
   obtain ⟨fv1, dv1, sv1, wv1, mv1, uv1⟩ := hqv1
   generalize E2 (a + 1) (L - 1) = tv1 at *
   obtain ⟨v1, b1, M1⟩ := tv1
   dsimp only at *
   have spv1 := QZ v1
   clear hE2x hE1x hsm hrq
   refine ⟨(.mk 24 (0) (0) [v1], b1, M1), ?_, fun g B hg => ?_⟩
   ·refine ⟨WT ⟨5, 0, 0, 0, [4], 0, 0, 0⟩ rfl (by decide) (by decide) (by dsimp only; omega) (by dsimp only; omega) (by first | (simp; done) | (simp; omega)) (kids1 fv1), ?_, ?_, ?_, ?_, ?_⟩
    ·rw [Wn]; (try simp only [Wo]); omega
    ·rw [QI]; (try simp only [QT]); omega
    ·dsimp only; omega
    ·dsimp only; omega
    ·dsimp only; omega
   ·refine Qa Tryz.func79 rfl Tryz.ntmps79 rfl (t := [(0, .ptr 0 g 0), (1, .i dd)]) rfl fun E0 hE0 => ?_
    (repeat' first | (refine Qo ?_; (first | (refine Qj ?_; refine QU rfl ?_) | (refine Qd ?_; refine Q5 rfl ?_) | (refine Ql ?_; (first | refine Qi rfl rfl (by first | assumption | exact Enc.len _ | rfl) ?_ | refine Qf rfl rfl rfl ?_)) | (refine Qh ?_; (first | refine W1 rfl rfl (by omega) ?_ | refine W3 rfl rfl ?_ | refine Wc rfl rfl ?_ | refine qe rfl rfl (by first | omega | exact nn_shr (by omega)) (by omega) ?_)) | (refine Qk ?_; (first | refine Wf 0 (Wm l hl _ _ _ (by omega) (by omega)) rfl rfl rfl rfl ?_ | refine Wf 0 (hE1) rfl rfl rfl rfl ?_)) | (refine QJ ?_; refine WZ rfl rfl ?_) | (refine Qx ?_; (first | refine Qe rfl rfl rfl (by first | assumption | exact Enc.len _ | rfl) (by first | assumption | exact Enc.len _ | rfl) rfl ?_ | refine Q8 rfl rfl rfl rfl (by rfl) (by rfl) (by rfl) ?_)) | (refine QK ?_; refine Q0 (z := v1) rfl rfl (by decide) ?_) | (refine Qb ?_; refine Qg rfl rfl ?_) | (refine QS ?_; refine QC rfl rfl ?_) | (refine Qy ?_; refine Qt rfl rfl ?_) | (refine QG ?_; refine QD (fun _ _ => ?_)))) | (refine Qv ?_; (first | refine Qu ?_ | refine QY rfl ?_ | refine Q1 ?_ | refine WX rfl rfl rfl rfl ?_ | refine We rfl rfl (by omega) ?_)) | (refine Qs ?_; (first | refine Qw ?_ | refine Qc ?_ | refine Qm ?_ | refine Qr rfl (by omega) ?_ | refine Qn rfl (by omega) ?_ | refine QM ?_)))
    refine e_1 (Tryz.results79) (QA (size := 4) rfl rfl rfl rfl) ?_
    rw [Q3]
    exact qb (by first | rfl | (simp [Wi, WH]; try rfl)) rfl
  ·obtain ⟨hqv1, hE1⟩ := hE2x (a + 1) (L - 1) ⟨by omega, by omega, by omega, by omega⟩
   obtain ⟨fv1, dv1, sv1, wv1, mv1, uv1⟩ := hqv1
   generalize E2 (a + 1) (L - 1) = tv1 at *
   obtain ⟨v1, b1, M1⟩ := tv1
   dsimp only at *
   have spv1 := QZ v1
   clear hE2x hE1x hsm hrq
   refine ⟨(.mk 25 (0) (0) [], b1, M1), ?_, fun g B hg => ?_⟩
   ·refine ⟨WT ⟨5, 0, 0, 0, [], 0, 0, 0⟩ rfl (by decide) (by decide) (by dsimp only; omega) (by dsimp only; omega) (by first | (simp; done) | (simp; omega)) (kids0), ?_, ?_, ?_, ?_, ?_⟩
    ·rw [Wn]; (try simp only [Wo]); omega
    ·rw [QI]; (try simp only [QT]); omega
    ·dsimp only; omega
    ·dsimp only; omega
    ·dsimp only; omega
   ·refine Qa Tryz.func79 rfl Tryz.ntmps79 rfl (t := [(0, .ptr 0 g 0), (1, .i dd)]) rfl fun E0 hE0 => ?_
    (repeat' first | (refine Qo ?_; (first | (refine Qj ?_; refine QU rfl ?_) | (refine Qd ?_; refine Q5 rfl ?_) | (refine Ql ?_; refine Qf rfl rfl rfl ?_) | (refine Qh ?_; (first | refine W1 rfl rfl (by omega) ?_ | refine W3 rfl rfl ?_ | refine Wc rfl rfl ?_ | refine qe rfl rfl (by first | omega | exact nn_shr (by omega)) (by omega) ?_)) | (refine Qk ?_; (first | refine Wf 0 (Wm l hl _ _ _ (by omega) (by omega)) rfl rfl rfl rfl ?_ | refine Wf 0 (hE1) rfl rfl rfl rfl ?_)) | (refine QJ ?_; refine WZ rfl rfl ?_) | (refine Qx ?_; (first | refine Qe rfl rfl rfl (by first | assumption | exact Enc.len _ | rfl) (by first | assumption | exact Enc.len _ | rfl) rfl ?_ | refine Q8 rfl rfl rfl rfl (by rfl) (by rfl) (by rfl) ?_)) | (refine Qb ?_; refine Qg rfl rfl ?_) | (refine QS ?_; refine QC rfl rfl ?_) | (refine Qy ?_; refine Qt rfl rfl ?_) | (refine QG ?_; refine QD (fun _ _ => ?_)))) | (refine Qv ?_; (first | refine Qu ?_ | refine QY rfl ?_ | refine Q1 ?_ | refine WX rfl rfl rfl rfl ?_ | refine We rfl rfl (by omega) ?_)) | (refine Qs ?_; (first | refine Qw ?_ | refine Qc ?_ | refine Qm ?_ | refine Qr rfl (by omega) ?_ | refine Qn rfl (by omega) ?_ | refine QM ?_)))
    exact e_1 (Tryz.results79) (QA (size := 4) rfl rfl rfl rfl) (W7 (es := 4) (.node rfl rfl rfl) (by show _ = DV.agg (Enc.enc (Nd.mk _ _ _ [])); rw [Q3]; rfl) rfl)
 ·rcases hxx with rfl | rfl | rfl | rfl | rfl | rfl | rfl | rfl | rfl | rfl
  ·obtain ⟨hqv1, hE1⟩ := hE2x (a + 1) (L - 1) ⟨by omega, by omega, by omega, by omega⟩
   obtain ⟨fv1, dv1, sv1, wv1, mv1, uv1⟩ := hqv1
   generalize E2 (a + 1) (L - 1) = tv1 at *
   obtain ⟨v1, b1, M1⟩ := tv1
   dsimp only at *
   have spv1 := QZ v1
   have n6 := QX l (b1) (most := 6) (by decide)
   clear hE2x hE1x hsm hrq
   refine ⟨(.mk 14 (atI l b1 6) (0) [v1], b1 + 1, M1), ?_, fun g B hg => ?_⟩
   ·refine ⟨WT ⟨5, 0, 5, 0, [4], 0, 0, 0⟩ rfl (by decide) (by decide) (by dsimp only; omega) (by dsimp only; omega) (by first | (simp; done) | (simp; omega)) (kids1 fv1), ?_, ?_, ?_, ?_, ?_⟩
    ·rw [Wn]; (try simp only [Wo]); omega
    ·rw [QI]; (try simp only [QT]); omega
    ·dsimp only; omega
    ·dsimp only; omega
    ·dsimp only; omega
   ·refine Qa Tryz.func79 rfl Tryz.ntmps79 rfl (t := [(0, .ptr 0 g 0), (1, .i dd)]) rfl fun E0 hE0 => ?_
    (repeat' first | (refine Qo ?_; (first | (refine Qj ?_; refine QU rfl ?_) | (refine Qd ?_; refine Q5 rfl ?_) | (refine Ql ?_; refine Qf rfl rfl rfl ?_) | (refine Qh ?_; (first | refine W1 rfl rfl (by omega) ?_ | refine W3 rfl rfl ?_ | refine Wc rfl rfl ?_)) | (refine Qk ?_; (first | refine Wf 0 (Wm l hl _ _ _ (by omega) (by omega)) rfl rfl rfl rfl ?_ | refine Wf 0 (hE1) rfl rfl rfl rfl ?_)) | (refine QJ ?_; refine WZ rfl rfl ?_) | (refine Qx ?_; (first | refine Qe rfl rfl rfl (by first | assumption | exact Enc.len _ | rfl) (by first | assumption | exact Enc.len _ | rfl) rfl ?_ | refine Q8 rfl rfl rfl rfl (by rfl) (by rfl) (by rfl) ?_)) | (refine Qb ?_; refine Qg rfl rfl ?_) | (refine Qy ?_; refine Qt rfl rfl ?_) | (refine QG ?_; refine QD (fun _ _ => ?_)))) | (refine Qv ?_; (first | refine Qu ?_ | refine QY rfl ?_ | refine Q1 ?_ | refine WX rfl rfl rfl rfl ?_ | refine We rfl rfl (by omega) ?_)) | (refine Qs ?_; (first | refine Qw ?_ | refine Qc ?_ | refine Qm ?_ | (refine WJ ?_; first | (rename_i g4 hg4 ge hge; refine Qq (fun p => p :: .row g4 [.i 0, .i 0, .i 0, .nil] :: .row ge (Enc.enc v1) :: []) 6 [(0, true), (1, true), (2, true), (3, false), (4, true), (5, true), (6, false)] (by rfl) (by rfl) (by kernel_rfl) (by decide +kernel) (by decide +kernel) ⟨_, rfl⟩ ?_) | (rename_i g4 hg4 ge hge; refine Qq (fun p => p :: .row g4 [.i 0, .i 0, .i 0, .nil] :: .row ge (Enc.enc v1) :: []) 9 [(0, true), (1, true), (2, true), (4, true), (5, true), (3, false), (6, false), (7, true), (8, true), (9, false)] (by rfl) (by rfl) (by kernel_rfl) (by decide +kernel) (by decide +kernel) ⟨_, rfl⟩ ?_) | (rename_i g4 hg4 ge hge; refine Qq (fun p => p :: .row g4 [.i 0, .i 0, .i 0, .nil] :: .row ge (Enc.enc v1) :: []) 7 [(0, true), (2, true), (4, true), (5, true), (1, false), (3, false), (6, true), (7, false)] (by rfl) (by rfl) (by kernel_rfl) (by decide +kernel) (by decide +kernel) ⟨_, rfl⟩ ?_) | (rename_i g4 hg4 ge hge; refine Qq (fun p => p :: .row g4 [.i 0, .i 0, .i 0, .nil] :: .row ge (Enc.enc v1) :: []) 7 [(0, true), (2, true), (3, true), (1, false), (4, false), (5, true), (6, true), (7, false)] (by rfl) (by rfl) (by kernel_rfl) (by decide +kernel) (by decide +kernel) ⟨_, rfl⟩ ?_) | (rename_i g4 hg4 ge hge; refine Qq (fun p => p :: .row g4 [.i 0, .i 0, .i 0, .nil] :: .row ge (Enc.enc v1) :: []) 5 [(0, true), (2, true), (3, true), (1, false), (4, true), (5, false)] (by rfl) (by rfl) (by kernel_rfl) (by decide +kernel) (by decide +kernel) ⟨_, rfl⟩ ?_) | (refine Qq (fun p => p) 100 [(0, true)] (by rfl) (by rfl) (by kernel_rfl) (by decide +kernel) (by decide +kernel) ⟨_, rfl⟩ ?_) | (refine Qq (fun p => p.1 :: .row g4 [.i 0, .i 0, .i 0, .nil] :: .row g5 [.i 13, .i 0, .i 0, .ref 3 gg 0 o.length 4] :: p.2) 9 [(0, true), (1, true), (2, true), (3, true), (4, true), (5, false), (6, true), (7, false), (8, true), (9, false)] (by rfl) (by rfl) (by kernel_rfl) (by decide +kernel) (by decide +kernel) ⟨(_, _), rfl⟩ ?_) | refine Ws (by rfl) (by kernel_rfl) (by kernel_rfl) ?_ | refine Wr (by kernel_rfl) (by kernel_rfl) ?_) | refine QR ?_ | refine Qr rfl (by omega) ?_ | refine Qn rfl (by omega) ?_ | refine QM ?_)) | (refine W8 ?_; (first | refine ZH ?_ | refine i_z0 ?_ | refine i_st rfl rfl (fun _ => (by (repeat' first | (refine Qo ?_; (first | (refine Qj ?_; refine QU rfl ?_) | (refine Ql ?_; refine Qi rfl rfl (by first | assumption | exact Enc.len _ | rfl) ?_) | (refine QK ?_; refine Q0 (z := v1) rfl rfl (by decide) ?_) | (refine QS ?_; refine QC rfl rfl ?_))) | exact ⟨rfl, rfl⟩))) ?_ | refine i_ef rfl ?_)) | refine And.intro (Exists.intro (_) rfl) ?_)
    refine e_1 (Tryz.results79) (QA (size := 4) rfl rfl rfl rfl) ?_
    rw [Q3]
    exact qb (by first | rfl | (simp [Wi, WH]; try rfl)) rfl
  ·obtain ⟨hqv1, hE1⟩ := hE2x (a + 1) (L - 1) ⟨by omega, by omega, by omega, by omega⟩
   obtain ⟨fv1, dv1, sv1, wv1, mv1, uv1⟩ := hqv1
   generalize E2 (a + 1) (L - 1) = tv1 at *
   obtain ⟨v1, b1, M1⟩ := tv1
   dsimp only at *
   have spv1 := QZ v1
   have n6 := QX l (b1) (most := 6) (by decide)
   clear hE2x hE1x hsm hrq
   refine ⟨(.mk 14 (atI l b1 6) (0) [v1], b1 + 1, M1), ?_, fun g B hg => ?_⟩
   ·refine ⟨WT ⟨5, 0, 5, 0, [4], 0, 0, 0⟩ rfl (by decide) (by decide) (by dsimp only; omega) (by dsimp only; omega) (by first | (simp; done) | (simp; omega)) (kids1 fv1), ?_, ?_, ?_, ?_, ?_⟩
    ·rw [Wn]; (try simp only [Wo]); omega
    ·rw [QI]; (try simp only [QT]); omega
    ·dsimp only; omega
    ·dsimp only; omega
    ·dsimp only; omega
   ·refine Qa Tryz.func79 rfl Tryz.ntmps79 rfl (t := [(0, .ptr 0 g 0), (1, .i dd)]) rfl fun E0 hE0 => ?_
    (repeat' first | (refine Qo ?_; (first | (refine Qj ?_; refine QU rfl ?_) | (refine Qd ?_; refine Q5 rfl ?_) | (refine Ql ?_; refine Qf rfl rfl rfl ?_) | (refine Qh ?_; (first | refine W1 rfl rfl (by omega) ?_ | refine W3 rfl rfl ?_ | refine Wc rfl rfl ?_)) | (refine Qk ?_; (first | refine Wf 0 (Wm l hl _ _ _ (by omega) (by omega)) rfl rfl rfl rfl ?_ | refine Wf 0 (hE1) rfl rfl rfl rfl ?_)) | (refine QJ ?_; refine WZ rfl rfl ?_) | (refine Qx ?_; (first | refine Qe rfl rfl rfl (by first | assumption | exact Enc.len _ | rfl) (by first | assumption | exact Enc.len _ | rfl) rfl ?_ | refine Q8 rfl rfl rfl rfl (by rfl) (by rfl) (by rfl) ?_)) | (refine Qb ?_; refine Qg rfl rfl ?_) | (refine Qy ?_; refine Qt rfl rfl ?_) | (refine QG ?_; refine QD (fun _ _ => ?_)))) | (refine Qv ?_; (first | refine Qu ?_ | refine QY rfl ?_ | refine Q1 ?_ | refine WX rfl rfl rfl rfl ?_ | refine We rfl rfl (by omega) ?_)) | (refine Qs ?_; (first | refine Qw ?_ | refine Qc ?_ | refine Qm ?_ | (refine WJ ?_; first | (rename_i g4 hg4 ge hge; refine Qq (fun p => p :: .row g4 [.i 0, .i 0, .i 0, .nil] :: .row ge (Enc.enc v1) :: []) 6 [(0, true), (1, true), (2, true), (3, false), (4, true), (5, true), (6, false)] (by rfl) (by rfl) (by kernel_rfl) (by decide +kernel) (by decide +kernel) ⟨_, rfl⟩ ?_) | (rename_i g4 hg4 ge hge; refine Qq (fun p => p :: .row g4 [.i 0, .i 0, .i 0, .nil] :: .row ge (Enc.enc v1) :: []) 9 [(0, true), (1, true), (2, true), (4, true), (5, true), (3, false), (6, false), (7, true), (8, true), (9, false)] (by rfl) (by rfl) (by kernel_rfl) (by decide +kernel) (by decide +kernel) ⟨_, rfl⟩ ?_) | (rename_i g4 hg4 ge hge; refine Qq (fun p => p :: .row g4 [.i 0, .i 0, .i 0, .nil] :: .row ge (Enc.enc v1) :: []) 7 [(0, true), (2, true), (4, true), (5, true), (1, false), (3, false), (6, true), (7, false)] (by rfl) (by rfl) (by kernel_rfl) (by decide +kernel) (by decide +kernel) ⟨_, rfl⟩ ?_) | (rename_i g4 hg4 ge hge; refine Qq (fun p => p :: .row g4 [.i 0, .i 0, .i 0, .nil] :: .row ge (Enc.enc v1) :: []) 7 [(0, true), (2, true), (3, true), (1, false), (4, false), (5, true), (6, true), (7, false)] (by rfl) (by rfl) (by kernel_rfl) (by decide +kernel) (by decide +kernel) ⟨_, rfl⟩ ?_) | (rename_i g4 hg4 ge hge; refine Qq (fun p => p :: .row g4 [.i 0, .i 0, .i 0, .nil] :: .row ge (Enc.enc v1) :: []) 5 [(0, true), (2, true), (3, true), (1, false), (4, true), (5, false)] (by rfl) (by rfl) (by kernel_rfl) (by decide +kernel) (by decide +kernel) ⟨_, rfl⟩ ?_) | (refine Qq (fun p => p) 100 [(0, true)] (by rfl) (by rfl) (by kernel_rfl) (by decide +kernel) (by decide +kernel) ⟨_, rfl⟩ ?_) | (refine Qq (fun p => p.1 :: .row g4 [.i 0, .i 0, .i 0, .nil] :: .row g5 [.i 13, .i 0, .i 0, .ref 3 gg 0 o.length 4] :: p.2) 9 [(0, true), (1, true), (2, true), (3, true), (4, true), (5, false), (6, true), (7, false), (8, true), (9, false)] (by rfl) (by rfl) (by kernel_rfl) (by decide +kernel) (by decide +kernel) ⟨(_, _), rfl⟩ ?_) | refine Ws (by rfl) (by kernel_rfl) (by kernel_rfl) ?_ | refine Wr (by kernel_rfl) (by kernel_rfl) ?_) | refine QR ?_ | refine Qr rfl (by omega) ?_ | refine Qn rfl (by omega) ?_ | refine QM ?_)) | (refine W8 ?_; (first | refine ZH ?_ | refine i_z0 ?_ | refine i_st rfl rfl (fun _ => (by (repeat' first | (refine Qo ?_; (first | (refine Qj ?_; refine QU rfl ?_) | (refine Ql ?_; refine Qi rfl rfl (by first | assumption | exact Enc.len _ | rfl) ?_) | (refine QK ?_; refine Q0 (z := v1) rfl rfl (by decide) ?_) | (refine QS ?_; refine QC rfl rfl ?_))) | exact ⟨rfl, rfl⟩))) ?_ | refine i_ef rfl ?_)) | refine And.intro (Exists.intro (_) rfl) ?_)
    refine e_1 (Tryz.results79) (QA (size := 4) rfl rfl rfl rfl) ?_
    rw [Q3]
    exact qb (by first | rfl | (simp [Wi, WH]; try rfl)) rfl
  ·obtain ⟨hqv1, hE1⟩ := hE2x (a + 1) (L - 1) ⟨by omega, by omega, by omega, by omega⟩
   obtain ⟨fv1, dv1, sv1, wv1, mv1, uv1⟩ := hqv1
   generalize E2 (a + 1) (L - 1) = tv1 at *
   obtain ⟨v1, b1, M1⟩ := tv1
   dsimp only at *
   have spv1 := QZ v1
   obtain ⟨hqv2, hE2⟩ := hE2x (b1 + 1) (M1) ⟨by omega, by omega, by omega, by omega⟩
   obtain ⟨fv2, dv2, sv2, wv2, mv2, uv2⟩ := hqv2
   generalize E2 (b1 + 1) (M1) = tv2 at *
   obtain ⟨v2, b2, M2⟩ := tv2
   dsimp only at *
   have spv2 := QZ v2
   have n6 := QX l (b1) (most := 6) (by decide)
   clear hE2x hE1x hsm hrq
   refine ⟨(.mk 15 (atI l b1 6) (0) [v1, v2], b2, M2), ?_, fun g B hg => ?_⟩
   ·refine ⟨WT ⟨5, 0, 5, 0, [4, 4], 0, 0, 0⟩ rfl (by decide) (by decide) (by dsimp only; omega) (by dsimp only; omega) (by first | (simp; done) | (simp; omega)) (kids2 fv1 fv2), ?_, ?_, ?_, ?_, ?_⟩
    ·rw [Wn]; (try simp only [Wo]); omega
    ·rw [QI]; (try simp only [QT]); omega
    ·dsimp only; omega
    ·dsimp only; omega
    ·dsimp only; omega
   ·refine Qa Tryz.func79 rfl Tryz.ntmps79 rfl (t := [(0, .ptr 0 g 0), (1, .i dd)]) rfl fun E0 hE0 => ?_
    (repeat' first | (refine Qo ?_; (first | (refine Qj ?_; refine QU rfl ?_) | (refine Qd ?_; refine Q5 rfl ?_) | (refine Ql ?_; refine Qf rfl rfl rfl ?_) | (refine Qh ?_; (first | refine W1 rfl rfl (by omega) ?_ | refine W3 rfl rfl ?_ | refine Wc rfl rfl ?_)) | (refine Qk ?_; (first | refine Wf 0 (Wm l hl _ _ _ (by omega) (by omega)) rfl rfl rfl rfl ?_ | refine Wf 0 (hE1) rfl rfl rfl rfl ?_ | refine Wf 0 (hE2) rfl rfl rfl rfl ?_)) | (refine QJ ?_; refine WZ rfl rfl ?_) | (refine Qx ?_; (first | refine Qe rfl rfl rfl (by first | assumption | exact Enc.len _ | rfl) (by first | assumption | exact Enc.len _ | rfl) rfl ?_ | refine Q8 rfl rfl rfl rfl (by rfl) (by rfl) (by rfl) ?_)) | (refine Qb ?_; refine Qg rfl rfl ?_) | (refine Qy ?_; refine Qt rfl rfl ?_) | (refine QG ?_; refine QD (fun _ _ => ?_)))) | (refine Qv ?_; (first | refine Qu ?_ | refine QY rfl ?_ | refine Q1 ?_ | refine WX rfl rfl rfl rfl ?_ | refine We rfl rfl (by omega) ?_)) | (refine Qs ?_; (first | refine Qw ?_ | refine Qc ?_ | refine Qm ?_ | (refine WJ ?_; first | (rename_i g4 hg4 ge hge; refine Qq (fun p => p :: .row g4 [.i 0, .i 0, .i 0, .nil] :: .row ge (Enc.enc v1) :: []) 6 [(0, true), (1, true), (2, true), (3, false), (4, true), (5, true), (6, false)] (by rfl) (by rfl) (by kernel_rfl) (by decide +kernel) (by decide +kernel) ⟨_, rfl⟩ ?_) | (rename_i g4 hg4 ge hge; refine Qq (fun p => p :: .row g4 [.i 0, .i 0, .i 0, .nil] :: .row ge (Enc.enc v1) :: []) 9 [(0, true), (1, true), (2, true), (4, true), (5, true), (3, false), (6, false), (7, true), (8, true), (9, false)] (by rfl) (by rfl) (by kernel_rfl) (by decide +kernel) (by decide +kernel) ⟨_, rfl⟩ ?_) | (rename_i g4 hg4 ge hge; refine Qq (fun p => p :: .row g4 [.i 0, .i 0, .i 0, .nil] :: .row ge (Enc.enc v1) :: []) 7 [(0, true), (2, true), (4, true), (5, true), (1, false), (3, false), (6, true), (7, false)] (by rfl) (by rfl) (by kernel_rfl) (by decide +kernel) (by decide +kernel) ⟨_, rfl⟩ ?_) | (rename_i g4 hg4 ge hge; refine Qq (fun p => p :: .row g4 [.i 0, .i 0, .i 0, .nil] :: .row ge (Enc.enc v1) :: []) 7 [(0, true), (2, true), (3, true), (1, false), (4, false), (5, true), (6, true), (7, false)] (by rfl) (by rfl) (by kernel_rfl) (by decide +kernel) (by decide +kernel) ⟨_, rfl⟩ ?_) | (rename_i g4 hg4 ge hge; refine Qq (fun p => p :: .row g4 [.i 0, .i 0, .i 0, .nil] :: .row ge (Enc.enc v1) :: []) 5 [(0, true), (2, true), (3, true), (1, false), (4, true), (5, false)] (by rfl) (by rfl) (by kernel_rfl) (by decide +kernel) (by decide +kernel) ⟨_, rfl⟩ ?_) | (refine Qq (fun p => p) 100 [(0, true)] (by rfl) (by rfl) (by kernel_rfl) (by decide +kernel) (by decide +kernel) ⟨_, rfl⟩ ?_) | (refine Qq (fun p => p.1 :: .row g4 [.i 0, .i 0, .i 0, .nil] :: .row g5 [.i 13, .i 0, .i 0, .ref 3 gg 0 o.length 4] :: p.2) 9 [(0, true), (1, true), (2, true), (3, true), (4, true), (5, false), (6, true), (7, false), (8, true), (9, false)] (by rfl) (by rfl) (by kernel_rfl) (by decide +kernel) (by decide +kernel) ⟨(_, _), rfl⟩ ?_) | refine Ws (by rfl) (by kernel_rfl) (by kernel_rfl) ?_ | refine Wr (by kernel_rfl) (by kernel_rfl) ?_) | refine QR ?_ | refine Qr rfl (by omega) ?_ | refine Qn rfl (by omega) ?_ | refine QM ?_)) | (refine W8 ?_; (first | refine ZH ?_ | refine i_z0 ?_ | refine i_st rfl rfl (fun _ => (by (repeat' first | (refine Qo ?_; (first | (refine Qj ?_; refine QU rfl ?_) | (refine Ql ?_; refine Qi rfl rfl (by first | assumption | exact Enc.len _ | rfl) ?_) | (refine QK ?_; refine ZJ (y := v1) (z := v2) rfl rfl (by decide) ?_) | (refine QS ?_; refine QC rfl rfl ?_))) | exact ⟨rfl, rfl⟩))) ?_ | refine i_ef rfl ?_)) | refine And.intro (Exists.intro (_) rfl) ?_)
    refine e_1 (Tryz.results79) (QA (size := 4) rfl rfl rfl rfl) ?_
    rw [Q3]
    exact qb (by first | rfl | (simp [Wi, WH]; try rfl)) rfl
  ·obtain ⟨hqv1, hE1⟩ := hE2x (a + 1) (L - 1) ⟨by omega, by omega, by omega, by omega⟩
   obtain ⟨fv1, dv1, sv1, wv1, mv1, uv1⟩ := hqv1
   generalize E2 (a + 1) (L - 1) = tv1 at *
   obtain ⟨v1, b1, M1⟩ := tv1
   dsimp only at *
   have spv1 := QZ v1
   have n6 := QX l (b1) (most := 6) (by decide)
   have n3 := QX l (b1 + 1) (most := 3) (by decide)
   clear hE2x hE1x hsm hrq
   refine ⟨(.mk 16 (atI l b1 6) (atI l (b1 + 1) 3) [v1], b1 + 1 + 1, M1), ?_, fun g B hg => ?_⟩
   ·refine ⟨WT ⟨5, 0, 5, 2, [4], 0, 0, 0⟩ rfl (by decide) (by decide) (by dsimp only; omega) (by dsimp only; omega) (by first | (simp; done) | (simp; omega)) (kids1 fv1), ?_, ?_, ?_, ?_, ?_⟩
    ·rw [Wn]; (try simp only [Wo]); omega
    ·rw [QI]; (try simp only [QT]); omega
    ·dsimp only; omega
    ·dsimp only; omega
    ·dsimp only; omega
   ·refine Qa Tryz.func79 rfl Tryz.ntmps79 rfl (t := [(0, .ptr 0 g 0), (1, .i dd)]) rfl fun E0 hE0 => ?_
    (repeat' first | (refine Qo ?_; (first | (refine Qj ?_; refine QU rfl ?_) | (refine Qd ?_; refine Q5 rfl ?_) | (refine Ql ?_; refine Qf rfl rfl rfl ?_) | (refine Qh ?_; (first | refine W1 rfl rfl (by omega) ?_ | refine W3 rfl rfl ?_ | refine Wc rfl rfl ?_)) | (refine Qk ?_; (first | refine Wf 0 (Wm l hl _ _ _ (by omega) (by omega)) rfl rfl rfl rfl ?_ | refine Wf 0 (hE1) rfl rfl rfl rfl ?_)) | (refine QJ ?_; refine WZ rfl rfl ?_) | (refine Qx ?_; (first | refine Qe rfl rfl rfl (by first | assumption | exact Enc.len _ | rfl) (by first | assumption | exact Enc.len _ | rfl) rfl ?_ | refine Q8 rfl rfl rfl rfl (by rfl) (by rfl) (by rfl) ?_)) | (refine Qb ?_; refine Qg rfl rfl ?_) | (refine Qy ?_; refine Qt rfl rfl ?_) | (refine QG ?_; refine QD (fun _ _ => ?_)))) | (refine Qv ?_; (first | refine Qu ?_ | refine QY rfl ?_ | refine Q1 ?_ | refine WX rfl rfl rfl rfl ?_ | refine We rfl rfl (by omega) ?_)) | (refine Qs ?_; (first | refine Qw ?_ | refine Qc ?_ | refine Qm ?_ | (refine WJ ?_; first | (rename_i g4 hg4 ge hge; refine Qq (fun p => p :: .row g4 [.i 0, .i 0, .i 0, .nil] :: .row ge (Enc.enc v1) :: []) 6 [(0, true), (1, true), (2, true), (3, false), (4, true), (5, true), (6, false)] (by rfl) (by rfl) (by kernel_rfl) (by decide +kernel) (by decide +kernel) ⟨_, rfl⟩ ?_) | (rename_i g4 hg4 ge hge; refine Qq (fun p => p :: .row g4 [.i 0, .i 0, .i 0, .nil] :: .row ge (Enc.enc v1) :: []) 9 [(0, true), (1, true), (2, true), (4, true), (5, true), (3, false), (6, false), (7, true), (8, true), (9, false)] (by rfl) (by rfl) (by kernel_rfl) (by decide +kernel) (by decide +kernel) ⟨_, rfl⟩ ?_) | (rename_i g4 hg4 ge hge; refine Qq (fun p => p :: .row g4 [.i 0, .i 0, .i 0, .nil] :: .row ge (Enc.enc v1) :: []) 7 [(0, true), (2, true), (4, true), (5, true), (1, false), (3, false), (6, true), (7, false)] (by rfl) (by rfl) (by kernel_rfl) (by decide +kernel) (by decide +kernel) ⟨_, rfl⟩ ?_) | (rename_i g4 hg4 ge hge; refine Qq (fun p => p :: .row g4 [.i 0, .i 0, .i 0, .nil] :: .row ge (Enc.enc v1) :: []) 7 [(0, true), (2, true), (3, true), (1, false), (4, false), (5, true), (6, true), (7, false)] (by rfl) (by rfl) (by kernel_rfl) (by decide +kernel) (by decide +kernel) ⟨_, rfl⟩ ?_) | (rename_i g4 hg4 ge hge; refine Qq (fun p => p :: .row g4 [.i 0, .i 0, .i 0, .nil] :: .row ge (Enc.enc v1) :: []) 5 [(0, true), (2, true), (3, true), (1, false), (4, true), (5, false)] (by rfl) (by rfl) (by kernel_rfl) (by decide +kernel) (by decide +kernel) ⟨_, rfl⟩ ?_) | (refine Qq (fun p => p) 100 [(0, true)] (by rfl) (by rfl) (by kernel_rfl) (by decide +kernel) (by decide +kernel) ⟨_, rfl⟩ ?_) | (refine Qq (fun p => p.1 :: .row g4 [.i 0, .i 0, .i 0, .nil] :: .row g5 [.i 13, .i 0, .i 0, .ref 3 gg 0 o.length 4] :: p.2) 9 [(0, true), (1, true), (2, true), (3, true), (4, true), (5, false), (6, true), (7, false), (8, true), (9, false)] (by rfl) (by rfl) (by kernel_rfl) (by decide +kernel) (by decide +kernel) ⟨(_, _), rfl⟩ ?_) | refine Ws (by rfl) (by kernel_rfl) (by kernel_rfl) ?_ | refine Wr (by kernel_rfl) (by kernel_rfl) ?_) | refine QR ?_ | refine Qr rfl (by omega) ?_ | refine Qn rfl (by omega) ?_ | refine QM ?_)) | (refine W8 ?_; (first | refine ZH ?_ | refine i_z0 ?_ | refine i_st rfl rfl (fun _ => (by (repeat' first | (refine Qo ?_; (first | (refine Qj ?_; refine QU rfl ?_) | (refine Ql ?_; refine Qi rfl rfl (by first | assumption | exact Enc.len _ | rfl) ?_) | (refine QK ?_; refine Q0 (z := v1) rfl rfl (by decide) ?_) | (refine QS ?_; refine QC rfl rfl ?_))) | exact ⟨rfl, rfl⟩))) ?_ | refine i_ef rfl ?_)) | refine And.intro (Exists.intro (_) rfl) ?_)
    refine e_1 (Tryz.results79) (QA (size := 4) rfl rfl rfl rfl) ?_
    rw [Q3]
    exact qb (by first | rfl | (simp [Wi, WH]; try rfl)) rfl
  ·obtain ⟨hqv1, hE1⟩ := hE2x (a + 1) (L - 1) ⟨by omega, by omega, by omega, by omega⟩
   obtain ⟨fv1, dv1, sv1, wv1, mv1, uv1⟩ := hqv1
   generalize E2 (a + 1) (L - 1) = tv1 at *
   obtain ⟨v1, b1, M1⟩ := tv1
   dsimp only at *
   have spv1 := QZ v1
   clear hE2x hE1x hsm hrq
   refine ⟨(.mk 19 (0) (0) [v1], b1, M1), ?_, fun g B hg => ?_⟩
   ·refine ⟨WT ⟨5, 0, 0, 0, [4], 0, 0, 0⟩ rfl (by decide) (by decide) (by dsimp only; omega) (by dsimp only; omega) (by first | (simp; done) | (simp; omega)) (kids1 fv1), ?_, ?_, ?_, ?_, ?_⟩
    ·rw [Wn]; (try simp only [Wo]); omega
    ·rw [QI]; (try simp only [QT]); omega
    ·dsimp only; omega
    ·dsimp only; omega
    ·dsimp only; omega
   ·refine Qa Tryz.func79 rfl Tryz.ntmps79 rfl (t := [(0, .ptr 0 g 0), (1, .i dd)]) rfl fun E0 hE0 => ?_
    (repeat' first | (refine Qo ?_; (first | (refine Qj ?_; refine QU rfl ?_) | (refine Qd ?_; refine Q5 rfl ?_) | (refine Ql ?_; (first | refine Qi rfl rfl (by first | assumption | exact Enc.len _ | rfl) ?_ | refine Qf rfl rfl rfl ?_)) | (refine Qh ?_; (first | refine W1 rfl rfl (by omega) ?_ | refine W3 rfl rfl ?_ | refine Wc rfl rfl ?_)) | (refine Qk ?_; (first | refine Wf 0 (Wm l hl _ _ _ (by omega) (by omega)) rfl rfl rfl rfl ?_ | refine Wf 0 (hE1) rfl rfl rfl rfl ?_)) | (refine QJ ?_; refine WZ rfl rfl ?_) | (refine Qx ?_; (first | refine Qe rfl rfl rfl (by first | assumption | exact Enc.len _ | rfl) (by first | assumption | exact Enc.len _ | rfl) rfl ?_ | refine Q8 rfl rfl rfl rfl (by rfl) (by rfl) (by rfl) ?_)) | (refine QK ?_; refine Q0 (z := v1) rfl rfl (by decide) ?_) | (refine Qb ?_; refine Qg rfl rfl ?_) | (refine QS ?_; refine QC rfl rfl ?_) | (refine Qy ?_; refine Qt rfl rfl ?_) | (refine QG ?_; refine QD (fun _ _ => ?_)))) | (refine Qv ?_; (first | refine Qu ?_ | refine QY rfl ?_ | refine Q1 ?_ | refine WX rfl rfl rfl rfl ?_ | refine We rfl rfl (by omega) ?_)) | (refine Qs ?_; (first | refine Qw ?_ | refine Qc ?_ | refine Qm ?_ | refine QR ?_ | refine Qr rfl (by omega) ?_ | refine Qn rfl (by omega) ?_ | refine QM ?_)))
    refine e_1 (Tryz.results79) (QA (size := 4) rfl rfl rfl rfl) ?_
    rw [Q3]
    exact qb (by first | rfl | (simp [Wi, WH]; try rfl)) rfl
  ·obtain ⟨hqv1, hE1⟩ := hE2x (a + 1) (L - 1) ⟨by omega, by omega, by omega, by omega⟩
   obtain ⟨fv1, dv1, sv1, wv1, mv1, uv1⟩ := hqv1
   generalize E2 (a + 1) (L - 1) = tv1 at *
   obtain ⟨v1, b1, M1⟩ := tv1
   dsimp only at *
   have spv1 := QZ v1
   clear hE2x hE1x hsm hrq
   refine ⟨(.mk 20 (0) (0) [v1], b1, M1), ?_, fun g B hg => ?_⟩
   ·refine ⟨WT ⟨5, 0, 0, 0, [4], 0, 0, 0⟩ rfl (by decide) (by decide) (by dsimp only; omega) (by dsimp only; omega) (by first | (simp; done) | (simp; omega)) (kids1 fv1), ?_, ?_, ?_, ?_, ?_⟩
    ·rw [Wn]; (try simp only [Wo]); omega
    ·rw [QI]; (try simp only [QT]); omega
    ·dsimp only; omega
    ·dsimp only; omega
    ·dsimp only; omega
   ·refine Qa Tryz.func79 rfl Tryz.ntmps79 rfl (t := [(0, .ptr 0 g 0), (1, .i dd)]) rfl fun E0 hE0 => ?_
    (repeat' first | (refine Qo ?_; (first | (refine Qj ?_; refine QU rfl ?_) | (refine Qd ?_; refine Q5 rfl ?_) | (refine Ql ?_; (first | refine Qi rfl rfl (by first | assumption | exact Enc.len _ | rfl) ?_ | refine Qf rfl rfl rfl ?_)) | (refine Qh ?_; (first | refine W1 rfl rfl (by omega) ?_ | refine W3 rfl rfl ?_ | refine Wc rfl rfl ?_)) | (refine Qk ?_; (first | refine Wf 0 (Wm l hl _ _ _ (by omega) (by omega)) rfl rfl rfl rfl ?_ | refine Wf 0 (hE1) rfl rfl rfl rfl ?_)) | (refine QJ ?_; refine WZ rfl rfl ?_) | (refine Qx ?_; (first | refine Qe rfl rfl rfl (by first | assumption | exact Enc.len _ | rfl) (by first | assumption | exact Enc.len _ | rfl) rfl ?_ | refine Q8 rfl rfl rfl rfl (by rfl) (by rfl) (by rfl) ?_)) | (refine QK ?_; refine Q0 (z := v1) rfl rfl (by decide) ?_) | (refine Qb ?_; refine Qg rfl rfl ?_) | (refine QS ?_; refine QC rfl rfl ?_) | (refine Qy ?_; refine Qt rfl rfl ?_) | (refine QG ?_; refine QD (fun _ _ => ?_)))) | (refine Qv ?_; (first | refine Qu ?_ | refine QY rfl ?_ | refine Q1 ?_ | refine WX rfl rfl rfl rfl ?_ | refine We rfl rfl (by omega) ?_)) | (refine Qs ?_; (first | refine Qw ?_ | refine Qc ?_ | refine Qm ?_ | refine QR ?_ | refine Qr rfl (by omega) ?_ | refine Qn rfl (by omega) ?_ | refine QM ?_)))
    refine e_1 (Tryz.results79) (QA (size := 4) rfl rfl rfl rfl) ?_
    rw [Q3]
    exact qb (by first | rfl | (simp [Wi, WH]; try rfl)) rfl
  ·obtain ⟨hqv1, hE1⟩ := hE2x (a + 1) (L - 1) ⟨by omega, by omega, by omega, by omega⟩
   obtain ⟨fv1, dv1, sv1, wv1, mv1, uv1⟩ := hqv1
   generalize E2 (a + 1) (L - 1) = tv1 at *
   obtain ⟨v1, b1, M1⟩ := tv1
   dsimp only at *
   have spv1 := QZ v1
   have n3 := QX l (b1) (most := 3) (by decide)
   clear hE2x hE1x hsm hrq
   refine ⟨(.mk 22 (atI l b1 3) (0) [v1], b1 + 1, M1), ?_, fun g B hg => ?_⟩
   ·refine ⟨WT ⟨5, 0, 2, 0, [4], 0, 0, 0⟩ rfl (by decide) (by decide) (by dsimp only; omega) (by dsimp only; omega) (by first | (simp; done) | (simp; omega)) (kids1 fv1), ?_, ?_, ?_, ?_, ?_⟩
    ·rw [Wn]; (try simp only [Wo]); omega
    ·rw [QI]; (try simp only [QT]); omega
    ·dsimp only; omega
    ·dsimp only; omega
    ·dsimp only; omega
   ·refine Qa Tryz.func79 rfl Tryz.ntmps79 rfl (t := [(0, .ptr 0 g 0), (1, .i dd)]) rfl fun E0 hE0 => ?_
    (repeat' first | (refine Qo ?_; (first | (refine Qj ?_; refine QU rfl ?_) | (refine Qd ?_; refine Q5 rfl ?_) | (refine Ql ?_; refine Qf rfl rfl rfl ?_) | (refine Qh ?_; (first | refine W1 rfl rfl (by omega) ?_ | refine W3 rfl rfl ?_ | refine Wc rfl rfl ?_)) | (refine Qk ?_; (first | refine Wf 0 (Wm l hl _ _ _ (by omega) (by omega)) rfl rfl rfl rfl ?_ | refine Wf 0 (hE1) rfl rfl rfl rfl ?_)) | (refine QJ ?_; refine WZ rfl rfl ?_) | (refine Qx ?_; (first | refine Qe rfl rfl rfl (by first | assumption | exact Enc.len _ | rfl) (by first | assumption | exact Enc.len _ | rfl) rfl ?_ | refine Q8 rfl rfl rfl rfl (by rfl) (by rfl) (by rfl) ?_)) | (refine Qb ?_; refine Qg rfl rfl ?_) | (refine Qy ?_; refine Qt rfl rfl ?_) | (refine QG ?_; refine QD (fun _ _ => ?_)))) | (refine Qv ?_; (first | refine Qu ?_ | refine QY rfl ?_ | refine Q1 ?_ | refine WX rfl rfl rfl rfl ?_ | refine We rfl rfl (by omega) ?_)) | (refine Qs ?_; (first | refine Qw ?_ | refine Qc ?_ | refine Qm ?_ | (refine WJ ?_; first | (rename_i g4 hg4 ge hge; refine Qq (fun p => p :: .row g4 [.i 0, .i 0, .i 0, .nil] :: .row ge (Enc.enc v1) :: []) 6 [(0, true), (1, true), (2, true), (3, false), (4, true), (5, true), (6, false)] (by rfl) (by rfl) (by kernel_rfl) (by decide +kernel) (by decide +kernel) ⟨_, rfl⟩ ?_) | (rename_i g4 hg4 ge hge; refine Qq (fun p => p :: .row g4 [.i 0, .i 0, .i 0, .nil] :: .row ge (Enc.enc v1) :: []) 9 [(0, true), (1, true), (2, true), (4, true), (5, true), (3, false), (6, false), (7, true), (8, true), (9, false)] (by rfl) (by rfl) (by kernel_rfl) (by decide +kernel) (by decide +kernel) ⟨_, rfl⟩ ?_) | (rename_i g4 hg4 ge hge; refine Qq (fun p => p :: .row g4 [.i 0, .i 0, .i 0, .nil] :: .row ge (Enc.enc v1) :: []) 7 [(0, true), (2, true), (4, true), (5, true), (1, false), (3, false), (6, true), (7, false)] (by rfl) (by rfl) (by kernel_rfl) (by decide +kernel) (by decide +kernel) ⟨_, rfl⟩ ?_) | (rename_i g4 hg4 ge hge; refine Qq (fun p => p :: .row g4 [.i 0, .i 0, .i 0, .nil] :: .row ge (Enc.enc v1) :: []) 7 [(0, true), (2, true), (3, true), (1, false), (4, false), (5, true), (6, true), (7, false)] (by rfl) (by rfl) (by kernel_rfl) (by decide +kernel) (by decide +kernel) ⟨_, rfl⟩ ?_) | (rename_i g4 hg4 ge hge; refine Qq (fun p => p :: .row g4 [.i 0, .i 0, .i 0, .nil] :: .row ge (Enc.enc v1) :: []) 5 [(0, true), (2, true), (3, true), (1, false), (4, true), (5, false)] (by rfl) (by rfl) (by kernel_rfl) (by decide +kernel) (by decide +kernel) ⟨_, rfl⟩ ?_) | (refine Qq (fun p => p) 100 [(0, true)] (by rfl) (by rfl) (by kernel_rfl) (by decide +kernel) (by decide +kernel) ⟨_, rfl⟩ ?_) | (refine Qq (fun p => p.1 :: .row g4 [.i 0, .i 0, .i 0, .nil] :: .row g5 [.i 13, .i 0, .i 0, .ref 3 gg 0 o.length 4] :: p.2) 9 [(0, true), (1, true), (2, true), (3, true), (4, true), (5, false), (6, true), (7, false), (8, true), (9, false)] (by rfl) (by rfl) (by kernel_rfl) (by decide +kernel) (by decide +kernel) ⟨(_, _), rfl⟩ ?_) | refine Ws (by rfl) (by kernel_rfl) (by kernel_rfl) ?_ | refine Wr (by kernel_rfl) (by kernel_rfl) ?_) | refine QR ?_ | refine Qr rfl (by omega) ?_ | refine Qn rfl (by omega) ?_ | refine QM ?_)) | (refine W8 ?_; (first | refine ZH ?_ | refine i_z0 ?_ | refine i_st rfl rfl (fun _ => (by (repeat' first | (refine Qo ?_; (first | (refine Qj ?_; refine QU rfl ?_) | (refine Ql ?_; refine Qi rfl rfl (by first | assumption | exact Enc.len _ | rfl) ?_) | (refine QK ?_; refine Q0 (z := v1) rfl rfl (by decide) ?_) | (refine QS ?_; refine QC rfl rfl ?_))) | exact ⟨rfl, rfl⟩))) ?_ | refine i_ef rfl ?_)) | refine And.intro (Exists.intro (_) rfl) ?_)
    refine e_1 (Tryz.results79) (QA (size := 4) rfl rfl rfl rfl) ?_
    rw [Q3]
    exact qb (by first | rfl | (simp [Wi, WH]; try rfl)) rfl
  ·obtain ⟨hqv1, hE1⟩ := hE2x (a + 1) (L - 1) ⟨by omega, by omega, by omega, by omega⟩
   obtain ⟨fv1, dv1, sv1, wv1, mv1, uv1⟩ := hqv1
   generalize E2 (a + 1) (L - 1) = tv1 at *
   obtain ⟨v1, b1, M1⟩ := tv1
   dsimp only at *
   have spv1 := QZ v1
   have hS1 := hsm (b1 + 1) M1 ⟨by omega, by omega, by omega, by omega⟩ (by omega) (by omega)
   have hb := QX l (b1 + 1) (most := 4) (by decide)
   obtain ⟨N, hN⟩ : ∃ N : Nat, atI l (b1 + 1) 4 = (N : Int) := ⟨(atI l (b1 + 1) 4).toNat, by omega⟩
   rw [hN, show ((N : Int)).toNat = N by omega, show ((1 : Nat) : Int) + 1 = 2 from rfl] at hS1
   have hq := hrq N (b1 + 1 + 1) M1 (by omega) ⟨by omega, by omega, by omega, by omega⟩ (by omega)
   have hln := runM_len E1 N (b1 + 1 + 1) M1
   obtain ⟨f2, d2, s2, w2, m2, u2⟩ := hq
   generalize runM E1 N (b1 + 1 + 1) M1 = T at *
   obtain ⟨ks, b2, M2⟩ := T
   dsimp only at *
   have hdl := qQ d2
   have n6 := QX l (b1) (most := 6) (by decide)
   clear hE2x hE1x hsm hrq
   refine ⟨(.mk 23 (atI l b1 6) (0) ks, b2, M2), ?_, fun g B hg => ?_⟩
   ·refine ⟨WT ⟨5, 0, 5, 0, [], 3, 0, 4⟩ rfl (by decide) (by decide) (by dsimp only; omega) (by dsimp only; omega) (by first | (simp; done) | (simp; omega)) (kidsA rfl f2), ?_, ?_, ?_, ?_, ?_⟩
    ·rw [Wn]; (try simp only [Wo]); omega
    ·rw [QI]; (try simp only [QT]); omega
    ·dsimp only; omega
    ·dsimp only; omega
    ·dsimp only; omega
   ·refine Qa Tryz.func79 rfl Tryz.ntmps79 rfl (t := [(0, .ptr 0 g 0), (1, .i dd)]) rfl fun E0 hE0 => ?_
    (repeat' first | (refine Qo ?_; (first | (refine Qj ?_; refine QU rfl ?_) | (refine Qd ?_; refine Q5 rfl ?_) | (refine Ql ?_; refine Qf rfl rfl rfl ?_) | (refine Qh ?_; (first | refine W1 rfl rfl (by omega) ?_ | refine W3 rfl rfl ?_ | refine Wc rfl rfl ?_)) | (refine Qk ?_; (first | refine Wf 0 (Wm l hl _ _ _ (by omega) (by omega)) rfl rfl rfl rfl ?_ | refine Wf 0 (hE1) rfl rfl rfl rfl ?_ | refine Wf 0 (hS1) rfl rfl rfl rfl ?_)) | (refine QJ ?_; refine WZ rfl rfl ?_) | (refine Qx ?_; (first | refine Qe rfl rfl rfl (by first | assumption | exact Enc.len _ | rfl) (by first | assumption | exact Enc.len _ | rfl) rfl ?_ | refine Q8 rfl rfl rfl rfl (by rfl) (by rfl) (by rfl) ?_)) | (refine Qb ?_; refine Qg rfl rfl ?_) | (refine QS ?_; refine QC rfl rfl ?_) | (refine Qy ?_; refine Qt rfl rfl ?_) | (refine QG ?_; refine QD (fun _ _ => ?_)))) | (refine Qv ?_; (first | refine Qu ?_ | refine QY rfl ?_ | refine Q1 ?_ | refine WX rfl rfl rfl rfl ?_ | refine We rfl rfl (by omega) ?_)) | (refine Qs ?_; (first | refine Qw ?_ | refine Qc ?_ | refine Qm ?_ | refine QR ?_ | refine Qr rfl (by omega) ?_ | refine Qn rfl (by omega) ?_ | refine QM ?_)))
    refine e_1 (Tryz.results79) (QA (size := 4) rfl rfl rfl rfl) ?_
    rw [Q3]
    exact qb (by first | rfl | (simp [Wi, WH]; try rfl)) rfl
  ·obtain ⟨hqv1, hE1⟩ := hE2x (a + 1) (L - 1) ⟨by omega, by omega, by omega, by omega⟩
   obtain ⟨fv1, dv1, sv1, wv1, mv1, uv1⟩ := hqv1
   generalize E2 (a + 1) (L - 1) = tv1 at *
   obtain ⟨v1, b1, M1⟩ := tv1
   dsimp only at *
   have spv1 := QZ v1
   clear hE2x hE1x hsm hrq
   refine ⟨(.mk 24 (0) (0) [v1], b1, M1), ?_, fun g B hg => ?_⟩
   ·refine ⟨WT ⟨5, 0, 0, 0, [4], 0, 0, 0⟩ rfl (by decide) (by decide) (by dsimp only; omega) (by dsimp only; omega) (by first | (simp; done) | (simp; omega)) (kids1 fv1), ?_, ?_, ?_, ?_, ?_⟩
    ·rw [Wn]; (try simp only [Wo]); omega
    ·rw [QI]; (try simp only [QT]); omega
    ·dsimp only; omega
    ·dsimp only; omega
    ·dsimp only; omega
   ·refine Qa Tryz.func79 rfl Tryz.ntmps79 rfl (t := [(0, .ptr 0 g 0), (1, .i dd)]) rfl fun E0 hE0 => ?_
    (repeat' first | (refine Qo ?_; (first | (refine Qj ?_; refine QU rfl ?_) | (refine Qd ?_; refine Q5 rfl ?_) | (refine Ql ?_; (first | refine Qi rfl rfl (by first | assumption | exact Enc.len _ | rfl) ?_ | refine Qf rfl rfl rfl ?_)) | (refine Qh ?_; (first | refine W1 rfl rfl (by omega) ?_ | refine W3 rfl rfl ?_ | refine Wc rfl rfl ?_)) | (refine Qk ?_; (first | refine Wf 0 (Wm l hl _ _ _ (by omega) (by omega)) rfl rfl rfl rfl ?_ | refine Wf 0 (hE1) rfl rfl rfl rfl ?_)) | (refine QJ ?_; refine WZ rfl rfl ?_) | (refine Qx ?_; (first | refine Qe rfl rfl rfl (by first | assumption | exact Enc.len _ | rfl) (by first | assumption | exact Enc.len _ | rfl) rfl ?_ | refine Q8 rfl rfl rfl rfl (by rfl) (by rfl) (by rfl) ?_)) | (refine QK ?_; refine Q0 (z := v1) rfl rfl (by decide) ?_) | (refine Qb ?_; refine Qg rfl rfl ?_) | (refine QS ?_; refine QC rfl rfl ?_) | (refine Qy ?_; refine Qt rfl rfl ?_) | (refine QG ?_; refine QD (fun _ _ => ?_)))) | (refine Qv ?_; (first | refine Qu ?_ | refine QY rfl ?_ | refine Q1 ?_ | refine WX rfl rfl rfl rfl ?_ | refine We rfl rfl (by omega) ?_)) | (refine Qs ?_; (first | refine Qw ?_ | refine Qc ?_ | refine Qm ?_ | refine QR ?_ | refine Qr rfl (by omega) ?_ | refine Qn rfl (by omega) ?_ | refine QM ?_)))
    refine e_1 (Tryz.results79) (QA (size := 4) rfl rfl rfl rfl) ?_
    rw [Q3]
    exact qb (by first | rfl | (simp [Wi, WH]; try rfl)) rfl
  ·obtain ⟨hqv1, hE1⟩ := hE2x (a + 1) (L - 1) ⟨by omega, by omega, by omega, by omega⟩
   obtain ⟨fv1, dv1, sv1, wv1, mv1, uv1⟩ := hqv1
   generalize E2 (a + 1) (L - 1) = tv1 at *
   obtain ⟨v1, b1, M1⟩ := tv1
   dsimp only at *
   have spv1 := QZ v1
   clear hE2x hE1x hsm hrq
   refine ⟨(.mk 25 (0) (0) [], b1, M1), ?_, fun g B hg => ?_⟩
   ·refine ⟨WT ⟨5, 0, 0, 0, [], 0, 0, 0⟩ rfl (by decide) (by decide) (by dsimp only; omega) (by dsimp only; omega) (by first | (simp; done) | (simp; omega)) (kids0), ?_, ?_, ?_, ?_, ?_⟩
    ·rw [Wn]; (try simp only [Wo]); omega
    ·rw [QI]; (try simp only [QT]); omega
    ·dsimp only; omega
    ·dsimp only; omega
    ·dsimp only; omega
   ·refine Qa Tryz.func79 rfl Tryz.ntmps79 rfl (t := [(0, .ptr 0 g 0), (1, .i dd)]) rfl fun E0 hE0 => ?_
    (repeat' first | (refine Qo ?_; (first | (refine Qj ?_; refine QU rfl ?_) | (refine Qd ?_; refine Q5 rfl ?_) | (refine Ql ?_; refine Qf rfl rfl rfl ?_) | (refine Qh ?_; (first | refine W1 rfl rfl (by omega) ?_ | refine W3 rfl rfl ?_ | refine Wc rfl rfl ?_)) | (refine Qk ?_; (first | refine Wf 0 (Wm l hl _ _ _ (by omega) (by omega)) rfl rfl rfl rfl ?_ | refine Wf 0 (hE1) rfl rfl rfl rfl ?_)) | (refine QJ ?_; refine WZ rfl rfl ?_) | (refine Qx ?_; (first | refine Qe rfl rfl rfl (by first | assumption | exact Enc.len _ | rfl) (by first | assumption | exact Enc.len _ | rfl) rfl ?_ | refine Q8 rfl rfl rfl rfl (by rfl) (by rfl) (by rfl) ?_)) | (refine Qb ?_; refine Qg rfl rfl ?_) | (refine QS ?_; refine QC rfl rfl ?_) | (refine Qy ?_; refine Qt rfl rfl ?_) | (refine QG ?_; refine QD (fun _ _ => ?_)))) | (refine Qv ?_; (first | refine Qu ?_ | refine QY rfl ?_ | refine Q1 ?_ | refine WX rfl rfl rfl rfl ?_ | refine We rfl rfl (by omega) ?_)) | (refine Qs ?_; (first | refine Qw ?_ | refine Qc ?_ | refine Qm ?_ | refine QR ?_ | refine Qr rfl (by omega) ?_ | refine Qn rfl (by omega) ?_ | refine QM ?_)))
    exact e_1 (Tryz.results79) (QA (size := 4) rfl rfl rfl rfl) (W7 (es := 4) (.node rfl rfl rfl) (by show _ = DV.agg (Enc.enc (Nd.mk _ _ _ [])); rw [Q3]; rfl) rfl)
theorem chStmt (l : List Int) (hl : OkI l) : ∀ (e : Nat), e <= 8 -> ∃ S : GenF, ∀ a L, preS a L -> QE 5 (2 * e + 4) 5 (7 + e) (S a L).1 a L (S a L).2.1 (S a L).2.2 /\ CE Tryz.prog G 79 (fun p g => [.ptr p g 0, .i ((e : Int) - 1)]) (genC l a L) (.agg (Enc.enc (S a L).1)) (genC l (S a L).2.1 (S a L).2.2) := by
 obtain ⟨E2, hE2x⟩ := chExpr (G := G) l hl 2 (by decide)
 obtain ⟨E1, hE1x⟩ := chExpr (G := G) l hl 1 (by decide)
 intro e
 induction e with
 | zero =>
  intro _
  refine gen_skolem (pre := preS) (R := fun a L t => QE 5 (2 * 0 + 4) 5 (7 + (0 : Nat)) t.1 a L t.2.1 t.2.2 /\ CE Tryz.prog G 79 (fun p g => [.ptr p g 0, .i (((0 : Nat) : Int) - 1)]) (genC l a L) (.agg (Enc.enc t.1)) (genC l t.2.1 t.2.2)) fun a L h => ?_
  have bx := QX l a (most := 14) (by decide)
  exact chLeafS l hl E2 E1 hE2x hE1x (((0 : Nat) : Int) - 1) a L (atI l a 14 % 10) h (.inl ⟨by decide, rfl⟩) (by omega)
 | succ e ih =>
 intro he
 obtain ⟨S, hS⟩ := ih (by omega)
 refine gen_skolem (pre := preS) (R := fun a L t => QE 5 (2 * (e + 1) + 4) 5 (7 + (e + 1 : Nat)) t.1 a L t.2.1 t.2.2 /\ CE Tryz.prog G 79 (fun p g => [.ptr p g 0, .i (((e + 1 : Nat) : Int) - 1)]) (genC l a L) (.agg (Enc.enc t.1)) (genC l t.2.1 t.2.2)) fun a L h => ?_
 have bx := QX l a (most := 14) (by decide)
 have lift : (∃ t : Nd × Int × Int, QE 5 4 5 7 t.1 a L t.2.1 t.2.2 /\ CE Tryz.prog G 79 (fun p g => [.ptr p g 0, .i (((e + 1 : Nat) : Int) - 1)]) (genC l a L) (.agg (Enc.enc t.1)) (genC l t.2.1 t.2.2)) -> ∃ t : Nd × Int × Int, QE 5 (2 * (e + 1) + 4) 5 (7 + (e + 1 : Nat)) t.1 a L t.2.1 t.2.2 /\ CE Tryz.prog G 79 (fun p g => [.ptr p g 0, .i (((e + 1 : Nat) : Int) - 1)]) (genC l a L) (.agg (Enc.enc t.1)) (genC l t.2.1 t.2.2) := fun ⟨t, hq, hc⟩ => by
  have q1 := hq.low
  have q2 := hq.dep
  exact ⟨t, ⟨hq.fit, by omega, hq.size, by omega, hq.mono, hq.used⟩, hc⟩
 by_cases hd0 : ((e + 1 : Nat) : Int) - 1 <= 0
 ·exact lift (chLeafS l hl E2 E1 hE2x hE1x _ a L (atI l a 14 % 10) h (.inl ⟨hd0, rfl⟩) (by omega))
 by_cases hlf : L - 1 <= 0
 ·exact lift (chLeafS l hl E2 E1 hE2x hE1x _ a L (atI l a 14 % 10) h (.inr (.inl ⟨by omega, hlf, rfl⟩)) (by omega))
 by_cases hx9 : atI l a 14 <= 9
 ·exact lift (chLeafS l hl E2 E1 hE2x hE1x _ a L (atI l a 14) h (.inr (.inr ⟨by omega, by omega, rfl⟩)) (by omega))
 clear lift
 obtain ⟨Bk, hBk⟩ := chBlock (G := G) l hl e (by omega) S hS
 obtain ⟨p1, p2, p3, p4⟩ := h
 have hed : ((e + 1 : Nat) : Int) - 1 = (e : Nat) := by omega
 rw [hed] at hd0 ⊢
 have hxx : atI l a 14 = 10 \/ atI l a 14 = 11 \/ atI l a 14 = 12 \/ atI l a 14 = 13 := by omega
 generalize hdd : ((e : Nat) : Int) = dd at *
 rcases hxx with hx | hx | hx | hx
 ·obtain ⟨hqv1, hE1⟩ := hE2x (a + 1) (L - 1) ⟨by omega, by omega, by omega, by omega⟩
  obtain ⟨fv1, dv1, sv1, wv1, mv1, uv1⟩ := hqv1
  generalize E2 (a + 1) (L - 1) = tv1 at *
  obtain ⟨v1, b1, M1⟩ := tv1
  dsimp only at *
  have spv1 := QZ v1
  obtain ⟨hqw1, hB1⟩ := hBk (b1) (M1) ⟨by omega, by omega, by omega, by omega⟩
  obtain ⟨fw1, dw1, sw1, ww1, mw1, uw1⟩ := hqw1
  generalize Bk (b1) (M1) = tw1 at *
  obtain ⟨w1, c1, K1⟩ := tw1
  dsimp only at *
  have spw1 := QZ w1
  obtain ⟨hqw2, hB2⟩ := hBk (c1) (K1) ⟨by omega, by omega, by omega, by omega⟩
  obtain ⟨fw2, dw2, sw2, ww2, mw2, uw2⟩ := hqw2
  generalize Bk (c1) (K1) = tw2 at *
  obtain ⟨w2, c2, K2⟩ := tw2
  dsimp only at *
  have spw2 := QZ w2
  clear hE2x hE1x hS hBk ih
  refine ⟨(.mk 17 (0) (0) [v1, w1, w2], c2, K2), ?_, fun g B hg => ?_⟩
  ·refine ⟨WT ⟨5, 0, 0, 0, [4, 6, 6], 0, 0, 0⟩ rfl (by decide) (by decide) (by dsimp only; omega) (by dsimp only; omega) (by first | (simp; done) | (simp; omega)) (kids3 fv1 fw1 fw2), ?_, ?_, ?_, ?_, ?_⟩
   ·rw [Wn]; (try simp only [Wo]); omega
   ·rw [QI]; (try simp only [QT]); omega
   ·dsimp only; omega
   ·dsimp only; omega
   ·dsimp only; omega
  ·refine Qa Tryz.func79 rfl Tryz.ntmps79 rfl (t := [(0, .ptr 0 g 0), (1, .i dd)]) rfl fun E0 hE0 => ?_
   (repeat' first | (refine Qo ?_; (first | (refine Qj ?_; refine QU rfl ?_) | (refine Qd ?_; refine Q5 rfl ?_) | (refine Ql ?_; refine Qf rfl rfl rfl ?_) | (refine Qh ?_; (first | refine W1 rfl rfl (by omega) ?_ | refine W3 rfl rfl ?_ | refine Wc rfl rfl ?_)) | (refine Qk ?_; (first | refine Wf 0 (Wm l hl _ _ _ (by omega) (by omega)) rfl rfl rfl rfl ?_ | refine Wf 0 (hE1) rfl rfl rfl rfl ?_ | refine Wf 0 (hB1) rfl rfl rfl rfl ?_ | refine Wf 0 (hB2) rfl rfl rfl rfl ?_)) | (refine QJ ?_; refine WZ rfl rfl ?_) | (refine Qx ?_; (first | refine Qe rfl rfl rfl (by first | assumption | exact Enc.len _ | rfl) (by first | assumption | exact Enc.len _ | rfl) rfl ?_ | refine Q8 rfl rfl rfl rfl (by rfl) (by rfl) (by rfl) ?_)) | (refine Qb ?_; refine Qg rfl rfl ?_) | (refine Qy ?_; refine Qt rfl rfl ?_) | (refine QG ?_; refine QD (fun _ _ => ?_)))) | (refine Qv ?_; (first | refine Qu ?_ | refine QY rfl ?_ | refine Q1 ?_ | refine WX rfl rfl rfl rfl ?_ | refine We rfl rfl (by omega) ?_)) | (refine Qs ?_; (first | refine Qw ?_ | refine Qc ?_ | refine Qm ?_ | (refine WJ ?_; first | (rename_i g4 hg4 ge hge; refine Qq (fun p => p :: .row g4 [.i 0, .i 0, .i 0, .nil] :: .row ge (Enc.enc v1) :: []) 6 [(0, true), (1, true), (2, true), (3, false), (4, true), (5, true), (6, false)] (by rfl) (by rfl) (by kernel_rfl) (by decide +kernel) (by decide +kernel) ⟨_, rfl⟩ ?_) | (rename_i g4 hg4 ge hge; refine Qq (fun p => p :: .row g4 [.i 0, .i 0, .i 0, .nil] :: .row ge (Enc.enc v1) :: []) 9 [(0, true), (1, true), (2, true), (4, true), (5, true), (3, false), (6, false), (7, true), (8, true), (9, false)] (by rfl) (by rfl) (by kernel_rfl) (by decide +kernel) (by decide +kernel) ⟨_, rfl⟩ ?_) | (rename_i g4 hg4 ge hge; refine Qq (fun p => p :: .row g4 [.i 0, .i 0, .i 0, .nil] :: .row ge (Enc.enc v1) :: []) 7 [(0, true), (2, true), (4, true), (5, true), (1, false), (3, false), (6, true), (7, false)] (by rfl) (by rfl) (by kernel_rfl) (by decide +kernel) (by decide +kernel) ⟨_, rfl⟩ ?_) | (rename_i g4 hg4 ge hge; refine Qq (fun p => p :: .row g4 [.i 0, .i 0, .i 0, .nil] :: .row ge (Enc.enc v1) :: []) 7 [(0, true), (2, true), (3, true), (1, false), (4, false), (5, true), (6, true), (7, false)] (by rfl) (by rfl) (by kernel_rfl) (by decide +kernel) (by decide +kernel) ⟨_, rfl⟩ ?_) | (rename_i g4 hg4 ge hge; refine Qq (fun p => p :: .row g4 [.i 0, .i 0, .i 0, .nil] :: .row ge (Enc.enc v1) :: []) 5 [(0, true), (2, true), (3, true), (1, false), (4, true), (5, false)] (by rfl) (by rfl) (by kernel_rfl) (by decide +kernel) (by decide +kernel) ⟨_, rfl⟩ ?_) | (refine Qq (fun p => p) 100 [(0, true)] (by rfl) (by rfl) (by kernel_rfl) (by decide +kernel) (by decide +kernel) ⟨_, rfl⟩ ?_) | (refine Qq (fun p => p.1 :: .row g4 [.i 0, .i 0, .i 0, .nil] :: .row g5 [.i 13, .i 0, .i 0, .ref 3 gg 0 o.length 4] :: p.2) 9 [(0, true), (1, true), (2, true), (3, true), (4, true), (5, false), (6, true), (7, false), (8, true), (9, false)] (by rfl) (by rfl) (by kernel_rfl) (by decide +kernel) (by decide +kernel) ⟨(_, _), rfl⟩ ?_) | refine Ws (by rfl) (by kernel_rfl) (by kernel_rfl) ?_ | refine Wr (by kernel_rfl) (by kernel_rfl) ?_) | refine QR ?_ | refine Qr rfl (by omega) ?_ | refine Qn rfl (by omega) ?_ | refine QM ?_)) | (refine W8 ?_; (first | refine ZH ?_ | refine i_z0 ?_ | refine i_st rfl rfl (fun _ => (by (repeat' first | (refine Qo ?_; (first | (refine Qj ?_; refine QU rfl ?_) | (refine Ql ?_; refine Qi rfl rfl (by first | assumption | exact Enc.len _ | rfl) ?_) | (refine QK ?_; refine s_bslice_three (x := v1) (y := w1) (z := w2) rfl rfl (by decide) ?_) | (refine QS ?_; refine QC rfl rfl ?_))) | exact ⟨rfl, rfl⟩))) ?_ | refine i_ef rfl ?_)) | refine And.intro (Exists.intro (_) rfl) ?_)
   refine e_1 (Tryz.results79) (QA (size := 4) rfl rfl rfl rfl) ?_
   rw [Q3]
   exact qb (by first | rfl | (simp [Wi, WH]; try rfl)) rfl
 ·obtain ⟨hqv1, hE1⟩ := hE2x (a + 1) (L - 1) ⟨by omega, by omega, by omega, by omega⟩
  obtain ⟨fv1, dv1, sv1, wv1, mv1, uv1⟩ := hqv1
  generalize E2 (a + 1) (L - 1) = tv1 at *
  obtain ⟨v1, b1, M1⟩ := tv1
  dsimp only at *
  have spv1 := QZ v1
  obtain ⟨hqw1, hB1⟩ := hBk (b1) (M1) ⟨by omega, by omega, by omega, by omega⟩
  obtain ⟨fw1, dw1, sw1, ww1, mw1, uw1⟩ := hqw1
  generalize Bk (b1) (M1) = tw1 at *
  obtain ⟨w1, c1, K1⟩ := tw1
  dsimp only at *
  have spw1 := QZ w1
  clear hE2x hE1x hS hBk ih
  refine ⟨(.mk 18 (0) (0) [v1, w1], c1, K1), ?_, fun g B hg => ?_⟩
  ·refine ⟨WT ⟨5, 0, 0, 0, [4, 6], 0, 0, 0⟩ rfl (by decide) (by decide) (by dsimp only; omega) (by dsimp only; omega) (by first | (simp; done) | (simp; omega)) (kids2 fv1 fw1), ?_, ?_, ?_, ?_, ?_⟩
   ·rw [Wn]; (try simp only [Wo]); omega
   ·rw [QI]; (try simp only [QT]); omega
   ·dsimp only; omega
   ·dsimp only; omega
   ·dsimp only; omega
  ·refine Qa Tryz.func79 rfl Tryz.ntmps79 rfl (t := [(0, .ptr 0 g 0), (1, .i dd)]) rfl fun E0 hE0 => ?_
   (repeat' first | (refine Qo ?_; (first | (refine Qj ?_; refine QU rfl ?_) | (refine Qd ?_; refine Q5 rfl ?_) | (refine Ql ?_; refine Qf rfl rfl rfl ?_) | (refine Qh ?_; (first | refine W1 rfl rfl (by omega) ?_ | refine W3 rfl rfl ?_ | refine Wc rfl rfl ?_)) | (refine Qk ?_; (first | refine Wf 0 (Wm l hl _ _ _ (by omega) (by omega)) rfl rfl rfl rfl ?_ | refine Wf 0 (hE1) rfl rfl rfl rfl ?_ | refine Wf 0 (hB1) rfl rfl rfl rfl ?_)) | (refine QJ ?_; refine WZ rfl rfl ?_) | (refine Qx ?_; (first | refine Qe rfl rfl rfl (by first | assumption | exact Enc.len _ | rfl) (by first | assumption | exact Enc.len _ | rfl) rfl ?_ | refine Q8 rfl rfl rfl rfl (by rfl) (by rfl) (by rfl) ?_)) | (refine Qb ?_; refine Qg rfl rfl ?_) | (refine Qy ?_; refine Qt rfl rfl ?_) | (refine QG ?_; refine QD (fun _ _ => ?_)))) | (refine Qv ?_; (first | refine Qu ?_ | refine QY rfl ?_ | refine Q1 ?_ | refine WX rfl rfl rfl rfl ?_ | refine We rfl rfl (by omega) ?_)) | (refine Qs ?_; (first | refine Qw ?_ | refine Qc ?_ | refine Qm ?_ | (refine WJ ?_; first | (rename_i g4 hg4 ge hge; refine Qq (fun p => p :: .row g4 [.i 0, .i 0, .i 0, .nil] :: .row ge (Enc.enc v1) :: []) 6 [(0, true), (1, true), (2, true), (3, false), (4, true), (5, true), (6, false)] (by rfl) (by rfl) (by kernel_rfl) (by decide +kernel) (by decide +kernel) ⟨_, rfl⟩ ?_) | (rename_i g4 hg4 ge hge; refine Qq (fun p => p :: .row g4 [.i 0, .i 0, .i 0, .nil] :: .row ge (Enc.enc v1) :: []) 9 [(0, true), (1, true), (2, true), (4, true), (5, true), (3, false), (6, false), (7, true), (8, true), (9, false)] (by rfl) (by rfl) (by kernel_rfl) (by decide +kernel) (by decide +kernel) ⟨_, rfl⟩ ?_) | (rename_i g4 hg4 ge hge; refine Qq (fun p => p :: .row g4 [.i 0, .i 0, .i 0, .nil] :: .row ge (Enc.enc v1) :: []) 7 [(0, true), (2, true), (4, true), (5, true), (1, false), (3, false), (6, true), (7, false)] (by rfl) (by rfl) (by kernel_rfl) (by decide +kernel) (by decide +kernel) ⟨_, rfl⟩ ?_) | (rename_i g4 hg4 ge hge; refine Qq (fun p => p :: .row g4 [.i 0, .i 0, .i 0, .nil] :: .row ge (Enc.enc v1) :: []) 7 [(0, true), (2, true), (3, true), (1, false), (4, false), (5, true), (6, true), (7, false)] (by rfl) (by rfl) (by kernel_rfl) (by decide +kernel) (by decide +kernel) ⟨_, rfl⟩ ?_) | (rename_i g4 hg4 ge hge; refine Qq (fun p => p :: .row g4 [.i 0, .i 0, .i 0, .nil] :: .row ge (Enc.enc v1) :: []) 5 [(0, true), (2, true), (3, true), (1, false), (4, true), (5, false)] (by rfl) (by rfl) (by kernel_rfl) (by decide +kernel) (by decide +kernel) ⟨_, rfl⟩ ?_) | (refine Qq (fun p => p) 100 [(0, true)] (by rfl) (by rfl) (by kernel_rfl) (by decide +kernel) (by decide +kernel) ⟨_, rfl⟩ ?_) | (refine Qq (fun p => p.1 :: .row g4 [.i 0, .i 0, .i 0, .nil] :: .row g5 [.i 13, .i 0, .i 0, .ref 3 gg 0 o.length 4] :: p.2) 9 [(0, true), (1, true), (2, true), (3, true), (4, true), (5, false), (6, true), (7, false), (8, true), (9, false)] (by rfl) (by rfl) (by kernel_rfl) (by decide +kernel) (by decide +kernel) ⟨(_, _), rfl⟩ ?_) | refine Ws (by rfl) (by kernel_rfl) (by kernel_rfl) ?_ | refine Wr (by kernel_rfl) (by kernel_rfl) ?_) | refine QR ?_ | refine Qr rfl (by omega) ?_ | refine Qn rfl (by omega) ?_ | refine QM ?_)) | (refine W8 ?_; (first | refine ZH ?_ | refine i_z0 ?_ | refine i_st rfl rfl (fun _ => (by (repeat' first | (refine Qo ?_; (first | (refine Qj ?_; refine QU rfl ?_) | (refine Ql ?_; refine Qi rfl rfl (by first | assumption | exact Enc.len _ | rfl) ?_) | (refine QK ?_; refine ZJ (y := v1) (z := w1) rfl rfl (by decide) ?_) | (refine QS ?_; refine QC rfl rfl ?_))) | exact ⟨rfl, rfl⟩))) ?_ | refine i_ef rfl ?_)) | refine And.intro (Exists.intro (_) rfl) ?_)
   refine e_1 (Tryz.results79) (QA (size := 4) rfl rfl rfl rfl) ?_
   rw [Q3]
   exact qb (by first | rfl | (simp [Wi, WH]; try rfl)) rfl
 ·obtain ⟨hqv1, hE1⟩ := hE2x (a + 1) (L - 1) ⟨by omega, by omega, by omega, by omega⟩
  obtain ⟨fv1, dv1, sv1, wv1, mv1, uv1⟩ := hqv1
  generalize E2 (a + 1) (L - 1) = tv1 at *
  obtain ⟨v1, b1, M1⟩ := tv1
  dsimp only at *
  have spv1 := QZ v1
  have n6 := QX l (b1) (most := 6) (by decide)
  obtain ⟨hqw1, hB1⟩ := hBk (b1 + 1) (M1) ⟨by omega, by omega, by omega, by omega⟩
  obtain ⟨fw1, dw1, sw1, ww1, mw1, uw1⟩ := hqw1
  generalize Bk (b1 + 1) (M1) = tw1 at *
  obtain ⟨w1, c1, K1⟩ := tw1
  dsimp only at *
  have spw1 := QZ w1
  obtain ⟨hqw2, hB2⟩ := hBk (c1) (K1) ⟨by omega, by omega, by omega, by omega⟩
  obtain ⟨fw2, dw2, sw2, ww2, mw2, uw2⟩ := hqw2
  generalize Bk (c1) (K1) = tw2 at *
  obtain ⟨w2, c2, K2⟩ := tw2
  dsimp only at *
  have spw2 := QZ w2
  clear hE2x hE1x hS hBk ih
  refine ⟨(.mk 21 (atI l b1 6) (0) [w1, w2], c2, K2), ?_, fun g B hg => ?_⟩
  ·refine ⟨WT ⟨5, 0, 5, 0, [6, 6], 0, 0, 0⟩ rfl (by decide) (by decide) (by dsimp only; omega) (by dsimp only; omega) (by first | (simp; done) | (simp; omega)) (kids2 fw1 fw2), ?_, ?_, ?_, ?_, ?_⟩
   ·rw [Wn]; (try simp only [Wo]); omega
   ·rw [QI]; (try simp only [QT]); omega
   ·dsimp only; omega
   ·dsimp only; omega
   ·dsimp only; omega
  ·refine Qa Tryz.func79 rfl Tryz.ntmps79 rfl (t := [(0, .ptr 0 g 0), (1, .i dd)]) rfl fun E0 hE0 => ?_
   (repeat' first | (refine Qo ?_; (first | (refine Qj ?_; refine QU rfl ?_) | (refine Qd ?_; refine Q5 rfl ?_) | (refine Ql ?_; refine Qf rfl rfl rfl ?_) | (refine Qh ?_; (first | refine W1 rfl rfl (by omega) ?_ | refine W3 rfl rfl ?_ | refine Wc rfl rfl ?_)) | (refine Qk ?_; (first | refine Wf 0 (Wm l hl _ _ _ (by omega) (by omega)) rfl rfl rfl rfl ?_ | refine Wf 0 (hE1) rfl rfl rfl rfl ?_ | refine Wf 0 (hB1) rfl rfl rfl rfl ?_ | refine Wf 0 (hB2) rfl rfl rfl rfl ?_)) | (refine QJ ?_; refine WZ rfl rfl ?_) | (refine Qx ?_; (first | refine Qe rfl rfl rfl (by first | assumption | exact Enc.len _ | rfl) (by first | assumption | exact Enc.len _ | rfl) rfl ?_ | refine Q8 rfl rfl rfl rfl (by rfl) (by rfl) (by rfl) ?_)) | (refine QK ?_; refine ZJ (y := w1) (z := w2) rfl rfl (by decide) ?_) | (refine Qb ?_; refine Qg rfl rfl ?_) | (refine QS ?_; refine QC rfl rfl ?_) | (refine Qy ?_; refine Qt rfl rfl ?_) | (refine QG ?_; refine QD (fun _ _ => ?_)))) | (refine Qv ?_; (first | refine Qu ?_ | refine QY rfl ?_ | refine Q1 ?_ | refine WX rfl rfl rfl rfl ?_ | refine We rfl rfl (by omega) ?_)) | (refine Qs ?_; (first | refine Qw ?_ | refine Qc ?_ | refine Qm ?_ | refine QR ?_ | refine Qr rfl (by omega) ?_ | refine Qn rfl (by omega) ?_ | refine QM ?_)))
   refine e_1 (Tryz.results79) (QA (size := 4) rfl rfl rfl rfl) ?_
   rw [Q3]
   exact qb (by first | rfl | (simp [Wi, WH]; try rfl)) rfl
 ·obtain ⟨hqv1, hE1⟩ := hE2x (a + 1) (L - 1) ⟨by omega, by omega, by omega, by omega⟩
  obtain ⟨fv1, dv1, sv1, wv1, mv1, uv1⟩ := hqv1
  generalize E2 (a + 1) (L - 1) = tv1 at *
  obtain ⟨v1, b1, M1⟩ := tv1
  dsimp only at *
  have spv1 := QZ v1
  obtain ⟨hqw1, hB1⟩ := hBk (b1) (M1) ⟨by omega, by omega, by omega, by omega⟩
  obtain ⟨fw1, dw1, sw1, ww1, mw1, uw1⟩ := hqw1
  generalize Bk (b1) (M1) = tw1 at *
  obtain ⟨w1, c1, K1⟩ := tw1
  dsimp only at *
  have spw1 := QZ w1
  clear hE2x hE1x hS hBk ih
  refine ⟨(w1, c1, K1), ⟨fit_block fw1, by dsimp only; omega, by dsimp only; omega, by dsimp only; omega, by dsimp only; omega, by dsimp only; omega⟩, fun g B hg => ?_⟩
  refine Qa Tryz.func79 rfl Tryz.ntmps79 rfl (t := [(0, .ptr 0 g 0), (1, .i dd)]) rfl fun E0 hE0 => ?_
  (repeat' first | (refine Qo ?_; (first | (refine Qj ?_; refine QU rfl ?_) | (refine Qd ?_; refine Q5 rfl ?_) | (refine Ql ?_; refine Qf rfl rfl rfl ?_) | (refine Qh ?_; (first | refine W1 rfl rfl (by omega) ?_ | refine W3 rfl rfl ?_ | refine Wc rfl rfl ?_)) | (refine Qk ?_; (first | refine Wf 0 (Wm l hl _ _ _ (by omega) (by omega)) rfl rfl rfl rfl ?_ | refine Wf 0 (hE1) rfl rfl rfl rfl ?_ | refine Wf 0 (hB1) rfl rfl rfl rfl ?_)) | (refine QJ ?_; refine WZ rfl rfl ?_) | (refine Qx ?_; (first | refine Qe rfl rfl rfl (by first | assumption | exact Enc.len _ | rfl) (by first | assumption | exact Enc.len _ | rfl) rfl ?_ | refine Q8 rfl rfl rfl rfl (by rfl) (by rfl) (by rfl) ?_)) | (refine Qb ?_; refine Qg rfl rfl ?_) | (refine Qy ?_; refine Qt rfl rfl ?_) | (refine QG ?_; refine QD (fun _ _ => ?_)))) | (refine Qv ?_; (first | refine Qu ?_ | refine QY rfl ?_ | refine Q1 ?_ | refine WX rfl rfl rfl rfl ?_ | refine We rfl rfl (by omega) ?_)) | (refine Qs ?_; (first | refine Qw ?_ | refine Qc ?_ | refine Qm ?_ | refine QR ?_ | refine Qn rfl (by omega) ?_ | refine QM ?_)))
  exact e_1 (Tryz.results79) (QA (size := 4) rfl rfl (partD_nd0 _) (Enc.len _)) (qb rfl rfl)
end Go.Proofs
end
section
namespace Go.Av
open Go.Bl
section
variable {P : Program} {G : Nat -> DV} {B : Nat} {f : Operand -> DV} {σ : List ABlk} {K : DV -> List ABlk -> Prop} {dst : Option Tmp} {type : TypeId} {pos : String} {after : Array Edge} {gd : Option (Nat × Bool)}
theorem OpSem.dsub {o : Oper} {K1 : DV -> List ABlk -> Prop} (h : OpSem P G B o f σ K1) (k : ∀ d σ', K1 d σ' -> ∃ d2, DSub d d2 /\ K d2 σ') : OpSem P G B o f σ K := fun X ρ hS hσ hB hG hf => by
 have hh := h X ρ hS hσ hB hG hf
 have ap : ∀ v w', APost X K1 v w' -> APost X K v w' := by
  rintro v w' ⟨Y, h1, h2, h3, d, h4, h5⟩
  obtain ⟨d2, hd, hk⟩ := k d Y.σ h5
  exact ⟨Y, h1, h2, h3, d2, hd.rep h4, hk⟩
 generalize (execOp ρ o).run P X.w = r at *
 match r, hh with
 | .ok (.value v) w', hh => exact ap v w' hh
 | .ok .skip w', hh => exact ap undef w' hh
 | .ok (.enter f args) w', hh => exact ⟨hh.1, hh.2.mono fun e w2 ⟨v, he, hv⟩ => ⟨v, he, ap v w2 hv⟩⟩
theorem s_build_nd {t : TypeId} {pl : List (Nat × Nat)} {zs : List Value} {ps : List (Nat × Operand)} {m : List (Nat × DV)} {k n mm : Int} [ht : TyS P t pl] [hz : TyZ P t zs] (hp : partsD f ps = some m) (hc : fillD (pl[·]?) (zs.map .sc) m = some [.i k, .i n, .i mm, .sc (.slice none 0 0)]) (kk : K (.agg (Enc.enc (Nd.mk k n mm []))) σ) :
  OpSem P G B ⟨dst, .build t ps.toArray, type, pos, after, gd⟩ f σ K := by
 refine (QC (K := fun d σ' => d = .agg [.i k, .i n, .i mm, .sc (.slice none 0 0)] /\ σ' = σ) hp hc ⟨rfl, rfl⟩).dsub ?_
 rintro d σ' ⟨rfl, rfl⟩
 refine ⟨_, ?_, kk⟩
 rw [Q3]
 exact .agg _ _ rfl (dsub_cons (.refl _) (dsub_cons (.refl _) (dsub_cons (.refl _) (dsub_cons (.nil 4) dsub_nil))))
end
end Go.Av
end
section
namespace Go.Proofs
open Go.Av
variable {G : Nat -> DV}
attribute [local irreducible] OpSem ZA ZV Z8 ACalls AEnd AClose RV
open Go.Bl
def kindV (l : List Int) (a : Int) : Nd × Int :=
 if atI l a 4 = 0 then (.mk 1 0 0 [], a + 1) else if atI l a 4 = 1 then (.mk 2 (1 + atI l (a + 1) 4) 0 [], a + 1 + 1)
 else if atI l a 4 = 2 then (.mk 3 0 0 [.mk (atI l (a + 1) 2) 0 0 [], .mk (atI l (a + 1 + 1) 2) 0 0 []], a + 1 + 1 + 1) else (.mk 0 0 0 [], a + 1)
theorem fit_plain {k : Int} (h : k = 0 \/ k = 1) {w : Int} (hw : w = 2 \/ w = 3) : WF (.mk k 0 0 []) w = true := by
 rcases h with rfl | rfl <;> rcases hw with rfl | rfl <;> decide
theorem kind_ok (l : List Int) (a : Int) : WF (kindV l a).1 2 = true /\ Wn (kindV l a).1 <= 2 /\ QI (kindV l a).1 <= 3 /\ a + 1 <= (kindV l a).2 /\ (kindV l a).2 <= a + 3 := by
 have b4 := QX l (a + 1) (most := 4) (by decide)
 have bA := QX l (a + 1) (most := 2) (by decide)
 have bB := QX l (a + 1 + 1) (most := 2) (by decide)
 unfold kindV
 repeat' split
 ·refine ⟨fit_plain (.inr rfl) (.inl rfl), ?_, ?_, ?_, ?_⟩
  ·simp [Wn, Wo]
  ·simp [QI, QT]
  ·dsimp only; omega
  ·dsimp only; omega
 ·refine ⟨WT ⟨2, 1, 4, 0, [], 0, 0, 0⟩ rfl (by decide) (by decide) (by dsimp only; omega) (by decide) (by simp) kids0, ?_, ?_, ?_, ?_⟩
  ·simp [Wn, Wo]
  ·simp [QI, QT]
  ·dsimp only; omega
  ·dsimp only; omega
 ·refine ⟨WT ⟨2, 0, 0, 0, [], 3, 1, 3⟩ rfl (by decide) (by decide) (by decide) (by decide) (by simp) (kidsA rfl ?_), ?_, ?_, ?_, ?_⟩
  ·intro x hx
   simp only [List.mem_cons, List.not_mem_nil, or_false] at hx
   rcases hx with rfl | rfl
   ·exact fit_plain (by omega) (.inr rfl)
   ·exact fit_plain (by omega) (.inr rfl)
  ·simp [Wn, Wo]
  ·simp [QI, QT]
  ·dsimp only; omega
  ·dsimp only; omega
 ·refine ⟨fit_plain (.inl rfl) (.inl rfl), ?_, ?_, ?_, ?_⟩
  ·simp [Wn, Wo]
  ·simp [QI, QT]
  ·dsimp only; omega
  ·dsimp only; omega
theorem kind_c (l : List Int) (hl : OkI l) (a L : Int) (ha : 0 <= a /\ a <= 1000000000) : CE Tryz.prog G 36 (fun p g => [.ptr p g 0]) (genC l a L) (.agg (Enc.enc (kindV l a).1)) (genC l (kindV l a).2 L) := fun g B hg => by
 have bx := QX l a (most := 4) (by decide)
 have b4 := QX l (a + 1) (most := 4) (by decide)
 unfold kindV
 have hx : atI l a 4 = 0 \/ atI l a 4 = 1 \/ atI l a 4 = 2 \/ atI l a 4 = 3 := by omega
 rcases hx with hx | hx | hx | hx
 ·rw [if_pos hx]
  refine Qa Tryz.func36 rfl Tryz.ntmps36 rfl (t := [(0, .ptr 0 g 0)]) rfl fun E0 hE0 => ?_
  (repeat' first | (refine Qo ?_; (first | (refine Qj ?_; refine QU rfl ?_) | (refine Qd ?_; refine Q5 rfl ?_) | (refine Qh ?_; refine Wc rfl rfl ?_) | (refine Qk ?_; refine Wf 0 (Wm l hl _ _ _ (by omega) (by omega)) rfl rfl rfl rfl ?_) | (refine Qx ?_; refine Qe rfl rfl rfl (by first | assumption | exact Enc.len _ | rfl) (by first | assumption | exact Enc.len _ | rfl) rfl ?_) | (refine QS ?_; refine QC rfl rfl ?_) | (refine QG ?_; refine QD (fun _ _ => ?_)))) | (refine Qv ?_; (first | refine Qu ?_ | refine QY rfl ?_ | refine Q1 ?_)) | (refine Qs ?_; (first | refine Qw ?_ | refine Qc ?_ | refine Qm ?_ | refine Qr rfl (by omega) ?_ | refine QM ?_)))
  exact e_1 (Tryz.results36) (QA (size := 4) rfl rfl rfl rfl) (W7 (es := 4) (.node rfl rfl rfl) (by show _ = DV.agg (Enc.enc (Nd.mk _ _ _ [])); rw [Q3]; rfl) rfl)
 ·rw [if_neg (by omega), if_pos hx]
  refine Qa Tryz.func36 rfl Tryz.ntmps36 rfl (t := [(0, .ptr 0 g 0)]) rfl fun E0 hE0 => ?_
  (repeat' first | (refine Qo ?_; (first | (refine Qj ?_; refine QU rfl ?_) | (refine Qd ?_; refine Q5 rfl ?_) | (refine Qh ?_; (first | refine Wc rfl rfl ?_ | refine Zr rfl rfl (by omega) ?_)) | (refine Qk ?_; refine Wf 0 (Wm l hl _ _ _ (by omega) (by omega)) rfl rfl rfl rfl ?_) | (refine Qx ?_; refine Qe rfl rfl rfl (by first | assumption | exact Enc.len _ | rfl) (by first | assumption | exact Enc.len _ | rfl) rfl ?_) | (refine QS ?_; refine QC rfl rfl ?_) | (refine QG ?_; refine QD (fun _ _ => ?_)))) | (refine Qv ?_; (first | refine Qu ?_ | refine QY rfl ?_ | refine Q1 ?_)) | (refine Qs ?_; (first | refine Qw ?_ | refine Qc ?_ | refine Qm ?_ | refine Qr rfl (by omega) ?_ | refine Qn rfl (by omega) ?_ | refine QM ?_)))
  exact e_1 (Tryz.results36) (QA (size := 4) rfl rfl rfl rfl) (W7 (es := 4) (.node rfl rfl rfl) (by show _ = DV.agg (Enc.enc (Nd.mk _ _ _ [])); rw [Q3]; rfl) rfl)
 ·rw [if_neg (by omega), if_neg (by omega), if_pos hx]
  have hnumA := Wm (G := G) l hl (a + 1) L 2 (by omega) (by decide)
  have hnumB := Wm (G := G) l hl (a + 1 + 1) L 2 (by omega) (by decide)
  generalize atI l (a + 1) 2 = tyA at *
  generalize atI l (a + 1 + 1) 2 = tyB at *
  refine Qa Tryz.func36 rfl Tryz.ntmps36 rfl (t := [(0, .ptr 0 g 0)]) rfl fun E0 hE0 => ?_
  (repeat' first | (refine Qo ?_; (first | (refine Qj ?_; refine QU rfl ?_) | (refine Qd ?_; refine Q5 rfl ?_) | (refine Qh ?_; refine Wc rfl rfl ?_) | (refine Qk ?_; (first | refine Wf 0 (hnumA) rfl rfl rfl rfl ?_ | refine Wf 0 (hnumB) rfl rfl rfl rfl ?_ | refine Wf 0 (Wm l hl _ _ _ (by omega) (by omega)) rfl rfl rfl rfl ?_)) | (refine Qx ?_; refine Qe rfl rfl rfl (by first | assumption | exact Enc.len _ | rfl) (by first | assumption | exact Enc.len _ | rfl) rfl ?_) | (refine QS ?_; (first | refine s_build_nd (k := tyA) (n := 0) (mm := 0) rfl rfl ?_ | refine s_build_nd (k := tyB) (n := 0) (mm := 0) rfl rfl ?_ | refine QC rfl rfl ?_)) | (refine QK ?_; refine ZJ (y := Nd.mk tyA 0 0 []) (z := Nd.mk tyB 0 0 []) rfl rfl (by decide) ?_) | (refine QG ?_; refine QD (fun _ _ => ?_)))) | (refine Qv ?_; (first | refine Qu ?_ | refine QY rfl ?_ | refine Q1 ?_)) | (refine Qs ?_; (first | refine Qw ?_ | refine Qc ?_ | refine Qm ?_ | refine Qr rfl (by omega) ?_ | refine Qn rfl (by omega) ?_ | refine QM ?_)))
  refine e_1 (Tryz.results36) (QA (size := 4) rfl rfl rfl rfl) ?_
  rw [Q3]
  exact qb (by first | rfl | (simp [Wi, WH]; try rfl)) rfl
 ·rw [if_neg (by omega), if_neg (by omega), if_neg (by omega)]
  refine Qa Tryz.func36 rfl Tryz.ntmps36 rfl (t := [(0, .ptr 0 g 0)]) rfl fun E0 hE0 => ?_
  (repeat' first | (refine Qo ?_; (first | (refine Qj ?_; refine QU rfl ?_) | (refine Qd ?_; refine Q5 rfl ?_) | (refine Qh ?_; refine Wc rfl rfl ?_) | (refine Qk ?_; refine Wf 0 (Wm l hl _ _ _ (by omega) (by omega)) rfl rfl rfl rfl ?_) | (refine Qx ?_; refine Qe rfl rfl rfl (by first | assumption | exact Enc.len _ | rfl) (by first | assumption | exact Enc.len _ | rfl) rfl ?_) | (refine QS ?_; refine QC rfl rfl ?_) | (refine QG ?_; refine QD (fun _ _ => ?_)))) | (refine Qv ?_; (first | refine Qu ?_ | refine QY rfl ?_ | refine Q1 ?_)) | (refine Qs ?_; (first | refine Qw ?_ | refine Qc ?_ | refine Qm ?_ | refine QR ?_ | refine Qn rfl (by omega) ?_ | refine QM ?_)))
  exact e_1 (Tryz.results36) (QA (size := 4) rfl rfl rfl rfl) (W7 (es := 4) (.node rfl rfl rfl) (by show _ = DV.agg (Enc.enc (Nd.mk _ _ _ [])); rw [Q3]; rfl) rfl)
end Go.Proofs
end
section
namespace Go.Proofs
open Go.Av Go.Bl
def tys0 (l : List Int) (a : Int) (k : Nat) : List Nd := (List.range k).map fun j => .mk (atI l (a + (j : Nat)) 2) 0 0 []
theorem tys0_succ (l : List Int) (a : Int) (k : Nat) : tys0 l a (k + 1) = tys0 l a k ++ [.mk (atI l (a + (k : Nat)) 2) 0 0 []] := by
 unfold tys0; rw [List.range_succ, List.map_append]; rfl
theorem tys0_len (l : List Int) (a : Int) (k : Nat) : (tys0 l a k).length = k := by unfold tys0; simp
theorem tys0_mem {l : List Int} {a : Int} {k : Nat} {x : Nd} (h : x ∈ tys0 l a k) : ∃ t, (t = 0 \/ t = 1) /\ x = .mk t 0 0 [] := by
 unfold tys0 at h
 obtain ⟨j, _, rfl⟩ := List.mem_map.1 h
 have := QX l (a + (j : Nat)) (most := 2) (by decide)
 exact ⟨_, by omega, rfl⟩
def kindG (l : List Int) : GenF := fun a L => ((kindV l a).1, (kindV l a).2, L)
theorem kinds_ok (l : List Int) : ∀ (n : Nat) (a L : Int), (∀ x ∈ (runM (kindG l) n a L).1, WF x 2 = true /\ Wn x <= 2) /\ QT (runM (kindG l) n a L).1 <= 3 * n /\ a <= (runM (kindG l) n a L).2.1 /\ (runM (kindG l) n a L).2.1 <= a + 3 * n /\ (runM (kindG l) n a L).2.2 = L
 | 0, a, L => by
  rw [runM]
  exact ⟨fun x hx => (by cases hx), by simp [QT], by simp, by simp, rfl⟩
 | n + 1, a, L => by
  rw [runM]
  obtain ⟨k1, k2, k3, k4, k5⟩ := kind_ok l a
  have ih := kinds_ok l n (kindG l a L).2.1 (kindG l a L).2.2
  obtain ⟨i1, i2, i3, i4, i5⟩ := ih
  have e : (kindG l a L).2.1 = (kindV l a).2 := rfl
  refine ⟨fun x hx => ?_, ?_, ?_, ?_, ?_⟩
  ·rcases List.mem_cons.1 hx with rfl | hx
   ·exact ⟨k1, k2⟩
   ·exact i1 x hx
  ·rw [QT]
   have : QI (kindG l a L).1 <= 3 := k3
   omega
  ·(try dsimp only); omega
  ·(try dsimp only); omega
  ·exact i5
def funT0 (l : List Int) (a : Int) : List Nd × Int × Int := runM (kindG l) (atI l (a + 1 + (atI l a 4).toNat) 3).toNat (a + 1 + (atI l a 4).toNat + 1) 40
def funG (l : List Int) (Bk : GenF) : GenF := fun a _ =>
 (.mk 26 (atI l a 4) 0 (tys0 l (a + 1) (atI l a 4).toNat ++ (funT0 l a).1 ++ [(Bk (funT0 l a).2.1 40).1]), (Bk (funT0 l a).2.1 40).2.1, (Bk (funT0 l a).2.1 40).2.2)
theorem fit_fun {n m : Int} {tl : List Nd} {b : Nd} (hn : 0 <= n /\ n <= 3) (hm : m = 0) (hl : n <= (tl.length : Int) /\ tl.length <= 6) (hb : WF b 6 = true) (ht : ∀ i (h : i < tl.length), WF tl[i] (if (i : Int) < n then 3 else 2) = true) : WF (.mk 26 n m (tl ++ [b])) 1 = true := by
 subst hm
 rw [WF, if_pos (by decide), if_pos rfl, fitsF_eq]
 have h0 : isB (shapesL.getD (26 : Int).toNat noSh) 1 = true := by decide
 have h1 : rngB (shapesL.getD (26 : Int).toNat noSh) n 0 = true := by
  show rngB ⟨1, 0, 3, 0, [], 0, 0, 0⟩ n 0 = true
  unfold rngB; simp [hn]
 rw [h0, h1, Bool.true_and, Bool.true_and]
 unfold funB
 have e0 : ((tl ++ [b]).map WF).length = tl.length + 1 := by simp
 rw [e0]
 have e1 : ((tl ++ [b]).map WF).getD (tl.length + 1 - 1) noF = WF b := by
  rw [qc (tl ++ [b]) WF (by simp)]
  congr 1
  simp
 rw [e1, hb]
 have e2 : decide (n <= ((tl.length + 1 : Nat) : Int) - 1) = true := by simp; omega
 have e3 : decide (((tl.length + 1 : Nat) : Int) - 1 <= 6) = true := by simp; omega
 rw [e2, e3]
 simp only [Bool.true_and, Bool.and_true]
 rw [allI_iff]
 intro i hi
 have hi2 : i < tl.length := by omega
 rw [qc (tl ++ [b]) WF (by simp; omega)]
 rw [List.getElem_append_left hi2]
 exact ht i hi2
structure QF (f : Nd) (a a' : Int) : Prop where
 fit : WF f 1 = true
 dep : Wn f <= 14
 size : QI f <= 72
 mono : a <= a'
 used : a' <= a + 300
theorem sizeL_plain {ks : List Nd} (h : ∀ x ∈ ks, ∃ t, (t = 0 \/ t = 1) /\ x = Nd.mk t 0 0 []) : QT ks = ks.length /\ ∀ x ∈ ks, Wn x <= 2 := by
 induction ks with
 | nil => exact ⟨rfl, fun x hx => by cases hx⟩
 | cons y r ih =>
  obtain ⟨t, _, rfl⟩ := h y (by simp)
  obtain ⟨i1, i2⟩ := ih fun x hx => h x (by simp [hx])
  refine ⟨by rw [QT, i1, QI, QT, List.length_cons]; omega, fun x hx => ?_⟩
  rcases List.mem_cons.1 hx with rfl | hx
  ·simp [Wn, Wo]
  ·exact i2 x hx
theorem fun_q (l : List Int) (Bk : GenF) (hB : ∀ a L, preB a L -> QE 6 13 1 11 (Bk a L).1 a L (Bk a L).2.1 (Bk a L).2.2) (a L : Int) (ha : 0 <= a /\ a <= 100000) : QF (funG l Bk a L).1 a (funG l Bk a L).2.1 /\ preB (funT0 l a).2.1 40 := by
 have b4 := QX l a (most := 4) (by decide)
 have b3 := QX l (a + 1 + (atI l a 4).toNat) (most := 3) (by decide)
 have hk := kinds_ok l (atI l (a + 1 + (atI l a 4).toNat) 3).toNat (a + 1 + (atI l a 4).toNat + 1) 40
 have hkl := runM_len (kindG l) (atI l (a + 1 + (atI l a 4).toNat) 3).toNat (a + 1 + (atI l a 4).toNat + 1) 40
 have hF : funT0 l a = runM (kindG l) (atI l (a + 1 + (atI l a 4).toNat) 3).toNat (a + 1 + (atI l a 4).toNat + 1) 40 := rfl
 rw [<- hF] at hk hkl
 obtain ⟨k1, k2, k3, k4, k5⟩ := hk
 have hpre : preB (funT0 l a).2.1 40 := ⟨by omega, by omega, by omega, by omega⟩
 refine ⟨?_, hpre⟩
 obtain ⟨q1, q2, q3, q4, q5, q6⟩ := hB _ _ hpre
 unfold funG
 dsimp only
 generalize hT : funT0 l a = T at *
 generalize Bk T.2.1 40 = e at *
 obtain ⟨b, c, K⟩ := e
 dsimp only at *
 have hs := QZ b
 have ht0 := fun x => tys0_mem (l := l) (a := a + 1) (k := (atI l a 4).toNat) (x := x)
 obtain ⟨p1, p2⟩ := sizeL_plain ht0
 have htl := tys0_len l (a + 1) (atI l a 4).toNat
 generalize tys0 l (a + 1) (atI l a 4).toNat = t0 at *
 refine ⟨fit_fun (by omega) rfl (by rw [List.length_append]; omega) q1 (fun i hi => ?_), ?_, ?_, ?_, ?_⟩
 ·by_cases h0 : i < t0.length
  ·rw [List.getElem_append_left h0, if_pos (by omega)]
   obtain ⟨t, ht, hx⟩ := ht0 _ (List.getElem_mem h0)
   rw [hx]
   exact fit_plain ht (.inr rfl)
  ·rw [List.getElem_append_right (by omega), if_neg (by omega)]
   exact (k1 _ (List.getElem_mem _)).1
 ·rw [Wn, depthL_app, depthL_app, qD]
  have h1 := qQ p2
  have h2 : Wo T.1 <= 2 := qQ fun x hx => (k1 x hx).2
  omega
 ·rw [QI, qr, qr, sizeL1]
  omega
 ·omega
 ·omega
theorem funs_q (l : List Int) (Bk : GenF) (hB : ∀ a L, preB a L -> QE 6 13 1 11 (Bk a L).1 a L (Bk a L).2.1 (Bk a L).2.2) : ∀ (n : Nat) (a L : Int), 0 <= a -> a + 300 * n <= 100000 -> (∀ x ∈ (runM (funG l Bk) n a L).1, WF x 1 = true /\ Wn x <= 14) /\ QT (runM (funG l Bk) n a L).1 <= 72 * n
 | 0, a, L, _, _ => by
  rw [runM]
  exact ⟨fun x hx => (by cases hx), by simp [QT]⟩
 | n + 1, a, L, ha, hb => by
  rw [runM]
  obtain ⟨⟨q1, q2, q3, q4, q5⟩, _⟩ := fun_q l Bk hB a L ⟨ha, by omega⟩
  obtain ⟨i1, i2⟩ := funs_q l Bk hB n (funG l Bk a L).2.1 (funG l Bk a L).2.2 (by omega) (by omega)
  refine ⟨fun x hx => ?_, ?_⟩
  ·rcases List.mem_cons.1 hx with rfl | hx
   ·exact ⟨q1, q2⟩
   ·exact i1 x hx
  ·rw [QT]; omega
theorem prog_valid {n : Int} {fs : List Nd} (hn : 0 <= n /\ n <= 3) (hl : 1 <= fs.length /\ fs.length <= 6) (hf : ∀ x ∈ fs, WF x 1 = true /\ Wn x <= 15) (hs : QT fs <= 255) : validM (.mk 27 n 0 fs) = true := by
 have h1 : WF (.mk 27 n 0 fs) 0 = true := WT ⟨0, 0, 3, 0, [], 6, 1, 1⟩ rfl (by decide) (by decide) (by dsimp only; omega) (by decide) (by dsimp only; simp; omega) (kidsA rfl fun x hx => (hf x hx).1)
 have h2 : QI (.mk 27 n 0 fs) <= 256 := by rw [QI]; omega
 have h3 : Wn (.mk 27 n 0 fs) <= 16 := by
  rw [Wn]
  have : Wo fs <= 15 := qQ fun x hx => (hf x hx).2
  omega
 unfold validM
 rw [h1, decide_eq_true h2, decide_eq_true h3]; rfl
def sampleV (l : List Int) (Bk : GenF) : Nd := .mk 27 (atI l 0 4) 0 (runM (funG l Bk) (1 + atI l 1 3).toNat 2 0).1
theorem sample_ok (l : List Int) (Bk : GenF) (hB : ∀ a L, preB a L -> QE 6 13 1 11 (Bk a L).1 a L (Bk a L).2.1 (Bk a L).2.2) : validM (sampleV l Bk) = true := by
 have b4 := QX l 0 (most := 4) (by decide)
 have b3 := QX l 1 (most := 3) (by decide)
 obtain ⟨h1, h2⟩ := funs_q l Bk hB (1 + atI l 1 3).toNat 2 0 (by decide) (by omega)
 have h3 := runM_len (funG l Bk) (1 + atI l 1 3).toNat 2 0
 exact prog_valid (by omega) (by omega) (fun x hx => ⟨(h1 x hx).1, by have := (h1 x hx).2; omega⟩) (by omega)
end Go.Proofs
end
section
namespace Go.Proofs
open Go.Av
variable {G : Nat -> DV}
attribute [local irreducible] OpSem ZA ZV Z8 ACalls AEnd AClose RV
open Go.Bl
section
variable {P : Program} {G : Nat -> DV} {E : AX} {n : Nat} {N : ASt -> Prop} {xs : List (Nat × (ASt -> Prop))} {R : ASt -> Prop}
theorem r_pubin_at {t : Fr} {σ σ1 σ' : List ABlk} {c : Code} (i m j : Nat) {gm k g len es len0 es0 : Nat} {cs ds : List DV} (hi : Go.Av.look t i = DV.ref k g 0 len0 es0) (hm : σ[m]? = some (.row gm cs)) (hj : cs[j]? = some (DV.ref k g 0 len es)) (hk : σ[k]? = some (.row g ds)) (hl : len * es = ds.length)
  (hσ1 : setA σ k .gone = some σ1) (hσ' : setA σ1 m (.row gm (cs.set j (.sl es ds))) = some σ') (kk : ZA P G E n c N xs R ⟨t, σ'⟩) (hne : m ≠ k := by decide) : ZA P G E n c N xs R ⟨t, σ⟩ := r_pubin m j hm hj hk hl hσ1 hσ' kk hne
end
theorem sample_c (l : List Int) (hl : OkI l) : ∃ v, validM v = true /\ (∃ n ks, v = .mk 27 n 0 ks) /\ Go.Av.Pure Tryz.prog G 10 [Wi l] (.agg (Enc.enc v)) := by
 obtain ⟨S, hS⟩ := chStmt (G := G) l hl 4 (by decide)
 obtain ⟨Bk, hBk⟩ := chBlock (G := G) l hl 4 (by decide) S hS
 have hB1 : ∀ a L, preB a L -> QE 6 13 1 11 (Bk a L).1 a L (Bk a L).2.1 (Bk a L).2.2 := fun a L h => (hBk a L h).1
 have hB2 : ∀ a L, preB a L -> CE Tryz.prog G 37 (fun p g => [.ptr p g 0, .i 4]) (genC l a L) (.agg (Enc.enc (Bk a L).1)) (genC l (Bk a L).2.1 (Bk a L).2.2) := fun a L h => (hBk a L h).2
 have hv := sample_ok l Bk hB1
 clear hBk hS
 refine ⟨sampleV l Bk, hv, ⟨_, _, rfl⟩, fun B => ?_⟩
 clear hv
 unfold sampleV
 have b4 := QX l 0 (most := 4) (by decide)
 have b3 := QX l 1 (most := 3) (by decide)
 have hn0 : atI l (0 + 1) 3 = atI l 1 3 := rfl
 obtain ⟨Nf, hNf⟩ : ∃ Nf : Nat, 1 + atI l 1 3 = (Nf : Int) := ⟨(1 + atI l 1 3).toNat, by omega⟩
 rw [hNf, show ((Nf : Int)).toNat = Nf by omega, Q3]
 generalize hT : runM (funG l Bk) Nf 2 0 = T at *
 refine Qa Tryz.func10 rfl Tryz.ntmps10 rfl (t := [(0, Wi l)]) rfl fun E0 hE0 => ?_
 have hnumA := trivial
 have hkd := trivial
 have hblk := trivial
 have hfe := trivial
 (repeat' first | (refine Qo ?_; (first | (refine Qj ?_; refine QU rfl ?_) | (refine Qd ?_; refine Q5 rfl ?_) | (refine Qh ?_; refine Zr rfl rfl (by omega) ?_) | (refine Qk ?_; refine Wf 1 (Wm l hl _ _ _ (by omega) (by omega)) rfl rfl rfl rfl ?_) | (refine Qx ?_; refine Qe rfl rfl rfl (by first | assumption | exact Enc.len _ | rfl) (by first | assumption | exact Enc.len _ | rfl) rfl ?_) | (refine QS ?_; refine QC rfl rfl ?_) | (refine QG ?_; refine QD (fun _ _ => ?_)) | (refine Wx ?_; refine Ww rfl rfl (fun _ _ => ?_)))) | (refine Qv ?_; (first | refine Qu ?_ | refine QY rfl ?_ | refine Q1 ?_)) | (refine Qs ?_; (first | refine Qw ?_ | refine Qc ?_ | refine Qm ?_)))
 rename_i g2 hg2 gc hgc gp hgp
 refine r_ownin 2 3 4 rfl rfl (fun _ => rfl) (fun gk hgk => ?_)
 refine r_loop5 (fun (i : Nat) (o : List Nd) (a Lc : Int) (gg : Nat) => ⟨[(2, .ptr 0 g2 0), (3, .ptr 1 gc 0), (4, .ptr 2 gp 0), (5, .i (1 + atI l (0 + 1) 3)), (6, .i i)], [.row g2 [.i 0, .i 0, .i 0, .nil], .row gc (genC l a Lc), .row gp [.i 27, .i (atI l 0 4), .i 0, .ref 3 gg 0 o.length 4], .row gg (WH o)]⟩) (fun i o a Lc gg => i <= Nf /\ o.length <= i /\ E0.N < gg /\ o ++ (runM (funG l Bk) (Nf - i) a Lc).1 = T.1 /\ 0 <= a /\ a + 300 * (Nf - i : Int) <= 100000) (fun i _ _ _ _ => Nf - i) 0 [] 2 0 gk ?_ ⟨by omega, by simp, hgk, by rw [Nat.sub_zero, hT]; rfl, by omega, by omega⟩ ?_
 ·exact zal rfl
 intro i o a Lc gg ⟨hi, hol, hgg, h1, m1, m2⟩
 generalize hn00 : atI l 0 4 = n0 at *
 by_cases hiN : i < Nf
 ·rw [show Nf - i = (Nf - (i + 1)) + 1 by omega, runM] at h1
  obtain ⟨⟨_, _, _, u1, u2⟩, hpre⟩ := fun_q l Bk hB1 a Lc ⟨m1, by omega⟩
  have hblk := hB2 _ _ hpre
  generalize hf : funG l Bk a Lc = F at *
  unfold funG at hf
  have c4 := QX l a (most := 4) (by decide)
  obtain ⟨m, hm⟩ : ∃ m : Nat, atI l a 4 = (m : Int) := ⟨(atI l a 4).toNat, by omega⟩
  have hnumA := Wm (G := G) l hl a 40 4 (by omega) (by decide)
  rw [hm] at hnumA hf
  unfold funT0 at hf hblk
  rw [hm] at hf hblk
  rw [show ((m : Int)).toNat = m by omega] at hf hblk
  have c3 := QX l (a + 1 + m) (most := 3) (by decide)
  obtain ⟨K, hK⟩ : ∃ K : Nat, atI l (a + 1 + m) 3 = (K : Int) := ⟨(atI l (a + 1 + m) 3).toNat, by omega⟩
  have hK3 : (K : Int) < 3 := by omega
  have hm3 : (m : Int) < 4 := by omega
  rw [hK] at hf hblk
  rw [show ((K : Int)).toNat = K by omega] at hf hblk
  have hko := kinds_ok l K (a + 1 + m + 1) 40
  generalize hT2 : runM (kindG l) K (a + 1 + m + 1) 40 = T2 at *
  obtain ⟨ks2, a2, l2⟩ := T2
  dsimp only at *
  generalize hv1 : Bk a2 40 = v at *
  obtain ⟨v1, b1, M1⟩ := v
  dsimp only at *
  clear hB2
  have hfe := trivial
  (repeat' first | (refine Qo ?_; (first | (refine Qj ?_; refine QU rfl ?_) | (refine Qd ?_; refine Q5 rfl ?_) | (refine Qh ?_; refine Wh rfl rfl ?_) | (refine Qk ?_; refine Wf 1 (hnumA) rfl rfl rfl rfl ?_) | (refine Qx ?_; (first | refine Qe rfl rfl rfl (by first | assumption | exact Enc.len _ | rfl) (by first | assumption | exact Enc.len _ | rfl) rfl ?_ | refine Q8 rfl rfl rfl rfl (by rfl) (by rfl) (by rfl) ?_)) | (refine QS ?_; refine QC rfl rfl ?_) | (refine Qb ?_; refine Qg rfl rfl ?_) | (refine Qy ?_; refine Qt rfl rfl ?_) | (refine QG ?_; refine QD (fun _ _ => ?_)))) | (refine Qv ?_; (first | refine Qu ?_ | refine QY rfl ?_ | refine Q1 ?_)) | (refine Qs ?_; (first | refine Qw ?_ | refine Qc ?_ | refine Qm ?_ | refine QR ?_ | refine Qr rfl (by omega) ?_)))
  rename_i g7 hg7
  refine r_ownin 4 3 4 rfl rfl (fun _ => rfl) (fun gk2 hgk2 => ?_)
  refine r_loop5 (fun (k : Nat) (ks : List Nd) (b : Int) (_ : Unit) (gh : Nat) => ⟨[(2, .ptr 0 g2 0), (3, .ptr 1 gc 0), (4, .ptr 2 gp 0), (5, .i (1 + atI l (0 + 1) 3)), (6, .i i), (7, .ptr 4 g7 0), (8, .i k)], [.row g2 [.i 0, .i 0, .i 0, .nil], .row gc (genC l b 40), .row gp [.i 27, .i n0, .i 0, .ref 3 gg 0 o.length 4], .row gg (WH o), .row g7 [.i 26, .i (m : Nat), .i 0, .ref 5 gh 0 ks.length 4], .row gh (WH ks)]⟩) (fun k ks b _ gh => k <= m /\ E0.N < gh /\ ks = tys0 l (a + 1) k /\ b = a + 1 + (k : Nat)) (fun k _ _ _ _ => m - k) 0 [] (a + 1) () gk2 ?_ ⟨by omega, hgk2, rfl, by omega⟩ ?_
  ·exact zal rfl
  intro k ks b _ gh ⟨hk, hgh, hks, hb⟩
  by_cases hkm : k < m
  ·have bt := QX l b (most := 2) (by decide)
   have hnumA := Wm (G := G) l hl b 40 2 (by omega) (by decide)
   have hkl : ks.length = k := by rw [hks]; exact tys0_len l (a + 1) k
   have hks2 := tys0_succ l (a + 1) k
   rw [<- hks, <- hb] at hks2
   generalize hty : atI l b 2 = ty0 at *
   have hkd := trivial
   have hblk := trivial
   (repeat' first | (refine Qo ?_; (first | (refine Qj ?_; refine QU rfl ?_) | (refine Qd ?_; refine Q5 rfl ?_) | (refine Ql ?_; refine Qf rfl rfl rfl ?_) | (refine Qh ?_; (first | refine Wh rfl rfl ?_ | refine Zr rfl rfl (by omega) ?_)) | (refine Qk ?_; (first | refine qk (z := (Nd.mk ty0 0 0 [])) rfl rfl rfl rfl rfl rfl rfl (by first | omega | (simp; omega)) (by first | omega | (simp; omega)) (fun _ => rfl) (fun _ _ => ?_) | refine Wf 1 (hnumA) rfl rfl rfl rfl ?_)) | (refine Qx ?_; refine Q8 rfl rfl rfl rfl (by rfl) (by rfl) (by rfl) ?_) | (refine Qb ?_; refine Qg rfl rfl ?_))) | (refine Qv ?_; (first | refine Qu ?_ | refine QY rfl ?_)) | (refine Qs ?_; (first | refine Qw ?_ | refine Qc ?_ | refine Qm ?_ | (refine WJ ?_; first | (refine Qq (fun p => .row g2 [.i 0, .i 0, .i 0, .nil] :: p.1 :: .row gp [.i 27, .i n0, .i 0, .ref 3 gg 0 o.length 4] :: .row gg (WH o) :: .row g7 [.i 26, .i (m : Nat), .i 0, .ref 5 gh 0 ks.length 4] :: p.2) 7 [(0, true), (1, true), (2, true), (3, false), (4, true), (5, false), (6, true), (7, false)] (by rfl) (by rfl) (by kernel_rfl) (by decide +kernel) (by decide +kernel) ⟨(_, _), rfl⟩ ?_) | (refine Qq (fun p => .row g2 [.i 0, .i 0, .i 0, .nil] :: p.1 :: .row gp [.i 27, .i n0, .i 0, .ref 3 gg 0 o.length 4] :: .row gg (WH o) :: .row g7 [.i 26, .i (m : Nat), .i 0, .ref 5 gh 0 ks.length 4] :: p.2) 8 [(0, true), (1, true), (2, true), (3, false), (4, true), (5, true), (6, false), (7, true), (8, false)] (by rfl) (by rfl) (by kernel_rfl) (by decide +kernel) (by decide +kernel) ⟨(_, _), rfl⟩ ?_) | refine Ws (by rfl) (by kernel_rfl) (by kernel_rfl) ?_ | refine Wr (by kernel_rfl) (by kernel_rfl) ?_) | refine QR ?_ | refine Qr rfl (by omega) ?_)) | (refine W8 ?_; (first | refine ZH ?_ | refine i_z0 ?_ | refine i_st rfl rfl (fun _ => (by (repeat' first | (refine Qo ?_; (first | (refine Qj ?_; refine QU rfl ?_) | (refine Ql ?_; refine Qf rfl rfl rfl ?_) | (refine QS ?_; refine s_build_nd (k := ty0) (n := 0) (mm := 0) rfl rfl ?_) | (refine QK ?_; refine Q0 (z := Nd.mk ty0 0 0 []) rfl rfl (by decide) ?_) | (refine Qb ?_; refine Qg rfl rfl ?_))) | exact ⟨rfl, rfl⟩))) ?_ | refine i_ef rfl ?_)) | refine And.intro (Exists.intro ((_, _)) rfl) ?_)
   refine ⟨k + 1, ks ++ [.mk ty0 0 0 []], b + 1, (), _, ⟨by omega, by assumption, hks2.symm, by omega⟩, by omega, ?_⟩
   exact zal rfl
  ·have hkm2 : m = k := by omega
   have hkl : ks.length = k := by rw [hks]; exact tys0_len l (a + 1) k
   subst hkm2
   rw [<- hb] at hK
   have hnumA := Wm (G := G) l hl b 40 3 (by omega) (by decide)
   rw [hK] at hnumA
   have hblkS := hblk
   have hblk := trivial
   have hkd := trivial
   (repeat' first | (refine Qo ?_; (first | (refine Qj ?_; refine QU rfl ?_) | (refine Qd ?_; refine Q5 rfl ?_) | (refine Ql ?_; refine Qf rfl rfl rfl ?_) | (refine Qh ?_; refine Wh rfl rfl ?_) | (refine Qk ?_; refine Wf 1 (hnumA) rfl rfl rfl rfl ?_) | (refine Qb ?_; refine Qg rfl rfl ?_))) | (refine Qv ?_; (first | refine Qu ?_ | refine QY rfl ?_)) | (refine Qs ?_; (first | refine Qw ?_ | refine Qc ?_ | refine Qm ?_ | refine Qn rfl (by omega) ?_ | refine WI rfl ?_)))
   clear hnumA
   refine r_loop5 (fun (j : Nat) (ks : List Nd) (b : Int) (_ : Unit) (gh : Nat) => ⟨[(2, .ptr 0 g2 0), (3, .ptr 1 gc 0), (4, .ptr 2 gp 0), (5, .i (1 + atI l (0 + 1) 3)), (6, .i i), (7, .ptr 4 g7 0), (9, .i K), (10, .i j)], [.row g2 [.i 0, .i 0, .i 0, .nil], .row gc (genC l b 40), .row gp [.i 27, .i n0, .i 0, .ref 3 gg 0 o.length 4], .row gg (WH o), .row g7 [.i 26, .i (m : Nat), .i 0, .ref 5 gh 0 ks.length 4], .row gh (WH ks)]⟩) (fun j ks b _ gh => j <= K /\ ks.length <= 4 + j /\ E0.N < gh /\ ks ++ (runM (kindG l) (K - j) b 40).1 = tys0 l (a + 1) m ++ ks2 /\ (runM (kindG l) (K - j) b 40).2.1 = a2 /\ 0 <= b /\ b + 3 * (K - j : Int) <= 200000) (fun j _ _ _ _ => K - j) 0 ks (b + 1) () gh ?_ ⟨by omega, by omega, hgh, by rw [Nat.sub_zero, hb, hT2, hks], by rw [Nat.sub_zero, hb, hT2], by omega, by omega⟩ ?_
   ·exact zal rfl
   intro j ks b _ gh ⟨hj, hkl, hgh, h3, h4, n1, n2⟩
   by_cases hjK : j < K
   ·rw [show K - j = (K - (j + 1)) + 1 by omega, runM] at h3 h4
    have hkd := kind_c (G := G) l hl b 40 (by omega)
    obtain ⟨_, _, _, w1, w2⟩ := kind_ok l b
    unfold kindG at h3 h4
    dsimp only at h3 h4
    generalize kindV l b = w at *
    obtain ⟨v1, c1⟩ := w
    dsimp only at *
    have hnumA := trivial
    clear hblkS
    (repeat' first | (refine Qo ?_; (first | (refine Qj ?_; refine QU rfl ?_) | (refine Qd ?_; refine Q5 rfl ?_) | (refine Qh ?_; (first | refine Wh rfl rfl ?_ | refine Zr rfl rfl (by omega) ?_)) | (refine Qk ?_; (first | refine qk (z := v1) rfl rfl rfl rfl rfl rfl rfl (by first | omega | (simp; omega)) (by first | omega | (simp; omega)) (fun _ => rfl) (fun _ _ => ?_) | refine Wf 1 (hkd) rfl rfl rfl rfl ?_)) | (refine Qx ?_; refine Q8 rfl rfl rfl rfl (by rfl) (by rfl) (by rfl) ?_))) | (refine Qv ?_; (first | refine Qu ?_ | refine QY rfl ?_)) | (refine Qs ?_; (first | refine Qw ?_ | refine Qc ?_ | refine Qm ?_ | (refine WJ ?_; first | (refine Qq (fun p => .row g2 [.i 0, .i 0, .i 0, .nil] :: p.1 :: .row gp [.i 27, .i n0, .i 0, .ref 3 gg 0 o.length 4] :: .row gg (WH o) :: .row g7 [.i 26, .i (m : Nat), .i 0, .ref 5 gh 0 ks.length 4] :: p.2) 7 [(0, true), (1, true), (2, true), (3, false), (4, true), (5, false), (6, true), (7, false)] (by rfl) (by rfl) (by kernel_rfl) (by decide +kernel) (by decide +kernel) ⟨(_, _), rfl⟩ ?_) | (refine Qq (fun p => .row g2 [.i 0, .i 0, .i 0, .nil] :: p.1 :: .row gp [.i 27, .i n0, .i 0, .ref 3 gg 0 o.length 4] :: .row gg (WH o) :: .row g7 [.i 26, .i (m : Nat), .i 0, .ref 5 gh 0 ks.length 4] :: p.2) 8 [(0, true), (1, true), (2, true), (3, false), (4, true), (5, true), (6, false), (7, true), (8, false)] (by rfl) (by rfl) (by kernel_rfl) (by decide +kernel) (by decide +kernel) ⟨(_, _), rfl⟩ ?_) | refine Ws (by rfl) (by kernel_rfl) (by kernel_rfl) ?_ | refine Wr (by kernel_rfl) (by kernel_rfl) ?_) | refine QR ?_ | refine Qr rfl (by omega) ?_)) | (refine W8 ?_; (first | refine ZH ?_ | refine i_z0 ?_ | refine i_st rfl rfl (fun _ => (by (repeat' first | (refine Qo ?_; (first | (refine Qj ?_; refine QU rfl ?_) | (refine Ql ?_; refine Qf rfl rfl rfl ?_) | (refine QK ?_; refine Q0 (z := v1) rfl rfl (by decide) ?_) | (refine Qb ?_; refine Qg rfl rfl ?_))) | exact ⟨rfl, rfl⟩))) ?_ | refine i_ef rfl ?_)) | refine And.intro (Exists.intro ((_, _)) rfl) ?_)
    refine ⟨j + 1, ks ++ [v1], c1, (), _, ⟨by omega, by simp; omega, by assumption, by rw [List.append_assoc]; exact h3, h4, by omega, by omega⟩, by omega, ?_⟩
    exact zal rfl
   ·have hje : K - j = 0 := by omega
    rw [hje, runM] at h3 h4
    dsimp only at h3 h4
    rw [List.append_nil] at h3
    subst h4
    have hblk := hblkS
    have hnumA := trivial
    have hkd := trivial
    obtain ⟨fN, hfN⟩ : ∃ fN, fN = Nd.mk 26 (m : Nat) 0 (ks ++ [v1]) := ⟨_, rfl⟩
    have hfe : Enc.enc fN = [.i 26, .i (m : Nat), .i 0, Wi (ks ++ [v1])] := by rw [hfN, Q3]
    rw [<- h3, <- hfN] at hf
    subst hf
    dsimp only at *
    (repeat' first | (refine Qo ?_; (first | (refine Qj ?_; refine QU rfl ?_) | (refine Qd ?_; refine Q5 rfl ?_) | (refine Ql ?_; (first | refine Qi rfl rfl (by first | assumption | exact Enc.len _ | rfl) ?_ | refine Qf rfl rfl rfl ?_)) | (refine Qh ?_; (first | refine Wh rfl rfl ?_ | refine Zr rfl rfl (by omega) ?_)) | (refine Qk ?_; (first | refine qk (z := v1) rfl rfl rfl rfl rfl rfl rfl (by first | omega | (simp; omega)) (by first | omega | (simp; omega)) (fun _ => rfl) (fun _ _ => ?_) | refine qk (z := fN) rfl rfl rfl rfl rfl rfl rfl (by first | omega | (simp; omega)) (by first | omega | (simp; omega)) (fun _ => rfl) (fun _ _ => ?_) | refine Wf 1 (hblk) rfl rfl rfl rfl ?_)) | (refine Qx ?_; refine Q8 rfl rfl rfl rfl (by rfl) (by rfl) (by rfl) ?_) | (refine QK ?_; refine Q0 (z := fN) rfl (by rw [hfe]; rfl) (by decide) ?_) | (refine Qb ?_; refine Qg rfl rfl ?_))) | (refine Qv ?_; (first | refine Qu ?_ | refine QY rfl ?_ | refine Q1 ?_)) | (refine Qs ?_; (first | refine r_pubin_at 64 4 3 rfl rfl rfl rfl (by first | exact (Wu _).symm | rfl) rfl rfl ?_ | refine Qw ?_ | refine Qc ?_ | (refine WJ ?_; first | (refine Qq (fun p => .row g2 [.i 0, .i 0, .i 0, .nil] :: p.1 :: .row gp [.i 27, .i n0, .i 0, .ref 3 gg 0 o.length 4] :: .row gg (WH o) :: .row g7 [.i 26, .i (m : Nat), .i 0, .ref 5 gh 0 ks.length 4] :: p.2) 7 [(0, true), (1, true), (2, true), (3, false), (4, true), (5, false), (6, true), (7, false)] (by rfl) (by rfl) (by kernel_rfl) (by decide +kernel) (by decide +kernel) ⟨(_, _), rfl⟩ ?_) | (refine Qq (fun p => .row g2 [.i 0, .i 0, .i 0, .nil] :: p.1 :: .row gp [.i 27, .i n0, .i 0, .ref 3 gg 0 o.length 4] :: .row gg (WH o) :: .row g7 [.i 26, .i (m : Nat), .i 0, .ref 5 gh 0 ks.length 4] :: p.2) 8 [(0, true), (1, true), (2, true), (3, false), (4, true), (5, true), (6, false), (7, true), (8, false)] (by rfl) (by rfl) (by kernel_rfl) (by decide +kernel) (by decide +kernel) ⟨(_, _), rfl⟩ ?_) | refine Ws (by rfl) (by kernel_rfl) (by kernel_rfl) ?_ | refine Wr (by kernel_rfl) (by kernel_rfl) ?_) | refine Qn rfl (by omega) ?_ | refine WI rfl ?_)) | (refine W8 ?_; (first | refine ZH ?_ | refine i_z0 ?_ | refine i_st rfl rfl (fun _ => (by (repeat' first | (refine Qo ?_; (first | (refine Qj ?_; refine QU rfl ?_) | (refine Ql ?_; refine Qf rfl rfl rfl ?_) | (refine QK ?_; refine Q0 (z := v1) rfl rfl (by decide) ?_) | (refine Qb ?_; refine Qg rfl rfl ?_))) | exact ⟨rfl, rfl⟩))) ?_ | refine i_ef rfl ?_)) | refine And.intro (Exists.intro ((_, _)) rfl) ?_)
    refine ⟨i + 1, o ++ [fN], b1, M1, _, ⟨by omega, by simp; omega, by assumption, by rw [List.append_assoc]; exact h1, by omega, by omega⟩, by omega, ?_⟩
    exact zal rfl
 ·have hie : Nf - i = 0 := by omega
  rw [hie, runM] at h1
  dsimp only at h1
  rw [List.append_nil] at h1
  rw [<- h1]
  have hnumA := trivial
  have hkd := trivial
  have hblk := trivial
  have hfe := trivial
  clear hB2
  refine r_pubin 2 3 rfl rfl rfl (Wu _).symm rfl rfl ?_
  (repeat' first | (refine Qo ?_; (first | (refine Qj ?_; refine QU rfl ?_) | (refine Ql ?_; refine Qi rfl rfl (by first | assumption | exact Enc.len _ | rfl) ?_) | (refine Qh ?_; refine Wh rfl rfl ?_) | (refine Qx ?_; refine Qe rfl rfl rfl (by first | assumption | exact Enc.len _ | rfl) (by first | assumption | exact Enc.len _ | rfl) rfl ?_))) | (refine Qv ?_; (first | refine Qu ?_ | refine QY rfl ?_ | refine Q1 ?_)) | (refine Qs ?_; (first | refine Qw ?_ | refine Qc ?_ | refine Qn rfl (by omega) ?_ | refine WI rfl ?_ | refine QM ?_)))
  exact e_1 (Tryz.results10) (QA (size := 4) rfl rfl rfl rfl) (Q2 rfl)
end Go.Proofs
end
