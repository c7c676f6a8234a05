/-
  Part 6 of the proof: Q2.
-/
import Derived.Test.YtecbcpilcjmhlaaDoorZB1
import Derived.Test.YtecbcpilcjmhlaaDoorZB5
set_option linter.unusedSimpArgs false
set_option linter.unusedVariables false
set_option maxRecDepth 10000
set_option maxHeartbeats 4000000
section
namespace Go.Proofs
open Go.Av
variable {G : Nat -> DV}
attribute [local irreducible] OpSem WE WY W0 ACalls ZE QV RV
open Go.Bl
theorem leaf_c (l : List Int) (hl : ∀ x ∈ l, Ord.I64 x) (hll : l.length <= 4611686018427387904) (d : Int) (kind : Int) (hk : kind = 0 \/ kind = 1) (a : Nat) (b : Int) (ha : a <= 1000000) (hb : -1000000 <= b /\ b <= 1000000)
  (hleaf : d = 0 \/ (d ≠ 0 /\ (b - 1 < 3 \/ atM l a 10 < 2))) (hd : 0 <= d) : MK Tryd.prog G 29 [.i kind, .i d] l a b (.agg (Enc.enc (leafM l kind (a + 1)).1)) (leafM l kind (a + 1)).2 (b - 1) := fun g B hg => by
 have hd1 := draw_c (G := G) l hl hll a (by omega) (b - 1) 10 (by decide)
 have hd2 : MK Tryd.prog G 28 [.i 4] l (a + 1) (b - 1) (.i (atM l (a + 1) 4)) (a + 1 + 1) (b - 1) := draw_c (G := G) l hl hll (a + 1) (by omega) (b - 1) 4 (by decide)
 have bx := atM_bd l a (n := 10) (by decide)
 have by4 := atM_bd l (a + 1) (n := 4) (by decide)
 generalize hx : atM l a 10 = x at *
 unfold leafM
 generalize hy : atM l (a + 1) 4 = y at *
 by_cases hy0 : 0 < y
 ·rw [if_pos hy0]
  have hd3 : MK Tryd.prog G 28 [.i 2] l (a + 1 + 1) (b - 1) (.i (atM l (a + 1 + 1) 2)) (a + 1 + 1 + 1) (b - 1) := draw_c (G := G) l hl hll (a + 1 + 1) (by omega) (b - 1) 2 (by decide)
  have bz := atM_bd l (a + 1 + 1) (n := 2) (by decide)
  generalize atM l (a + 1 + 1) 2 = z at *
  rcases hleaf with h0 | ⟨h0, h1 | h1⟩
  all_goals
   refine Qb Tryd.func29 rfl Tryd.ntmps29 rfl (t := [(0, .ptr 0 g 0), (1, .i kind), (2, .i d)]) rfl fun E hE => ?_
   (repeat' first | refine Qt rfl ?_ | refine Qv rfl ?_ | refine Qc rfl rfl rfl ?_ | refine QG rfl rfl ?_ | refine s_leq rfl rfl ?_ | refine s_gtr rfl rfl ?_ | refine QS rfl rfl (by omega) ?_ | refine Zn rfl rfl (by omega) ?_ | refine Z2 rfl rfl (by omega) ?_ | refine Wb rfl rfl hd1 rfl (by repeat' first | exact QX | refine QN ?_ ?_ | exact QA) (by first | exact QA | exact QB (Enc.clo _)) ?_ | refine Wb rfl rfl hd2 rfl (by repeat' first | exact QX | refine QN ?_ ?_ | exact QA) (by first | exact QA | exact QB (Enc.clo _)) ?_ | refine Wb rfl rfl hd3 rfl (by repeat' first | exact QX | refine QN ?_ ?_ | exact QA) (by first | exact QA | exact QB (Enc.clo _)) ?_ | refine s_call_p rfl rfl (r20Var_c _ _) (QB (Enc.clo _)) ?_ | refine WR rfl rfl ?_ | refine Wk rfl rfl ?_ | refine Ql rfl rfl rfl (by first | assumption | exact Enc.len _ | rfl) (by first | assumption | exact Enc.len _ | rfl) rfl ?_ | refine Wf rfl rfl rfl rfl (by rfl) (by rfl) (by rfl) ?_ | refine Qd rfl rfl ?_ | refine Q3 rfl rfl ?_ | refine QJ (fun _ _ => ?_) | refine Qe ?_ | refine Qp rfl ?_ | refine Q0 ?_ | refine WC rfl rfl rfl rfl ?_ | refine WO rfl rfl rfl rfl ?_ | refine Wm rfl rfl (by omega) ?_ | refine Wn rfl rfl (by omega) ?_ | refine o_sp_d rfl rfl (fun _ => ?_) (fun _ => ?_) | refine Qf ?_ | refine Qa ?_ | refine Qs rfl ?_ | refine Qx rfl (by omega) ?_ | refine Qm ?_)
   all_goals
    have hw : (Enc.enc (Nd.mk 6 (2 * kind + z) kind []) : List DV).length = 4 := Enc.len _
    exact e_1 (Tryd.results29) (QY (size := 4) rfl rfl (Q4 hw) hw) (QC (σ := [_]) (r := [_]) ⟨rfl, rfl⟩)
 ·rw [if_neg hy0]
  by_cases hk1 : kind = 1
  ·subst hk1
   rw [if_pos rfl]
   have hd3 : MK Tryd.prog G 28 [.i 2] l (a + 1 + 1) (b - 1) (.i (atM l (a + 1 + 1) 2)) (a + 1 + 1 + 1) (b - 1) := draw_c (G := G) l hl hll (a + 1 + 1) (by omega) (b - 1) 2 (by decide)
   generalize atM l (a + 1 + 1) 2 = z at *
   rw [We]
   rcases hleaf with h0 | ⟨h0, h1 | h1⟩
   all_goals
    refine Qb Tryd.func29 rfl Tryd.ntmps29 rfl (t := [(0, .ptr 0 g 0), (1, .i 1), (2, .i d)]) rfl fun E hE => ?_
    (repeat' first | refine Qt rfl ?_ | refine Qv rfl ?_ | refine Qc rfl rfl rfl ?_ | refine QG rfl rfl ?_ | refine s_leq rfl rfl ?_ | refine s_gtr rfl rfl ?_ | refine QH rfl rfl ?_ | refine Zn rfl rfl (by omega) ?_ | refine Wb rfl rfl hd1 rfl (by repeat' first | exact QX | refine QN ?_ ?_ | exact QA) (by first | exact QA | exact QB (Enc.clo _)) ?_ | refine Wb rfl rfl hd2 rfl (by repeat' first | exact QX | refine QN ?_ ?_ | exact QA) (by first | exact QA | exact QB (Enc.clo _)) ?_ | refine Wb rfl rfl hd3 rfl (by repeat' first | exact QX | refine QN ?_ ?_ | exact QA) (by first | exact QA | exact QB (Enc.clo _)) ?_ | refine WR rfl rfl ?_ | refine Wk rfl rfl ?_ | refine Ql rfl rfl rfl (by first | assumption | exact Enc.len _ | rfl) (by first | assumption | exact Enc.len _ | rfl) rfl ?_ | refine Wf rfl rfl rfl rfl (by rfl) (by rfl) (by rfl) ?_ | refine Qd rfl rfl ?_ | refine Zi rfl rfl ?_ | refine Q3 rfl rfl ?_ | refine QJ (fun _ _ => ?_) | refine Qe ?_ | refine Qp rfl ?_ | refine Q0 ?_ | refine WC rfl rfl rfl rfl ?_ | refine WO rfl rfl rfl rfl ?_ | refine Wm rfl rfl (by omega) ?_ | refine Wn rfl rfl (by omega) ?_ | refine o_sp_d rfl rfl (fun _ => ?_) (fun _ => ?_) | refine Qf ?_ | refine Qa ?_ | refine Qj ?_ | refine Qs rfl ?_ | refine Qx rfl (by omega) ?_ | refine QD rfl (by omega) ?_ | refine Qm ?_)
    all_goals
     exact e_1 (Tryd.results29) (QY (size := 4) rfl rfl rfl rfl) (c_out (sub_nd _ _ _ _) (QC (σ := [_]) (r := [_]) ⟨rfl, rfl⟩))
  ·have hk0 : kind = 0 := by omega
   subst hk0
   rw [if_neg (by decide)]
   have hd3 : MK Tryd.prog G 28 [.i 16] l (a + 1 + 1) (b - 1) (.i (atM l (a + 1 + 1) 16)) (a + 1 + 1 + 1) (b - 1) := draw_c (G := G) l hl hll (a + 1 + 1) (by omega) (b - 1) 16 (by decide)
   have bz := atM_bd l (a + 1 + 1) (n := 16) (by decide)
   generalize atM l (a + 1 + 1) 16 = z at *
   rw [We]
   rcases hleaf with h0 | ⟨h0, h1 | h1⟩
   all_goals
    refine Qb Tryd.func29 rfl Tryd.ntmps29 rfl (t := [(0, .ptr 0 g 0), (1, .i 0), (2, .i d)]) rfl fun E hE => ?_
    (repeat' first | refine Qt rfl ?_ | refine Qv rfl ?_ | refine Qc rfl rfl rfl ?_ | refine QG rfl rfl ?_ | refine s_leq rfl rfl ?_ | refine s_gtr rfl rfl ?_ | refine QH rfl rfl ?_ | refine Zn rfl rfl (by omega) ?_ | refine Wb rfl rfl hd1 rfl (by repeat' first | exact QX | refine QN ?_ ?_ | exact QA) (by first | exact QA | exact QB (Enc.clo _)) ?_ | refine Wb rfl rfl hd2 rfl (by repeat' first | exact QX | refine QN ?_ ?_ | exact QA) (by first | exact QA | exact QB (Enc.clo _)) ?_ | refine Wb rfl rfl hd3 rfl (by repeat' first | exact QX | refine QN ?_ ?_ | exact QA) (by first | exact QA | exact QB (Enc.clo _)) ?_ | refine WR rfl rfl ?_ | refine Wk rfl rfl ?_ | refine Ql rfl rfl rfl (by first | assumption | exact Enc.len _ | rfl) (by first | assumption | exact Enc.len _ | rfl) rfl ?_ | refine Wf rfl rfl rfl rfl (by rfl) (by rfl) (by rfl) ?_ | refine Qd rfl rfl ?_ | refine Zi rfl rfl ?_ | refine Q3 rfl rfl ?_ | refine QJ (fun _ _ => ?_) | refine Qe ?_ | refine Qp rfl ?_ | refine Q0 ?_ | refine WC rfl rfl rfl rfl ?_ | refine WO rfl rfl rfl rfl ?_ | refine Wm rfl rfl (by omega) ?_ | refine Wn rfl rfl (by omega) ?_ | refine o_sp_d rfl rfl (fun _ => ?_) (fun _ => ?_) | refine Qf ?_ | refine Qa ?_ | refine Qj ?_ | refine Qs rfl ?_ | refine Qi rfl ?_ | refine Qx rfl (by omega) ?_ | refine QD rfl (by omega) ?_ | refine Qm ?_)
    all_goals
     exact e_1 (Tryd.results29) (QY (size := 4) rfl rfl rfl rfl) (c_out (sub_nd _ _ _ _) (QC (σ := [_]) (r := [_]) ⟨rfl, rfl⟩))
end Go.Proofs
end
