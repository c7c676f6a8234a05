/-
  Part 12 of the proof: Q2.
-/
import Derived.Test.YtecbcpilcjmhlaaDoorZF1
import Derived.Test.YtecbcpilcjmhlaaDoorZF11
set_option linter.unusedSimpArgs false
set_option linter.unusedVariables false
set_option maxRecDepth 10000
set_option maxHeartbeats 4000000
section
namespace Go.Proofs
open Go.Av
variable {G : Nat -> DV}
attribute [local irreducible] OpSem WB WQ WW ACalls Zo QY RV
open Go.Bl
theorem leaf_c (l : List Int) (hl : ∀ x ∈ l, Ord.I64 x) (hll : l.length <= 4611686018427387904) (d : Int) (kind : Int) (hk : kind = 0 \/ kind = 1) (a : Nat) (b : Int) (ha : a <= 1000000) (hb : -1000000 <= b /\ b <= 1000000)
  (hleaf : d = 0 \/ (d ≠ 0 /\ (b - 1 < 3 \/ atM l a 10 < 2))) (hd : 0 <= d) : MK Tryd.prog G 29 [.i kind, .i d] l a b (.agg (Enc.enc (leafM l kind (a + 1)).1)) (leafM l kind (a + 1)).2 (b - 1) := fun g B hg => by
 have hd1 := draw_c (G := G) l hl hll a (by omega) (b - 1) 10 (by decide)
 have hd2 : MK Tryd.prog G 28 [.i 4] l (a + 1) (b - 1) (.i (atM l (a + 1) 4)) (a + 1 + 1) (b - 1) := draw_c (G := G) l hl hll (a + 1) (by omega) (b - 1) 4 (by decide)
 have bx := atM_bd l a (n := 10) (by decide)
 have by4 := atM_bd l (a + 1) (n := 4) (by decide)
 generalize hx : atM l a 10 = x at *
 unfold leafM
 generalize hy : atM l (a + 1) 4 = y at *
 by_cases hy0 : 0 < y
 ·rw [if_pos hy0]
  have hd3 : MK Tryd.prog G 28 [.i 2] l (a + 1 + 1) (b - 1) (.i (atM l (a + 1 + 1) 2)) (a + 1 + 1 + 1) (b - 1) := draw_c (G := G) l hl hll (a + 1 + 1) (by omega) (b - 1) 2 (by decide)
  have bz := atM_bd l (a + 1 + 1) (n := 2) (by decide)
  generalize atM l (a + 1 + 1) 2 = z at *
  rcases hleaf with h0 | ⟨h0, h1 | h1⟩
  all_goals
   refine Qc Tryd.func29 rfl Tryd.ntmps29 rfl (t := [(0, .ptr 0 g 0), (1, .i kind), (2, .i d)]) rfl fun E hE => ?_
   (repeat' first | refine Qu rfl ?_ | refine QA rfl ?_ | refine Qb rfl rfl rfl ?_ | refine QL rfl rfl ?_ | refine ZN rfl rfl ?_ | refine s_gtr rfl rfl ?_ | refine Q5 rfl rfl (by omega) ?_ | refine qd rfl rfl (by omega) ?_ | refine s_mul rfl rfl (by omega) ?_ | refine Wl rfl rfl hd1 rfl (by repeat' first | exact QW | refine QF ?_ ?_ | exact Qx) (by first | exact Qx | exact Qw (Enc.clo _)) ?_ | refine Wl rfl rfl hd2 rfl (by repeat' first | exact QW | refine QF ?_ ?_ | exact Qx) (by first | exact Qx | exact Qw (Enc.clo _)) ?_ | refine Wl rfl rfl hd3 rfl (by repeat' first | exact QW | refine QF ?_ ?_ | exact Qx) (by first | exact Qx | exact Qw (Enc.clo _)) ?_ | refine WR rfl rfl (r20Var_c _ _) (Qw (Enc.clo _)) ?_ | refine WI rfl rfl ?_ | refine Wm rfl rfl ?_ | refine Qi rfl rfl rfl (by first | assumption | exact Enc.len _ | rfl) (by first | assumption | exact Enc.len _ | rfl) rfl ?_ | refine Wb rfl rfl rfl rfl (by rfl) (by rfl) (by rfl) ?_ | refine Qd rfl rfl ?_ | refine Q7 rfl rfl ?_ | refine QH (fun _ _ => ?_) | refine Qe ?_ | refine Qs rfl ?_ | refine QZ ?_ | refine WK rfl rfl rfl rfl ?_ | refine W3 rfl rfl rfl rfl ?_ | refine Wg rfl rfl (by omega) ?_ | refine Wc rfl rfl (by omega) ?_ | refine o_sp_d rfl rfl (fun _ => ?_) (fun _ => ?_) | refine Qg ?_ | refine Qa ?_ | refine QB rfl ?_ | refine Qp rfl (by omega) ?_ | refine Qq ?_)
   all_goals
    have hw : (Enc.enc (Nd.mk 6 (2 * kind + z) kind []) : List DV).length = 4 := Enc.len _
    exact e_1 (Tryd.results29) (QR (size := 4) rfl rfl (QS hw) hw) (Qy (σ := [_]) (r := [_]) ⟨rfl, rfl⟩)
 ·rw [if_neg hy0]
  by_cases hk1 : kind = 1
  ·subst hk1
   rw [if_pos rfl]
   have hd3 : MK Tryd.prog G 28 [.i 2] l (a + 1 + 1) (b - 1) (.i (atM l (a + 1 + 1) 2)) (a + 1 + 1 + 1) (b - 1) := draw_c (G := G) l hl hll (a + 1 + 1) (by omega) (b - 1) 2 (by decide)
   generalize atM l (a + 1 + 1) 2 = z at *
   rw [Q9]
   rcases hleaf with h0 | ⟨h0, h1 | h1⟩
   all_goals
    refine Qc Tryd.func29 rfl Tryd.ntmps29 rfl (t := [(0, .ptr 0 g 0), (1, .i 1), (2, .i d)]) rfl fun E hE => ?_
    (repeat' first | refine Qu rfl ?_ | refine QA rfl ?_ | refine Qb rfl rfl rfl ?_ | refine QL rfl rfl ?_ | refine ZN rfl rfl ?_ | refine s_gtr rfl rfl ?_ | refine QJ rfl rfl ?_ | refine qd rfl rfl (by omega) ?_ | refine Wl rfl rfl hd1 rfl (by repeat' first | exact QW | refine QF ?_ ?_ | exact Qx) (by first | exact Qx | exact Qw (Enc.clo _)) ?_ | refine Wl rfl rfl hd2 rfl (by repeat' first | exact QW | refine QF ?_ ?_ | exact Qx) (by first | exact Qx | exact Qw (Enc.clo _)) ?_ | refine Wl rfl rfl hd3 rfl (by repeat' first | exact QW | refine QF ?_ ?_ | exact Qx) (by first | exact Qx | exact Qw (Enc.clo _)) ?_ | refine WI rfl rfl ?_ | refine Wm rfl rfl ?_ | refine Qi rfl rfl rfl (by first | assumption | exact Enc.len _ | rfl) (by first | assumption | exact Enc.len _ | rfl) rfl ?_ | refine Wb rfl rfl rfl rfl (by rfl) (by rfl) (by rfl) ?_ | refine Qd rfl rfl ?_ | refine W1 rfl rfl ?_ | refine Q7 rfl rfl ?_ | refine QH (fun _ _ => ?_) | refine Qe ?_ | refine Qs rfl ?_ | refine QZ ?_ | refine WK rfl rfl rfl rfl ?_ | refine W3 rfl rfl rfl rfl ?_ | refine Wg rfl rfl (by omega) ?_ | refine Wc rfl rfl (by omega) ?_ | refine o_sp_d rfl rfl (fun _ => ?_) (fun _ => ?_) | refine Qg ?_ | refine Qa ?_ | refine Qk ?_ | refine QB rfl ?_ | refine Qp rfl (by omega) ?_ | refine Qr rfl (by omega) ?_ | refine Qq ?_)
    all_goals
     exact e_1 (Tryd.results29) (QR (size := 4) rfl rfl rfl rfl) (c_out (sub_nd _ _ _ _) (Qy (σ := [_]) (r := [_]) ⟨rfl, rfl⟩))
  ·have hk0 : kind = 0 := by omega
   subst hk0
   rw [if_neg (by decide)]
   have hd3 : MK Tryd.prog G 28 [.i 16] l (a + 1 + 1) (b - 1) (.i (atM l (a + 1 + 1) 16)) (a + 1 + 1 + 1) (b - 1) := draw_c (G := G) l hl hll (a + 1 + 1) (by omega) (b - 1) 16 (by decide)
   have bz := atM_bd l (a + 1 + 1) (n := 16) (by decide)
   generalize atM l (a + 1 + 1) 16 = z at *
   rw [Q9]
   rcases hleaf with h0 | ⟨h0, h1 | h1⟩
   all_goals
    refine Qc Tryd.func29 rfl Tryd.ntmps29 rfl (t := [(0, .ptr 0 g 0), (1, .i 0), (2, .i d)]) rfl fun E hE => ?_
    (repeat' first | refine Qu rfl ?_ | refine QA rfl ?_ | refine Qb rfl rfl rfl ?_ | refine QL rfl rfl ?_ | refine ZN rfl rfl ?_ | refine s_gtr rfl rfl ?_ | refine QJ rfl rfl ?_ | refine qd rfl rfl (by omega) ?_ | refine Wl rfl rfl hd1 rfl (by repeat' first | exact QW | refine QF ?_ ?_ | exact Qx) (by first | exact Qx | exact Qw (Enc.clo _)) ?_ | refine Wl rfl rfl hd2 rfl (by repeat' first | exact QW | refine QF ?_ ?_ | exact Qx) (by first | exact Qx | exact Qw (Enc.clo _)) ?_ | refine Wl rfl rfl hd3 rfl (by repeat' first | exact QW | refine QF ?_ ?_ | exact Qx) (by first | exact Qx | exact Qw (Enc.clo _)) ?_ | refine WI rfl rfl ?_ | refine Wm rfl rfl ?_ | refine Qi rfl rfl rfl (by first | assumption | exact Enc.len _ | rfl) (by first | assumption | exact Enc.len _ | rfl) rfl ?_ | refine Wb rfl rfl rfl rfl (by rfl) (by rfl) (by rfl) ?_ | refine Qd rfl rfl ?_ | refine W1 rfl rfl ?_ | refine Q7 rfl rfl ?_ | refine QH (fun _ _ => ?_) | refine Qe ?_ | refine Qs rfl ?_ | refine QZ ?_ | refine WK rfl rfl rfl rfl ?_ | refine W3 rfl rfl rfl rfl ?_ | refine Wg rfl rfl (by omega) ?_ | refine Wc rfl rfl (by omega) ?_ | refine o_sp_d rfl rfl (fun _ => ?_) (fun _ => ?_) | refine Qg ?_ | refine Qa ?_ | refine Qk ?_ | refine QB rfl ?_ | refine Qo rfl ?_ | refine Qp rfl (by omega) ?_ | refine Qr rfl (by omega) ?_ | refine Qq ?_)
    all_goals
     exact e_1 (Tryd.results29) (QR (size := 4) rfl rfl rfl rfl) (c_out (sub_nd _ _ _ _) (Qy (σ := [_]) (r := [_]) ⟨rfl, rfl⟩))
end Go.Proofs
end
