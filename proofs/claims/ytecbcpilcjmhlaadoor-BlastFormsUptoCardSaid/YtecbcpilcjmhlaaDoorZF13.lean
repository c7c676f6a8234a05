/-
  Part 13 of the proof: Q3 Q4 S1 S2 AvU Y3 Y4 Y5 W0.
-/
import Derived.Test.YtecbcpilcjmhlaaDoorZF1
import Derived.Test.YtecbcpilcjmhlaaDoorZF3
import Derived.Test.YtecbcpilcjmhlaaDoorZF4
import Derived.Test.YtecbcpilcjmhlaaDoorZF5
import Derived.Test.YtecbcpilcjmhlaaDoorZF11
import Derived.Test.YtecbcpilcjmhlaaDoorZF12
set_option linter.unusedSimpArgs false
set_option linter.unusedVariables false
set_option maxRecDepth 10000
set_option maxHeartbeats 4000000
section
namespace Go.Proofs
open Go.Av
variable {G : Nat -> DV}
attribute [local irreducible] OpSem WB WQ WW ACalls Zo QY RV
open Go.Bl
theorem make_c (l : List Int) (hl : ∀ x ∈ l, Ord.I64 x) (hll : l.length <= 4611686018427387904) : ∀ (d : Nat) (kind : Int) (a : Nat) (b : Int), kind = 0 \/ kind = 1 -> a + 2 * 3 ^ (d + 1) <= 100000 -> (3 ^ (d + 1) : Nat) - 100000 <= b /\ b <= 100000 ->
  MK Tryd.prog G 29 [.i kind, .i d] l a b (.agg (Enc.enc (W6 l d kind a b).1)) (W6 l d kind a b).2.1 (W6 l d kind a b).2.2
 | 0, kind, a, b, hk, ha, hb => leaf_c l hl hll 0 kind hk a b (by omega) (by omega) (.inl rfl) (by omega)
 | d + 1, kind, a, b, hk, ha, hb => by
  have p1 : 3 ^ (d + 1 + 1) = 3 * 3 ^ (d + 1) := by rw [Nat.pow_succ 3 (d + 1)]; omega
  have p5 : 1 <= 3 ^ (d + 1) := Nat.one_le_pow _ _ (by decide)
  rw [p1] at ha hb
  have ih := make_c l hl hll d
  have ok := make_ok l d
  have e1 : ((d + 1 : Nat) : Int) - 1 = (d : Int) := by omega
  rw [<- e1] at ih
  rw [W6]
  by_cases h0 : b - 1 < 3 \/ atM l a 10 < 2
  ·rw [if_pos h0]
   exact leaf_c l hl hll ((d + 1 : Nat) : Int) kind hk a b (by omega) (by omega) (.inr ⟨by omega, h0⟩) (by omega)
  rw [if_neg h0]
  have hd9 : d + 1 < 3 ^ (d + 1) := Nat.lt_pow_self (by decide)
  have hdd : 1 <= ((d + 1 : Nat) : Int) /\ ((d + 1 : Nat) : Int) <= 100000 := ⟨by omega, by omega⟩
  have hb3 : 4 <= b /\ b <= 100000 := ⟨by omega, by omega⟩
  have hx2 : 2 <= atM l a 10 := by omega
  have hd1 := draw_c (G := G) l hl hll a (by omega) (b - 1) 10 (by decide)
  have bx := atM_bd l a (n := 10) (by decide)
  by_cases h2 : atM l a 10 = 2
  ·rw [if_pos h2]
   dsimp only
   have hx : MK Tryd.prog G 29 [.i 1, .i (((d + 1 : Nat) : Int) - 1)] l (a + 1) (b - 1) _ _ _ := ih 1 (a + 1) (b - 1) (.inr rfl) (by omega) (by omega)
   obtain ⟨_, _, x3, x4, x5⟩ := ok 1 (a + 1) (b - 1) (.inr rfl)
   generalize W6 l d 1 (a + 1) (b - 1) = x at *
   have hy := ih kind x.2.1 x.2.2 hk (by omega) (by omega)
   obtain ⟨_, _, y3, y4, y5⟩ := ok kind x.2.1 x.2.2 hk
   generalize W6 l d kind x.2.1 x.2.2 = y at *
   have hz := ih kind y.2.1 y.2.2 hk (by omega) (by omega)
   generalize W6 l d kind y.2.1 y.2.2 = z at *
   rw [h2] at hd1
   have hw : (Enc.enc (Nd.mk 29 0 0 [x.1, y.1, z.1]) : List DV).length = 4 := Enc.len _
   clear ih ok x3 x4 x5 y3 y4 y5 p1 p5 hl e1 hd9 h0 h2 hx2 ha hb bx hk
   generalize ((d + 1 : Nat) : Int) = dd at *
   intro g B hg
   refine Qc Tryd.func29 rfl Tryd.ntmps29 rfl (t := [(0, .ptr 0 g 0), (1, .i kind), (2, .i dd)]) rfl fun E hE => ?_
   (repeat' first | refine Qu rfl ?_ | refine QA rfl ?_ | refine Qb rfl rfl rfl ?_ | refine QL rfl rfl ?_ | refine ZN rfl rfl ?_ | refine QJ rfl rfl ?_ | refine qd rfl rfl (by omega) ?_ | refine Wl rfl rfl hd1 rfl (by repeat' first | exact QW | refine QF ?_ ?_ | exact Qx) (by first | exact Qx | exact Qw (Enc.clo _)) ?_ | refine Wl rfl rfl hx rfl (by repeat' first | exact QW | refine QF ?_ ?_ | exact Qx) (by first | exact Qx | exact Qw (Enc.clo _)) ?_ | refine Wl rfl rfl hy rfl (by repeat' first | exact QW | refine QF ?_ ?_ | exact Qx) (by first | exact Qx | exact Qw (Enc.clo _)) ?_ | refine Wl rfl rfl hz rfl (by repeat' first | exact QW | refine QF ?_ ?_ | exact Qx) (by first | exact Qx | exact Qw (Enc.clo _)) ?_ | refine Wm rfl rfl ?_ | refine Qi rfl rfl rfl (by first | assumption | exact Enc.len _ | rfl) (by first | assumption | exact Enc.len _ | rfl) rfl ?_ | refine Wb rfl rfl rfl rfl (by rfl) (by rfl) (by rfl) ?_ | refine Qd rfl rfl ?_ | refine Q7 rfl rfl ?_ | refine QH (fun _ _ => ?_) | refine Qe ?_ | refine Qs rfl ?_ | refine QZ ?_ | refine WK rfl rfl rfl rfl ?_ | refine Wc rfl rfl (by omega) ?_ | refine Qg ?_ | refine Qa ?_ | (refine Q0 ?_; first | (rename_i g6 h6 g12 h12; refine Wf (fun p => p.1 :: p.2.1 :: .row g12 (Enc.enc x.1) :: p.2.2) 9 [(0, true), (1, true), (2, true), (3, true), (4, true), (5, true), (6, false), (7, true), (8, false)] (by rfl) (by rfl) (by kernel_rfl) (by decide +kernel) (by decide +kernel) ⟨(_, _, _), rfl⟩ ?_) | (rename_i g6 h6 g8 h8 g9 h9; refine Wf (fun p => p.1 :: p.2.1 :: .row g8 (Enc.enc x.1) :: .row g9 (Enc.enc y.1) :: p.2.2) 9 [(0, true), (1, true), (2, true), (3, true), (4, true), (5, true), (6, false), (7, true), (8, false)] (by rfl) (by rfl) (by kernel_rfl) (by decide +kernel) (by decide +kernel) ⟨(_, _, _), rfl⟩ ?_) | (refine Wf (fun p => p.1 :: p.2.1 :: .row gnone (Qt x) :: p.2.2) 100 [(0, true)] (by rfl) (by rfl) (by kernel_rfl) (by decide +kernel) (by decide +kernel) ⟨(_, _, _), rfl⟩ ?_) | refine Q3 (by rfl) (by kernel_rfl) (by kernel_rfl) ?_ | refine QP (by kernel_rfl) (by kernel_rfl) ?_) | refine Qk ?_ | refine QB rfl ?_ | refine Qo rfl ?_ | refine Qq ?_ | refine i_nil ?_ | refine i_st rfl rfl (fun _ => (by (repeat' first | refine Qu rfl ?_ | refine Qm rfl rfl (by first | assumption | exact Enc.len _ | rfl) ?_ | refine qd rfl rfl (by omega) ?_ | refine WR rfl rfl (r20Cond_c _ _ _) (Qw (Enc.clo _)) ?_ | exact ⟨rfl, rfl⟩))) ?_ | refine i_ef rfl ?_ | refine i_ef0 ?_ | refine And.intro (Exists.intro ((_, _, _)) rfl) ?_)
   exact e_1 (Tryd.results29) (QR (size := 4) rfl rfl (QS hw) hw) (Qy (σ := [_]) (r := [_, _, _]) ⟨rfl, rfl⟩)
  rw [if_neg h2]
  by_cases h3 : kind = 1 /\ atM l a 10 = 3
  ·rw [if_pos h3]
   dsimp only
   obtain ⟨rfl, h3⟩ := h3
   have hx : MK Tryd.prog G 29 [.i 1, .i (((d + 1 : Nat) : Int) - 1)] l (a + 1) (b - 1) _ _ _ := ih 1 (a + 1) (b - 1) (.inr rfl) (by omega) (by omega)
   generalize W6 l d 1 (a + 1) (b - 1) = x at *
   rw [h3] at hd1
   have hw : (Enc.enc (Nd.mk 10 0 0 [x.1]) : List DV).length = 4 := Enc.len _
   clear ih ok p1 p5 hl e1 hd9 h0 h2 hx2 ha hb bx hk h3
   generalize ((d + 1 : Nat) : Int) = dd at *
   intro g B hg
   refine Qc Tryd.func29 rfl Tryd.ntmps29 rfl (t := [(0, .ptr 0 g 0), (1, .i 1), (2, .i dd)]) rfl fun E hE => ?_
   (repeat' first | refine Qu rfl ?_ | refine QA rfl ?_ | refine Qb rfl rfl rfl ?_ | refine QL rfl rfl ?_ | refine ZN rfl rfl ?_ | refine QJ rfl rfl ?_ | refine qd rfl rfl (by omega) ?_ | refine Wl rfl rfl hd1 rfl (by repeat' first | exact QW | refine QF ?_ ?_ | exact Qx) (by first | exact Qx | exact Qw (Enc.clo _)) ?_ | refine Wl rfl rfl hx rfl (by repeat' first | exact QW | refine QF ?_ ?_ | exact Qx) (by first | exact Qx | exact Qw (Enc.clo _)) ?_ | refine WR rfl rfl (r20Not_c _) (Qw (Enc.clo _)) ?_ | refine WI rfl rfl ?_ | refine Wm rfl rfl ?_ | refine Qi rfl rfl rfl (by first | assumption | exact Enc.len _ | rfl) (by first | assumption | exact Enc.len _ | rfl) rfl ?_ | refine Wb rfl rfl rfl rfl (by rfl) (by rfl) (by rfl) ?_ | refine Qd rfl rfl ?_ | refine Q7 rfl rfl ?_ | refine QH (fun _ _ => ?_) | refine Qe ?_ | refine Qs rfl ?_ | refine QZ ?_ | refine WK rfl rfl rfl rfl ?_ | refine Wc rfl rfl (by omega) ?_ | refine Qg ?_ | refine Qa ?_ | refine Qk ?_ | refine QB rfl ?_ | refine Qo rfl ?_ | refine Qq ?_)
   exact e_1 (Tryd.results29) (QR (size := 4) rfl rfl (QS hw) hw) (Qy (σ := [_]) (r := [_]) ⟨rfl, rfl⟩)
  rw [if_neg h3]
  have hd2 : MK Tryd.prog G 28 [.i 10] l (a + 1) (b - 1) (.i (atM l (a + 1) 10)) (a + 1 + 1) (b - 1) := draw_c (G := G) l hl hll (a + 1) (by omega) (b - 1) 10 (by decide)
  have b2 := atM_bd l (a + 1) (n := 10) (by decide)
  by_cases hk1 : kind = 1
  ·subst hk1
   rw [if_pos rfl]
   dsimp only
   have h3' : atM l a 10 ≠ 3 := fun e => h3 ⟨rfl, e⟩
   have hd3 : MK Tryd.prog G 28 [.i 4] l (a + 1 + 1) (b - 1) (.i (atM l (a + 1 + 1) 4)) (a + 1 + 1 + 1) (b - 1) := draw_c (G := G) l hl hll (a + 1 + 1) (by omega) (b - 1) 4 (by decide)
   have b4 := atM_bd l (a + 1 + 1) (n := 4) (by decide)
   rw [show a + 2 = a + 1 + 1 from rfl, show a + 3 = a + 1 + 1 + 1 from rfl]
   generalize atM l (a + 1 + 1) 4 = w at *
   by_cases h12 : 12 <= 10 + w
   ·rw [if_pos h12]
    have hx : MK Tryd.prog G 29 [.i 1, .i (((d + 1 : Nat) : Int) - 1)] l (a + 1 + 1 + 1) (b - 1) _ _ _ := ih 1 (a + 1 + 1 + 1) (b - 1) (.inr rfl) (by omega) (by omega)
    obtain ⟨_, _, x3, x4, x5⟩ := ok 1 (a + 1 + 1 + 1) (b - 1) (.inr rfl)
    generalize W6 l d 1 (a + 1 + 1 + 1) (b - 1) = x at *
    have hy := ih 1 x.2.1 x.2.2 (.inr rfl) (by omega) (by omega)
    generalize W6 l d 1 x.2.1 x.2.2 = y at *
    have hw : (Enc.enc (Nd.mk 9 (10 + w) 0 [x.1, y.1]) : List DV).length = 4 := Enc.len _
    generalize atM l a 10 = u at *
    generalize atM l (a + 1) 10 = v at *
    clear ih ok x3 x4 x5 p1 p5 hl e1 hd9 h0 ha hb hk h3
    generalize ((d + 1 : Nat) : Int) = dd at *
    intro g B hg
    refine Qc Tryd.func29 rfl Tryd.ntmps29 rfl (t := [(0, .ptr 0 g 0), (1, .i 1), (2, .i dd)]) rfl fun E hE => ?_
    (repeat' first | refine Qu rfl ?_ | refine QA rfl ?_ | refine Qb rfl rfl rfl ?_ | refine QL rfl rfl ?_ | refine ZN rfl rfl ?_ | refine Wh rfl rfl ?_ | refine QJ rfl rfl ?_ | refine Q5 rfl rfl (by omega) ?_ | refine qd rfl rfl (by omega) ?_ | refine Wl rfl rfl hd1 rfl (by repeat' first | exact QW | refine QF ?_ ?_ | exact Qx) (by first | exact Qx | exact Qw (Enc.clo _)) ?_ | refine Wl rfl rfl hd2 rfl (by repeat' first | exact QW | refine QF ?_ ?_ | exact Qx) (by first | exact Qx | exact Qw (Enc.clo _)) ?_ | refine Wl rfl rfl hd3 rfl (by repeat' first | exact QW | refine QF ?_ ?_ | exact Qx) (by first | exact Qx | exact Qw (Enc.clo _)) ?_ | refine Wl rfl rfl hx rfl (by repeat' first | exact QW | refine QF ?_ ?_ | exact Qx) (by first | exact Qx | exact Qw (Enc.clo _)) ?_ | refine Wl rfl rfl hy rfl (by repeat' first | exact QW | refine QF ?_ ?_ | exact Qx) (by first | exact Qx | exact Qw (Enc.clo _)) ?_ | refine WI rfl rfl ?_ | refine Wm rfl rfl ?_ | refine Qi rfl rfl rfl (by first | assumption | exact Enc.len _ | rfl) (by first | assumption | exact Enc.len _ | rfl) rfl ?_ | refine Wb rfl rfl rfl rfl (by rfl) (by rfl) (by rfl) ?_ | refine Qd rfl rfl ?_ | refine Q7 rfl rfl ?_ | refine QH (fun _ _ => ?_) | refine Qe ?_ | refine Qs rfl ?_ | refine QZ ?_ | refine WK rfl rfl rfl rfl ?_ | refine Wc rfl rfl (by omega) ?_ | refine Qg ?_ | refine Qa ?_ | (refine Q0 ?_; first | (rename_i g6 h6 g12 h12; refine Wf (fun p => p.1 :: p.2.1 :: .row g12 (Enc.enc x.1) :: p.2.2) 9 [(0, true), (1, true), (2, true), (3, true), (4, true), (5, true), (6, false), (7, true), (8, false)] (by rfl) (by rfl) (by kernel_rfl) (by decide +kernel) (by decide +kernel) ⟨(_, _, _), rfl⟩ ?_) | (rename_i g6 h6 g8 h8 g9 h9; refine Wf (fun p => p.1 :: p.2.1 :: .row g8 (Enc.enc x.1) :: .row g9 (Enc.enc y.1) :: p.2.2) 9 [(0, true), (1, true), (2, true), (3, true), (4, true), (5, true), (6, false), (7, true), (8, false)] (by rfl) (by rfl) (by kernel_rfl) (by decide +kernel) (by decide +kernel) ⟨(_, _, _), rfl⟩ ?_) | (refine Wf (fun p => p.1 :: p.2.1 :: .row gnone (Qt x) :: p.2.2) 100 [(0, true)] (by rfl) (by rfl) (by kernel_rfl) (by decide +kernel) (by decide +kernel) ⟨(_, _, _), rfl⟩ ?_) | refine Q3 (by rfl) (by kernel_rfl) (by kernel_rfl) ?_ | refine QP (by kernel_rfl) (by kernel_rfl) ?_) | refine Qk ?_ | refine QB rfl ?_ | refine Qp rfl (by omega) ?_ | refine Qr rfl (by omega) ?_ | refine Qq ?_ | refine i_nil ?_ | refine i_st rfl rfl (fun _ => (by (repeat' first | refine Qu rfl ?_ | refine Qm rfl rfl (by first | assumption | exact Enc.len _ | rfl) ?_ | refine qd rfl rfl (by omega) ?_ | refine WR rfl rfl (r20Bin_c _ _ _) (Qw (Enc.clo _)) ?_ | exact ⟨rfl, rfl⟩))) ?_ | refine i_ef rfl ?_ | refine i_ef0 ?_ | refine And.intro (Exists.intro ((_, _, _)) rfl) ?_)
    exact e_1 (Tryd.results29) (QR (size := 4) rfl rfl (QS hw) hw) (Qy (σ := [_]) (r := [_, _]) ⟨rfl, rfl⟩)
   ·rw [if_neg h12]
    have hx : MK Tryd.prog G 29 [.i 0, .i (((d + 1 : Nat) : Int) - 1)] l (a + 1 + 1 + 1) (b - 1) _ _ _ := ih 0 (a + 1 + 1 + 1) (b - 1) (.inl rfl) (by omega) (by omega)
    obtain ⟨_, _, x3, x4, x5⟩ := ok 0 (a + 1 + 1 + 1) (b - 1) (.inl rfl)
    generalize W6 l d 0 (a + 1 + 1 + 1) (b - 1) = x at *
    have hy := ih 0 x.2.1 x.2.2 (.inl rfl) (by omega) (by omega)
    generalize W6 l d 0 x.2.1 x.2.2 = y at *
    have hw : (Enc.enc (Nd.mk 9 (10 + w) 0 [x.1, y.1]) : List DV).length = 4 := Enc.len _
    generalize atM l a 10 = u at *
    generalize atM l (a + 1) 10 = v at *
    clear ih ok x3 x4 x5 p1 p5 hl e1 hd9 h0 ha hb hk h3
    generalize ((d + 1 : Nat) : Int) = dd at *
    intro g B hg
    refine Qc Tryd.func29 rfl Tryd.ntmps29 rfl (t := [(0, .ptr 0 g 0), (1, .i 1), (2, .i dd)]) rfl fun E hE => ?_
    (repeat' first | refine Qu rfl ?_ | refine QA rfl ?_ | refine Qb rfl rfl rfl ?_ | refine QL rfl rfl ?_ | refine ZN rfl rfl ?_ | refine Wh rfl rfl ?_ | refine QJ rfl rfl ?_ | refine Q5 rfl rfl (by omega) ?_ | refine qd rfl rfl (by omega) ?_ | refine Wl rfl rfl hd1 rfl (by repeat' first | exact QW | refine QF ?_ ?_ | exact Qx) (by first | exact Qx | exact Qw (Enc.clo _)) ?_ | refine Wl rfl rfl hd2 rfl (by repeat' first | exact QW | refine QF ?_ ?_ | exact Qx) (by first | exact Qx | exact Qw (Enc.clo _)) ?_ | refine Wl rfl rfl hd3 rfl (by repeat' first | exact QW | refine QF ?_ ?_ | exact Qx) (by first | exact Qx | exact Qw (Enc.clo _)) ?_ | refine Wl rfl rfl hx rfl (by repeat' first | exact QW | refine QF ?_ ?_ | exact Qx) (by first | exact Qx | exact Qw (Enc.clo _)) ?_ | refine Wl rfl rfl hy rfl (by repeat' first | exact QW | refine QF ?_ ?_ | exact Qx) (by first | exact Qx | exact Qw (Enc.clo _)) ?_ | refine WI rfl rfl ?_ | refine Wm rfl rfl ?_ | refine Qi rfl rfl rfl (by first | assumption | exact Enc.len _ | rfl) (by first | assumption | exact Enc.len _ | rfl) rfl ?_ | refine Wb rfl rfl rfl rfl (by rfl) (by rfl) (by rfl) ?_ | refine Qd rfl rfl ?_ | refine Q7 rfl rfl ?_ | refine QH (fun _ _ => ?_) | refine Qe ?_ | refine Qs rfl ?_ | refine QZ ?_ | refine WK rfl rfl rfl rfl ?_ | refine Wc rfl rfl (by omega) ?_ | refine Qg ?_ | refine Qa ?_ | (refine Q0 ?_; first | (rename_i g6 h6 g12 h12; refine Wf (fun p => p.1 :: p.2.1 :: .row g12 (Enc.enc x.1) :: p.2.2) 9 [(0, true), (1, true), (2, true), (3, true), (4, true), (5, true), (6, false), (7, true), (8, false)] (by rfl) (by rfl) (by kernel_rfl) (by decide +kernel) (by decide +kernel) ⟨(_, _, _), rfl⟩ ?_) | (rename_i g6 h6 g8 h8 g9 h9; refine Wf (fun p => p.1 :: p.2.1 :: .row g8 (Enc.enc x.1) :: .row g9 (Enc.enc y.1) :: p.2.2) 9 [(0, true), (1, true), (2, true), (3, true), (4, true), (5, true), (6, false), (7, true), (8, false)] (by rfl) (by rfl) (by kernel_rfl) (by decide +kernel) (by decide +kernel) ⟨(_, _, _), rfl⟩ ?_) | (refine Wf (fun p => p.1 :: p.2.1 :: .row gnone (Qt x) :: p.2.2) 100 [(0, true)] (by rfl) (by rfl) (by kernel_rfl) (by decide +kernel) (by decide +kernel) ⟨(_, _, _), rfl⟩ ?_) | refine Q3 (by rfl) (by kernel_rfl) (by kernel_rfl) ?_ | refine QP (by kernel_rfl) (by kernel_rfl) ?_) | refine Qk ?_ | refine QB rfl ?_ | refine Qr rfl (by omega) ?_ | refine Qq ?_ | refine i_nil ?_ | refine i_st rfl rfl (fun _ => (by (repeat' first | refine Qu rfl ?_ | refine Qm rfl rfl (by first | assumption | exact Enc.len _ | rfl) ?_ | refine qd rfl rfl (by omega) ?_ | refine WR rfl rfl (r20Bin_c _ _ _) (Qw (Enc.clo _)) ?_ | exact ⟨rfl, rfl⟩))) ?_ | refine i_ef rfl ?_ | refine i_ef0 ?_ | refine And.intro (Exists.intro ((_, _, _)) rfl) ?_)
    exact e_1 (Tryd.results29) (QR (size := 4) rfl rfl (QS hw) hw) (Qy (σ := [_]) (r := [_, _]) ⟨rfl, rfl⟩)
  ·have hk0 : kind = 0 := by omega
   subst hk0
   rw [if_neg (by decide)]
   dsimp only
   rw [show a + 2 = a + 1 + 1 from rfl]
   have hx : MK Tryd.prog G 29 [.i 0, .i (((d + 1 : Nat) : Int) - 1)] l (a + 1 + 1) (b - 1) _ _ _ := ih 0 (a + 1 + 1) (b - 1) (.inl rfl) (by omega) (by omega)
   obtain ⟨_, _, x3, x4, x5⟩ := ok 0 (a + 1 + 1) (b - 1) (.inl rfl)
   generalize W6 l d 0 (a + 1 + 1) (b - 1) = x at *
   have hy := ih 0 x.2.1 x.2.2 (.inl rfl) (by omega) (by omega)
   generalize W6 l d 0 x.2.1 x.2.2 = y at *
   generalize atM l a 10 = u at *
   generalize atM l (a + 1) 10 = v at *
   have hw : (Enc.enc (Nd.mk 9 v 0 [x.1, y.1]) : List DV).length = 4 := Enc.len _
   clear ih ok x3 x4 x5 p1 p5 hl e1 hd9 h0 ha hb hk h3
   generalize ((d + 1 : Nat) : Int) = dd at *
   intro g B hg
   refine Qc Tryd.func29 rfl Tryd.ntmps29 rfl (t := [(0, .ptr 0 g 0), (1, .i 0), (2, .i dd)]) rfl fun E hE => ?_
   (repeat' first | refine Qu rfl ?_ | refine QA rfl ?_ | refine Qb rfl rfl rfl ?_ | refine QL rfl rfl ?_ | refine ZN rfl rfl ?_ | refine QJ rfl rfl ?_ | refine qd rfl rfl (by omega) ?_ | refine Wl rfl rfl hd1 rfl (by repeat' first | exact QW | refine QF ?_ ?_ | exact Qx) (by first | exact Qx | exact Qw (Enc.clo _)) ?_ | refine Wl rfl rfl hd2 rfl (by repeat' first | exact QW | refine QF ?_ ?_ | exact Qx) (by first | exact Qx | exact Qw (Enc.clo _)) ?_ | refine Wl rfl rfl hx rfl (by repeat' first | exact QW | refine QF ?_ ?_ | exact Qx) (by first | exact Qx | exact Qw (Enc.clo _)) ?_ | refine Wl rfl rfl hy rfl (by repeat' first | exact QW | refine QF ?_ ?_ | exact Qx) (by first | exact Qx | exact Qw (Enc.clo _)) ?_ | refine Wm rfl rfl ?_ | refine Qi rfl rfl rfl (by first | assumption | exact Enc.len _ | rfl) (by first | assumption | exact Enc.len _ | rfl) rfl ?_ | refine Wb rfl rfl rfl rfl (by rfl) (by rfl) (by rfl) ?_ | refine Qd rfl rfl ?_ | refine Q7 rfl rfl ?_ | refine QH (fun _ _ => ?_) | refine Qe ?_ | refine Qs rfl ?_ | refine QZ ?_ | refine WK rfl rfl rfl rfl ?_ | refine W3 rfl rfl rfl rfl ?_ | refine Wc rfl rfl (by omega) ?_ | refine Qg ?_ | refine Qa ?_ | (refine Q0 ?_; first | (rename_i g6 h6 g12 h12; refine Wf (fun p => p.1 :: p.2.1 :: .row g12 (Enc.enc x.1) :: p.2.2) 9 [(0, true), (1, true), (2, true), (3, true), (4, true), (5, true), (6, false), (7, true), (8, false)] (by rfl) (by rfl) (by kernel_rfl) (by decide +kernel) (by decide +kernel) ⟨(_, _, _), rfl⟩ ?_) | (rename_i g6 h6 g8 h8 g9 h9; refine Wf (fun p => p.1 :: p.2.1 :: .row g8 (Enc.enc x.1) :: .row g9 (Enc.enc y.1) :: p.2.2) 9 [(0, true), (1, true), (2, true), (3, true), (4, true), (5, true), (6, false), (7, true), (8, false)] (by rfl) (by rfl) (by kernel_rfl) (by decide +kernel) (by decide +kernel) ⟨(_, _, _), rfl⟩ ?_) | (refine Wf (fun p => p.1 :: p.2.1 :: .row gnone (Qt x) :: p.2.2) 100 [(0, true)] (by rfl) (by rfl) (by kernel_rfl) (by decide +kernel) (by decide +kernel) ⟨(_, _, _), rfl⟩ ?_) | refine Q3 (by rfl) (by kernel_rfl) (by kernel_rfl) ?_ | refine QP (by kernel_rfl) (by kernel_rfl) ?_) | refine Qk ?_ | refine Qo rfl ?_ | refine Qr rfl (by omega) ?_ | refine Qq ?_ | refine i_nil ?_ | refine i_st rfl rfl (fun _ => (by (repeat' first | refine Qu rfl ?_ | refine Qm rfl rfl (by first | assumption | exact Enc.len _ | rfl) ?_ | refine qd rfl rfl (by omega) ?_ | refine WR rfl rfl (r20Bin_c _ _ _) (Qw (Enc.clo _)) ?_ | exact ⟨rfl, rfl⟩))) ?_ | refine i_ef rfl ?_ | refine i_ef0 ?_ | refine And.intro (Exists.intro ((_, _, _)) rfl) ?_)
   exact e_1 (Tryd.results29) (QR (size := 4) rfl rfl (QS hw) hw) (Qy (σ := [_]) (r := [_, _]) ⟨rfl, rfl⟩)
theorem termsTo_ok (l : List Int) : ∀ i : Nat, (WZ l i).1.length = i /\ (∀ t ∈ (WZ l i).1, Tt t 1 /\ Con F4 t /\ QI t <= 40) /\ (WZ l i).2 <= 1 + 162 * i
 | 0 => ⟨rfl, fun t h => (by cases h), Nat.le_refl 1⟩
 | i + 1 => by
  obtain ⟨h1, h2, h3⟩ := termsTo_ok l i
  obtain ⟨m1, m2, m3, m4, m5⟩ := make_ok l 3 1 (WZ l i).2 9 (.inr rfl)
  rw [WZ]
  generalize W6 l 3 1 (WZ l i).2 9 = x at *
  refine ⟨by simp [h1], fun t ht => ?_, by show x.2.1 <= _; omega⟩
  have ht : t ∈ (WZ l i).1 ++ [x.1] := ht
  rcases List.mem_append.1 ht with ht | ht
  ·exact h2 t ht
  ·rw [List.mem_singleton.1 ht]; exact ⟨m1, m2, by omega⟩
theorem terms_c (l : List Int) (hl : ∀ x ∈ l, Ord.I64 x) (hll : l.length <= 4611686018427387904) : Own Tryd.prog G 8 [QG l] (termsM l).length (Enc.es Nd) (Qt (termsM l)) := fun B => by
 have hd1 : MK Tryd.prog G 28 [.i 4] l 0 0 (.i (atM l 0 4)) (0 + 1) 0 := draw_c (G := G) l hl hll 0 (by omega) 0 4 (by decide)
 have bn := atM_bd l 0 (n := 4) (by decide)
 have hT : termsM l = (WZ l (atM l 0 4).toNat).1 := rfl
 rw [hT]
 generalize atM l 0 4 = nn at *
 refine Qc Tryd.func8 rfl Tryd.ntmps8 rfl (t := [(0, QG l)]) rfl fun E hE => ?_
 (repeat' first | refine Qu rfl ?_ | refine QA rfl ?_ | refine Wl rfl rfl hd1 rfl (by repeat' first | exact QW | refine QF ?_ ?_ | exact Qx) (by first | exact Qx | exact Qw (Enc.clo _)) ?_ | refine W1 rfl rfl ?_ | refine QU rfl rfl (fun _ _ => ?_) | refine Qe ?_ | refine Qs rfl ?_ | refine Qg ?_ | refine Qa ?_ | refine Qf ?_)
 rename_i g hg
 refine r_own 4 4 rfl fun g0 hg0 => ?_
 refine qC (fun (i : Nat) gt => ⟨[(0, QG l), (3, .ptr 0 g 0), (5, .i nn), (6, .i i), (4, .ref 1 gt 0 (WZ l i).1.length 4)], [.row g [QG l, .i (WZ l i).2, .i (if i = 0 then 0 else (W6 l 3 1 (WZ l (i - 1)).2 9).2.2)], .row gt (Qt (WZ l i).1)]⟩) (fun i => (i : Int) <= nn) (fun i => 4 - i) 0 g0 hg0 ?_ (by omega) ?_
 ·exact zal rfl
 intro i gt hi hgt
 obtain ⟨o1, o2, o3⟩ := termsTo_ok l i
 (repeat' first | refine Qu rfl ?_ | refine QL rfl rfl ?_ | refine Qe ?_ | refine Qs rfl ?_ | refine Qg ?_ | refine Qa ?_)
 refine QE rfl (fun h => ?_) (fun h => ?_)
 ·have hs1 : WZ l (i + 1) = ((WZ l i).1 ++ [(W6 l 3 1 (WZ l i).2 9).1], (W6 l 3 1 (WZ l i).2 9).2.1) := rfl
  have hx := make_c (G := G) l hl hll 3 1 (WZ l i).2 9 (.inr rfl) (by omega) (by omega)
  have hb2 : (if i + 1 = 0 then (0 : Int) else (W6 l 3 1 (WZ l (i + 1 - 1)).2 9).2.2) = (W6 l 3 1 (WZ l i).2 9).2.2 := by rw [if_neg (by omega), Nat.add_sub_cancel]
  generalize hm : W6 l 3 1 (WZ l i).2 9 = x at *
  obtain ⟨⟨k, n, m, ks⟩, a', b'⟩ := x
  change MK Tryd.prog G 29 _ _ _ _ (.agg [.i k, .i n, .i m, .sl 4 (cellsL ks)]) _ _ at hx
  generalize (if i = 0 then (0 : Int) else (W6 l 3 1 (WZ l (i - 1)).2 9).2.2) = bb at *
  clear hm o2
  generalize WZ l i = q at *
  (repeat' first | refine Qu rfl ?_ | refine QA rfl ?_ | refine Q5 rfl rfl (by omega) ?_ | refine Wl rfl rfl hx rfl (by repeat' first | exact QW | refine QF ?_ ?_ | exact Qx) (by repeat' first | exact Qx | exact We (cellsL_clo _) | refine Qw ?_ | exact QW | refine QF ?_ ?_) ?_ | refine Z5 (z := (Nd.mk k n m ks)) rfl rfl rfl rfl rfl rfl rfl (by first | omega | (simp; omega)) (by first | omega | (simp; omega)) (fun _ => rfl) (fun _ _ => ?_) | refine Wb rfl rfl rfl rfl (by rfl) (by rfl) (by rfl) ?_ | refine Qd rfl rfl ?_ | refine Wi rfl rfl (by decide) rfl ?_ | refine Q7 rfl rfl ?_ | refine Qe ?_ | refine Qs rfl ?_ | refine QZ ?_ | refine Qg ?_ | refine Qa ?_ | refine Qf ?_ | refine Qk ?_)
  rename_i g5 hg5
  refine ⟨i + 1, g5, by omega, by omega, by omega, ?_⟩
  rw [hs1, hb2]
  exact zal rfl
 ·have hn : nn.toNat = i := by omega
  rw [hn]
  (repeat' first | refine Qu rfl ?_ | refine QA rfl ?_ | refine Qe ?_ | refine Qs rfl ?_ | refine Qg ?_ | refine Qa ?_ | refine Q2 rfl ?_ | refine Qq ?_)
  exact e_1 Tryd.results8 (Qh rfl) (c_ownedB hE rfl rfl rfl rfl)
theorem termsM_ok (l : List Int) : Lot F4 (termsM l) /\ (termsM l).length <= 3 /\ QN (termsM l) <= 120 := by
 have bn := atM_bd l 0 (n := 4) (by decide)
 obtain ⟨h1, h2, _⟩ := termsTo_ok l (atM l 0 4).toNat
 have hs : ∀ ts : List Nd, (∀ t ∈ ts, QI t <= 40) -> QN ts <= 40 * ts.length := fun ts => by
  induction ts with
  | nil => intro _; exact Nat.le_refl _
  | cons x r ih =>
   intro h
   have a1 := h x (by simp)
   have a2 := ih fun t ht => h t (by simp [ht])
   rw [QN, List.length_cons]; omega
 have h3 := hs _ fun t ht => (h2 t ht).2.2
 unfold termsM
 exact ⟨⟨fun t ht => (h2 t ht).1, fun t ht => (h2 t ht).2.1, by omega, by omega⟩, by omega, by omega⟩
theorem sizeL_app (a b : List Nd) : QN (a ++ b) = QN a + QN b := by
 induction a with
 | nil => simp [QN]
 | cons x r ih => rw [List.cons_append, QN, QN, ih]; omega
theorem Zf : ∀ ts : List Nd, ts.length <= QN ts
 | [] => Nat.le_refl _
 | x :: r => by
  have := Zf r
  have := sizeN_pos x
  rw [QN, List.length_cons]; omega
theorem size_c (t : Nd) : QI t <= 4000000 -> Go.Av.Pure Tryd.prog G 35 [.agg (Enc.enc t)] (.i (QI t)) := by
 induction t using Nd.ind with
 | h k n m ks ih =>
 intro hsz B
 have hse : QI (.mk k n m ks) = 1 + QN ks := by rw [QI]
 rw [hse] at hsz ⊢
 have hln := Zf ks
 have hi : ∀ x ∈ ks, Go.Av.Pure Tryd.prog G 35 [.agg (Enc.enc x)] (.i (QI x)) := fun x hx => ih x hx (by have := WT hx; omega)
 rw [Q9]
 refine Qc Tryd.func35 rfl Tryd.ntmps35 rfl (t := [(0, .agg [.i k, .i n, .i m, QG ks])]) rfl fun E hE => ?_
 (repeat' first | refine QA rfl ?_ | refine QU rfl rfl (fun _ _ => ?_) | refine Qe ?_ | refine Qs rfl ?_ | refine Qg ?_ | refine Qa ?_ | refine Qf ?_)
 rename_i g1 hg1
 refine Wv (fun (i : Nat) => ⟨[(1, .ptr 0 g1 0), (3, .i ((1 + QN (ks.take i) : Nat) : Int)), (4, .i i)], [.row g1 [.i k, .i n, .i m, QG ks]]⟩) (fun i => i <= ks.length) (fun i => ks.length - i) 0 ?_ (by omega) ?_
 ·exact zal rfl
 intro i hi2
 (repeat' first | refine Qu rfl ?_ | refine Qb rfl rfl rfl ?_ | refine QL rfl rfl ?_ | refine Qj rfl ?_ | refine Qd rfl rfl ?_ | refine Qe ?_ | refine Qs rfl ?_ | refine Qg ?_ | refine Qa ?_)
 refine QE rfl (fun h => ?_) (fun h => ?_)
 ·have hj : i < ks.length := by omega
  have hsu := sizeL_take ks i hj
  have hle := Zu ks i
  have hle2 := Zu ks (i + 1)
  have e1 : ((1 + QN (ks.take (i + 1)) : Nat) : Int) = ((1 + QN (ks.take i) : Nat) : Int) + (QI ks[i] : Int) := by omega
  clear ih
  (repeat' first | refine Qu rfl ?_ | refine QA rfl ?_ | refine QC rfl ?_ | refine Qb rfl rfl rfl ?_ | refine Ql rfl rfl (by first | assumption | omega | (simp; done) | (simp; omega)) ?_ | refine Q5 rfl rfl (by omega) ?_ | refine Wa rfl rfl (hi _ (List.getElem_mem hj)) ?_ | refine Qd rfl rfl ?_ | refine Qe ?_ | refine Qs rfl ?_ | refine Qg ?_ | refine Qa ?_ | refine Qf ?_ | refine Qk ?_)
  refine ⟨i + 1, by omega, by omega, ?_⟩
  rw [e1]
  exact zal rfl
 ·have hj : i = ks.length := by omega
  subst hj
  rw [List.take_length]
  (repeat' first | refine Qu rfl ?_ | refine QA rfl ?_ | refine Qe ?_ | refine Qs rfl ?_ | refine Qg ?_ | refine Qa ?_ | refine Q2 rfl ?_ | refine Qq ?_)
  exact e_1 (Tryd.results35) (Qh rfl) (Qy (σ := []) (r := [_]) ⟨rfl, rfl⟩)
theorem nodesCnt_c (ts : List Nd) (hsz : QN ts <= 4000000) : Go.Av.Pure Tryd.prog G 11 [QG ts] (.i (QN ts)) := fun B => by
 have hln := Zf ts
 have hi : ∀ x ∈ ts, Go.Av.Pure Tryd.prog G 35 [.agg (Enc.enc x)] (.i (QI x)) := fun x hx => size_c x (by have := WT hx; omega)
 refine Qc Tryd.func11 rfl Tryd.ntmps11 rfl (t := [(0, QG ts)]) rfl fun E hE => ?_
 (repeat' first | refine QA rfl ?_ | refine Qe ?_ | refine Qs rfl ?_ | refine Qg ?_ | refine Qa ?_ | refine Qf ?_)
 refine Wv (fun (i : Nat) => ⟨[(0, QG ts), (3, .i ((QN (ts.take i) : Nat) : Int)), (4, .i i)], []⟩) (fun i => i <= ts.length) (fun i => ts.length - i) 0 ?_ (by omega) ?_
 ·exact zal rfl
 intro i hi2
 (repeat' first | refine Qu rfl ?_ | refine QL rfl rfl ?_ | refine Qj rfl ?_ | refine Qe ?_ | refine Qs rfl ?_ | refine Qg ?_ | refine Qa ?_)
 refine QE rfl (fun h => ?_) (fun h => ?_)
 ·have hj : i < ts.length := by omega
  have hsu := sizeL_take ts i hj
  have hle := Zu ts i
  have hle2 := Zu ts (i + 1)
  have e1 : ((QN (ts.take (i + 1)) : Nat) : Int) = ((QN (ts.take i) : Nat) : Int) + (QI ts[i] : Int) := by omega
  (repeat' first | refine Qu rfl ?_ | refine QA rfl ?_ | refine QC rfl ?_ | refine Ql rfl rfl (by first | assumption | omega | (simp; done) | (simp; omega)) ?_ | refine Q5 rfl rfl (by omega) ?_ | refine Wa rfl rfl (hi _ (List.getElem_mem hj)) ?_ | refine Qe ?_ | refine Qs rfl ?_ | refine Qg ?_ | refine Qa ?_ | refine Qf ?_ | refine Qk ?_)
  refine ⟨i + 1, by omega, by omega, ?_⟩
  rw [e1]
  exact zal rfl
 ·have hj : i = ts.length := by omega
  subst hj
  rw [List.take_length]
  (repeat' first | refine Qu rfl ?_ | refine QA rfl ?_ | refine Qe ?_ | refine Qs rfl ?_ | refine Qg ?_ | refine Qa ?_ | refine Q2 rfl ?_ | refine Qq ?_)
  refine e_1 Tryd.results11 (Qh rfl) (QD ?_)
  rfl
mutual
def Ze : Nd -> List Nd
 | .mk k n m ks => (if k = 6 then [.mk k n m ks] else []) ++ W9 ks
def W9 : List Nd -> List Nd
 | [] => []
 | x :: r => Ze x ++ W9 r
end
theorem nodesL_app (a b : List Nd) : W9 (a ++ b) = W9 a ++ W9 b := by
 induction a with
 | nil => rfl
 | cons x r ih => rw [List.cons_append, W9, W9, ih, List.append_assoc]
mutual
theorem nodesN_len : ∀ t : Nd, (Ze t).length <= QI t
 | .mk k n m ks => by
  have := nodesL_len ks
  rw [Ze, QI, List.length_append]
  split
  ·simp; omega
  ·simp; omega
theorem nodesL_len : ∀ ts : List Nd, (W9 ts).length <= QN ts
 | [] => Nat.le_refl _
 | x :: r => by
  have := nodesN_len x
  have := nodesL_len r
  rw [W9, QN, List.length_append]; omega
end
theorem nodesL_take {ks : List Nd} {i : Nat} (h : i < ks.length) : W9 (ks.take (i + 1)) = W9 (ks.take i) ++ Ze ks[i] := by
 rw [List.take_succ_eq_append_getElem h, nodesL_app, W9, W9, List.append_nil]
theorem sl_nd1 (k n m : Int) (ks : List Nd) : DV.sl 4 [.i k, .i n, .i m, QG ks] = QG [Nd.mk k n m ks] := by
 show _ = DV.sl 4 (Qt [Nd.mk k n m ks])
 rw [WM, Q9]; rfl
theorem nodes_c (t : Nd) : QI t <= 100000 -> Own Tryd.prog G 73 [.agg (Enc.enc t)] (Ze t).length (Enc.es Nd) (Qt (Ze t)) := by
 induction t using Nd.ind with
 | h k n m ks ih =>
 intro hsz B
 have hse : QI (.mk k n m ks) = 1 + QN ks := by rw [QI]
 rw [hse] at hsz
 have hln := Zf ks
 have hi : ∀ x ∈ ks, Go.Av.Pure Tryd.prog G 73 [.agg (Enc.enc x)] (QG (Ze x)) := fun x hx => (ih x hx (by have := WT hx; omega)).read
 clear ih
 show ACalls Tryd.prog G B 73 [.agg [.i k, .i n, .i m, .sl 4 (cellsL ks)]] [] _
 obtain ⟨pre, hpre⟩ : ∃ pre, pre = (if k = 6 then [Nd.mk k n m ks] else []) := ⟨_, rfl⟩
 have hN : Ze (.mk k n m ks) = pre ++ W9 ks := by rw [Ze, hpre]
 have hpl : pre.length <= 1 := by rw [hpre]; split <;> simp
 rw [hN, cellsL_eq]
 change ACalls Tryd.prog G B 73 [.agg [.i k, .i n, .i m, QG ks]] [] _
 have hnl := nodesL_len ks
 by_cases h6 : k = 6
 all_goals
  refine Qc Tryd.func73 rfl Tryd.ntmps73 rfl (t := [(0, .agg [.i k, .i n, .i m, QG ks])]) rfl fun E hE => ?_
  (repeat' first | refine Qu rfl ?_ | refine QA rfl ?_ | refine Qm rfl rfl (by first | assumption | exact Enc.len _ | rfl) ?_ | refine Qb rfl rfl rfl ?_ | refine QJ rfl rfl ?_ | refine s_app_n (xs := [Nd.mk k n m ks]) rfl rfl (sl_nd1 k n m ks) rfl (by simp) (by simp) (fun _ _ => ?_) | refine Qd rfl rfl ?_ | refine Wi rfl rfl (by decide) rfl ?_ | refine QU rfl rfl (fun _ _ => ?_) | refine Qe ?_ | refine Qs rfl ?_ | refine Qg ?_ | refine Qa ?_ | refine Qf ?_ | refine Qk ?_ | refine Qp rfl (by omega) ?_ | refine Qr rfl (by omega) ?_)
 all_goals (first | (rename_i g1 hg1 g3 hg3; rw [if_pos h6] at hpre) | (rename_i g1 hg1; refine r_own 3 4 rfl fun g3 hg3 => ?_; rw [if_neg h6] at hpre))
 all_goals
  refine qC (fun (i : Nat) g => ⟨[(1, .ptr 0 g1 0), (3, .ref 1 g 0 (pre ++ W9 (ks.take i)).length 4), (4, .i i)], [.row g1 [.i k, .i n, .i m, QG ks], .row g (Qt (pre ++ W9 (ks.take i)))]⟩) (fun i => i <= ks.length) (fun i => ks.length - i) 0 g3 hg3 ?_ (by omega) ?_
  ·rw [hpre]
   exact zal rfl
  intro i g hi2 hg
  (repeat' first | refine Qu rfl ?_ | refine Qb rfl rfl rfl ?_ | refine QL rfl rfl ?_ | refine Qj rfl ?_ | refine Qd rfl rfl ?_ | refine Qe ?_ | refine Qs rfl ?_ | refine Qg ?_ | refine Qa ?_)
  refine QE rfl (fun h => ?_) (fun h => ?_)
  ·have hj : i < ks.length := by omega
   have hsu := nodesL_take hj
   have hl1 := nodesL_len (ks.take i)
   have hl2 := Zu ks i
   have hl3 := nodesN_len ks[i]
   have hl4 := WT (List.getElem_mem hj)
   clear hN
   generalize W9 (ks.take i) = acc at *
   (repeat' first | refine Qu rfl ?_ | refine QA rfl ?_ | refine QC rfl ?_ | refine Qb rfl rfl rfl ?_ | refine Ql rfl rfl (by first | assumption | omega | (simp; done) | (simp; omega)) ?_ | refine Q5 rfl rfl (by omega) ?_ | refine s_app_r (xs := Ze ks[i]) rfl rfl rfl rfl rfl rfl rfl (by simp; omega) (by simp; omega) (fun _ => rfl) (fun _ _ => ?_) | refine Wa rfl rfl (hi _ (List.getElem_mem hj)) ?_ | refine Qd rfl rfl ?_ | refine Qe ?_ | refine Qs rfl ?_ | refine Qg ?_ | refine Qa ?_ | refine Qf ?_ | refine Qk ?_)
   rename_i g5 hg5
   refine ⟨i + 1, g5, by omega, by omega, by omega, ?_⟩
   rw [hsu, <- List.append_assoc]
   exact zal rfl
  ·have hj : i = ks.length := by omega
   subst hj
   rw [List.take_length]
   (repeat' first | refine Qu rfl ?_ | refine QA rfl ?_ | refine Qe ?_ | refine Qs rfl ?_ | refine Qg ?_ | refine Qa ?_ | refine Q2 rfl ?_ | refine Qq ?_)
   exact e_1 Tryd.results73 (Qh rfl) (c_ownedB hE rfl rfl rfl rfl)
def ndN : Nd -> Int
 | .mk _ n _ _ => n
theorem enc_drop1 (t : Nd) : (Enc.enc t : List DV).drop 1 = .i (ndN t) :: (Enc.enc t : List DV).drop 2 := by cases t; rfl
def allTo (L : List Nd) : Nat -> List Int
 | 0 => []
 | i + 1 => if L.any (fun x => decide (ndN x = i)) = true then allTo L i ++ [(i : Int)] else allTo L i
theorem allTo_len (L : List Nd) : ∀ i, (allTo L i).length <= i
 | 0 => Nat.le_refl _
 | i + 1 => by
  have := allTo_len L i
  rw [allTo]; split
  ·rw [List.length_append, List.length_singleton]; omega
  ·omega
theorem any_succ {L : List Nd} {q : Nat} (h : q < L.length) (x : Int) : ((L.take (q + 1)).any fun y => decide (ndN y = x)) = (((L.take q).any fun y => decide (ndN y = x)) || decide (ndN L[q] = x)) := by
 rw [List.take_succ_eq_append_getElem h, List.any_append, List.any_cons, List.any_nil, Bool.or_false]
theorem vars_c (t : Nd) (hsz : QI t <= 100000) : Own Tryd.prog G 74 [.agg (Enc.enc t)] (allTo (Ze t) 64).length 1 (Qt (allTo (Ze t) 64)) := fun B => by
 have hn := (nodes_c (G := G) t hsz).read
 have hnl := nodesN_len t
 have hln : (Ze t).length <= 100000 := by omega
 clear hnl
 generalize Ze t = L at *
 refine Qc Tryd.func74 rfl Tryd.ntmps74 rfl (t := [(0, .agg (Enc.enc t))]) rfl fun E hE => ?_
 (repeat' first | refine QA rfl ?_ | refine Qm rfl rfl (by first | assumption | exact Enc.len _ | rfl) ?_ | refine Wa rfl rfl (hn) ?_ | refine QU rfl rfl (fun _ _ => ?_) | refine Qe ?_ | refine Qs rfl ?_ | refine Qg ?_ | refine Qa ?_ | refine Qf ?_)
 rename_i g1 hg1
 refine r_own 4 1 rfl fun g0 hg0 => ?_
 refine qC (fun (i : Nat) g => ⟨[(3, QG L), (4, .ref 1 g 0 (allTo L i).length 1), (5, .i i)], [.row g1 (Enc.enc t), .row g (Qt (allTo L i))]⟩) (fun i => i <= 64) (fun i => 64 - i) 0 g0 hg0 ?_ (by omega) ?_
 ·exact zal rfl
 intro i g hi hg
 have hal := allTo_len L i
 (repeat' first | refine Qu rfl ?_ | refine QL rfl rfl ?_ | refine Qe ?_ | refine Qs rfl ?_ | refine Qg ?_ | refine Qa ?_)
 refine QE rfl (fun h => ?_) (fun h => ?_)
 ·have hi64 : i < 64 := by omega
  have hsu : allTo L (i + 1) = if L.any (fun x => decide (ndN x = i)) = true then allTo L i ++ [(i : Int)] else allTo L i := rfl
  generalize allTo L i = acc at *
  (repeat' first | refine QA rfl ?_ | refine Qe ?_ | refine Qs rfl ?_ | refine Qg ?_ | refine Qa ?_ | refine Qf ?_ | refine Qk ?_)
  refine Wv (fun q : Nat => ⟨[(3, QG L), (4, .ref 1 g 0 acc.length 1), (5, .i i), (6, .b ((L.take q).any fun y => decide (ndN y = i))), (7, .i q)], [.row g1 (Enc.enc t), .row g (Qt acc)]⟩) (fun q => q <= L.length) (fun q => L.length - q) 0 ?_ (by omega) ?_
  ·exact zal rfl
  intro q hq
  (repeat' first | refine Qu rfl ?_ | refine QL rfl rfl ?_ | refine Qj rfl ?_ | refine Qe ?_ | refine Qs rfl ?_ | refine Qg ?_ | refine Qa ?_)
  refine QE rfl (fun h => ?_) (fun h => ?_)
  ·have hj : q < L.length := by omega
   have hs2 := any_succ hj (i : Int)
   cases hb : ((L.take q).any fun y => decide (ndN y = i)) with
   | true =>
    (repeat' first | refine Qu rfl ?_ | refine QA rfl ?_ | refine Q5 rfl rfl (by omega) ?_ | refine WI rfl rfl ?_ | refine Qe ?_ | refine Qs rfl ?_ | refine W3 rfl rfl rfl rfl ?_ | refine Qg ?_ | refine Qa ?_ | refine Qf ?_ | refine Qk ?_)
    refine ⟨q + 1, hj, by omega, ?_⟩
    rw [hs2, hb]
    exact zal rfl
   | false =>
    (repeat' first | refine Qu rfl ?_ | refine QA rfl ?_ | refine Qv rfl ?_ | refine Ql rfl rfl (by first | assumption | omega | (simp; done) | (simp; omega)) ?_ | refine QJ rfl rfl ?_ | refine Q5 rfl rfl (by omega) ?_ | refine Wm rfl rfl ?_ | refine s_fld_ep rfl (enc_drop1 _) ?_ | refine Qe ?_ | refine Qs rfl ?_ | refine WK rfl rfl rfl rfl ?_ | refine Qg ?_ | refine Qa ?_ | refine Qf ?_ | refine Qk ?_)
    refine ⟨q + 1, hj, by omega, ?_⟩
    rw [hs2, hb]
    exact zal rfl
  ·have hq : q = L.length := by omega
   subst hq
   rw [List.take_length]
   cases hb : (L.any fun y => decide (ndN y = i)) with
   | true =>
    rw [hb, if_pos rfl] at hsu
    (repeat' first | refine Qu rfl ?_ | refine QA rfl ?_ | refine Q5 rfl rfl (by omega) ?_ | refine Z5 rfl rfl rfl rfl rfl rfl rfl (by first | omega | (simp; omega)) (by first | omega | (simp; omega)) (fun _ => rfl) (fun _ _ => ?_) | refine Wi rfl rfl (by decide) rfl ?_ | refine Qe ?_ | refine Qs rfl ?_ | refine Qg ?_ | refine Qa ?_ | refine QB rfl ?_ | refine Q2 rfl ?_)
    rename_i g5 hg5
    refine ⟨i + 1, g5, by omega, by omega, by omega, ?_⟩
    rw [hsu]
    exact zal rfl
   | false =>
    rw [hb, if_neg (by simp)] at hsu
    (repeat' first | refine Qu rfl ?_ | refine QA rfl ?_ | refine Q5 rfl rfl (by omega) ?_ | refine Qe ?_ | refine Qs rfl ?_ | refine Qg ?_ | refine Qa ?_ | refine Qk ?_ | refine Qo rfl ?_ | refine Q2 rfl ?_)
    refine ⟨i + 1, g, by omega, by omega, by omega, ?_⟩
    rw [hsu]
    exact zal rfl
 ·have hi : i = 64 := by omega
  subst hi
  (repeat' first | refine Qu rfl ?_ | refine QA rfl ?_ | refine Qe ?_ | refine Qs rfl ?_ | refine Qg ?_ | refine Qa ?_ | refine Q2 rfl ?_ | refine Qq ?_)
  exact e_1 Tryd.results74 (Qh rfl) (c_ownedB hE rfl rfl rfl rfl)
theorem vars_nd (ts : List Nd) (hsz : QN ts <= 99999) : Go.Av.Pure Tryd.prog G 74 [.agg [.i 0, .i 0, .i 0, QG ts]] (QG (allTo (W9 ts) 64)) := by
 have h := (vars_c (G := G) (.mk 0 0 0 ts) (by rw [QI]; omega)).read
 rw [Q9, Ze, if_neg (by decide), List.nil_append] at h
 exact h
theorem all_c (ts : List Nd) (hsz : QN ts <= 99999) : Go.Av.Pure Tryd.prog G 45 [QG ts] (QG (allTo (W9 ts) 64)) := fun B => by
 have hv := vars_nd (G := G) ts hsz
 refine Qc Tryd.func45 rfl Tryd.ntmps45 rfl (t := [(0, QG ts)]) rfl fun E hE => ?_
 (repeat' first | refine Qu rfl ?_ | refine QA rfl ?_ | refine Wa rfl rfl (hv) ?_ | refine W1 rfl rfl ?_ | refine Qe ?_ | refine Qs rfl ?_ | refine Qg ?_ | refine Qa ?_ | refine Qq ?_)
 refine e_1 Tryd.results45 (Qh rfl) (QD ?_)
 rfl
mutual
def kindN : Nd -> Int -> Int
 | .mk k n m ks, x => if k = 6 /\ n = x then m else kindL ks x
def kindL : List Nd -> Int -> Int
 | [], _ => -1
 | t :: r, x => if 0 <= kindN t x then kindN t x else kindL r x
end
theorem kindL_take {ks : List Nd} {x : Int} : ∀ {i : Nat}, (∀ j (h : j < ks.length), j < i -> kindN ks[j] x < 0) -> kindL ks x = kindL (ks.drop i) x := fun {i} h => by
 induction i generalizing ks with
 | zero => rfl
 | succ i ih =>
  cases ks with
  | nil => rfl
  | cons t r =>
   have := h 0 (by simp) (by omega)
   rw [kindL, if_neg (by simpa using this), List.drop_succ_cons]
   exact ih fun j hj hji => h (j + 1) (by simpa using hj) (by omega)
theorem kindL_at {ks : List Nd} {x : Int} {i : Nat} (hi : i < ks.length) (h : ∀ j (h : j < ks.length), j < i -> kindN ks[j] x < 0) (h0 : 0 <= kindN ks[i] x) : kindL ks x = kindN ks[i] x := by
 rw [kindL_take h, List.drop_eq_getElem_cons hi, kindL, if_pos h0]
theorem kindL_none {ks : List Nd} {x : Int} (h : ∀ j (h : j < ks.length), kindN ks[j] x < 0) : kindL ks x = -1 := by
 rw [kindL_take (i := ks.length) fun j hj _ => h j hj, List.drop_length, kindL]
theorem kind_c (x : Int) (t : Nd) : QI t <= 100000 -> Go.Av.Pure Tryd.prog G 75 [.agg (Enc.enc t), .i x] (.i (kindN t x)) := by
 induction t using Nd.ind with
 | h k n m ks ih =>
 intro hsz B
 have hse : QI (.mk k n m ks) = 1 + QN ks := by rw [QI]
 rw [hse] at hsz
 have hln := Zf ks
 have hi : ∀ y ∈ ks, Go.Av.Pure Tryd.prog G 75 [.agg (Enc.enc y), .i x] (.i (kindN y x)) := fun y hy => ih y hy (by have := WT hy; omega)
 clear ih
 have hk : kindN (.mk k n m ks) x = if k = 6 /\ n = x then m else kindL ks x := by rw [kindN]
 rw [Q9, hk]
 refine Qc Tryd.func75 rfl Tryd.ntmps75 rfl (t := [(0, .agg [.i k, .i n, .i m, QG ks]), (1, .i x)]) rfl fun E hE => ?_
 by_cases h6 : k = 6
 ·by_cases h7 : n = x
  ·rw [if_pos ⟨h6, h7⟩]
   (repeat' first | refine Qu rfl ?_ | refine QA rfl ?_ | refine Qb rfl rfl rfl ?_ | refine QJ rfl rfl ?_ | refine WI rfl rfl ?_ | refine Qd rfl rfl ?_ | refine QU rfl rfl (fun _ _ => ?_) | refine Qe ?_ | refine Qs rfl ?_ | refine WK rfl rfl rfl rfl ?_ | refine Wg rfl rfl (by omega) ?_ | refine Qg ?_ | refine Qa ?_ | refine Qp rfl (by omega) ?_ | refine Qq ?_)
   exact e_1 (Tryd.results75) (Qh rfl) (Qy (σ := []) (r := [_]) ⟨rfl, rfl⟩)
  ·rw [if_neg fun h => h7 h.2]
   (repeat' first | refine Qu rfl ?_ | refine QA rfl ?_ | refine Qb rfl rfl rfl ?_ | refine QJ rfl rfl ?_ | refine WI rfl rfl ?_ | refine Qd rfl rfl ?_ | refine QU rfl rfl (fun _ _ => ?_) | refine Qe ?_ | refine Qs rfl ?_ | refine WK rfl rfl rfl rfl ?_ | refine Wg rfl rfl (by omega) ?_ | refine Qg ?_ | refine Qa ?_ | refine Qf ?_ | refine Qk ?_ | refine Qr rfl (by omega) ?_)
   rename_i g1 hg1
   refine Wv (fun (i : Nat) => ⟨[(1, .i x), (2, .ptr 0 g1 0), (5, .i i)], [.row g1 [.i k, .i n, .i m, QG ks]]⟩) (fun i => i <= ks.length /\ ∀ j (h : j < ks.length), j < i -> kindN ks[j] x < 0) (fun i => ks.length - i) 0 ?_ ⟨by omega, fun j _ h => absurd h (by omega)⟩ ?_
   ·exact zal rfl
   intro i ⟨hi2, hneg⟩
   (repeat' first | refine Qu rfl ?_ | refine Qb rfl rfl rfl ?_ | refine QL rfl rfl ?_ | refine Qj rfl ?_ | refine Qd rfl rfl ?_ | refine Qe ?_ | refine Qs rfl ?_ | refine Qg ?_ | refine Qa ?_)
   refine QE rfl (fun h => ?_) (fun h => ?_)
   ·have hj : i < ks.length := by omega
    by_cases hk0 : 0 <= kindN ks[i] x
    ·rw [kindL_at hj hneg hk0]
     clear hneg
     (repeat' first | refine Qu rfl ?_ | refine QA rfl ?_ | refine QC rfl ?_ | refine Qb rfl rfl rfl ?_ | refine Ql rfl rfl (by first | assumption | omega | (simp; done) | (simp; omega)) ?_ | refine Wh rfl rfl ?_ | refine Wa rfl rfl (hi _ (List.getElem_mem hj)) ?_ | refine Qd rfl rfl ?_ | refine Qe ?_ | refine Qs rfl ?_ | refine Qg ?_ | refine Qa ?_ | refine Qf ?_ | refine Qk ?_ | refine Qp rfl (by omega) ?_ | refine Qq ?_)
     exact e_1 (Tryd.results75) (Qh rfl) (Qy (σ := []) (r := [_]) ⟨rfl, rfl⟩)
    ·have hneg' : ∀ j (h : j < ks.length), j < i + 1 -> kindN ks[j] x < 0 := fun j hj2 hji => by
      by_cases e : j = i
      ·subst e; omega
      ·exact hneg j hj2 (by omega)
     clear hneg
     (repeat' first | refine Qu rfl ?_ | refine QA rfl ?_ | refine QC rfl ?_ | refine Qb rfl rfl rfl ?_ | refine Ql rfl rfl (by first | assumption | omega | (simp; done) | (simp; omega)) ?_ | refine Wh rfl rfl ?_ | refine Q5 rfl rfl (by omega) ?_ | refine Wa rfl rfl (hi _ (List.getElem_mem hj)) ?_ | refine Qd rfl rfl ?_ | refine Qe ?_ | refine Qs rfl ?_ | refine Qg ?_ | refine Qa ?_ | refine Qf ?_ | refine Qk ?_ | refine Qr rfl (by omega) ?_)
     refine ⟨i + 1, ⟨by omega, hneg'⟩, by omega, ?_⟩
     exact zal rfl
   ·rw [kindL_none fun j hj2 => hneg j hj2 (by omega)]
    (repeat' first | refine QA rfl ?_ | refine Qe ?_ | refine Qs rfl ?_ | refine Qg ?_ | refine Qa ?_ | refine Q2 rfl ?_ | refine Qq ?_)
    exact e_1 (Tryd.results75) (Qh rfl) (Qy (σ := []) (r := [_]) ⟨rfl, rfl⟩)
 ·rw [if_neg fun h => h6 h.1]
  (repeat' first | refine Qu rfl ?_ | refine QA rfl ?_ | refine Qb rfl rfl rfl ?_ | refine QJ rfl rfl ?_ | refine Wm rfl rfl ?_ | refine Qd rfl rfl ?_ | refine QU rfl rfl (fun _ _ => ?_) | refine Qe ?_ | refine Qs rfl ?_ | refine W3 rfl rfl rfl rfl ?_ | refine Wc rfl rfl (by omega) ?_ | refine Qg ?_ | refine Qa ?_ | refine Qf ?_ | refine Qk ?_ | refine Qo rfl ?_)
  rename_i g1 hg1
  refine Wv (fun (i : Nat) => ⟨[(1, .i x), (2, .ptr 0 g1 0), (5, .i i)], [.row g1 [.i k, .i n, .i m, QG ks]]⟩) (fun i => i <= ks.length /\ ∀ j (h : j < ks.length), j < i -> kindN ks[j] x < 0) (fun i => ks.length - i) 0 ?_ ⟨by omega, fun j _ h => absurd h (by omega)⟩ ?_
  ·exact zal rfl
  intro i ⟨hi2, hneg⟩
  (repeat' first | refine Qu rfl ?_ | refine Qb rfl rfl rfl ?_ | refine QL rfl rfl ?_ | refine Qj rfl ?_ | refine Qd rfl rfl ?_ | refine Qe ?_ | refine Qs rfl ?_ | refine Qg ?_ | refine Qa ?_)
  refine QE rfl (fun h => ?_) (fun h => ?_)
  ·have hj : i < ks.length := by omega
   by_cases hk0 : 0 <= kindN ks[i] x
   ·rw [kindL_at hj hneg hk0]
    clear hneg
    (repeat' first | refine Qu rfl ?_ | refine QA rfl ?_ | refine QC rfl ?_ | refine Qb rfl rfl rfl ?_ | refine Ql rfl rfl (by first | assumption | omega | (simp; done) | (simp; omega)) ?_ | refine Wh rfl rfl ?_ | refine Wa rfl rfl (hi _ (List.getElem_mem hj)) ?_ | refine Qd rfl rfl ?_ | refine Qe ?_ | refine Qs rfl ?_ | refine Qg ?_ | refine Qa ?_ | refine Qf ?_ | refine Qk ?_ | refine Qp rfl (by omega) ?_ | refine Qq ?_)
    exact e_1 (Tryd.results75) (Qh rfl) (Qy (σ := []) (r := [_]) ⟨rfl, rfl⟩)
   ·have hneg' : ∀ j (h : j < ks.length), j < i + 1 -> kindN ks[j] x < 0 := fun j hj2 hji => by
     by_cases e : j = i
     ·subst e; omega
     ·exact hneg j hj2 (by omega)
    clear hneg
    (repeat' first | refine Qu rfl ?_ | refine QA rfl ?_ | refine QC rfl ?_ | refine Qb rfl rfl rfl ?_ | refine Ql rfl rfl (by first | assumption | omega | (simp; done) | (simp; omega)) ?_ | refine Wh rfl rfl ?_ | refine Q5 rfl rfl (by omega) ?_ | refine Wa rfl rfl (hi _ (List.getElem_mem hj)) ?_ | refine Qd rfl rfl ?_ | refine Qe ?_ | refine Qs rfl ?_ | refine Qg ?_ | refine Qa ?_ | refine Qf ?_ | refine Qk ?_ | refine Qr rfl (by omega) ?_)
    refine ⟨i + 1, ⟨by omega, hneg'⟩, by omega, ?_⟩
    exact zal rfl
  ·rw [kindL_none fun j hj2 => hneg j hj2 (by omega)]
   (repeat' first | refine QA rfl ?_ | refine Qe ?_ | refine Qs rfl ?_ | refine Qg ?_ | refine Qa ?_ | refine Q2 rfl ?_ | refine Qq ?_)
   exact e_1 (Tryd.results75) (Qh rfl) (Qy (σ := []) (r := [_]) ⟨rfl, rfl⟩)
theorem types21_c (ts : List Nd) (hsz : QN ts <= 99999) : Own Tryd.prog G 46 [QG ts] ((allTo (W9 ts) 64).map (kindL ts)).length 1 (Qt ((allTo (W9 ts) 64).map (kindL ts))) := fun B => by
 have hv := all_c (G := G) ts hsz
 have hk : ∀ x, Go.Av.Pure Tryd.prog G 75 [.agg [.i 0, .i 0, .i 0, QG ts], .i x] (.i (kindL ts x)) := fun x => by
  have h := kind_c (G := G) x (.mk 0 0 0 ts) (by rw [QI]; omega)
  rw [Q9, kindN, if_neg fun h => absurd h.1 (by decide)] at h
  exact h
 have hl := allTo_len (W9 ts) 64
 generalize allTo (W9 ts) 64 = L at *
 generalize kindL ts = kf at *
 refine Qc Tryd.func46 rfl Tryd.ntmps46 rfl (t := [(0, QG ts)]) rfl fun E hE => ?_
 (repeat' first | refine Qu rfl ?_ | refine QA rfl ?_ | refine Wa rfl rfl (hv) ?_ | refine Qe ?_ | refine Qs rfl ?_ | refine Qg ?_ | refine Qa ?_ | refine Qf ?_)
 refine r_own 4 1 rfl fun g0 hg0 => ?_
 refine qC (fun (i : Nat) g => ⟨[(0, QG ts), (3, QG L), (4, .ref 0 g 0 ((L.take i).map kf).length 1), (5, .i i)], [.row g (Qt ((L.take i).map kf))]⟩) (fun i => i <= L.length) (fun i => L.length - i) 0 g0 hg0 ?_ (by omega) ?_
 ·exact zal rfl
 intro i g hi hg
 have hle : ((L.take i).map kf).length <= 64 := by rw [List.length_map, List.length_take]; omega
 (repeat' first | refine Qu rfl ?_ | refine QL rfl rfl ?_ | refine Qj rfl ?_ | refine Qe ?_ | refine Qs rfl ?_ | refine Qg ?_ | refine Qa ?_)
 refine QE rfl (fun h => ?_) (fun h => ?_)
 ·have hj : i < L.length := by omega
  have hsu : (L.take (i + 1)).map kf = (L.take i).map kf ++ [kf L[i]] := by
   rw [List.take_succ_eq_append_getElem hj, List.map_append]; rfl
  generalize (L.take i).map kf = acc at *
  (repeat' first | refine Qu rfl ?_ | refine QA rfl ?_ | refine Qv rfl ?_ | refine Ql rfl rfl (by first | assumption | omega | (simp; done) | (simp; omega)) ?_ | refine Q5 rfl rfl (by omega) ?_ | refine Z5 rfl rfl rfl rfl rfl rfl rfl (by first | omega | (simp; omega)) (by first | omega | (simp; omega)) (fun _ => rfl) (fun _ _ => ?_) | refine Wa rfl rfl (hk _) ?_ | refine W1 rfl rfl ?_ | refine Wi rfl rfl (by decide) rfl ?_ | refine Qe ?_ | refine Qs rfl ?_ | refine Qg ?_ | refine Qa ?_ | refine Qf ?_ | refine Qk ?_)
  rename_i g5 hg5
  refine ⟨i + 1, g5, by omega, by omega, by omega, ?_⟩
  rw [hsu]
  exact zal rfl
 ·have hj : i = L.length := by omega
  subst hj
  rw [List.take_length]
  (repeat' first | refine Qu rfl ?_ | refine QA rfl ?_ | refine Qe ?_ | refine Qs rfl ?_ | refine Qg ?_ | refine Qa ?_ | refine Q2 rfl ?_ | refine Qq ?_)
  exact e_1 Tryd.results46 (Qh rfl) (c_ownedB hE rfl rfl rfl rfl)
end Go.Proofs
end
section
namespace Go.Av
open Classical
section
variable {P : Program} {G : Nat -> DV} {B : Nat} {f : Operand -> DV} {σ : List ABlk} {K : DV -> List ABlk -> Prop} {dst : Option Tmp} {type : TypeId} {pos : String} {after : Array Edge} {gd : Option (Nat × Bool)}
theorem qB {t e n size : Nat} {g1 g2 : Bool} {z1 : Nat} {td : TypeDesc} {zs : List Value} {ps : List (Nat × Operand)} {m : List (Nat × DV)} {cs cs' : List DV} [ht : TyI P t (.slice e) g1 z1] [he : TyI P e td g2 size] [hz : TyZ P e zs] (hzl : zs.length = size) (hp : partsD f ps = some m) (hn : n * size <= 16777216)
  (hc : fillD (fun i => some (i * size, size)) (WS zs n) m = some cs) (hlen : cs.length = n * size) (hl : cs.length = cs'.length) (hs : ∀ (j : Nat) (d d' : DV), cs[j]? = some d -> cs'[j]? = some d' -> Sub d d') (k : ∀ g, B < g -> K (.ref σ.length g 0 n size) (σ ++ [.row g cs'])) : OpSem P G B ⟨dst, .buildSlice t n ps.toArray, type, pos, after, gd⟩ f σ K := fun X ρ hS hσ hB _ hf => by
 subst hσ
 obtain ⟨arr, h1, h2, h3, h4⟩ := run_buildSlice ht he hz hzl (fun p hpp => hf p.2 (by simp only [Op.operands]; simpa using ⟨p.1, hpp⟩)) hp hn hc
 simp only [execOp, h1, Sem.run_bind, Sem.run_pure, Result.andThen_ok]
 refine post_new (v := fun b => .slice (some ⟨b, 0, none⟩) n n) (d := fun g => .ref X.σ.length g 0 n size) hS hB (Keep.alloc _ _) (Nat.le_refl _) (heap_alloc_new _ _) (by omega) (fun j d' hj => ?_) (fun L h1 h2' => ?_) k
 ·have hlt : j < cs.length := by rw [hl]; exact (List.getElem?_eq_some_iff.1 hj).1
  obtain ⟨q1, q2⟩ := h4 j _ (List.getElem?_eq_getElem hlt)
  have := hs j _ d' (List.getElem?_eq_getElem hlt) hj
  exact ⟨this.one q1, this.rep q2⟩
 ·refine .ref _ _ _ _ _ _ _ _ h1 fun ob hob => ?_
  rw [h2'] at hob
  rw [<- Option.some.inj hob]
  exact ⟨_, n, rfl, Nat.le_refl _, .inr ⟨rfl, by omega⟩⟩
end
theorem s_store_pub {P : Program} {G : Nat -> DV} {t : Fr} {σ σ' : List ABlk} {B i k g len es : Nat} {cs : List DV} {K : DV -> List ABlk -> Prop} {dst : Option Tmp} {ty type : TypeId} {pos : String} {after : Array Edge} {gd : Option (Nat × Bool)} {x : Operand} (h : Ws t i = .ref k g 0 len es) (hk : σ[k]? = some (.row g cs)) (hl : len * es = cs.length) (hσ' : setA σ k .gone = some σ')
  (kk : OpSem P G B ⟨dst, .store ty x (.tmp i), type, pos, after, gd⟩ (aev G ((i, .sl es cs) :: t)) σ' K) : OpSem P G B ⟨dst, .store ty x (.tmp i), type, pos, after, gd⟩ (aev G t) σ K := s_pub h hk hl hσ' kk
theorem s_bslice_pubi (i : Nat) {P : Program} {G : Nat -> DV} {t : Fr} {σ σ' : List ABlk} {B k g len es : Nat} {cs : List DV} {K : DV -> List ABlk -> Prop} {dst : Option Tmp} {ty type : TypeId} {pos : String} {after : Array Edge} {gd : Option (Nat × Bool)} {m : Nat} {ps : Array (Nat × Operand)} (h : Ws t i = .ref k g 0 len es) (hk : σ[k]? = some (.row g cs)) (hl : len * es = cs.length) (hσ' : setA σ k .gone = some σ')
  (kk : OpSem P G B ⟨dst, .buildSlice ty m ps, type, pos, after, gd⟩ (aev G ((i, .sl es cs) :: t)) σ' K) : OpSem P G B ⟨dst, .buildSlice ty m ps, type, pos, after, gd⟩ (aev G t) σ K := s_pub h hk hl hσ' kk
theorem forceD_same : ∀ l : List DV, forceD l = some l
 | [] => rfl
 | d :: r => by simp only [forceD, forceD_same r]
theorem spliceD_all : ∀ (l ds : List DV), l.length = ds.length -> qA l 0 ds = some ds
 | [], [], _ => rfl
 | [], _ :: _, h => by simp at h
 | _ :: _, [], h => by simp at h
 | c :: r, d :: ds, h => by simp only [qA]; rw [spliceD_all r ds (by simpa using h)]
theorem fill_one {zs : List Value} {cs : List DV} {n : Nat} (h1 : zs.length = n) (h2 : cs.length = n) (h0 : 0 < n) : fillD (fun i => some (i * n, n)) (WS zs 1) [(0, .agg cs)] = some cs := by
 cases cs with
 | nil => simp at h2; omega
 | cons e r =>
  have hb : Nat.beq (e :: r).length n = true := by rw [h2]; exact Nat.beq_refl n
  simp only [fillD, dcells, hb, Nat.zero_mul]
  rw [spliceD_all _ _ (by rw [Zp, h1, h2]; omega)]
  exact forceD_same _
theorem s_bslice_one {P : Program} {G : Nat -> DV} {B : Nat} {f : Operand -> DV} {σ : List ABlk} {K : DV -> List ABlk -> Prop} {dst : Option Tmp} {type : TypeId} {pos : String} {after : Array Edge} {gd : Option (Nat × Bool)} {α : Type} [Enc α] {z : α} {t e : Nat} {g1 g2 : Bool} {z1 : Nat} {td : TypeDesc} {zs : List Value} {ps : List (Nat × Operand)} [ht : TyI P t (.slice e) g1 z1] [he : TyI P e td g2 (Enc.es α)] [hz : TyZ P e zs] (hzl : zs.length = Enc.es α) (hp : partsD f ps = some [(0, .agg (Enc.enc z))]) (hn : 1 * Enc.es α <= 16777216)
  (k : K (.sl (Enc.es α) (Enc.enc z)) σ) : OpSem P G B ⟨dst, .buildSlice t 1 ps.toArray, type, pos, after, gd⟩ f σ K := Wi hzl hp hn (fill_one hzl (Enc.len z) Enc.pos) k
theorem s_build_w {P : Program} {G : Nat -> DV} {B : Nat} {f : Operand -> DV} {σ : List ABlk} {K : DV -> List ABlk -> Prop} {dst : Option Tmp} {type : TypeId} {pos : String} {after : Array Edge} {gd : Option (Nat × Bool)} {t : TypeId} {ps : Array (Nat × Operand)} {d0 d1 : DV} {σ1 : List ABlk} (h : OpSem P G B ⟨dst, .build t ps, type, pos, after, gd⟩ f σ (fun d s => d = d0 /\ s = σ1)) (hs : ∀ (L : Lay) (v : Value), VRep L d0 v -> VRep L d1 v) (k : K d1 σ1) : OpSem P G B ⟨dst, .build t ps, type, pos, after, gd⟩ f σ K := fun X ρ h1 h2 h3 h4 h5 => by
 have hs' := h X ρ h1 h2 h3 h4 h5
 generalize (execOp ρ ⟨dst, .build t ps, type, pos, after, gd⟩).run P X.w = r at hs' ⊢
 have ap : ∀ v w', APost X (fun d s => d = d0 /\ s = σ1) v w' -> APost X K v w' := fun v w' ⟨X', a, b, c, d, hd, e1, e2⟩ => ⟨X', a, b, c, d1, hs _ _ (by rw [<- e1]; exact hd), by rw [e2]; exact k⟩
 cases r with
 | ok nx w' =>
  cases nx <;> simp only [OPost] at hs' ⊢
  case value v => exact ap _ _ hs'
  case skip => exact ap _ _ hs'
  case enter f args => exact ⟨hs'.1, hs'.2.mono fun e w'' ⟨v, he, hp⟩ => ⟨v, he, ap _ _ hp⟩⟩
 | halt hh w' => simp only [OPost] at hs'
theorem WO {P : Program} {G : Nat -> DV} {B : Nat} {f : Operand -> DV} {σ : List ABlk} {K : DV -> List ABlk -> Prop} {dst : Option Tmp} {type : TypeId} {pos : String} {after : Array Edge} {gd : Option (Nat × Bool)} {α : Type} [Enc α] (l : List α) {t e n : Nat} {g1 g2 : Bool} {z1 : Nat} {td : TypeDesc} {zs : List Value} {ps : List (Nat × Operand)} {m : List (Nat × DV)} [ht : TyI P t (.slice e) g1 z1] [he : TyI P e td g2 (Enc.es α)] [hz : TyZ P e zs] (hzl : zs.length = Enc.es α) (hp : partsD f ps = some m) (hn : n * Enc.es α <= 16777216)
  (hc : fillD (fun i => some (i * Enc.es α, Enc.es α)) (WS zs n) m = some (Qt l)) (k : K (QG l) σ) : OpSem P G B ⟨dst, .buildSlice t n ps.toArray, type, pos, after, gd⟩ f σ K := Wi hzl hp hn hc k
theorem s_idx_hd {P : Program} {G : Nat -> DV} {B : Nat} {f : Operand -> DV} {σ : List ABlk} {K : DV -> List ABlk -> Prop} {dst : Option Tmp} {type : TypeId} {pos : String} {after : Array Edge} {gd : Option (Nat × Bool)} {α : Type} [Enc α] {t e : TypeId} {d : TypeDesc} {g1 g2 : Bool} {z1 : Nat} {x y : Operand} {z : α} {r : List α} {kd : IntKind} [ht : TyI P t (.slice e) g1 z1] [he : TyI P e d g2 (Enc.es α)]
  (hx : f x = QG (z :: r)) (hy : f y = .sc (.int kd 0)) (k : K (.ep (Enc.enc z)) σ) : OpSem P G B ⟨dst, .indexAddr t x y, type, pos, after, gd⟩ f σ K := s_idx_sl (l := z :: r) (i := 0) hx hy (by decide) (by simp) k
theorem s_store_el {P : Program} {G : Nat -> DV} {B : Nat} {f : Operand -> DV} {σ : List ABlk} {K : DV -> List ABlk -> Prop} {dst : Option Tmp} {type : TypeId} {pos : String} {after : Array Edge} {gd : Option (Nat × Bool)} {α : Type} [Enc α] {t : TypeId} {td : TypeDesc} {agg : Bool} {size : Nat} {x y : Operand} {m g off i : Nat} {l : List α} {z : α} {cs : List DV} {σ' : List ABlk} [ht : TyI P t td agg size] (hx : f x = .ptr m g off) (hm : σ[m]? = some (.row g (Qt l))) (h1 : Enc.es α = size) (ho : off = i * Enc.es α) (hy : f y = .agg cs) (hz : cs = Enc.enc z)
  (hi : i < l.length) (hσ' : setA σ m (.row g (Qt (l.set i z))) = some σ') (k : K (.sc undef) σ') : OpSem P G B ⟨dst, .store t x y, type, pos, after, gd⟩ f σ K :=
 s_store_e hx hm hy (by rw [hz]; rfl) h1 ho hi hσ' k
section
variable {P : Program} {G : Nat -> DV} {n : Nat} {ops : Array Oper} {B : Nat} {t : Fr} {σ : List ABlk} {ι : Type} {I : ι -> List ABlk}
end
end Go.Av
end
section
namespace Go.Proofs
open Go.Av
variable {G : Nat -> DV}
attribute [local irreducible] OpSem WB WQ WW ACalls Zo QY RV
open Go.Bl
mutual
def ZQ : Nd -> List (List Int)
 | .mk _ _ _ ks => [] :: ZY 0 ks
def ZY : Nat -> List Nd -> List (List Int)
 | _, [] => []
 | i, x :: r => (ZQ x).map (fun p => (i : Int) :: p) ++ ZY (i + 1) r
end
theorem pathsN_eq (k n m : Int) (ks : List Nd) : ZQ (.mk k n m ks) = [] :: ZY 0 ks := by rw [ZQ]
theorem pathsL_snoc (x : Nd) : ∀ (i : Nat) (a : List Nd), ZY i (a ++ [x]) = ZY i a ++ (ZQ x).map fun p => ((i + a.length : Nat) : Int) :: p
 | i, [] => by simp [ZY]
 | i, y :: r => by
  rw [List.cons_append, ZY, ZY, pathsL_snoc x (i + 1) r, List.append_assoc, show i + 1 + r.length = i + (y :: r).length by simp; omega]
theorem pathsL_take {ks : List Nd} {i : Nat} (h : i < ks.length) : ZY 0 (ks.take (i + 1)) = ZY 0 (ks.take i) ++ (ZQ ks[i]).map fun p => (i : Int) :: p := by
 rw [List.take_succ_eq_append_getElem h, pathsL_snoc, List.length_take, Nat.min_eq_left (by omega), Nat.zero_add]
mutual
theorem pathsN_len : ∀ t : Nd, (ZQ t).length = QI t
 | .mk k n m ks => by
  have := pathsL_len 0 ks
  rw [pathsN_eq, QI, List.length_cons]; omega
theorem pathsL_len : ∀ (i : Nat) (ts : List Nd), (ZY i ts).length = QN ts
 | _, [] => rfl
 | i, x :: r => by
  have := pathsN_len x
  have := pathsL_len (i + 1) r
  rw [ZY, QN, List.length_append, List.length_map]; omega
end
theorem mem_pathsL {p : List Int} : ∀ {i : Nat} {ks : List Nd}, p ∈ ZY i ks -> ∃ (j : Nat) (h : j < ks.length) (q : List Int), p = ((i + j : Nat) : Int) :: q /\ q ∈ ZQ ks[j]
 | i, [], h => by rw [ZY] at h; cases h
 | i, x :: r, h => by
  rw [ZY, List.mem_append, List.mem_map] at h
  rcases h with ⟨q, hq, rfl⟩ | h
  ·exact ⟨0, by simp, q, rfl, hq⟩
  ·obtain ⟨j, hj, q, rfl, hq⟩ := mem_pathsL h
   exact ⟨j + 1, by simpa using hj, q, by rw [show i + (j + 1) = i + 1 + j by omega], hq⟩
theorem paths_lens : ∀ (t : Nd), ∀ p ∈ ZQ t, p.length < QI t := fun t => by
 induction t using Nd.ind with
 | h k n m ks ih =>
 intro p hp
 rw [pathsN_eq] at hp
 rw [QI]
 rcases List.mem_cons.1 hp with rfl | hp
 ·show 0 < 1 + QN ks; omega
 ·obtain ⟨j, hj, q, rfl, hq⟩ := mem_pathsL hp
  have h1 := ih _ (List.getElem_mem hj) q hq
  have h2 := WT (List.getElem_mem hj)
  rw [List.length_cons]; omega
theorem paths_c (t : Nd) : QI t <= 100000 -> Own Tryd.prog G 30 [.agg (Enc.enc t)] (ZQ t).length 1 (Qt (ZQ t)) := by
 induction t using Nd.ind with
 | h k n m ks ih =>
 intro hsz B
 have hse : QI (.mk k n m ks) = 1 + QN ks := by rw [QI]
 rw [hse] at hsz
 have hln := Zf ks
 have hi : ∀ x ∈ ks, Go.Av.Pure Tryd.prog G 30 [.agg (Enc.enc x)] (QG (ZQ x)) := fun x hx => (ih x hx (by have := WT hx; omega)).read
 clear ih
 rw [pathsN_eq, Q9]
 refine Qc Tryd.func30 rfl Tryd.ntmps30 rfl (t := [(0, .agg [.i k, .i n, .i m, QG ks])]) rfl fun E hE => ?_
 (repeat' first | refine QA rfl ?_ | refine qB (cs := [.nil]) (cs' := [QG ([] : List Int)]) rfl rfl (by decide) rfl rfl rfl (qc (.nil _) sub_nil) (fun _ _ => ?_) | refine QU rfl rfl (fun _ _ => ?_) | refine Qe ?_ | refine Qs rfl ?_ | refine Qg ?_ | refine Qa ?_ | refine Qf ?_ | fail)
 rename_i g1 hg1 g3 hg3
 refine qC (fun (i : Nat) g => ⟨[(1, .ptr 0 g1 0), (3, .ref 1 g 0 ([] :: ZY 0 (ks.take i)).length 1), (4, .i i)], [.row g1 [.i k, .i n, .i m, QG ks], .row g (Qt ([] :: ZY 0 (ks.take i)))]⟩) (fun i => i <= ks.length) (fun i => ks.length - i) 0 g3 hg3 ?_ (by omega) ?_
 ·exact zal rfl
 intro i g hi2 hg
 by_cases hil : i < ks.length
 ·have hi1 := hi _ (List.getElem_mem hil)
  have hpl := pathsN_len ks[i]
  have hsm := WT (List.getElem_mem hil)
  have hst := pathsL_take hil
  have hl0 := pathsL_len 0 (ks.take i)
  have hl1 := Zu ks i
  have hlens : ∀ p ∈ ZQ ks[i], p.length <= 100000 := fun p hp => by have := paths_lens _ p hp; omega
  have hal : ([] :: ZY 0 (ks.take i)).length <= 100001 := by rw [List.length_cons]; omega
  have hst2 : ([] :: ZY 0 (ks.take (i + 1))) = ([] :: ZY 0 (ks.take i)) ++ (ZQ ks[i]).map fun p => (i : Int) :: p := by rw [hst]; rfl
  have hpl2 : (ZQ ks[i]).length <= 100000 := by omega
  clear hi hst hpl hsm hl0 hl1
  generalize ([] :: ZY 0 (ks.take i)) = acc at *
  generalize ZQ ks[i] = L at *
  (repeat' first | refine Qu rfl ?_ | refine QA rfl ?_ | refine QC rfl ?_ | refine Qb rfl rfl rfl ?_ | refine Ql rfl rfl (by first | assumption | omega | (simp; done) | (simp; omega)) ?_ | refine QL rfl rfl ?_ | refine Wa rfl rfl (hi1) ?_ | refine Qj rfl ?_ | refine Qd rfl rfl ?_ | refine Qe ?_ | refine Qs rfl ?_ | refine Qg ?_ | refine Qa ?_ | refine Qf ?_ | refine Qk ?_ | refine Qp rfl (by omega) ?_ | fail)
  refine qC (fun (q : Nat) g => ⟨[(1, .ptr 0 g1 0), (3, .ref 1 g 0 (acc ++ (L.take q).map fun p => (i : Int) :: p).length 1), (4, .i i), (5, QG L), (6, .i q)], [.row g1 [.i k, .i n, .i m, QG ks], .row g (Qt (acc ++ (L.take q).map fun p => (i : Int) :: p))]⟩) (fun q => q <= L.length) (fun q => L.length - q) 0 g hg ?_ (by omega) ?_
  ·rw [List.take_zero, List.map_nil, List.append_nil]
   exact zal rfl
  intro q gq hq hgq
  by_cases hql : q < L.length
  ·have hse : acc ++ (L.take (q + 1)).map (fun p => (i : Int) :: p) = (acc ++ (L.take q).map fun p => (i : Int) :: p) ++ [(i : Int) :: L[q]] := by
    rw [List.take_succ_eq_append_getElem hql, List.map_append, List.append_assoc]; rfl
   have hlq := hlens _ (List.getElem_mem hql)
   have hcl : (acc ++ (L.take q).map fun p => (i : Int) :: p).length <= 300000 := by rw [List.length_append, List.length_map, List.length_take]; omega
   clear hi1 hlens hst2
   generalize (acc ++ (L.take q).map fun p => (i : Int) :: p) = cur at *
   (repeat' first | refine Qu rfl ?_ | refine QA rfl ?_ | refine Qv rfl ?_ | refine Ql rfl rfl (by first | assumption | omega | (simp; done) | (simp; omega)) ?_ | refine QL rfl rfl ?_ | refine Q5 rfl rfl (by omega) ?_ | refine Qj rfl ?_ | refine Z5 rfl rfl rfl rfl rfl rfl rfl (by first | omega | (simp; omega)) (by first | omega | (simp; omega)) (fun _ => rfl) (fun _ _ => ?_) | refine s_app_r rfl rfl rfl rfl rfl rfl rfl (by first | omega | (simp; omega)) (by first | omega | (simp; omega)) (fun _ => rfl) (fun _ _ => ?_) | refine qx (cs := Qt [(_ : Int)]) rfl rfl (by decide) rfl rfl (fun _ _ => ?_) | refine s_bslice_pub rfl rfl (by first | rfl | exact (Qz _).symm) rfl ?_ | refine Wi rfl rfl (by decide) rfl ?_ | refine Qe ?_ | refine Qs rfl ?_ | refine Qg ?_ | refine Qa ?_ | refine Qf ?_ | refine Qk ?_ | refine Qp rfl (by omega) ?_ | fail)
   rename_i ga hga gb hgb gc hgc
   refine ⟨q + 1, gc, by omega, by omega, by omega, ?_⟩
   rw [hse]
   exact zal rfl
  ·have hq2 : q = L.length := by omega
   subst hq2
   rw [List.take_length]
   rw [<- hst2]
   clear hi1 hlens hst2
   (repeat' first | refine Qu rfl ?_ | refine QA rfl ?_ | refine QL rfl rfl ?_ | refine Q5 rfl rfl (by omega) ?_ | refine Qj rfl ?_ | refine Qe ?_ | refine Qs rfl ?_ | refine Qg ?_ | refine Qa ?_ | refine Qr rfl (by omega) ?_ | refine Q2 rfl ?_ | fail)
   refine ⟨i + 1, gq, by omega, by omega, by omega, ?_⟩
   exact zal rfl
 ·have hi3 : i = ks.length := by omega
  subst hi3
  rw [List.take_length]
  clear hi
  (repeat' first | refine Qu rfl ?_ | refine QA rfl ?_ | refine Qb rfl rfl rfl ?_ | refine QL rfl rfl ?_ | refine Qj rfl ?_ | refine Qd rfl rfl ?_ | refine Qe ?_ | refine Qs rfl ?_ | refine Qg ?_ | refine Qa ?_ | refine Qr rfl (by omega) ?_ | refine Q2 rfl ?_ | refine Qq ?_ | fail)
  exact e_1 Tryd.results30 (Qh rfl) (c_ownedB hE rfl rfl rfl rfl)
def subN : List Int -> Nd -> Nd
 | [], t => t
 | i :: p, .mk _ _ _ ks => subN p (ks.getD i.toNat (.mk 0 0 0 []))
theorem r05At_c (p : List Int) : ∀ t : Nd, p ∈ ZQ t -> QI t <= 100000 -> Go.Av.Pure Tryd.prog G 31 [.agg (Enc.enc t), QG p] (.tup [.agg (Enc.enc (subN p t)), .b true]) /\ QI (subN p t) <= QI t := by
 induction p with
 | nil =>
  rintro ⟨k, n, m, ks⟩ _ _
  refine ⟨fun B => ?_, Nat.le_refl _⟩
  rw [show subN [] (.mk k n m ks) = .mk k n m ks from rfl, Q9]
  refine Qc Tryd.func31 rfl Tryd.ntmps31 rfl (t := [(0, .agg [.i k, .i n, .i m, QG ks]), (1, QG ([] : List Int))]) rfl fun E hE => ?_
  (repeat' first | refine Qu rfl ?_ | refine QA rfl ?_ | refine Qm rfl rfl (by first | assumption | exact Enc.len _ | rfl) ?_ | refine QJ rfl rfl ?_ | refine Qj rfl ?_ | refine Qi rfl rfl rfl (by first | assumption | exact Enc.len _ | rfl) (by first | assumption | exact Enc.len _ | rfl) rfl ?_ | refine QH (fun _ _ => ?_) | refine QU rfl rfl (fun _ _ => ?_) | refine Qe ?_ | refine Qs rfl ?_ | refine QZ ?_ | refine Qg ?_ | refine Qa ?_ | refine QB rfl ?_ | refine Qq ?_ | fail)
  all_goals exact e_2 (Tryd.results31) (QR (size := 4) rfl rfl rfl rfl) (Qh rfl) (QD rfl)
 | cons a p ih =>
  rintro ⟨k, n, m, ks⟩ hp hsz
  have hln := Zf ks
  rw [pathsN_eq] at hp
  rw [QI] at hsz ⊢
  rcases List.mem_cons.1 hp with h | hp
  ·cases h
  obtain ⟨j, hj, q, he, hq⟩ := mem_pathsL hp
  rw [Nat.zero_add] at he
  cases he
  have hsm := WT (List.getElem_mem hj)
  obtain ⟨hat, hs2⟩ := ih ks[j] hq (by omega)
  have e : subN ((j : Int) :: p) (.mk k n m ks) = subN p ks[j] := by
   rw [subN, show ((j : Int)).toNat = j by omega, List.getD_eq_getElem?_getD, List.getElem?_eq_getElem hj]; rfl
  rw [e]
  refine ⟨fun B => ?_, by omega⟩
  generalize subN p ks[j] = r at *
  have hplen : p.length < 100000 := by
   have := paths_lens (.mk k n m ks) ((j : Int) :: p) (by rw [pathsN_eq]; exact List.mem_cons_of_mem _ hp)
   rw [QI, List.length_cons] at this
   omega
  have hpp : ((j : Int) :: p).length = p.length + 1 := rfl
  clear ih hp hq
  rw [Q9]
  refine Qc Tryd.func31 rfl Tryd.ntmps31 rfl (t := [(0, .agg [.i k, .i n, .i m, QG ks]), (1, QG ((j : Int) :: p))]) rfl fun E hE => ?_
  (repeat' first | refine Qu rfl ?_ | refine QA rfl ?_ | refine QJ rfl rfl ?_ | refine Qj rfl ?_ | refine Qi rfl rfl rfl (by first | assumption | exact Enc.len _ | rfl) (by first | assumption | exact Enc.len _ | rfl) rfl ?_ | refine QH (fun _ _ => ?_) | refine QU rfl rfl (fun _ _ => ?_) | refine Qe ?_ | refine Qs rfl ?_ | refine QZ ?_ | refine Qg ?_ | refine Qa ?_ | (refine Q0 ?_; first | refine Q3 (by rfl) (by kernel_rfl) (by kernel_rfl) ?_ | refine QP (by kernel_rfl) (by kernel_rfl) ?_) | refine Qk ?_ | refine Qo rfl ?_ | refine Qr rfl (by omega) ?_ | refine Qq ?_ | refine qb rfl (by (repeat' first | refine Qu rfl ?_ | refine Qv rfl ?_ | refine QC rfl ?_ | refine Qb rfl rfl rfl ?_ | refine s_idx_hd rfl rfl ?_ | refine Ql rfl rfl (by first | assumption | omega | (simp; done) | (simp; omega)) ?_ | refine QL rfl rfl ?_ | refine Wh rfl rfl ?_ | refine WR rfl rfl hat (Wo (QF (Qw (Enc.clo _)) (QF Qx QW))) ?_ | refine Qj rfl ?_ | refine Wm rfl rfl ?_ | refine Qd rfl rfl ?_ | refine Q4 rfl rfl rfl ?_ | refine s_slice_l rfl rfl (by omega) (by omega) ?_ | exact ⟨rfl, rfl⟩)) ?_ | refine x_gy rfl rfl rfl rfl (by (repeat' first | refine Qu rfl ?_ | refine Qv rfl ?_ | refine QC rfl ?_ | refine Qb rfl rfl rfl ?_ | refine s_idx_hd rfl rfl ?_ | refine Ql rfl rfl (by first | assumption | omega | (simp; done) | (simp; omega)) ?_ | refine QL rfl rfl ?_ | refine Wh rfl rfl ?_ | refine WR rfl rfl hat (Wo (QF (Qw (Enc.clo _)) (QF Qx QW))) ?_ | refine Qj rfl ?_ | refine Wm rfl rfl ?_ | refine Qd rfl rfl ?_ | refine Q4 rfl rfl rfl ?_ | refine s_slice_l rfl rfl (by omega) (by omega) ?_ | exact ⟨rfl, rfl⟩)) ?_ | refine ZS ?_ | fail)
  all_goals exact e_2 (Tryd.results31) (QR (size := 4) rfl rfl (QS (Enc.len _)) (Enc.len _)) (Qh rfl) (QD rfl)
def setN : List Int -> Nd -> Nd -> Nd
 | [], _, x => x
 | i :: p, .mk k n m ks, x => .mk k n m (ks.set i.toNat (setN p (ks.getD i.toNat (.mk 0 0 0 [])) x))
theorem set_take {ks : List Nd} {j i : Nat} {z : Nd} (hi : i < ks.length) : (ks.set j z).take (i + 1) = (ks.set j z).take i ++ [if i = j then z else ks[i]] := by
 rw [List.take_succ_eq_append_getElem (by rw [List.length_set]; exact hi), List.getElem_set]
 congr 2
 by_cases e : i = j
 ·rw [if_pos e, if_pos e.symm]
 ·rw [if_neg e, if_neg (fun h => e h.symm)]
theorem sizeL_set {z : Nd} : ∀ {ks : List Nd} {j : Nat} (h : j < ks.length), QN (ks.set j z) + QI ks[j] = QN ks + QI z
 | x :: r, 0, _ => by
  rw [List.set_cons_zero, QN, QN, List.getElem_cons_zero]; omega
 | x :: r, j + 1, h => by
  have := sizeL_set (z := z) (ks := r) (j := j) (by simpa using h)
  rw [List.set_cons_succ, QN, QN, List.getElem_cons_succ]; omega
theorem r05Set_c (x : Nd) (hx : QI x <= 100000) (p : List Int) : ∀ t : Nd, p ∈ ZQ t -> QI t <= 100000 -> Go.Av.Pure Tryd.prog G 34 [.agg (Enc.enc t), QG p, .agg (Enc.enc x)] (.tup [.agg (Enc.enc (setN p t x)), .i 0]) /\ QI (setN p t x) <= QI t + QI x := by
 induction p with
 | nil =>
  rintro ⟨k, n, m, ks⟩ _ _
  refine ⟨fun B => ?_, by rw [setN]; omega⟩
  rw [setN, Q9 k n m]
  refine Qc Tryd.func34 rfl Tryd.ntmps34 rfl (t := [(0, .agg [.i k, .i n, .i m, QG ks]), (1, QG ([] : List Int)), (2, .agg (Enc.enc x))]) rfl fun E hE => ?_
  (repeat' first | refine Qu rfl ?_ | refine QA rfl ?_ | refine Qm rfl rfl (by first | assumption | exact Enc.len _ | rfl) ?_ | refine QJ rfl rfl ?_ | refine Qj rfl ?_ | refine Qi rfl rfl rfl (by first | assumption | exact Enc.len _ | rfl) (by first | assumption | exact Enc.len _ | rfl) rfl ?_ | refine QH (fun _ _ => ?_) | refine QU rfl rfl (fun _ _ => ?_) | refine Qe ?_ | refine Qs rfl ?_ | refine QZ ?_ | refine Qg ?_ | refine Qa ?_ | refine QB rfl ?_ | refine Qq ?_ | fail)
  all_goals exact e_2 (Tryd.results34) (QR (size := 4) rfl rfl (QS (Enc.len _)) (Enc.len _)) (Qh rfl) (QD rfl)
 | cons a p ih =>
  rintro ⟨k, n, m, ks⟩ hp hsz
  have hln := Zf ks
  have hplen : p.length < 100000 := by
   have := paths_lens _ _ hp
   rw [List.length_cons] at this
   omega
  rw [pathsN_eq] at hp
  rw [QI] at hsz
  rcases List.mem_cons.1 hp with h | hp
  ·cases h
  obtain ⟨j, hj, q, he, hq⟩ := mem_pathsL hp
  rw [Nat.zero_add] at he
  cases he
  have hsm := WT (List.getElem_mem hj)
  obtain ⟨hset, hs2⟩ := ih ks[j] hq (by omega)
  have e : setN ((j : Int) :: p) (.mk k n m ks) x = .mk k n m (ks.set j (setN p ks[j] x)) := by
   rw [setN, show ((j : Int)).toNat = j by omega, List.getD_eq_getElem?_getD, List.getElem?_eq_getElem hj]; rfl
  rw [e]
  have hsl := sizeL_set (z := setN p ks[j] x) hj
  refine ⟨fun B => ?_, by rw [QI, QI]; omega⟩
  generalize setN p ks[j] x = r at *
  have hpp : ((j : Int) :: p).length = p.length + 1 := rfl
  clear ih hp hq hs2 hsl hsm e
  rw [Q9 k n m ks]
  refine Qc Tryd.func34 rfl Tryd.ntmps34 rfl (t := [(0, .agg [.i k, .i n, .i m, QG ks]), (1, QG ((j : Int) :: p)), (2, .agg (Enc.enc x))]) rfl fun E hE => ?_
  (repeat' first | refine Qu rfl ?_ | refine QA rfl ?_ | refine Qm rfl rfl (by first | assumption | exact Enc.len _ | rfl) ?_ | refine QJ rfl rfl ?_ | refine Wu rfl rfl ?_ | refine Qj rfl ?_ | refine Qi rfl rfl rfl (by first | assumption | exact Enc.len _ | rfl) (by first | assumption | exact Enc.len _ | rfl) rfl ?_ | refine Wb rfl rfl rfl rfl (by rfl) (by rfl) (by rfl) ?_ | refine Qd rfl rfl ?_ | refine QH (fun _ _ => ?_) | refine QU rfl rfl (fun _ _ => ?_) | refine Qe ?_ | refine Qs rfl ?_ | refine QZ ?_ | refine Qg ?_ | refine Qa ?_ | refine Qf ?_ | (refine Q0 ?_; first | (rename_i g3 hg3 g5 hg5 g6 hg6; refine Wf (fun p => .row g3 [.i k, .i n, .i m, QG ks] :: .row g5 (Enc.enc x) :: p) 17 [(0, true), (1, true), (2, true), (3, true), (4, true), (5, true), (6, true), (7, true), (8, true), (9, true), (10, true), (11, true), (12, true), (13, true), (14, false), (15, false), (16, true)] (by rfl) (by rfl) (by kernel_rfl) (by decide +kernel) (by decide +kernel) ⟨_, rfl⟩ ?_) | (refine Wf (fun p => .row g3 [.i k, .i n, .i m, QG ks] :: .row g5 (Enc.enc x) :: p) 100 [(0, true)] (by rfl) (by rfl) (by kernel_rfl) (by decide +kernel) (by decide +kernel) ⟨_, rfl⟩ ?_) | (refine Wf (fun p => .row g3 [.i k, .i n, .i m, QG ks] :: .row g5 (Enc.enc x) :: p.1 :: p.2.1 :: .row g10 [.i k, .i n, .i m, .ref 5 gc 0 cur.length 4] :: p.2.2) 10 [(0, true), (1, true), (2, true), (3, true), (4, true), (5, true), (6, true), (7, true), (8, false), (9, true), (10, false)] (by rfl) (by rfl) (by kernel_rfl) (by decide +kernel) (by decide +kernel) ⟨(_, _, _), rfl⟩ ?_) | refine Q3 (by rfl) (by kernel_rfl) (by kernel_rfl) ?_ | refine QP (by kernel_rfl) (by kernel_rfl) ?_) | refine Qk ?_ | refine Qo rfl ?_ | refine Qr rfl (by omega) ?_ | refine qb rfl (by (repeat' first | refine Qu rfl ?_ | refine QA rfl ?_ | refine Qm rfl rfl (by first | assumption | exact Enc.len _ | rfl) ?_ | refine Qv rfl ?_ | refine QC rfl ?_ | refine Qb rfl rfl rfl ?_ | refine s_idx_hd rfl rfl ?_ | refine Ql rfl rfl (by first | assumption | omega | (simp; done) | (simp; omega)) ?_ | refine QL rfl rfl ?_ | refine Wh rfl rfl ?_ | refine WR rfl rfl hset (Wo (QF (Qw (Enc.clo _)) (QF Qx QW))) ?_ | refine Qj rfl ?_ | refine Wm rfl rfl ?_ | refine Qd rfl rfl ?_ | refine Q4 rfl rfl rfl ?_ | refine s_slice_l rfl rfl (by omega) (by omega) ?_ | exact ⟨rfl, rfl⟩)) ?_ | refine x_gy rfl rfl rfl rfl (by (repeat' first | refine Qu rfl ?_ | refine QA rfl ?_ | refine Qm rfl rfl (by first | assumption | exact Enc.len _ | rfl) ?_ | refine Qv rfl ?_ | refine QC rfl ?_ | refine Qb rfl rfl rfl ?_ | refine s_idx_hd rfl rfl ?_ | refine Ql rfl rfl (by first | assumption | omega | (simp; done) | (simp; omega)) ?_ | refine QL rfl rfl ?_ | refine Wh rfl rfl ?_ | refine WR rfl rfl hset (Wo (QF (Qw (Enc.clo _)) (QF Qx QW))) ?_ | refine Qj rfl ?_ | refine Wm rfl rfl ?_ | refine Qd rfl rfl ?_ | refine Q4 rfl rfl rfl ?_ | refine s_slice_l rfl rfl (by omega) (by omega) ?_ | exact ⟨rfl, rfl⟩)) ?_ | refine ZS ?_ | refine i_nil ?_ | refine i_st rfl rfl (fun _ => (by (repeat' first | refine Qu rfl ?_ | refine QA rfl ?_ | refine Qm rfl rfl (by first | assumption | exact Enc.len _ | rfl) ?_ | refine Qv rfl ?_ | refine QC rfl ?_ | refine Qb rfl rfl rfl ?_ | refine s_idx_hd rfl rfl ?_ | refine Ql rfl rfl (by first | assumption | omega | (simp; done) | (simp; omega)) ?_ | refine QL rfl rfl ?_ | refine Wh rfl rfl ?_ | refine WR rfl rfl hset (Wo (QF (Qw (Enc.clo _)) (QF Qx QW))) ?_ | refine Qj rfl ?_ | refine Wm rfl rfl ?_ | refine Qd rfl rfl ?_ | refine Q4 rfl rfl rfl ?_ | refine s_slice_l rfl rfl (by omega) (by omega) ?_ | exact ⟨rfl, rfl⟩))) ?_ | refine i_ef rfl ?_ | refine i_ef0 ?_ | refine And.intro (Exists.intro (_) rfl) ?_ | fail)
  rename_i g8 hg8 g10 hg10
  refine r_ownin 4 3 4 rfl rfl (fun _ => rfl) (fun gk hgk => ?_)
  refine ZV (fun (i gc : Nat) => ⟨[(1, QG ((j : Int) :: p)), (3, .ptr 0 g3 0), (8, .ptr 3 g8 0), (10, .ptr 4 g10 0), (11, .i i), (6, .ptr 2 g6 0), (7, .i 0)], [.row g3 [.i k, .i n, .i m, QG ks], .row g5 (Enc.enc x), .row g6 [.i 0, .i 0, .i 0, .nil], .row g8 (Enc.enc r), .row g10 [.i k, .i n, .i m, .ref 5 gc 0 ((ks.set j r).take i).length 4], .row gc (Qt ((ks.set j r).take i))]⟩) (fun i gc => i <= ks.length /\ E.N < gc) (fun i _ => ks.length - i) 0 gk ?_ ⟨by omega, hgk⟩ ?_
  ·exact zal rfl
  intro i gc ⟨hi, hgc⟩
  have hcl : ((ks.set j r).take i).length <= 100000 := by rw [List.length_take, List.length_set]; omega
  by_cases hil : i < ks.length
  ·have hst := set_take (j := j) (z := r) hil
   generalize (ks.set j r).take i = cur at *
   by_cases e : i = j
   ·rw [if_pos e] at hst
    clear hset
    (repeat' first | refine Qu rfl ?_ | refine QA rfl ?_ | refine Qm rfl rfl (by first | assumption | exact Enc.len _ | rfl) ?_ | refine Qv rfl ?_ | refine Qb rfl rfl rfl ?_ | refine s_idx_hd rfl rfl ?_ | refine QL rfl rfl ?_ | refine QJ rfl rfl ?_ | refine Q5 rfl rfl (by omega) ?_ | refine Qj rfl ?_ | refine Z5 rfl rfl rfl rfl rfl rfl rfl (by first | omega | (simp; omega)) (by first | omega | (simp; omega)) (fun _ => rfl) (fun _ _ => ?_) | refine Wb rfl rfl rfl rfl (by rfl) (by rfl) (by rfl) ?_ | refine s_bslice_one rfl rfl (by decide) ?_ | refine Qd rfl rfl ?_ | refine Qe ?_ | refine Qs rfl ?_ | refine QZ ?_ | refine Qg ?_ | refine Qa ?_ | refine Qf ?_ | refine Qk ?_ | refine Qp rfl (by omega) ?_ | fail)
    rename_i ga hga
    refine ⟨i + 1, ga, ⟨by omega, by omega⟩, by omega, ?_⟩
    rw [hst]
    exact zal rfl
   ·rw [if_neg e] at hst
    clear hset
    (repeat' first | refine Qu rfl ?_ | refine QA rfl ?_ | refine Qv rfl ?_ | refine Qb rfl rfl rfl ?_ | refine s_idx_hd rfl rfl ?_ | refine QL rfl rfl ?_ | refine QJ rfl rfl ?_ | refine Q5 rfl rfl (by omega) ?_ | refine Qj rfl ?_ | refine Z5 rfl rfl rfl rfl rfl rfl rfl (by first | omega | (simp; omega)) (by first | omega | (simp; omega)) (fun _ => rfl) (fun _ _ => ?_) | refine Wb rfl rfl rfl rfl (by rfl) (by rfl) (by rfl) ?_ | refine Qd rfl rfl ?_ | refine Qe ?_ | refine Qs rfl ?_ | refine Qg ?_ | refine Qa ?_ | refine Qf ?_ | (refine Q0 ?_; first | (rename_i g3 hg3 g5 hg5 g6 hg6; refine Wf (fun p => .row g3 [.i k, .i n, .i m, QG ks] :: .row g5 (Enc.enc x) :: p) 17 [(0, true), (1, true), (2, true), (3, true), (4, true), (5, true), (6, true), (7, true), (8, true), (9, true), (10, true), (11, true), (12, true), (13, true), (14, false), (15, false), (16, true)] (by rfl) (by rfl) (by kernel_rfl) (by decide +kernel) (by decide +kernel) ⟨_, rfl⟩ ?_) | (refine Wf (fun p => .row g3 [.i k, .i n, .i m, QG ks] :: .row g5 (Enc.enc x) :: p) 100 [(0, true)] (by rfl) (by rfl) (by kernel_rfl) (by decide +kernel) (by decide +kernel) ⟨_, rfl⟩ ?_) | (refine Wf (fun p => .row g3 [.i k, .i n, .i m, QG ks] :: .row g5 (Enc.enc x) :: p.1 :: p.2.1 :: .row g10 [.i k, .i n, .i m, .ref 5 gc 0 cur.length 4] :: p.2.2) 10 [(0, true), (1, true), (2, true), (3, true), (4, true), (5, true), (6, true), (7, true), (8, false), (9, true), (10, false)] (by rfl) (by rfl) (by kernel_rfl) (by decide +kernel) (by decide +kernel) ⟨(_, _, _), rfl⟩ ?_) | refine Q3 (by rfl) (by kernel_rfl) (by kernel_rfl) ?_ | refine QP (by kernel_rfl) (by kernel_rfl) ?_) | refine Qk ?_ | refine Qp rfl (by omega) ?_ | refine Qr rfl (by omega) ?_ | refine i_nil ?_ | refine i_z0 ?_ | refine i_st rfl rfl (fun _ => (by (repeat' first | refine Qu rfl ?_ | refine QC rfl ?_ | refine Qb rfl rfl rfl ?_ | refine Ql rfl rfl (by first | assumption | omega | (simp; done) | (simp; omega)) ?_ | refine s_bslice_one rfl rfl (by decide) ?_ | refine Qd rfl rfl ?_ | exact ⟨rfl, rfl⟩))) ?_ | refine i_ef rfl ?_ | refine And.intro (Exists.intro ((_, _, _)) rfl) ?_ | fail)
    rename_i ga hga
    refine ⟨i + 1, ga, ⟨by omega, by omega⟩, by omega, ?_⟩
    rw [hst]
    exact zal rfl
  ·have hi3 : i = ks.length := by omega
   subst hi3
   have htk : (ks.set j r).take ks.length = ks.set j r := List.take_of_length_le (by rw [List.length_set]; exact Nat.le_refl _)
   rw [htk]
   have c1 := Qz (ks.set j r)
   have hX : DV.tup [.agg (Enc.enc (Nd.mk k n m (ks.set j r))), .i 0] = .tup [.agg [.i k, .i n, .i m, QG (ks.set j r)], .i 0] := by rw [Q9]
   rw [hX]
   generalize ks.set j r = cur at *
   clear hset htk
   refine r_pubin 4 3 rfl rfl rfl c1.symm rfl rfl ?_
   (repeat' first | refine Qu rfl ?_ | refine QA rfl ?_ | refine Qm rfl rfl (by first | assumption | exact Enc.len _ | rfl) ?_ | refine Qb rfl rfl rfl ?_ | refine QL rfl rfl ?_ | refine Qj rfl ?_ | refine Qi rfl rfl rfl (by first | assumption | exact Enc.len _ | rfl) (by first | assumption | exact Enc.len _ | rfl) rfl ?_ | refine Qd rfl rfl ?_ | refine Qe ?_ | refine Qs rfl ?_ | refine QZ ?_ | refine Qg ?_ | refine Qa ?_ | refine Qr rfl (by omega) ?_ | refine Q2 rfl ?_ | refine Qq ?_ | fail)
   all_goals exact e_2 (Tryd.results34) (QR (size := 4) rfl rfl rfl rfl) (Qh rfl) (QD rfl)
theorem s_call_mk1 {P : Program} {B : Nat} {f : Operand -> DV} {σ : List ABlk} {K : DV -> List ABlk -> Prop} {dst : Option Tmp} {type : TypeId} {pos : String} {after : Array Edge} {gd : Option (Nat × Bool)} {args : Array Operand} {ts : Array TypeId} {fid : FuncId} {ds : List DV} {l : List Int} {a b a' b' : Int} {res : DV} {g : Nat} {b0 : ABlk} {rest : List ABlk} [FnOk P fid] (hx : f (.func fid) = .fn (.func fid) [] []) (hds : reL (args.toList.map f) = some (.ptr 1 g 0 :: ds)) (h : MK P G fid ds l a b res a' b')
  (hσ : σ = b0 :: .row g [QG l, .i a, .i b] :: rest) (hdc : ∀ d ∈ ds, d.clo = true) (hres : res.clo = true) (k : K res (b0 :: .row g [QG l, .i a', .i b'] :: rest)) : OpSem P G B ⟨dst, .call ⟨.value (.func fid), args, ts⟩, type, pos, after, gd⟩ f σ K := by
 subst hσ
 have hrow : ∀ {n : Nat} {a b : Int}, RenB (qf [1] n) (.row g [QG l, .i a, .i b]) (.row g [QG l, .i a, .i b]) := fun {n a b} => .rowc (by intro d hd; simp only [List.mem_cons, List.not_mem_nil, or_false] at hd; rcases hd with rfl | rfl | rfl; exact QV _; exact Qx; exact Qx)
 refine Zd (R := fun _ d τ => d = res /\ τ = [.row g [QG l, .i a', .i b']]) [1] hx hds (.cons (.s (.ptr rfl)) (renl_clo hdc)) (by decide) rfl (.cons hrow .nil) (fun B' hB hg => h g B' (hg 0 _ _ rfl rfl)) ?_
 rintro B' d' τ' hB ⟨rfl, rfl⟩
 exact ⟨d', _, _, .s (.clo hres), .cons hrow .nil, rfl, k⟩
theorem r20Term_c (l : List Int) (hl : ∀ x ∈ l, Ord.I64 x) (hll : l.length <= 4611686018427387904) (kind : Int) (hk : Ord.I64 kind) :
  Go.Av.Pure Tryd.prog G 33 [QG l, .i kind] (.agg (Enc.enc (W6 l 4 (Ord.around kind 2) 0 14).1)) /\ QI (W6 l 4 (Ord.around kind 2) 0 14).1 <= 121 := by
 have hr := qr (G := G) kind 2 hk (by decide)
 have hb := Ord.around_bound kind (most := 2) (by decide)
 have hmk0 := make_c (G := G) l hl hll 4 (Ord.around kind 2) 0 14 (by omega) (by decide) (by decide)
 have hsz := (make_ok l 4 (Ord.around kind 2) 0 14 (by omega)).2.2.2.1
 generalize W6 l 4 (Ord.around kind 2) 0 14 = x at *
 generalize Ord.around kind 2 = kd at *
 have h3 : 3 ^ (4 + 1) = 243 := by decide
 refine ⟨fun B => ?_, by omega⟩
 have hmk : MK Tryd.prog G 29 [.i kd, .i 4] l 0 14 (.agg (Enc.enc x.1)) x.2.1 x.2.2 := hmk0
 clear hmk0 hsz h3
 refine Qc Tryd.func33 rfl Tryd.ntmps33 rfl (t := [(0, QG l), (1, .i kind)]) rfl fun E hE => ?_
 (repeat' first | refine Qu rfl ?_ | refine QA rfl ?_ | refine s_call_mk1 rfl rfl hmk rfl (by repeat' first | exact QW | refine QF ?_ ?_ | exact Qx) (by first | exact Qx | exact Qw (Enc.clo _)) ?_ | refine Wa rfl rfl (hr) ?_ | refine Qi rfl rfl rfl (by first | assumption | exact Enc.len _ | rfl) (by first | assumption | exact Enc.len _ | rfl) rfl ?_ | refine W1 rfl rfl ?_ | refine QH (fun _ _ => ?_) | refine QU rfl rfl (fun _ _ => ?_) | refine Qe ?_ | refine Qs rfl ?_ | refine QZ ?_ | refine Qg ?_ | refine Qa ?_ | refine Qq ?_ | fail)
 all_goals exact e_1 (Tryd.results33) (QR (size := 4) rfl rfl (QS (Enc.len _)) (Enc.len _)) (QD rfl)
theorem i64_wrap (n : Int) : Ord.I64 (IntKind.i64.wrap n) := by
 unfold Ord.I64
 simp only [IntKind.wrap, IntKind.bits, IntKind.signed, Bool.true_and, decide_eq_true_eq, show (2 : Int) ^ (64 - 1) = 9223372036854775808 from rfl, show (2 : Int) ^ 64 = 18446744073709551616 from rfl]
 constructor <;> split <;> omega
theorem bent_c (t : Nd) (hsz : QI t <= 50000) (at1 how by1 : Int) (hat1 : Ord.I64 at1) (hhow : Ord.I64 how) (hby : Ord.I64 by1) :
  ∃ t', QI t' <= QI t + 50130 /\ Go.Av.Pure Tryd.prog G 10 [.agg (Enc.enc t), .i at1, .i how, .i by1] (.agg (Enc.enc t')) := by
 have hP := pathsN_len t
 have hpos := sizeN_pos t
 have hpa := (paths_c (G := G) t (by omega)).read
 have hr := qr (G := G) at1 ((ZQ t).length : Int) hat1 (by omega)
 have hb := Ord.around_bound at1 (most := ((ZQ t).length : Int)) (by omega)
 obtain ⟨u, hu⟩ : ∃ u : Nat, Ord.around at1 ((ZQ t).length : Int) = (u : Int) := ⟨_, (Int.toNat_of_nonneg hb.1).symm⟩
 rw [hu] at hr hb
 have hul : u < (ZQ t).length := by omega
 have hmem := List.getElem_mem hul
 have hplen := paths_lens t _ hmem
 obtain ⟨hat2, hsx⟩ := r05At_c (G := G) _ t hmem (by omega)
 have hset0 := fun x' hx' => r05Set_c (G := G) x' hx' _ t hmem (by omega)
 have hPl : (ZQ t).length <= 100000 := by omega
 have hel := Enc.len t
 clear hmem hP hu
 generalize ZQ t = PL at *
 generalize subN PL[u] t = x at *
 obtain ⟨k, n, m, ks⟩ := x
 rw [Q9] at hat2
 have har6 := qr (G := G) how 6 hhow (by decide)
 have hb6 := Ord.around_bound how (most := 6) (by decide)
 generalize Ord.around how 6 = c at *
 rw [QI] at hsx
 have hln := Zf ks
 have hkl : ks.length <= 50000 := by omega
 have hc : c = 0 \/ c = 1 \/ c = 2 \/ c = 3 \/ c = 4 \/ c = 5 := by omega
 rcases hc with rfl | rfl | rfl | rfl | rfl | rfl
 ·have hr2 := qr (G := G) by1 7 hby (by decide)
  have hbb := Ord.around_bound by1 (most := 7) (by decide)
  obtain ⟨v, hv⟩ : ∃ v : Nat, Ord.around by1 7 = (v : Int) := ⟨_, (Int.toNat_of_nonneg hbb.1).symm⟩
  rw [hv] at hr2 hbb
  have hvl : v < ([(4 : Int), 5, 6, 9, 10, 29, 7] : List Int).length := by show v < 7; omega
  obtain ⟨hset, hs2⟩ := hset0 (.mk ([(4 : Int), 5, 6, 9, 10, 29, 7] : List Int)[v] n m ks) (by rw [QI]; omega)
  rw [show (Enc.enc (Nd.mk ([(4 : Int), 5, 6, 9, 10, 29, 7] : List Int)[v] n m ks) : List DV) = [.i _, .i _, .i _, QG _] from Q9 _ _ _ _] at hset
  rw [QI] at hs2
  refine ⟨setN PL[u] t (.mk ([(4 : Int), 5, 6, 9, 10, 29, 7] : List Int)[v] n m ks), ?_, fun B => ?_⟩
  rotate_left
  ·clear hset0 hs2 hsx hb6
   generalize setN PL[u] t (.mk ([(4 : Int), 5, 6, 9, 10, 29, 7] : List Int)[v] n m ks) = y at *
   refine Qc Tryd.func10 rfl Tryd.ntmps10 rfl (t := [(0, .agg (Enc.enc t)), (1, .i at1), (2, .i how), (3, .i by1)]) rfl fun E hE => ?_
   (repeat' first | refine Qu rfl ?_ | refine QA rfl ?_ | refine Qm rfl rfl (by first | assumption | exact Enc.len _ | rfl) ?_ | refine Qv rfl ?_ | refine Ql rfl rfl (by first | assumption | omega | (simp; done) | (simp; omega)) ?_ | refine QJ rfl rfl ?_ | refine WR rfl rfl hset (Wo (QF (Qw (Enc.clo _)) (QF Qx QW))) ?_ | refine Wa rfl rfl (hpa) ?_ | refine Wa rfl rfl (hr) ?_ | refine Wa rfl rfl (har6) ?_ | refine Wa rfl rfl (hat2) ?_ | refine Wa rfl rfl (hr2) ?_ | refine Qj rfl ?_ | refine Qi rfl rfl rfl (by first | assumption | exact Enc.len _ | rfl) (by first | assumption | exact Enc.len _ | rfl) rfl ?_ | refine Wb rfl rfl rfl rfl (by rfl) (by rfl) (by rfl) ?_ | refine WO [(4 : Int), 5, 6, 9, 10, 29, 7] rfl rfl (by decide) rfl ?_ | refine Qd rfl rfl ?_ | refine Q4 rfl rfl rfl ?_ | refine QH (fun _ _ => ?_) | refine QU rfl rfl (fun _ _ => ?_) | refine Qe ?_ | refine Qs rfl ?_ | refine QZ ?_ | refine Qg ?_ | refine Qa ?_ | refine Qf ?_ | refine QB rfl ?_ | refine Qq ?_ | fail)
   all_goals exact e_1 (Tryd.results10) (QR (size := 4) rfl rfl (QS (Enc.len _)) (Enc.len _)) (QD rfl)
  ·omega
 ·have hr2 := qr (G := G) by1 11 hby (by decide)
  have hbb := Ord.around_bound by1 (most := 11) (by decide)
  obtain ⟨v, hv⟩ : ∃ v : Nat, Ord.around by1 11 = (v : Int) := ⟨_, (Int.toNat_of_nonneg hbb.1).symm⟩
  rw [hv] at hr2 hbb
  have hvl : v < ([(-9 : Int), -8, 7, 8, 0, 1, 2, 63, 64, 12, 14] : List Int).length := by show v < 11; omega
  obtain ⟨hset, hs2⟩ := hset0 (.mk k ([(-9 : Int), -8, 7, 8, 0, 1, 2, 63, 64, 12, 14] : List Int)[v] m ks) (by rw [QI]; omega)
  rw [show (Enc.enc (Nd.mk k ([(-9 : Int), -8, 7, 8, 0, 1, 2, 63, 64, 12, 14] : List Int)[v] m ks) : List DV) = [.i _, .i _, .i _, QG _] from Q9 _ _ _ _] at hset
  rw [QI] at hs2
  refine ⟨setN PL[u] t (.mk k ([(-9 : Int), -8, 7, 8, 0, 1, 2, 63, 64, 12, 14] : List Int)[v] m ks), ?_, fun B => ?_⟩
  rotate_left
  ·clear hset0 hs2 hsx hb6
   generalize setN PL[u] t (.mk k ([(-9 : Int), -8, 7, 8, 0, 1, 2, 63, 64, 12, 14] : List Int)[v] m ks) = y at *
   refine Qc Tryd.func10 rfl Tryd.ntmps10 rfl (t := [(0, .agg (Enc.enc t)), (1, .i at1), (2, .i how), (3, .i by1)]) rfl fun E hE => ?_
   (repeat' first | refine Qu rfl ?_ | refine QA rfl ?_ | refine Qm rfl rfl (by first | assumption | exact Enc.len _ | rfl) ?_ | refine Qv rfl ?_ | refine Ql rfl rfl (by first | assumption | omega | (simp; done) | (simp; omega)) ?_ | refine QJ rfl rfl ?_ | refine WR rfl rfl hset (Wo (QF (Qw (Enc.clo _)) (QF Qx QW))) ?_ | refine Wa rfl rfl (hpa) ?_ | refine Wa rfl rfl (hr) ?_ | refine Wa rfl rfl (har6) ?_ | refine Wa rfl rfl (hat2) ?_ | refine Wa rfl rfl (hr2) ?_ | refine Qj rfl ?_ | refine Qi rfl rfl rfl (by first | assumption | exact Enc.len _ | rfl) (by first | assumption | exact Enc.len _ | rfl) rfl ?_ | refine Wb rfl rfl rfl rfl (by rfl) (by rfl) (by rfl) ?_ | refine WO [(-9 : Int), -8, 7, 8, 0, 1, 2, 63, 64, 12, 14] rfl rfl (by decide) rfl ?_ | refine Qd rfl rfl ?_ | refine Q4 rfl rfl rfl ?_ | refine QH (fun _ _ => ?_) | refine QU rfl rfl (fun _ _ => ?_) | refine Qe ?_ | refine Qs rfl ?_ | refine QZ ?_ | refine Qg ?_ | refine Qa ?_ | refine Qf ?_ | refine QB rfl ?_ | refine Qo rfl ?_ | refine Qq ?_ | fail)
   all_goals exact e_1 (Tryd.results10) (QR (size := 4) rfl rfl (QS (Enc.len _)) (Enc.len _)) (QD rfl)
  ·omega
 ·have hr2 := qr (G := G) by1 4 hby (by decide)
  have hbb := Ord.around_bound by1 (most := 4) (by decide)
  obtain ⟨hset, hs2⟩ := hset0 (.mk k n (Ord.around by1 4 - 1) ks) (by rw [QI]; omega)
  rw [show (Enc.enc (Nd.mk k n (Ord.around by1 4 - 1) ks) : List DV) = [.i _, .i _, .i _, QG _] from Q9 _ _ _ _] at hset
  rw [QI] at hs2
  refine ⟨setN PL[u] t (.mk k n (Ord.around by1 4 - 1) ks), ?_, fun B => ?_⟩
  rotate_left
  ·clear hset0 hs2 hsx hb6
   generalize setN PL[u] t (.mk k n (Ord.around by1 4 - 1) ks) = y at *
   refine Qc Tryd.func10 rfl Tryd.ntmps10 rfl (t := [(0, .agg (Enc.enc t)), (1, .i at1), (2, .i how), (3, .i by1)]) rfl fun E hE => ?_
   (repeat' first | refine Qu rfl ?_ | refine QA rfl ?_ | refine Qm rfl rfl (by first | assumption | exact Enc.len _ | rfl) ?_ | refine Qv rfl ?_ | refine Ql rfl rfl (by first | assumption | omega | (simp; done) | (simp; omega)) ?_ | refine QJ rfl rfl ?_ | refine qd rfl rfl (by omega) ?_ | refine WR rfl rfl hset (Wo (QF (Qw (Enc.clo _)) (QF Qx QW))) ?_ | refine Wa rfl rfl (hpa) ?_ | refine Wa rfl rfl (hr) ?_ | refine Wa rfl rfl (har6) ?_ | refine Wa rfl rfl (hat2) ?_ | refine Wa rfl rfl (hr2) ?_ | refine Qj rfl ?_ | refine Qi rfl rfl rfl (by first | assumption | exact Enc.len _ | rfl) (by first | assumption | exact Enc.len _ | rfl) rfl ?_ | refine Wb rfl rfl rfl rfl (by rfl) (by rfl) (by rfl) ?_ | refine Qd rfl rfl ?_ | refine Q4 rfl rfl rfl ?_ | refine QH (fun _ _ => ?_) | refine QU rfl rfl (fun _ _ => ?_) | refine Qe ?_ | refine Qs rfl ?_ | refine QZ ?_ | refine Qg ?_ | refine Qa ?_ | refine Qf ?_ | refine QB rfl ?_ | refine Qo rfl ?_ | refine Qq ?_ | fail)
   all_goals exact e_1 (Tryd.results10) (QR (size := 4) rfl rfl (QS (Enc.len _)) (Enc.len _)) (QD rfl)
  ·omega
 ·have hr2 := qr (G := G) by1 4 hby (by decide)
  have hr3 := qr (G := G) (IntKind.i64.wrap (by1.tdiv 4)) 2 (i64_wrap _) (by decide)
  have hvar := r20Var_c (G := G) (Ord.around by1 4) (Ord.around (IntKind.i64.wrap (by1.tdiv 4)) 2)
  rw [Q9] at hvar
  have hsz2 : QN (ks ++ [.mk 6 (Ord.around by1 4) (Ord.around (IntKind.i64.wrap (by1.tdiv 4)) 2) []]) = QN ks + 1 := by rw [sizeL_app, QN, QN, QI, QN]
  obtain ⟨hset, hs2⟩ := hset0 (.mk k n m (ks ++ [.mk 6 (Ord.around by1 4) (Ord.around (IntKind.i64.wrap (by1.tdiv 4)) 2) []])) (by rw [QI]; omega)
  rw [show (Enc.enc (Nd.mk k n m (ks ++ [.mk 6 (Ord.around by1 4) (Ord.around (IntKind.i64.wrap (by1.tdiv 4)) 2) []])) : List DV) = [.i _, .i _, .i _, QG _] from Q9 _ _ _ _] at hset
  rw [QI] at hs2
  refine ⟨setN PL[u] t (.mk k n m (ks ++ [.mk 6 (Ord.around by1 4) (Ord.around (IntKind.i64.wrap (by1.tdiv 4)) 2) []])), ?_, fun B => ?_⟩
  rotate_left
  ·clear hset0 hs2 hsx hb6
   generalize setN PL[u] t (.mk k n m (ks ++ [.mk 6 (Ord.around by1 4) (Ord.around (IntKind.i64.wrap (by1.tdiv 4)) 2) []])) = y at *
   refine Qc Tryd.func10 rfl Tryd.ntmps10 rfl (t := [(0, .agg (Enc.enc t)), (1, .i at1), (2, .i how), (3, .i by1)]) rfl fun E hE => ?_
   (repeat' first | refine Qu rfl ?_ | refine QA rfl ?_ | refine Qm rfl rfl (by first | assumption | exact Enc.len _ | rfl) ?_ | refine Qv rfl ?_ | refine Qb rfl rfl rfl ?_ | refine Ql rfl rfl (by first | assumption | omega | (simp; done) | (simp; omega)) ?_ | refine s_quow rfl rfl (by omega) ?_ | refine QJ rfl rfl ?_ | refine WR rfl rfl hset (Wo (QF (Qw (Enc.clo _)) (QF Qx QW))) ?_ | refine Wa rfl rfl (hpa) ?_ | refine Wa rfl rfl (hr) ?_ | refine Wa rfl rfl (har6) ?_ | refine Wa rfl rfl (hat2) ?_ | refine Wa rfl rfl (hr2) ?_ | refine Wa rfl rfl (hr3) ?_ | refine Wa rfl rfl (hvar) ?_ | refine Z5 (z := (Nd.mk 6 _ _ [])) rfl rfl rfl rfl rfl rfl rfl (by first | omega | (simp; omega)) (by first | omega | (simp; omega)) (fun _ => rfl) (fun _ _ => ?_) | refine s_app_z rfl rfl rfl rfl rfl (by first | omega | (simp; omega)) (by first | omega | (simp; omega)) (fun _ => rfl) (fun _ _ => ?_) | refine Qj rfl ?_ | refine s_store_pub rfl rfl (by first | rfl | (rw [Qz]; rfl) | (simp [Qz]; done)) rfl ?_ | refine Qi rfl rfl rfl (by first | assumption | exact Enc.len _ | rfl) (by first | assumption | exact Enc.len _ | rfl) rfl ?_ | refine Wb rfl rfl rfl rfl (by rfl) (by rfl) (by rfl) ?_ | refine s_bslice_none rfl (fun _ _ => ?_) | refine Wi rfl rfl (by decide) rfl ?_ | refine Qd rfl rfl ?_ | refine Q4 rfl rfl rfl ?_ | refine QH (fun _ _ => ?_) | refine QU rfl rfl (fun _ _ => ?_) | refine Qe ?_ | refine Qs rfl ?_ | refine QZ ?_ | refine Qg ?_ | refine Qa ?_ | refine Qf ?_ | refine QB rfl ?_ | refine Qo rfl ?_ | refine Qq ?_ | fail)
   all_goals exact e_1 (Tryd.results10) (QR (size := 4) rfl rfl (QS (Enc.len _)) (Enc.len _)) (QD rfl)
  ·omega
 ·by_cases hk0 : ks.length = 0
  ·obtain ⟨hset, hs2⟩ := hset0 (.mk k n m ks) (by rw [QI]; omega)
   rw [show (Enc.enc (Nd.mk k n m ks) : List DV) = [.i _, .i _, .i _, QG _] from Q9 _ _ _ _] at hset
   rw [QI] at hs2
   refine ⟨setN PL[u] t (.mk k n m ks), ?_, fun B => ?_⟩
   rotate_left
   ·clear hset0 hs2 hsx hb6
    generalize setN PL[u] t (.mk k n m ks) = y at *
    refine Qc Tryd.func10 rfl Tryd.ntmps10 rfl (t := [(0, .agg (Enc.enc t)), (1, .i at1), (2, .i how), (3, .i by1)]) rfl fun E hE => ?_
    (repeat' first | refine Qu rfl ?_ | refine QA rfl ?_ | refine Qm rfl rfl (by first | assumption | exact Enc.len _ | rfl) ?_ | refine Qv rfl ?_ | refine Qb rfl rfl rfl ?_ | refine Ql rfl rfl (by first | assumption | omega | (simp; done) | (simp; omega)) ?_ | refine s_gtr rfl rfl ?_ | refine QJ rfl rfl ?_ | refine WR rfl rfl hset (Wo (QF (Qw (Enc.clo _)) (QF Qx QW))) ?_ | refine Wa rfl rfl (hpa) ?_ | refine Wa rfl rfl (hr) ?_ | refine Wa rfl rfl (har6) ?_ | refine Wa rfl rfl (hat2) ?_ | refine Qj rfl ?_ | refine Qi rfl rfl rfl (by first | assumption | exact Enc.len _ | rfl) (by first | assumption | exact Enc.len _ | rfl) rfl ?_ | refine Qd rfl rfl ?_ | refine Q4 rfl rfl rfl ?_ | refine QH (fun _ _ => ?_) | refine QU rfl rfl (fun _ _ => ?_) | refine Qe ?_ | refine Qs rfl ?_ | refine QZ ?_ | refine Qg ?_ | refine Qa ?_ | refine Qf ?_ | refine Qk ?_ | refine QB rfl ?_ | refine Qo rfl ?_ | refine Qr rfl (by omega) ?_ | refine Qq ?_ | fail)
    all_goals exact e_1 (Tryd.results10) (QR (size := 4) rfl rfl (QS (Enc.len _)) (Enc.len _)) (QD rfl)
   ·omega
  ·have hsz2 : QN (ks.drop 1) <= QN ks := by
    cases ks with
    | nil => exact Nat.le_refl _
    | cons a r => rw [List.drop_succ_cons, List.drop_zero, QN]; omega
   obtain ⟨hset, hs2⟩ := hset0 (.mk k n m (ks.drop 1)) (by rw [QI]; omega)
   rw [show (Enc.enc (Nd.mk k n m (ks.drop 1)) : List DV) = [.i _, .i _, .i _, QG _] from Q9 _ _ _ _] at hset
   rw [QI] at hs2
   refine ⟨setN PL[u] t (.mk k n m (ks.drop 1)), ?_, fun B => ?_⟩
   rotate_left
   ·clear hset0 hs2 hsx hb6
    generalize setN PL[u] t (.mk k n m (ks.drop 1)) = y at *
    refine Qc Tryd.func10 rfl Tryd.ntmps10 rfl (t := [(0, .agg (Enc.enc t)), (1, .i at1), (2, .i how), (3, .i by1)]) rfl fun E hE => ?_
    (repeat' first | refine Qu rfl ?_ | refine QA rfl ?_ | refine Qm rfl rfl (by first | assumption | exact Enc.len _ | rfl) ?_ | refine Qv rfl ?_ | refine Qb rfl rfl rfl ?_ | refine Ql rfl rfl (by first | assumption | omega | (simp; done) | (simp; omega)) ?_ | refine s_gtr rfl rfl ?_ | refine QJ rfl rfl ?_ | refine WR rfl rfl hset (Wo (QF (Qw (Enc.clo _)) (QF Qx QW))) ?_ | refine Wa rfl rfl (hpa) ?_ | refine Wa rfl rfl (hr) ?_ | refine Wa rfl rfl (har6) ?_ | refine Wa rfl rfl (hat2) ?_ | refine Qj rfl ?_ | refine Qi rfl rfl rfl (by first | assumption | exact Enc.len _ | rfl) (by first | assumption | exact Enc.len _ | rfl) rfl ?_ | refine Wb rfl rfl rfl rfl (by rfl) (by rfl) (by rfl) ?_ | refine Qd rfl rfl ?_ | refine Q4 rfl rfl rfl ?_ | refine s_slice_l rfl rfl (by omega) (by omega) ?_ | refine QH (fun _ _ => ?_) | refine QU rfl rfl (fun _ _ => ?_) | refine Qe ?_ | refine Qs rfl ?_ | refine QZ ?_ | refine Qg ?_ | refine Qa ?_ | refine Qf ?_ | refine QB rfl ?_ | refine Qo rfl ?_ | refine Qp rfl (by omega) ?_ | refine Qq ?_ | fail)
    all_goals exact e_1 (Tryd.results10) (QR (size := 4) rfl rfl (QS (Enc.len _)) (Enc.len _)) (QD rfl)
   ·omega
 ·obtain ⟨hterm, hs3⟩ := r20Term_c (G := G) [by1, at1, how] (fun x hx => by
    simp only [List.mem_cons, List.not_mem_nil, or_false] at hx
    rcases hx with rfl | rfl | rfl <;> assumption) (by simp) by1 hby
  generalize W6 [by1, at1, how] 4 (Ord.around by1 2) 0 14 = z at *
  obtain ⟨hset, hs2⟩ := hset0 z.1 (by omega)
  refine ⟨setN PL[u] t z.1, ?_, fun B => ?_⟩
  rotate_left
  ·clear hset0 hs2 hsx hb6
   generalize setN PL[u] t z.1 = y at *
   refine Qc Tryd.func10 rfl Tryd.ntmps10 rfl (t := [(0, .agg (Enc.enc t)), (1, .i at1), (2, .i how), (3, .i by1)]) rfl fun E hE => ?_
   (repeat' first | refine Qu rfl ?_ | refine QA rfl ?_ | refine Qm rfl rfl (by first | assumption | exact Enc.len _ | rfl) ?_ | refine Qv rfl ?_ | refine Ql rfl rfl (by first | assumption | omega | (simp; done) | (simp; omega)) ?_ | refine QJ rfl rfl ?_ | refine WR rfl rfl hset (Wo (QF (Qw (Enc.clo _)) (QF Qx QW))) ?_ | refine WR rfl rfl hterm (Qw (Enc.clo _)) ?_ | refine Wa rfl rfl (hpa) ?_ | refine Wa rfl rfl (hr) ?_ | refine Wa rfl rfl (har6) ?_ | refine Wa rfl rfl (hat2) ?_ | refine Qj rfl ?_ | refine Qi rfl rfl rfl (by first | assumption | exact Enc.len _ | rfl) (by first | assumption | exact Enc.len _ | rfl) rfl ?_ | refine Wi rfl rfl (by decide) rfl ?_ | refine Q4 rfl rfl rfl ?_ | refine QH (fun _ _ => ?_) | refine QU rfl rfl (fun _ _ => ?_) | refine Qe ?_ | refine Qs rfl ?_ | refine QZ ?_ | refine Qg ?_ | refine Qa ?_ | refine Qf ?_ | refine Qo rfl ?_ | refine Qq ?_ | fail)
   all_goals exact e_1 (Tryd.results10) (QR (size := 4) rfl rfl (QS (Enc.len _)) (Enc.len _)) (QD rfl)
  ·omega
end Go.Proofs
end
section
namespace Go.Av
section
variable {P : Program} {G : Nat -> DV} {B : Nat} {f : Operand -> DV} {σ : List ABlk} {K : DV -> List ABlk -> Prop} {dst : Option Tmp} {type : TypeId} {pos : String} {after : Array Edge} {gd : Option (Nat × Bool)}
end
theorem r_loop4 {P : Program} {G : Nat -> DV} {E : AX} {n : Nat} {N : ASt -> Prop} {xs : List (Nat × (ASt -> Prop))} {R : ASt -> Prop} {st : ASt} {c : Code} {α β γ δ : Type} (I : α -> β -> γ -> δ -> ASt) (pre : α -> β -> γ -> δ -> Prop) (μ : α -> Nat) (x0 : α) (y0 : β) (z0 : γ) (w0 : δ) (h0 : ALe st (I x0 y0 z0 w0)) (hp0 : pre x0 y0 z0 w0)
  (round : ∀ x y z w, pre x y z w -> WB P G E n c (fun st' => ∃ x' y' z' w', pre x' y' z' w' /\ μ x' < μ x /\ ALe st' (I x' y' z' w')) xs R (I x y z w)) : WB P G E n (.loop c) N xs R st :=
 r_loop3 (fun x y (s : γ × δ) => I x y s.1 s.2) (fun x y s => pre x y s.1 s.2) (fun x _ _ => μ x) x0 y0 (z0, w0) h0 hp0 fun x y s hs a w hr => wp_mono (round x y s.1 s.2 hs a w hr) fun e a' w' ⟨st', hr', hq⟩ => ⟨st', hr', by
  cases e with
  | normal => obtain ⟨x', y', z', v', h1, h2, h3⟩ := hq; exact ⟨x', y', (z', v'), h1, h2, h3⟩
  | exit id => exact hq
  | ret => exact hq
  | goto l => exact hq
  | panic ch => exact hq
  | outgrown => exact hq⟩
end Go.Av
namespace Go.Fv
end Go.Fv
end
