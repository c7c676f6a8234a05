/-
  Part 7 of the proof: Q3 Q4 S1 S2.
-/
import Derived.Test.YtecbcpilcjmhlaaDoorZB1
import Derived.Test.YtecbcpilcjmhlaaDoorZB6
set_option linter.unusedSimpArgs false
set_option linter.unusedVariables false
set_option maxRecDepth 10000
set_option maxHeartbeats 4000000
section
namespace Go.Proofs
open Go.Av
variable {G : Nat -> DV}
attribute [local irreducible] OpSem WE WY W0 ACalls ZE QV RV
open Go.Bl
theorem make_c (l : List Int) (hl : ∀ x ∈ l, Ord.I64 x) (hll : l.length <= 4611686018427387904) : ∀ (d : Nat) (kind : Int) (a : Nat) (b : Int), kind = 0 \/ kind = 1 -> a + 2 * 3 ^ (d + 1) <= 100000 -> (3 ^ (d + 1) : Nat) - 100000 <= b /\ b <= 100000 ->
  MK Tryd.prog G 29 [.i kind, .i d] l a b (.agg (Enc.enc (W1 l d kind a b).1)) (W1 l d kind a b).2.1 (W1 l d kind a b).2.2
 | 0, kind, a, b, hk, ha, hb => leaf_c l hl hll 0 kind hk a b (by omega) (by omega) (.inl rfl) (by omega)
 | d + 1, kind, a, b, hk, ha, hb => by
  have p1 : 3 ^ (d + 1 + 1) = 3 * 3 ^ (d + 1) := by rw [Nat.pow_succ 3 (d + 1)]; omega
  have p5 : 1 <= 3 ^ (d + 1) := Nat.one_le_pow _ _ (by decide)
  rw [p1] at ha hb
  have ih := make_c l hl hll d
  have ok := make_ok l d
  have e1 : ((d + 1 : Nat) : Int) - 1 = (d : Int) := by omega
  rw [<- e1] at ih
  rw [W1]
  by_cases h0 : b - 1 < 3 \/ atM l a 10 < 2
  ·rw [if_pos h0]
   exact leaf_c l hl hll ((d + 1 : Nat) : Int) kind hk a b (by omega) (by omega) (.inr ⟨by omega, h0⟩) (by omega)
  rw [if_neg h0]
  have hd9 : d + 1 < 3 ^ (d + 1) := Nat.lt_pow_self (by decide)
  have hdd : 1 <= ((d + 1 : Nat) : Int) /\ ((d + 1 : Nat) : Int) <= 100000 := ⟨by omega, by omega⟩
  have hb3 : 4 <= b /\ b <= 100000 := ⟨by omega, by omega⟩
  have hx2 : 2 <= atM l a 10 := by omega
  have hd1 := draw_c (G := G) l hl hll a (by omega) (b - 1) 10 (by decide)
  have bx := atM_bd l a (n := 10) (by decide)
  by_cases h2 : atM l a 10 = 2
  ·rw [if_pos h2]
   dsimp only
   have hx : MK Tryd.prog G 29 [.i 1, .i (((d + 1 : Nat) : Int) - 1)] l (a + 1) (b - 1) _ _ _ := ih 1 (a + 1) (b - 1) (.inr rfl) (by omega) (by omega)
   obtain ⟨_, _, x3, x4, x5⟩ := ok 1 (a + 1) (b - 1) (.inr rfl)
   generalize W1 l d 1 (a + 1) (b - 1) = x at *
   have hy := ih kind x.2.1 x.2.2 hk (by omega) (by omega)
   obtain ⟨_, _, y3, y4, y5⟩ := ok kind x.2.1 x.2.2 hk
   generalize W1 l d kind x.2.1 x.2.2 = y at *
   have hz := ih kind y.2.1 y.2.2 hk (by omega) (by omega)
   generalize W1 l d kind y.2.1 y.2.2 = z at *
   rw [h2] at hd1
   have hw : (Enc.enc (Nd.mk 29 0 0 [x.1, y.1, z.1]) : List DV).length = 4 := Enc.len _
   clear ih ok x3 x4 x5 y3 y4 y5 p1 p5 hl e1 hd9 h0 h2 hx2 ha hb bx hk
   generalize ((d + 1 : Nat) : Int) = dd at *
   intro g B hg
   refine Qb Tryd.func29 rfl Tryd.ntmps29 rfl (t := [(0, .ptr 0 g 0), (1, .i kind), (2, .i dd)]) rfl fun E hE => ?_
   (repeat' first | refine Qt rfl ?_ | refine Qv rfl ?_ | refine Qc rfl rfl rfl ?_ | refine QG rfl rfl ?_ | refine s_leq rfl rfl ?_ | refine QH rfl rfl ?_ | refine Zn rfl rfl (by omega) ?_ | refine Wb rfl rfl hd1 rfl (by repeat' first | exact QX | refine QN ?_ ?_ | exact QA) (by first | exact QA | exact QB (Enc.clo _)) ?_ | refine Wb rfl rfl hx rfl (by repeat' first | exact QX | refine QN ?_ ?_ | exact QA) (by first | exact QA | exact QB (Enc.clo _)) ?_ | refine Wb rfl rfl hy rfl (by repeat' first | exact QX | refine QN ?_ ?_ | exact QA) (by first | exact QA | exact QB (Enc.clo _)) ?_ | refine Wb rfl rfl hz rfl (by repeat' first | exact QX | refine QN ?_ ?_ | exact QA) (by first | exact QA | exact QB (Enc.clo _)) ?_ | refine Wk rfl rfl ?_ | refine Ql rfl rfl rfl (by first | assumption | exact Enc.len _ | rfl) (by first | assumption | exact Enc.len _ | rfl) rfl ?_ | refine Wf rfl rfl rfl rfl (by rfl) (by rfl) (by rfl) ?_ | refine Qd rfl rfl ?_ | refine Q3 rfl rfl ?_ | refine QJ (fun _ _ => ?_) | refine Qe ?_ | refine Qp rfl ?_ | refine Q0 ?_ | refine WC rfl rfl rfl rfl ?_ | refine Wn rfl rfl (by omega) ?_ | refine Qf ?_ | refine Qa ?_ | (refine Wa ?_; first | (rename_i g6 h6 g12 h12; refine Wu (fun p => p.1 :: p.2.1 :: .row g12 (Enc.enc x.1) :: p.2.2) 9 [(0, true), (1, true), (2, true), (3, true), (4, true), (5, true), (6, false), (7, true), (8, false)] (by rfl) (by rfl) (by kernel_rfl) (by decide +kernel) (by decide +kernel) ⟨(_, _, _), rfl⟩ ?_) | (rename_i g6 h6 g8 h8 g9 h9; refine Wu (fun p => p.1 :: p.2.1 :: .row g8 (Enc.enc x.1) :: .row g9 (Enc.enc y.1) :: p.2.2) 9 [(0, true), (1, true), (2, true), (3, true), (4, true), (5, true), (6, false), (7, true), (8, false)] (by rfl) (by rfl) (by kernel_rfl) (by decide +kernel) (by decide +kernel) ⟨(_, _, _), rfl⟩ ?_) | (refine Wu (fun p => p.1 :: p.2.1 :: .row gnone (Qq x) :: p.2.2) 100 [(0, true)] (by rfl) (by rfl) (by kernel_rfl) (by decide +kernel) (by decide +kernel) ⟨(_, _, _), rfl⟩ ?_) | refine Wj (by rfl) (by kernel_rfl) (by kernel_rfl) ?_ | refine QT (by kernel_rfl) (by kernel_rfl) ?_) | refine Qj ?_ | refine Qs rfl ?_ | refine Qi rfl ?_ | refine Qm ?_ | refine i_nil ?_ | refine i_st rfl rfl (fun _ => (by (repeat' first | refine Qt rfl ?_ | refine Qu rfl rfl (by first | assumption | exact Enc.len _ | rfl) ?_ | refine Zn rfl rfl (by omega) ?_ | refine s_call_p rfl rfl (r20Cond_c _ _ _) (QB (Enc.clo _)) ?_ | exact ⟨rfl, rfl⟩))) ?_ | refine i_ef rfl ?_ | refine i_ef0 ?_ | refine And.intro (Exists.intro ((_, _, _)) rfl) ?_)
   exact e_1 (Tryd.results29) (QY (size := 4) rfl rfl (Q4 hw) hw) (QC (σ := [_]) (r := [_, _, _]) ⟨rfl, rfl⟩)
  rw [if_neg h2]
  by_cases h3 : kind = 1 /\ atM l a 10 = 3
  ·rw [if_pos h3]
   dsimp only
   obtain ⟨rfl, h3⟩ := h3
   have hx : MK Tryd.prog G 29 [.i 1, .i (((d + 1 : Nat) : Int) - 1)] l (a + 1) (b - 1) _ _ _ := ih 1 (a + 1) (b - 1) (.inr rfl) (by omega) (by omega)
   generalize W1 l d 1 (a + 1) (b - 1) = x at *
   rw [h3] at hd1
   have hw : (Enc.enc (Nd.mk 10 0 0 [x.1]) : List DV).length = 4 := Enc.len _
   clear ih ok p1 p5 hl e1 hd9 h0 h2 hx2 ha hb bx hk h3
   generalize ((d + 1 : Nat) : Int) = dd at *
   intro g B hg
   refine Qb Tryd.func29 rfl Tryd.ntmps29 rfl (t := [(0, .ptr 0 g 0), (1, .i 1), (2, .i dd)]) rfl fun E hE => ?_
   (repeat' first | refine Qt rfl ?_ | refine Qv rfl ?_ | refine Qc rfl rfl rfl ?_ | refine QG rfl rfl ?_ | refine s_leq rfl rfl ?_ | refine QH rfl rfl ?_ | refine Zn rfl rfl (by omega) ?_ | refine Wb rfl rfl hd1 rfl (by repeat' first | exact QX | refine QN ?_ ?_ | exact QA) (by first | exact QA | exact QB (Enc.clo _)) ?_ | refine Wb rfl rfl hx rfl (by repeat' first | exact QX | refine QN ?_ ?_ | exact QA) (by first | exact QA | exact QB (Enc.clo _)) ?_ | refine s_call_p rfl rfl (r20Not_c _) (QB (Enc.clo _)) ?_ | refine WR rfl rfl ?_ | refine Wk rfl rfl ?_ | refine Ql rfl rfl rfl (by first | assumption | exact Enc.len _ | rfl) (by first | assumption | exact Enc.len _ | rfl) rfl ?_ | refine Wf rfl rfl rfl rfl (by rfl) (by rfl) (by rfl) ?_ | refine Qd rfl rfl ?_ | refine Q3 rfl rfl ?_ | refine QJ (fun _ _ => ?_) | refine Qe ?_ | refine Qp rfl ?_ | refine Q0 ?_ | refine WC rfl rfl rfl rfl ?_ | refine Wn rfl rfl (by omega) ?_ | refine Qf ?_ | refine Qa ?_ | refine Qj ?_ | refine Qs rfl ?_ | refine Qi rfl ?_ | refine Qm ?_)
   exact e_1 (Tryd.results29) (QY (size := 4) rfl rfl (Q4 hw) hw) (QC (σ := [_]) (r := [_]) ⟨rfl, rfl⟩)
  rw [if_neg h3]
  have hd2 : MK Tryd.prog G 28 [.i 10] l (a + 1) (b - 1) (.i (atM l (a + 1) 10)) (a + 1 + 1) (b - 1) := draw_c (G := G) l hl hll (a + 1) (by omega) (b - 1) 10 (by decide)
  have b2 := atM_bd l (a + 1) (n := 10) (by decide)
  by_cases hk1 : kind = 1
  ·subst hk1
   rw [if_pos rfl]
   dsimp only
   have h3' : atM l a 10 ≠ 3 := fun e => h3 ⟨rfl, e⟩
   have hd3 : MK Tryd.prog G 28 [.i 4] l (a + 1 + 1) (b - 1) (.i (atM l (a + 1 + 1) 4)) (a + 1 + 1 + 1) (b - 1) := draw_c (G := G) l hl hll (a + 1 + 1) (by omega) (b - 1) 4 (by decide)
   have b4 := atM_bd l (a + 1 + 1) (n := 4) (by decide)
   rw [show a + 2 = a + 1 + 1 from rfl, show a + 3 = a + 1 + 1 + 1 from rfl]
   generalize atM l (a + 1 + 1) 4 = w at *
   by_cases h12 : 12 <= 10 + w
   ·rw [if_pos h12]
    have hx : MK Tryd.prog G 29 [.i 1, .i (((d + 1 : Nat) : Int) - 1)] l (a + 1 + 1 + 1) (b - 1) _ _ _ := ih 1 (a + 1 + 1 + 1) (b - 1) (.inr rfl) (by omega) (by omega)
    obtain ⟨_, _, x3, x4, x5⟩ := ok 1 (a + 1 + 1 + 1) (b - 1) (.inr rfl)
    generalize W1 l d 1 (a + 1 + 1 + 1) (b - 1) = x at *
    have hy := ih 1 x.2.1 x.2.2 (.inr rfl) (by omega) (by omega)
    generalize W1 l d 1 x.2.1 x.2.2 = y at *
    have hw : (Enc.enc (Nd.mk 9 (10 + w) 0 [x.1, y.1]) : List DV).length = 4 := Enc.len _
    generalize atM l a 10 = u at *
    generalize atM l (a + 1) 10 = v at *
    clear ih ok x3 x4 x5 p1 p5 hl e1 hd9 h0 ha hb hk h3
    generalize ((d + 1 : Nat) : Int) = dd at *
    intro g B hg
    refine Qb Tryd.func29 rfl Tryd.ntmps29 rfl (t := [(0, .ptr 0 g 0), (1, .i 1), (2, .i dd)]) rfl fun E hE => ?_
    (repeat' first | refine Qt rfl ?_ | refine Qv rfl ?_ | refine Qc rfl rfl rfl ?_ | refine QG rfl rfl ?_ | refine s_leq rfl rfl ?_ | refine Wv rfl rfl ?_ | refine QH rfl rfl ?_ | refine QS rfl rfl (by omega) ?_ | refine Zn rfl rfl (by omega) ?_ | refine Wb rfl rfl hd1 rfl (by repeat' first | exact QX | refine QN ?_ ?_ | exact QA) (by first | exact QA | exact QB (Enc.clo _)) ?_ | refine Wb rfl rfl hd2 rfl (by repeat' first | exact QX | refine QN ?_ ?_ | exact QA) (by first | exact QA | exact QB (Enc.clo _)) ?_ | refine Wb rfl rfl hd3 rfl (by repeat' first | exact QX | refine QN ?_ ?_ | exact QA) (by first | exact QA | exact QB (Enc.clo _)) ?_ | refine Wb rfl rfl hx rfl (by repeat' first | exact QX | refine QN ?_ ?_ | exact QA) (by first | exact QA | exact QB (Enc.clo _)) ?_ | refine Wb rfl rfl hy rfl (by repeat' first | exact QX | refine QN ?_ ?_ | exact QA) (by first | exact QA | exact QB (Enc.clo _)) ?_ | refine WR rfl rfl ?_ | refine Wk rfl rfl ?_ | refine Ql rfl rfl rfl (by first | assumption | exact Enc.len _ | rfl) (by first | assumption | exact Enc.len _ | rfl) rfl ?_ | refine Wf rfl rfl rfl rfl (by rfl) (by rfl) (by rfl) ?_ | refine Qd rfl rfl ?_ | refine Q3 rfl rfl ?_ | refine QJ (fun _ _ => ?_) | refine Qe ?_ | refine Qp rfl ?_ | refine Q0 ?_ | refine WC rfl rfl rfl rfl ?_ | refine Wn rfl rfl (by omega) ?_ | refine Qf ?_ | refine Qa ?_ | (refine Wa ?_; first | (rename_i g6 h6 g12 h12; refine Wu (fun p => p.1 :: p.2.1 :: .row g12 (Enc.enc x.1) :: p.2.2) 9 [(0, true), (1, true), (2, true), (3, true), (4, true), (5, true), (6, false), (7, true), (8, false)] (by rfl) (by rfl) (by kernel_rfl) (by decide +kernel) (by decide +kernel) ⟨(_, _, _), rfl⟩ ?_) | (rename_i g6 h6 g8 h8 g9 h9; refine Wu (fun p => p.1 :: p.2.1 :: .row g8 (Enc.enc x.1) :: .row g9 (Enc.enc y.1) :: p.2.2) 9 [(0, true), (1, true), (2, true), (3, true), (4, true), (5, true), (6, false), (7, true), (8, false)] (by rfl) (by rfl) (by kernel_rfl) (by decide +kernel) (by decide +kernel) ⟨(_, _, _), rfl⟩ ?_) | (refine Wu (fun p => p.1 :: p.2.1 :: .row gnone (Qq x) :: p.2.2) 100 [(0, true)] (by rfl) (by rfl) (by kernel_rfl) (by decide +kernel) (by decide +kernel) ⟨(_, _, _), rfl⟩ ?_) | refine Wj (by rfl) (by kernel_rfl) (by kernel_rfl) ?_ | refine QT (by kernel_rfl) (by kernel_rfl) ?_) | refine Qj ?_ | refine Qs rfl ?_ | refine Qx rfl (by omega) ?_ | refine QD rfl (by omega) ?_ | refine Qm ?_ | refine i_nil ?_ | refine i_st rfl rfl (fun _ => (by (repeat' first | refine Qt rfl ?_ | refine Qu rfl rfl (by first | assumption | exact Enc.len _ | rfl) ?_ | refine Zn rfl rfl (by omega) ?_ | refine s_call_p rfl rfl (r20Bin_c _ _ _) (QB (Enc.clo _)) ?_ | exact ⟨rfl, rfl⟩))) ?_ | refine i_ef rfl ?_ | refine i_ef0 ?_ | refine And.intro (Exists.intro ((_, _, _)) rfl) ?_)
    exact e_1 (Tryd.results29) (QY (size := 4) rfl rfl (Q4 hw) hw) (QC (σ := [_]) (r := [_, _]) ⟨rfl, rfl⟩)
   ·rw [if_neg h12]
    have hx : MK Tryd.prog G 29 [.i 0, .i (((d + 1 : Nat) : Int) - 1)] l (a + 1 + 1 + 1) (b - 1) _ _ _ := ih 0 (a + 1 + 1 + 1) (b - 1) (.inl rfl) (by omega) (by omega)
    obtain ⟨_, _, x3, x4, x5⟩ := ok 0 (a + 1 + 1 + 1) (b - 1) (.inl rfl)
    generalize W1 l d 0 (a + 1 + 1 + 1) (b - 1) = x at *
    have hy := ih 0 x.2.1 x.2.2 (.inl rfl) (by omega) (by omega)
    generalize W1 l d 0 x.2.1 x.2.2 = y at *
    have hw : (Enc.enc (Nd.mk 9 (10 + w) 0 [x.1, y.1]) : List DV).length = 4 := Enc.len _
    generalize atM l a 10 = u at *
    generalize atM l (a + 1) 10 = v at *
    clear ih ok x3 x4 x5 p1 p5 hl e1 hd9 h0 ha hb hk h3
    generalize ((d + 1 : Nat) : Int) = dd at *
    intro g B hg
    refine Qb Tryd.func29 rfl Tryd.ntmps29 rfl (t := [(0, .ptr 0 g 0), (1, .i 1), (2, .i dd)]) rfl fun E hE => ?_
    (repeat' first | refine Qt rfl ?_ | refine Qv rfl ?_ | refine Qc rfl rfl rfl ?_ | refine QG rfl rfl ?_ | refine s_leq rfl rfl ?_ | refine Wv rfl rfl ?_ | refine QH rfl rfl ?_ | refine QS rfl rfl (by omega) ?_ | refine Zn rfl rfl (by omega) ?_ | refine Wb rfl rfl hd1 rfl (by repeat' first | exact QX | refine QN ?_ ?_ | exact QA) (by first | exact QA | exact QB (Enc.clo _)) ?_ | refine Wb rfl rfl hd2 rfl (by repeat' first | exact QX | refine QN ?_ ?_ | exact QA) (by first | exact QA | exact QB (Enc.clo _)) ?_ | refine Wb rfl rfl hd3 rfl (by repeat' first | exact QX | refine QN ?_ ?_ | exact QA) (by first | exact QA | exact QB (Enc.clo _)) ?_ | refine Wb rfl rfl hx rfl (by repeat' first | exact QX | refine QN ?_ ?_ | exact QA) (by first | exact QA | exact QB (Enc.clo _)) ?_ | refine Wb rfl rfl hy rfl (by repeat' first | exact QX | refine QN ?_ ?_ | exact QA) (by first | exact QA | exact QB (Enc.clo _)) ?_ | refine WR rfl rfl ?_ | refine Wk rfl rfl ?_ | refine Ql rfl rfl rfl (by first | assumption | exact Enc.len _ | rfl) (by first | assumption | exact Enc.len _ | rfl) rfl ?_ | refine Wf rfl rfl rfl rfl (by rfl) (by rfl) (by rfl) ?_ | refine Qd rfl rfl ?_ | refine Q3 rfl rfl ?_ | refine QJ (fun _ _ => ?_) | refine Qe ?_ | refine Qp rfl ?_ | refine Q0 ?_ | refine WC rfl rfl rfl rfl ?_ | refine Wn rfl rfl (by omega) ?_ | refine Qf ?_ | refine Qa ?_ | (refine Wa ?_; first | (rename_i g6 h6 g12 h12; refine Wu (fun p => p.1 :: p.2.1 :: .row g12 (Enc.enc x.1) :: p.2.2) 9 [(0, true), (1, true), (2, true), (3, true), (4, true), (5, true), (6, false), (7, true), (8, false)] (by rfl) (by rfl) (by kernel_rfl) (by decide +kernel) (by decide +kernel) ⟨(_, _, _), rfl⟩ ?_) | (rename_i g6 h6 g8 h8 g9 h9; refine Wu (fun p => p.1 :: p.2.1 :: .row g8 (Enc.enc x.1) :: .row g9 (Enc.enc y.1) :: p.2.2) 9 [(0, true), (1, true), (2, true), (3, true), (4, true), (5, true), (6, false), (7, true), (8, false)] (by rfl) (by rfl) (by kernel_rfl) (by decide +kernel) (by decide +kernel) ⟨(_, _, _), rfl⟩ ?_) | (refine Wu (fun p => p.1 :: p.2.1 :: .row gnone (Qq x) :: p.2.2) 100 [(0, true)] (by rfl) (by rfl) (by kernel_rfl) (by decide +kernel) (by decide +kernel) ⟨(_, _, _), rfl⟩ ?_) | refine Wj (by rfl) (by kernel_rfl) (by kernel_rfl) ?_ | refine QT (by kernel_rfl) (by kernel_rfl) ?_) | refine Qj ?_ | refine Qs rfl ?_ | refine QD rfl (by omega) ?_ | refine Qm ?_ | refine i_nil ?_ | refine i_st rfl rfl (fun _ => (by (repeat' first | refine Qt rfl ?_ | refine Qu rfl rfl (by first | assumption | exact Enc.len _ | rfl) ?_ | refine Zn rfl rfl (by omega) ?_ | refine s_call_p rfl rfl (r20Bin_c _ _ _) (QB (Enc.clo _)) ?_ | exact ⟨rfl, rfl⟩))) ?_ | refine i_ef rfl ?_ | refine i_ef0 ?_ | refine And.intro (Exists.intro ((_, _, _)) rfl) ?_)
    exact e_1 (Tryd.results29) (QY (size := 4) rfl rfl (Q4 hw) hw) (QC (σ := [_]) (r := [_, _]) ⟨rfl, rfl⟩)
  ·have hk0 : kind = 0 := by omega
   subst hk0
   rw [if_neg (by decide)]
   dsimp only
   rw [show a + 2 = a + 1 + 1 from rfl]
   have hx : MK Tryd.prog G 29 [.i 0, .i (((d + 1 : Nat) : Int) - 1)] l (a + 1 + 1) (b - 1) _ _ _ := ih 0 (a + 1 + 1) (b - 1) (.inl rfl) (by omega) (by omega)
   obtain ⟨_, _, x3, x4, x5⟩ := ok 0 (a + 1 + 1) (b - 1) (.inl rfl)
   generalize W1 l d 0 (a + 1 + 1) (b - 1) = x at *
   have hy := ih 0 x.2.1 x.2.2 (.inl rfl) (by omega) (by omega)
   generalize W1 l d 0 x.2.1 x.2.2 = y at *
   generalize atM l a 10 = u at *
   generalize atM l (a + 1) 10 = v at *
   have hw : (Enc.enc (Nd.mk 9 v 0 [x.1, y.1]) : List DV).length = 4 := Enc.len _
   clear ih ok x3 x4 x5 p1 p5 hl e1 hd9 h0 ha hb hk h3
   generalize ((d + 1 : Nat) : Int) = dd at *
   intro g B hg
   refine Qb Tryd.func29 rfl Tryd.ntmps29 rfl (t := [(0, .ptr 0 g 0), (1, .i 0), (2, .i dd)]) rfl fun E hE => ?_
   (repeat' first | refine Qt rfl ?_ | refine Qv rfl ?_ | refine Qc rfl rfl rfl ?_ | refine QG rfl rfl ?_ | refine s_leq rfl rfl ?_ | refine QH rfl rfl ?_ | refine Zn rfl rfl (by omega) ?_ | refine Wb rfl rfl hd1 rfl (by repeat' first | exact QX | refine QN ?_ ?_ | exact QA) (by first | exact QA | exact QB (Enc.clo _)) ?_ | refine Wb rfl rfl hd2 rfl (by repeat' first | exact QX | refine QN ?_ ?_ | exact QA) (by first | exact QA | exact QB (Enc.clo _)) ?_ | refine Wb rfl rfl hx rfl (by repeat' first | exact QX | refine QN ?_ ?_ | exact QA) (by first | exact QA | exact QB (Enc.clo _)) ?_ | refine Wb rfl rfl hy rfl (by repeat' first | exact QX | refine QN ?_ ?_ | exact QA) (by first | exact QA | exact QB (Enc.clo _)) ?_ | refine Wk rfl rfl ?_ | refine Ql rfl rfl rfl (by first | assumption | exact Enc.len _ | rfl) (by first | assumption | exact Enc.len _ | rfl) rfl ?_ | refine Wf rfl rfl rfl rfl (by rfl) (by rfl) (by rfl) ?_ | refine Qd rfl rfl ?_ | refine Q3 rfl rfl ?_ | refine QJ (fun _ _ => ?_) | refine Qe ?_ | refine Qp rfl ?_ | refine Q0 ?_ | refine WC rfl rfl rfl rfl ?_ | refine WO rfl rfl rfl rfl ?_ | refine Wn rfl rfl (by omega) ?_ | refine Qf ?_ | refine Qa ?_ | (refine Wa ?_; first | (rename_i g6 h6 g12 h12; refine Wu (fun p => p.1 :: p.2.1 :: .row g12 (Enc.enc x.1) :: p.2.2) 9 [(0, true), (1, true), (2, true), (3, true), (4, true), (5, true), (6, false), (7, true), (8, false)] (by rfl) (by rfl) (by kernel_rfl) (by decide +kernel) (by decide +kernel) ⟨(_, _, _), rfl⟩ ?_) | (rename_i g6 h6 g8 h8 g9 h9; refine Wu (fun p => p.1 :: p.2.1 :: .row g8 (Enc.enc x.1) :: .row g9 (Enc.enc y.1) :: p.2.2) 9 [(0, true), (1, true), (2, true), (3, true), (4, true), (5, true), (6, false), (7, true), (8, false)] (by rfl) (by rfl) (by kernel_rfl) (by decide +kernel) (by decide +kernel) ⟨(_, _, _), rfl⟩ ?_) | (refine Wu (fun p => p.1 :: p.2.1 :: .row gnone (Qq x) :: p.2.2) 100 [(0, true)] (by rfl) (by rfl) (by kernel_rfl) (by decide +kernel) (by decide +kernel) ⟨(_, _, _), rfl⟩ ?_) | refine Wj (by rfl) (by kernel_rfl) (by kernel_rfl) ?_ | refine QT (by kernel_rfl) (by kernel_rfl) ?_) | refine Qj ?_ | refine Qi rfl ?_ | refine QD rfl (by omega) ?_ | refine Qm ?_ | refine i_nil ?_ | refine i_st rfl rfl (fun _ => (by (repeat' first | refine Qt rfl ?_ | refine Qu rfl rfl (by first | assumption | exact Enc.len _ | rfl) ?_ | refine Zn rfl rfl (by omega) ?_ | refine s_call_p rfl rfl (r20Bin_c _ _ _) (QB (Enc.clo _)) ?_ | exact ⟨rfl, rfl⟩))) ?_ | refine i_ef rfl ?_ | refine i_ef0 ?_ | refine And.intro (Exists.intro ((_, _, _)) rfl) ?_)
   exact e_1 (Tryd.results29) (QY (size := 4) rfl rfl (Q4 hw) hw) (QC (σ := [_]) (r := [_, _]) ⟨rfl, rfl⟩)
theorem termsTo_ok (l : List Int) : ∀ i : Nat, (WU l i).1.length = i /\ (∀ t ∈ (WU l i).1, Tt t 1 /\ Con F4 t /\ QR t <= 40) /\ (WU l i).2 <= 1 + 162 * i
 | 0 => ⟨rfl, fun t h => (by cases h), Nat.le_refl 1⟩
 | i + 1 => by
  obtain ⟨h1, h2, h3⟩ := termsTo_ok l i
  obtain ⟨m1, m2, m3, m4, m5⟩ := make_ok l 3 1 (WU l i).2 9 (.inr rfl)
  rw [WU]
  generalize W1 l 3 1 (WU l i).2 9 = x at *
  refine ⟨by simp [h1], fun t ht => ?_, by show x.2.1 <= _; omega⟩
  have ht : t ∈ (WU l i).1 ++ [x.1] := ht
  rcases List.mem_append.1 ht with ht | ht
  ·exact h2 t ht
  ·rw [List.mem_singleton.1 ht]; exact ⟨m1, m2, by omega⟩
theorem terms_c (l : List Int) (hl : ∀ x ∈ l, Ord.I64 x) (hll : l.length <= 4611686018427387904) : Own Tryd.prog G 8 [Qy l] (termsM l).length (Enc.es Nd) (Qq (termsM l)) := fun B => by
 have hd1 : MK Tryd.prog G 28 [.i 4] l 0 0 (.i (atM l 0 4)) (0 + 1) 0 := draw_c (G := G) l hl hll 0 (by omega) 0 4 (by decide)
 have bn := atM_bd l 0 (n := 4) (by decide)
 have hT : termsM l = (WU l (atM l 0 4).toNat).1 := rfl
 rw [hT]
 generalize atM l 0 4 = nn at *
 refine Qb Tryd.func8 rfl Tryd.ntmps8 rfl (t := [(0, Qy l)]) rfl fun E hE => ?_
 (repeat' first | refine Qt rfl ?_ | refine Qv rfl ?_ | refine Wb rfl rfl hd1 rfl (by repeat' first | exact QX | refine QN ?_ ?_ | exact QA) (by first | exact QA | exact QB (Enc.clo _)) ?_ | refine Zi rfl rfl ?_ | refine Q5 rfl rfl (fun _ _ => ?_) | refine Qe ?_ | refine Qp rfl ?_ | refine Qf ?_ | refine Qa ?_ | refine Qg ?_)
 rename_i g hg
 refine r_own 4 4 rfl fun g0 hg0 => ?_
 refine r_loopg (fun (i : Nat) gt => ⟨[(0, Qy l), (3, .ptr 0 g 0), (5, .i nn), (6, .i i), (4, .ref 1 gt 0 (WU l i).1.length 4)], [.row g [Qy l, .i (WU l i).2, .i (if i = 0 then 0 else (W1 l 3 1 (WU l (i - 1)).2 9).2.2)], .row gt (Qq (WU l i).1)]⟩) (fun i => (i : Int) <= nn) (fun i => 4 - i) 0 g0 hg0 ?_ (by omega) ?_
 ·exact zal rfl
 intro i gt hi hgt
 obtain ⟨o1, o2, o3⟩ := termsTo_ok l i
 (repeat' first | refine Qt rfl ?_ | refine QG rfl rfl ?_ | refine Qe ?_ | refine Qp rfl ?_ | refine Qf ?_ | refine Qa ?_)
 refine QE rfl (fun h => ?_) (fun h => ?_)
 ·have hs1 : WU l (i + 1) = ((WU l i).1 ++ [(W1 l 3 1 (WU l i).2 9).1], (W1 l 3 1 (WU l i).2 9).2.1) := rfl
  have hx := make_c (G := G) l hl hll 3 1 (WU l i).2 9 (.inr rfl) (by omega) (by omega)
  have hb2 : (if i + 1 = 0 then (0 : Int) else (W1 l 3 1 (WU l (i + 1 - 1)).2 9).2.2) = (W1 l 3 1 (WU l i).2 9).2.2 := by rw [if_neg (by omega), Nat.add_sub_cancel]
  generalize hm : W1 l 3 1 (WU l i).2 9 = x at *
  obtain ⟨⟨k, n, m, ks⟩, a', b'⟩ := x
  change MK Tryd.prog G 29 _ _ _ _ (.agg [.i k, .i n, .i m, .sl 4 (cellsL ks)]) _ _ at hx
  generalize (if i = 0 then (0 : Int) else (W1 l 3 1 (WU l (i - 1)).2 9).2.2) = bb at *
  clear hm o2
  generalize WU l i = q at *
  (repeat' first | refine Qt rfl ?_ | refine Qv rfl ?_ | refine QS rfl rfl (by omega) ?_ | refine Wb rfl rfl hx rfl (by repeat' first | exact QX | refine QN ?_ ?_ | exact QA) (by repeat' first | exact QA | exact Q8 (cellsL_clo _) | refine QB ?_ | exact QX | refine QN ?_ ?_) ?_ | refine s_app1 (z := (Nd.mk k n m ks)) rfl rfl rfl rfl rfl rfl rfl (by first | omega | (simp; omega)) (by first | omega | (simp; omega)) (fun _ => rfl) (fun _ _ => ?_) | refine Wf rfl rfl rfl rfl (by rfl) (by rfl) (by rfl) ?_ | refine Qd rfl rfl ?_ | refine Wl rfl rfl (by decide) rfl ?_ | refine Q3 rfl rfl ?_ | refine Qe ?_ | refine Qp rfl ?_ | refine Q0 ?_ | refine Qf ?_ | refine Qa ?_ | refine Qg ?_ | refine Qj ?_)
  rename_i g5 hg5
  refine ⟨i + 1, g5, by omega, by omega, by omega, ?_⟩
  rw [hs1, hb2]
  exact zal rfl
 ·have hn : nn.toNat = i := by omega
  rw [hn]
  (repeat' first | refine Qt rfl ?_ | refine Qv rfl ?_ | refine Qe ?_ | refine Qp rfl ?_ | refine Qf ?_ | refine Qa ?_ | refine QU rfl ?_ | refine Qm ?_)
  exact e_1 Tryd.results8 (Qh rfl) (c_ownedB hE rfl rfl rfl rfl)
theorem termsM_ok (l : List Int) : Lot F4 (termsM l) /\ (termsM l).length <= 3 /\ QW (termsM l) <= 120 := by
 have bn := atM_bd l 0 (n := 4) (by decide)
 obtain ⟨h1, h2, _⟩ := termsTo_ok l (atM l 0 4).toNat
 have hs : ∀ ts : List Nd, (∀ t ∈ ts, QR t <= 40) -> QW ts <= 40 * ts.length := fun ts => by
  induction ts with
  | nil => intro _; exact Nat.le_refl _
  | cons x r ih =>
   intro h
   have a1 := h x (by simp)
   have a2 := ih fun t ht => h t (by simp [ht])
   rw [QW, List.length_cons]; omega
 have h3 := hs _ fun t ht => (h2 t ht).2.2
 unfold termsM
 exact ⟨⟨fun t ht => (h2 t ht).1, fun t ht => (h2 t ht).2.1, by omega, by omega⟩, by omega, by omega⟩
theorem len_sizeL : ∀ ts : List Nd, ts.length <= QW ts
 | [] => Nat.le_refl _
 | x :: r => by
  have := len_sizeL r
  have := sizeN_pos x
  rw [QW, List.length_cons]; omega
theorem size_c (t : Nd) : QR t <= 4000000 -> Go.Av.Pure Tryd.prog G 35 [.agg (Enc.enc t)] (.i (QR t)) := by
 induction t using Nd.ind with
 | h k n m ks ih =>
 intro hsz B
 have hse : QR (.mk k n m ks) = 1 + QW ks := by rw [QR]
 rw [hse] at hsz ⊢
 have hln := len_sizeL ks
 have hi : ∀ x ∈ ks, Go.Av.Pure Tryd.prog G 35 [.agg (Enc.enc x)] (.i (QR x)) := fun x hx => ih x hx (by have := sizeL_mem hx; omega)
 rw [We]
 refine Qb Tryd.func35 rfl Tryd.ntmps35 rfl (t := [(0, .agg [.i k, .i n, .i m, Qy ks])]) rfl fun E hE => ?_
 (repeat' first | refine Qv rfl ?_ | refine Q5 rfl rfl (fun _ _ => ?_) | refine Qe ?_ | refine Qp rfl ?_ | refine Qf ?_ | refine Qa ?_ | refine Qg ?_)
 rename_i g1 hg1
 refine Wi (fun (i : Nat) => ⟨[(1, .ptr 0 g1 0), (3, .i ((1 + QW (ks.take i) : Nat) : Int)), (4, .i i)], [.row g1 [.i k, .i n, .i m, Qy ks]]⟩) (fun i => i <= ks.length) (fun i => ks.length - i) 0 ?_ (by omega) ?_
 ·exact zal rfl
 intro i hi2
 (repeat' first | refine Qt rfl ?_ | refine Qc rfl rfl rfl ?_ | refine QG rfl rfl ?_ | refine Qn rfl ?_ | refine Qd rfl rfl ?_ | refine Qe ?_ | refine Qp rfl ?_ | refine Qf ?_ | refine Qa ?_)
 refine QE rfl (fun h => ?_) (fun h => ?_)
 ·have hj : i < ks.length := by omega
  have hsu := sizeL_take ks i hj
  have hle := ZM ks i
  have hle2 := ZM ks (i + 1)
  have e1 : ((1 + QW (ks.take (i + 1)) : Nat) : Int) = ((1 + QW (ks.take i) : Nat) : Int) + (QR ks[i] : Int) := by omega
  clear ih
  (repeat' first | refine Qt rfl ?_ | refine Qv rfl ?_ | refine QM rfl ?_ | refine Qc rfl rfl rfl ?_ | refine Qo rfl rfl (by first | assumption | omega | (simp; done) | (simp; omega)) ?_ | refine QS rfl rfl (by omega) ?_ | refine QZ rfl rfl (hi _ (List.getElem_mem hj)) ?_ | refine Qd rfl rfl ?_ | refine Qe ?_ | refine Qp rfl ?_ | refine Qf ?_ | refine Qa ?_ | refine Qg ?_ | refine Qj ?_)
  refine ⟨i + 1, by omega, by omega, ?_⟩
  rw [e1]
  exact zal rfl
 ·have hj : i = ks.length := by omega
  subst hj
  rw [List.take_length]
  (repeat' first | refine Qt rfl ?_ | refine Qv rfl ?_ | refine Qe ?_ | refine Qp rfl ?_ | refine Qf ?_ | refine Qa ?_ | refine QU rfl ?_ | refine Qm ?_)
  exact e_1 (Tryd.results35) (Qh rfl) (QC (σ := []) (r := [_]) ⟨rfl, rfl⟩)
theorem nodesCnt_c (ts : List Nd) (hsz : QW ts <= 4000000) : Go.Av.Pure Tryd.prog G 11 [Qy ts] (.i (QW ts)) := fun B => by
 have hln := len_sizeL ts
 have hi : ∀ x ∈ ts, Go.Av.Pure Tryd.prog G 35 [.agg (Enc.enc x)] (.i (QR x)) := fun x hx => size_c x (by have := sizeL_mem hx; omega)
 refine Qb Tryd.func11 rfl Tryd.ntmps11 rfl (t := [(0, Qy ts)]) rfl fun E hE => ?_
 (repeat' first | refine Qv rfl ?_ | refine Qe ?_ | refine Qp rfl ?_ | refine Qf ?_ | refine Qa ?_ | refine Qg ?_)
 refine Wi (fun (i : Nat) => ⟨[(0, Qy ts), (3, .i ((QW (ts.take i) : Nat) : Int)), (4, .i i)], []⟩) (fun i => i <= ts.length) (fun i => ts.length - i) 0 ?_ (by omega) ?_
 ·exact zal rfl
 intro i hi2
 (repeat' first | refine Qt rfl ?_ | refine QG rfl rfl ?_ | refine Qn rfl ?_ | refine Qe ?_ | refine Qp rfl ?_ | refine Qf ?_ | refine Qa ?_)
 refine QE rfl (fun h => ?_) (fun h => ?_)
 ·have hj : i < ts.length := by omega
  have hsu := sizeL_take ts i hj
  have hle := ZM ts i
  have hle2 := ZM ts (i + 1)
  have e1 : ((QW (ts.take (i + 1)) : Nat) : Int) = ((QW (ts.take i) : Nat) : Int) + (QR ts[i] : Int) := by omega
  (repeat' first | refine Qt rfl ?_ | refine Qv rfl ?_ | refine QM rfl ?_ | refine Qo rfl rfl (by first | assumption | omega | (simp; done) | (simp; omega)) ?_ | refine QS rfl rfl (by omega) ?_ | refine QZ rfl rfl (hi _ (List.getElem_mem hj)) ?_ | refine Qe ?_ | refine Qp rfl ?_ | refine Qf ?_ | refine Qa ?_ | refine Qg ?_ | refine Qj ?_)
  refine ⟨i + 1, by omega, by omega, ?_⟩
  rw [e1]
  exact zal rfl
 ·have hj : i = ts.length := by omega
  subst hj
  rw [List.take_length]
  (repeat' first | refine Qt rfl ?_ | refine Qv rfl ?_ | refine Qe ?_ | refine Qp rfl ?_ | refine Qf ?_ | refine Qa ?_ | refine QU rfl ?_ | refine Qm ?_)
  refine e_1 Tryd.results11 (Qh rfl) (Qr ?_)
  rfl
mutual
def qp : Nd -> List Nd
 | .mk k n m ks => (if k = 6 then [.mk k n m ks] else []) ++ WZ ks
def WZ : List Nd -> List Nd
 | [] => []
 | x :: r => qp x ++ WZ r
end
theorem nodesL_app (a b : List Nd) : WZ (a ++ b) = WZ a ++ WZ b := by
 induction a with
 | nil => rfl
 | cons x r ih => rw [List.cons_append, WZ, WZ, ih, List.append_assoc]
mutual
theorem nodesN_len : ∀ t : Nd, (qp t).length <= QR t
 | .mk k n m ks => by
  have := nodesL_len ks
  rw [qp, QR, List.length_append]
  split
  ·simp; omega
  ·simp; omega
theorem nodesL_len : ∀ ts : List Nd, (WZ ts).length <= QW ts
 | [] => Nat.le_refl _
 | x :: r => by
  have := nodesN_len x
  have := nodesL_len r
  rw [WZ, QW, List.length_append]; omega
end
theorem nodesL_take {ks : List Nd} {i : Nat} (h : i < ks.length) : WZ (ks.take (i + 1)) = WZ (ks.take i) ++ qp ks[i] := by
 rw [List.take_succ_eq_append_getElem h, nodesL_app, WZ, WZ, List.append_nil]
theorem sl_nd1 (k n m : Int) (ks : List Nd) : DV.sl 4 [.i k, .i n, .i m, Qy ks] = Qy [Nd.mk k n m ks] := by
 show _ = DV.sl 4 (Qq [Nd.mk k n m ks])
 rw [WD, We]; rfl
theorem nodes_c (t : Nd) : QR t <= 100000 -> Own Tryd.prog G 73 [.agg (Enc.enc t)] (qp t).length (Enc.es Nd) (Qq (qp t)) := by
 induction t using Nd.ind with
 | h k n m ks ih =>
 intro hsz B
 have hse : QR (.mk k n m ks) = 1 + QW ks := by rw [QR]
 rw [hse] at hsz
 have hln := len_sizeL ks
 have hi : ∀ x ∈ ks, Go.Av.Pure Tryd.prog G 73 [.agg (Enc.enc x)] (Qy (qp x)) := fun x hx => (ih x hx (by have := sizeL_mem hx; omega)).read
 clear ih
 show ACalls Tryd.prog G B 73 [.agg [.i k, .i n, .i m, .sl 4 (cellsL ks)]] [] _
 obtain ⟨pre, hpre⟩ : ∃ pre, pre = (if k = 6 then [Nd.mk k n m ks] else []) := ⟨_, rfl⟩
 have hN : qp (.mk k n m ks) = pre ++ WZ ks := by rw [qp, hpre]
 have hpl : pre.length <= 1 := by rw [hpre]; split <;> simp
 rw [hN, cellsL_eq]
 change ACalls Tryd.prog G B 73 [.agg [.i k, .i n, .i m, Qy ks]] [] _
 have hnl := nodesL_len ks
 by_cases h6 : k = 6
 all_goals
  refine Qb Tryd.func73 rfl Tryd.ntmps73 rfl (t := [(0, .agg [.i k, .i n, .i m, Qy ks])]) rfl fun E hE => ?_
  (repeat' first | refine Qt rfl ?_ | refine Qv rfl ?_ | refine Qu rfl rfl (by first | assumption | exact Enc.len _ | rfl) ?_ | refine Qc rfl rfl rfl ?_ | refine QH rfl rfl ?_ | refine s_app_n (xs := [Nd.mk k n m ks]) rfl rfl (sl_nd1 k n m ks) rfl (by simp) (by simp) (fun _ _ => ?_) | refine Qd rfl rfl ?_ | refine Wl rfl rfl (by decide) rfl ?_ | refine Q5 rfl rfl (fun _ _ => ?_) | refine Qe ?_ | refine Qp rfl ?_ | refine Qf ?_ | refine Qa ?_ | refine Qg ?_ | refine Qj ?_ | refine Qx rfl (by omega) ?_ | refine QD rfl (by omega) ?_)
 all_goals (first | (rename_i g1 hg1 g3 hg3; rw [if_pos h6] at hpre) | (rename_i g1 hg1; refine r_own 3 4 rfl fun g3 hg3 => ?_; rw [if_neg h6] at hpre))
 all_goals
  refine r_loopg (fun (i : Nat) g => ⟨[(1, .ptr 0 g1 0), (3, .ref 1 g 0 (pre ++ WZ (ks.take i)).length 4), (4, .i i)], [.row g1 [.i k, .i n, .i m, Qy ks], .row g (Qq (pre ++ WZ (ks.take i)))]⟩) (fun i => i <= ks.length) (fun i => ks.length - i) 0 g3 hg3 ?_ (by omega) ?_
  ·rw [hpre]
   exact zal rfl
  intro i g hi2 hg
  (repeat' first | refine Qt rfl ?_ | refine Qc rfl rfl rfl ?_ | refine QG rfl rfl ?_ | refine Qn rfl ?_ | refine Qd rfl rfl ?_ | refine Qe ?_ | refine Qp rfl ?_ | refine Qf ?_ | refine Qa ?_)
  refine QE rfl (fun h => ?_) (fun h => ?_)
  ·have hj : i < ks.length := by omega
   have hsu := nodesL_take hj
   have hl1 := nodesL_len (ks.take i)
   have hl2 := ZM ks i
   have hl3 := nodesN_len ks[i]
   have hl4 := sizeL_mem (List.getElem_mem hj)
   clear hN
   generalize WZ (ks.take i) = acc at *
   (repeat' first | refine Qt rfl ?_ | refine Qv rfl ?_ | refine QM rfl ?_ | refine Qc rfl rfl rfl ?_ | refine Qo rfl rfl (by first | assumption | omega | (simp; done) | (simp; omega)) ?_ | refine QS rfl rfl (by omega) ?_ | refine s_app_r (xs := qp ks[i]) rfl rfl rfl rfl rfl rfl rfl (by simp; omega) (by simp; omega) (fun _ => rfl) (fun _ _ => ?_) | refine QZ rfl rfl (hi _ (List.getElem_mem hj)) ?_ | refine Qd rfl rfl ?_ | refine Qe ?_ | refine Qp rfl ?_ | refine Qf ?_ | refine Qa ?_ | refine Qg ?_ | refine Qj ?_)
   rename_i g5 hg5
   refine ⟨i + 1, g5, by omega, by omega, by omega, ?_⟩
   rw [hsu, <- List.append_assoc]
   exact zal rfl
  ·have hj : i = ks.length := by omega
   subst hj
   rw [List.take_length]
   (repeat' first | refine Qt rfl ?_ | refine Qv rfl ?_ | refine Qe ?_ | refine Qp rfl ?_ | refine Qf ?_ | refine Qa ?_ | refine QU rfl ?_ | refine Qm ?_)
   exact e_1 Tryd.results73 (Qh rfl) (c_ownedB hE rfl rfl rfl rfl)
def ndN : Nd -> Int
 | .mk _ n _ _ => n
theorem enc_drop1 (t : Nd) : (Enc.enc t : List DV).drop 1 = .i (ndN t) :: (Enc.enc t : List DV).drop 2 := by cases t; rfl
def allTo (L : List Nd) : Nat -> List Int
 | 0 => []
 | i + 1 => if L.any (fun x => decide (ndN x = i)) = true then allTo L i ++ [(i : Int)] else allTo L i
theorem qr (L : List Nd) : ∀ i, (allTo L i).length <= i
 | 0 => Nat.le_refl _
 | i + 1 => by
  have := qr L i
  rw [allTo]; split
  ·rw [List.length_append, List.length_singleton]; omega
  ·omega
theorem any_succ {L : List Nd} {q : Nat} (h : q < L.length) (x : Int) : ((L.take (q + 1)).any fun y => decide (ndN y = x)) = (((L.take q).any fun y => decide (ndN y = x)) || decide (ndN L[q] = x)) := by
 rw [List.take_succ_eq_append_getElem h, List.any_append, List.any_cons, List.any_nil, Bool.or_false]
theorem vars_c (t : Nd) (hsz : QR t <= 100000) : Own Tryd.prog G 74 [.agg (Enc.enc t)] (allTo (qp t) 64).length 1 (Qq (allTo (qp t) 64)) := fun B => by
 have hn := (nodes_c (G := G) t hsz).read
 have hnl := nodesN_len t
 have hln : (qp t).length <= 100000 := by omega
 clear hnl
 generalize qp t = L at *
 refine Qb Tryd.func74 rfl Tryd.ntmps74 rfl (t := [(0, .agg (Enc.enc t))]) rfl fun E hE => ?_
 (repeat' first | refine Qv rfl ?_ | refine Qu rfl rfl (by first | assumption | exact Enc.len _ | rfl) ?_ | refine QZ rfl rfl (hn) ?_ | refine Q5 rfl rfl (fun _ _ => ?_) | refine Qe ?_ | refine Qp rfl ?_ | refine Qf ?_ | refine Qa ?_ | refine Qg ?_)
 rename_i g1 hg1
 refine r_own 4 1 rfl fun g0 hg0 => ?_
 refine r_loopg (fun (i : Nat) g => ⟨[(3, Qy L), (4, .ref 1 g 0 (allTo L i).length 1), (5, .i i)], [.row g1 (Enc.enc t), .row g (Qq (allTo L i))]⟩) (fun i => i <= 64) (fun i => 64 - i) 0 g0 hg0 ?_ (by omega) ?_
 ·exact zal rfl
 intro i g hi hg
 have hal := qr L i
 (repeat' first | refine Qt rfl ?_ | refine QG rfl rfl ?_ | refine Qe ?_ | refine Qp rfl ?_ | refine Qf ?_ | refine Qa ?_)
 refine QE rfl (fun h => ?_) (fun h => ?_)
 ·have hi64 : i < 64 := by omega
  have hsu : allTo L (i + 1) = if L.any (fun x => decide (ndN x = i)) = true then allTo L i ++ [(i : Int)] else allTo L i := rfl
  generalize allTo L i = acc at *
  (repeat' first | refine Qv rfl ?_ | refine Qe ?_ | refine Qp rfl ?_ | refine Qf ?_ | refine Qa ?_ | refine Qg ?_ | refine Qj ?_)
  refine Wi (fun q : Nat => ⟨[(3, Qy L), (4, .ref 1 g 0 acc.length 1), (5, .i i), (6, .b ((L.take q).any fun y => decide (ndN y = i))), (7, .i q)], [.row g1 (Enc.enc t), .row g (Qq acc)]⟩) (fun q => q <= L.length) (fun q => L.length - q) 0 ?_ (by omega) ?_
  ·exact zal rfl
  intro q hq
  (repeat' first | refine Qt rfl ?_ | refine QG rfl rfl ?_ | refine Qn rfl ?_ | refine Qe ?_ | refine Qp rfl ?_ | refine Qf ?_ | refine Qa ?_)
  refine QE rfl (fun h => ?_) (fun h => ?_)
  ·have hj : q < L.length := by omega
   have hs2 := any_succ hj (i : Int)
   cases hb : ((L.take q).any fun y => decide (ndN y = i)) with
   | true =>
    (repeat' first | refine Qt rfl ?_ | refine Qv rfl ?_ | refine QS rfl rfl (by omega) ?_ | refine WR rfl rfl ?_ | refine Qe ?_ | refine Qp rfl ?_ | refine WO rfl rfl rfl rfl ?_ | refine Qf ?_ | refine Qa ?_ | refine Qg ?_ | refine Qj ?_)
    refine ⟨q + 1, hj, by omega, ?_⟩
    rw [hs2, hb]
    exact zal rfl
   | false =>
    (repeat' first | refine Qt rfl ?_ | refine Qv rfl ?_ | refine QF rfl ?_ | refine Qo rfl rfl (by first | assumption | omega | (simp; done) | (simp; omega)) ?_ | refine QH rfl rfl ?_ | refine QS rfl rfl (by omega) ?_ | refine Wk rfl rfl ?_ | refine s_fld_ep rfl (enc_drop1 _) ?_ | refine Qe ?_ | refine Qp rfl ?_ | refine WC rfl rfl rfl rfl ?_ | refine Qf ?_ | refine Qa ?_ | refine Qg ?_ | refine Qj ?_)
    refine ⟨q + 1, hj, by omega, ?_⟩
    rw [hs2, hb]
    exact zal rfl
  ·have hq : q = L.length := by omega
   subst hq
   rw [List.take_length]
   cases hb : (L.any fun y => decide (ndN y = i)) with
   | true =>
    rw [hb, if_pos rfl] at hsu
    (repeat' first | refine Qt rfl ?_ | refine Qv rfl ?_ | refine QS rfl rfl (by omega) ?_ | refine s_app1 rfl rfl rfl rfl rfl rfl rfl (by first | omega | (simp; omega)) (by first | omega | (simp; omega)) (fun _ => rfl) (fun _ _ => ?_) | refine Wl rfl rfl (by decide) rfl ?_ | refine Qe ?_ | refine Qp rfl ?_ | refine Qf ?_ | refine Qa ?_ | refine Qs rfl ?_ | refine QU rfl ?_)
    rename_i g5 hg5
    refine ⟨i + 1, g5, by omega, by omega, by omega, ?_⟩
    rw [hsu]
    exact zal rfl
   | false =>
    rw [hb, if_neg (by simp)] at hsu
    (repeat' first | refine Qt rfl ?_ | refine Qv rfl ?_ | refine QS rfl rfl (by omega) ?_ | refine Qe ?_ | refine Qp rfl ?_ | refine Qf ?_ | refine Qa ?_ | refine Qj ?_ | refine Qi rfl ?_ | refine QU rfl ?_)
    refine ⟨i + 1, g, by omega, by omega, by omega, ?_⟩
    rw [hsu]
    exact zal rfl
 ·have hi : i = 64 := by omega
  subst hi
  (repeat' first | refine Qt rfl ?_ | refine Qv rfl ?_ | refine Qe ?_ | refine Qp rfl ?_ | refine Qf ?_ | refine Qa ?_ | refine QU rfl ?_ | refine Qm ?_)
  exact e_1 Tryd.results74 (Qh rfl) (c_ownedB hE rfl rfl rfl rfl)
theorem vars_nd (ts : List Nd) (hsz : QW ts <= 99999) : Go.Av.Pure Tryd.prog G 74 [.agg [.i 0, .i 0, .i 0, Qy ts]] (Qy (allTo (WZ ts) 64)) := by
 have h := (vars_c (G := G) (.mk 0 0 0 ts) (by rw [QR]; omega)).read
 rw [We, qp, if_neg (by decide), List.nil_append] at h
 exact h
theorem all_c (ts : List Nd) (hsz : QW ts <= 99999) : Go.Av.Pure Tryd.prog G 45 [Qy ts] (Qy (allTo (WZ ts) 64)) := fun B => by
 have hv := vars_nd (G := G) ts hsz
 refine Qb Tryd.func45 rfl Tryd.ntmps45 rfl (t := [(0, Qy ts)]) rfl fun E hE => ?_
 (repeat' first | refine Qt rfl ?_ | refine Qv rfl ?_ | refine QZ rfl rfl (hv) ?_ | refine Zi rfl rfl ?_ | refine Qe ?_ | refine Qp rfl ?_ | refine Qf ?_ | refine Qa ?_ | refine Qm ?_)
 refine e_1 Tryd.results45 (Qh rfl) (Qr ?_)
 rfl
mutual
def kindN : Nd -> Int -> Int
 | .mk k n m ks, x => if k = 6 /\ n = x then m else kindL ks x
def kindL : List Nd -> Int -> Int
 | [], _ => -1
 | t :: r, x => if 0 <= kindN t x then kindN t x else kindL r x
end
theorem kindL_take {ks : List Nd} {x : Int} : ∀ {i : Nat}, (∀ j (h : j < ks.length), j < i -> kindN ks[j] x < 0) -> kindL ks x = kindL (ks.drop i) x := fun {i} h => by
 induction i generalizing ks with
 | zero => rfl
 | succ i ih =>
  cases ks with
  | nil => rfl
  | cons t r =>
   have := h 0 (by simp) (by omega)
   rw [kindL, if_neg (by simpa using this), List.drop_succ_cons]
   exact ih fun j hj hji => h (j + 1) (by simpa using hj) (by omega)
theorem kindL_at {ks : List Nd} {x : Int} {i : Nat} (hi : i < ks.length) (h : ∀ j (h : j < ks.length), j < i -> kindN ks[j] x < 0) (h0 : 0 <= kindN ks[i] x) : kindL ks x = kindN ks[i] x := by
 rw [kindL_take h, List.drop_eq_getElem_cons hi, kindL, if_pos h0]
theorem kindL_none {ks : List Nd} {x : Int} (h : ∀ j (h : j < ks.length), kindN ks[j] x < 0) : kindL ks x = -1 := by
 rw [kindL_take (i := ks.length) fun j hj _ => h j hj, List.drop_length, kindL]
theorem kind_c (x : Int) (t : Nd) : QR t <= 100000 -> Go.Av.Pure Tryd.prog G 75 [.agg (Enc.enc t), .i x] (.i (kindN t x)) := by
 induction t using Nd.ind with
 | h k n m ks ih =>
 intro hsz B
 have hse : QR (.mk k n m ks) = 1 + QW ks := by rw [QR]
 rw [hse] at hsz
 have hln := len_sizeL ks
 have hi : ∀ y ∈ ks, Go.Av.Pure Tryd.prog G 75 [.agg (Enc.enc y), .i x] (.i (kindN y x)) := fun y hy => ih y hy (by have := sizeL_mem hy; omega)
 clear ih
 have hk : kindN (.mk k n m ks) x = if k = 6 /\ n = x then m else kindL ks x := by rw [kindN]
 rw [We, hk]
 refine Qb Tryd.func75 rfl Tryd.ntmps75 rfl (t := [(0, .agg [.i k, .i n, .i m, Qy ks]), (1, .i x)]) rfl fun E hE => ?_
 by_cases h6 : k = 6
 ·by_cases h7 : n = x
  ·rw [if_pos ⟨h6, h7⟩]
   (repeat' first | refine Qt rfl ?_ | refine Qv rfl ?_ | refine Qc rfl rfl rfl ?_ | refine QH rfl rfl ?_ | refine WR rfl rfl ?_ | refine Qd rfl rfl ?_ | refine Q5 rfl rfl (fun _ _ => ?_) | refine Qe ?_ | refine Qp rfl ?_ | refine WC rfl rfl rfl rfl ?_ | refine Wm rfl rfl (by omega) ?_ | refine Qf ?_ | refine Qa ?_ | refine Qx rfl (by omega) ?_ | refine Qm ?_)
   exact e_1 (Tryd.results75) (Qh rfl) (QC (σ := []) (r := [_]) ⟨rfl, rfl⟩)
  ·rw [if_neg fun h => h7 h.2]
   (repeat' first | refine Qt rfl ?_ | refine Qv rfl ?_ | refine Qc rfl rfl rfl ?_ | refine QH rfl rfl ?_ | refine WR rfl rfl ?_ | refine Qd rfl rfl ?_ | refine Q5 rfl rfl (fun _ _ => ?_) | refine Qe ?_ | refine Qp rfl ?_ | refine WC rfl rfl rfl rfl ?_ | refine Wm rfl rfl (by omega) ?_ | refine Qf ?_ | refine Qa ?_ | refine Qg ?_ | refine Qj ?_ | refine QD rfl (by omega) ?_)
   rename_i g1 hg1
   refine Wi (fun (i : Nat) => ⟨[(1, .i x), (2, .ptr 0 g1 0), (5, .i i)], [.row g1 [.i k, .i n, .i m, Qy ks]]⟩) (fun i => i <= ks.length /\ ∀ j (h : j < ks.length), j < i -> kindN ks[j] x < 0) (fun i => ks.length - i) 0 ?_ ⟨by omega, fun j _ h => absurd h (by omega)⟩ ?_
   ·exact zal rfl
   intro i ⟨hi2, hneg⟩
   (repeat' first | refine Qt rfl ?_ | refine Qc rfl rfl rfl ?_ | refine QG rfl rfl ?_ | refine Qn rfl ?_ | refine Qd rfl rfl ?_ | refine Qe ?_ | refine Qp rfl ?_ | refine Qf ?_ | refine Qa ?_)
   refine QE rfl (fun h => ?_) (fun h => ?_)
   ·have hj : i < ks.length := by omega
    by_cases hk0 : 0 <= kindN ks[i] x
    ·rw [kindL_at hj hneg hk0]
     clear hneg
     (repeat' first | refine Qt rfl ?_ | refine Qv rfl ?_ | refine QM rfl ?_ | refine Qc rfl rfl rfl ?_ | refine Qo rfl rfl (by first | assumption | omega | (simp; done) | (simp; omega)) ?_ | refine Wv rfl rfl ?_ | refine QZ rfl rfl (hi _ (List.getElem_mem hj)) ?_ | refine Qd rfl rfl ?_ | refine Qe ?_ | refine Qp rfl ?_ | refine Qf ?_ | refine Qa ?_ | refine Qg ?_ | refine Qj ?_ | refine Qx rfl (by omega) ?_ | refine Qm ?_)
     exact e_1 (Tryd.results75) (Qh rfl) (QC (σ := []) (r := [_]) ⟨rfl, rfl⟩)
    ·have hneg' : ∀ j (h : j < ks.length), j < i + 1 -> kindN ks[j] x < 0 := fun j hj2 hji => by
      by_cases e : j = i
      ·subst e; omega
      ·exact hneg j hj2 (by omega)
     clear hneg
     (repeat' first | refine Qt rfl ?_ | refine Qv rfl ?_ | refine QM rfl ?_ | refine Qc rfl rfl rfl ?_ | refine Qo rfl rfl (by first | assumption | omega | (simp; done) | (simp; omega)) ?_ | refine Wv rfl rfl ?_ | refine QS rfl rfl (by omega) ?_ | refine QZ rfl rfl (hi _ (List.getElem_mem hj)) ?_ | refine Qd rfl rfl ?_ | refine Qe ?_ | refine Qp rfl ?_ | refine Qf ?_ | refine Qa ?_ | refine Qg ?_ | refine Qj ?_ | refine QD rfl (by omega) ?_)
     refine ⟨i + 1, ⟨by omega, hneg'⟩, by omega, ?_⟩
     exact zal rfl
   ·rw [kindL_none fun j hj2 => hneg j hj2 (by omega)]
    (repeat' first | refine Qv rfl ?_ | refine Qe ?_ | refine Qp rfl ?_ | refine Qf ?_ | refine Qa ?_ | refine QU rfl ?_ | refine Qm ?_)
    exact e_1 (Tryd.results75) (Qh rfl) (QC (σ := []) (r := [_]) ⟨rfl, rfl⟩)
 ·rw [if_neg fun h => h6 h.1]
  (repeat' first | refine Qt rfl ?_ | refine Qv rfl ?_ | refine Qc rfl rfl rfl ?_ | refine QH rfl rfl ?_ | refine Wk rfl rfl ?_ | refine Qd rfl rfl ?_ | refine Q5 rfl rfl (fun _ _ => ?_) | refine Qe ?_ | refine Qp rfl ?_ | refine WO rfl rfl rfl rfl ?_ | refine Wn rfl rfl (by omega) ?_ | refine Qf ?_ | refine Qa ?_ | refine Qg ?_ | refine Qj ?_ | refine Qi rfl ?_)
  rename_i g1 hg1
  refine Wi (fun (i : Nat) => ⟨[(1, .i x), (2, .ptr 0 g1 0), (5, .i i)], [.row g1 [.i k, .i n, .i m, Qy ks]]⟩) (fun i => i <= ks.length /\ ∀ j (h : j < ks.length), j < i -> kindN ks[j] x < 0) (fun i => ks.length - i) 0 ?_ ⟨by omega, fun j _ h => absurd h (by omega)⟩ ?_
  ·exact zal rfl
  intro i ⟨hi2, hneg⟩
  (repeat' first | refine Qt rfl ?_ | refine Qc rfl rfl rfl ?_ | refine QG rfl rfl ?_ | refine Qn rfl ?_ | refine Qd rfl rfl ?_ | refine Qe ?_ | refine Qp rfl ?_ | refine Qf ?_ | refine Qa ?_)
  refine QE rfl (fun h => ?_) (fun h => ?_)
  ·have hj : i < ks.length := by omega
   by_cases hk0 : 0 <= kindN ks[i] x
   ·rw [kindL_at hj hneg hk0]
    clear hneg
    (repeat' first | refine Qt rfl ?_ | refine Qv rfl ?_ | refine QM rfl ?_ | refine Qc rfl rfl rfl ?_ | refine Qo rfl rfl (by first | assumption | omega | (simp; done) | (simp; omega)) ?_ | refine Wv rfl rfl ?_ | refine QZ rfl rfl (hi _ (List.getElem_mem hj)) ?_ | refine Qd rfl rfl ?_ | refine Qe ?_ | refine Qp rfl ?_ | refine Qf ?_ | refine Qa ?_ | refine Qg ?_ | refine Qj ?_ | refine Qx rfl (by omega) ?_ | refine Qm ?_)
    exact e_1 (Tryd.results75) (Qh rfl) (QC (σ := []) (r := [_]) ⟨rfl, rfl⟩)
   ·have hneg' : ∀ j (h : j < ks.length), j < i + 1 -> kindN ks[j] x < 0 := fun j hj2 hji => by
     by_cases e : j = i
     ·subst e; omega
     ·exact hneg j hj2 (by omega)
    clear hneg
    (repeat' first | refine Qt rfl ?_ | refine Qv rfl ?_ | refine QM rfl ?_ | refine Qc rfl rfl rfl ?_ | refine Qo rfl rfl (by first | assumption | omega | (simp; done) | (simp; omega)) ?_ | refine Wv rfl rfl ?_ | refine QS rfl rfl (by omega) ?_ | refine QZ rfl rfl (hi _ (List.getElem_mem hj)) ?_ | refine Qd rfl rfl ?_ | refine Qe ?_ | refine Qp rfl ?_ | refine Qf ?_ | refine Qa ?_ | refine Qg ?_ | refine Qj ?_ | refine QD rfl (by omega) ?_)
    refine ⟨i + 1, ⟨by omega, hneg'⟩, by omega, ?_⟩
    exact zal rfl
  ·rw [kindL_none fun j hj2 => hneg j hj2 (by omega)]
   (repeat' first | refine Qv rfl ?_ | refine Qe ?_ | refine Qp rfl ?_ | refine Qf ?_ | refine Qa ?_ | refine QU rfl ?_ | refine Qm ?_)
   exact e_1 (Tryd.results75) (Qh rfl) (QC (σ := []) (r := [_]) ⟨rfl, rfl⟩)
theorem types21_c (ts : List Nd) (hsz : QW ts <= 99999) : Own Tryd.prog G 46 [Qy ts] ((allTo (WZ ts) 64).map (kindL ts)).length 1 (Qq ((allTo (WZ ts) 64).map (kindL ts))) := fun B => by
 have hv := all_c (G := G) ts hsz
 have hk : ∀ x, Go.Av.Pure Tryd.prog G 75 [.agg [.i 0, .i 0, .i 0, Qy ts], .i x] (.i (kindL ts x)) := fun x => by
  have h := kind_c (G := G) x (.mk 0 0 0 ts) (by rw [QR]; omega)
  rw [We, kindN, if_neg fun h => absurd h.1 (by decide)] at h
  exact h
 have hl := qr (WZ ts) 64
 generalize allTo (WZ ts) 64 = L at *
 generalize kindL ts = kf at *
 refine Qb Tryd.func46 rfl Tryd.ntmps46 rfl (t := [(0, Qy ts)]) rfl fun E hE => ?_
 (repeat' first | refine Qt rfl ?_ | refine Qv rfl ?_ | refine QZ rfl rfl (hv) ?_ | refine Qe ?_ | refine Qp rfl ?_ | refine Qf ?_ | refine Qa ?_ | refine Qg ?_)
 refine r_own 4 1 rfl fun g0 hg0 => ?_
 refine r_loopg (fun (i : Nat) g => ⟨[(0, Qy ts), (3, Qy L), (4, .ref 0 g 0 ((L.take i).map kf).length 1), (5, .i i)], [.row g (Qq ((L.take i).map kf))]⟩) (fun i => i <= L.length) (fun i => L.length - i) 0 g0 hg0 ?_ (by omega) ?_
 ·exact zal rfl
 intro i g hi hg
 have hle : ((L.take i).map kf).length <= 64 := by rw [List.length_map, List.length_take]; omega
 (repeat' first | refine Qt rfl ?_ | refine QG rfl rfl ?_ | refine Qn rfl ?_ | refine Qe ?_ | refine Qp rfl ?_ | refine Qf ?_ | refine Qa ?_)
 refine QE rfl (fun h => ?_) (fun h => ?_)
 ·have hj : i < L.length := by omega
  have hsu : (L.take (i + 1)).map kf = (L.take i).map kf ++ [kf L[i]] := by
   rw [List.take_succ_eq_append_getElem hj, List.map_append]; rfl
  generalize (L.take i).map kf = acc at *
  (repeat' first | refine Qt rfl ?_ | refine Qv rfl ?_ | refine QF rfl ?_ | refine Qo rfl rfl (by first | assumption | omega | (simp; done) | (simp; omega)) ?_ | refine QS rfl rfl (by omega) ?_ | refine s_app1 rfl rfl rfl rfl rfl rfl rfl (by first | omega | (simp; omega)) (by first | omega | (simp; omega)) (fun _ => rfl) (fun _ _ => ?_) | refine QZ rfl rfl (hk _) ?_ | refine Zi rfl rfl ?_ | refine Wl rfl rfl (by decide) rfl ?_ | refine Qe ?_ | refine Qp rfl ?_ | refine Qf ?_ | refine Qa ?_ | refine Qg ?_ | refine Qj ?_)
  rename_i g5 hg5
  refine ⟨i + 1, g5, by omega, by omega, by omega, ?_⟩
  rw [hsu]
  exact zal rfl
 ·have hj : i = L.length := by omega
  subst hj
  rw [List.take_length]
  (repeat' first | refine Qt rfl ?_ | refine Qv rfl ?_ | refine Qe ?_ | refine Qp rfl ?_ | refine Qf ?_ | refine Qa ?_ | refine QU rfl ?_ | refine Qm ?_)
  exact e_1 Tryd.results46 (Qh rfl) (c_ownedB hE rfl rfl rfl rfl)
end Go.Proofs
end
