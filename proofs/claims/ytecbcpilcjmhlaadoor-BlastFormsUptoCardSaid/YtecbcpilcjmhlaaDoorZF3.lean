/-
  Part 3 of the proof: E0 D1 E1 D2.
-/
import Derived.Test.YtecbcpilcjmhlaaDoorZF1
import Derived.Test.YtecbcpilcjmhlaaDoorZF2
set_option linter.unusedSimpArgs false
set_option linter.unusedVariables false
set_option maxRecDepth 10000
set_option maxHeartbeats 4000000
section
namespace Go.Proofs
open Go.Av
variable {G : Nat -> DV}
attribute [local irreducible] OpSem WB WQ WW ACalls Zo QY RV
open Go.Bl
def _root_.Go.Bl.wrapI (n : Int) : Int := if 7 < ZJ n then ZJ n - 16 else ZJ n
def _root_.Go.Bl.shiftM (b : Int) : Int := ZJ b % 4
def _root_.Go.Bl.doM (op a b : Int) : Int :=
 if op = 0 then a + b else if op = 1 then a - b else if op = 2 then a * b else if op = 3 then IntKind.i64.wrap (a.tdiv b) else if op = 4 then a.tmod b else
 if op = 5 then Av.bitsOf .and .i64 a b else if op = 6 then Av.bitsOf .or .i64 a b else if op = 7 then Av.bitsOf .xor .i64 a b else
 if op = 8 then IntKind.i64.wrap (a * 2 ^ min (shiftM b).toNat 64) else if op = 9 then a / 2 ^ min (shiftM b).toNat 64 else
 if op = 10 then (if a < b then 1 else 0) else if op = 11 then (if a = b then 1 else 0) else if op = 12 then (if a ≠ 0 /\ b ≠ 0 then 1 else 0) else if a ≠ 0 \/ b ≠ 0 then 1 else 0
def _root_.Go.Bl.opM (op a b : Int) : Int × Int := if (op = 3 \/ op = 4) /\ wrapI b = 0 then (0, 2) else (wrapI (doM op (wrapI a) (wrapI b)), 0)
theorem _root_.Go.Bl.wrapI_bd (n : Int) : -8 <= wrapI n /\ wrapI n <= 7 := by
 have := wbits_bound n
 unfold wrapI
 split <;> omega
theorem mul_bd {a b : Int} (ha : -8 <= a /\ a <= 7) (hb : -8 <= b /\ b <= 7) : -8 * 8 <= a * b /\ a * b <= 8 * 8 := by
 have : a = -8 \/ a = -7 \/ a = -6 \/ a = -5 \/ a = -4 \/ a = -3 \/ a = -2 \/ a = -1 \/ a = 0 \/ a = 1 \/ a = 2 \/ a = 3 \/ a = 4 \/ a = 5 \/ a = 6 \/ a = 7 := by omega
 rcases this with rfl | rfl | rfl | rfl | rfl | rfl | rfl | rfl | rfl | rfl | rfl | rfl | rfl | rfl | rfl | rfl <;> omega
theorem Zm (n : Int) : Go.Av.Pure Tryd.prog G 57 [.i n] (.i (wrapI n)) := fun B => by
 have hw := wbits_bound n
 have hwr : wrapI n = if 7 < ZJ n then ZJ n - 16 else ZJ n := rfl
 refine Qc Tryd.func57 rfl Tryd.ntmps57 rfl (t := [(0, .i n)]) rfl fun E hE => ?_
 (repeat' first | refine Qu rfl ?_ | refine QA rfl ?_ | refine s_gtr rfl rfl ?_ | refine s_and rfl rfl ?_ | refine Qe ?_ | refine Qs rfl ?_ | refine Qg ?_ | refine Qa ?_)
 refine QE rfl (fun h => ?_) (fun h => ?_)
 ·rw [if_pos (show 7 < ZJ n from h)] at hwr
  have h1 : -100 <= Av.bitsOf .and .i64 n 15 /\ Av.bitsOf .and .i64 n 15 <= 100 := ⟨by have := hw.1; show -100 <= ZJ n; omega, by show ZJ n <= 100; omega⟩
  (repeat' first | refine Qu rfl ?_ | refine QA rfl ?_ | refine qd rfl rfl (by omega) ?_ | refine Qe ?_ | refine Qs rfl ?_ | refine Qg ?_ | refine Qa ?_ | refine Qq ?_)
  refine e_1 Tryd.results57 (Qh rfl) (QD ?_)
  rw [hwr]; rfl
 ·rw [if_neg (show ¬ 7 < ZJ n from h)] at hwr
  (repeat' first | refine Qu rfl ?_ | refine QA rfl ?_ | refine Qe ?_ | refine Qs rfl ?_ | refine Qg ?_ | refine Qa ?_ | refine Qk ?_ | refine Qq ?_)
  refine e_1 Tryd.results57 (Qh rfl) (QD ?_)
  rw [hwr]; rfl
theorem wshift_c (b : Int) : Go.Av.Pure Tryd.prog G 145 [.i b] (.sc (.int .u64 (shiftM b))) := fun B => by
 have hw := wbits_bound b
 refine Qc Tryd.func145 rfl Tryd.ntmps145 rfl (t := [(0, .i b)]) rfl fun E hE => ?_
 (repeat' first | refine Qu rfl ?_ | refine QA rfl ?_ | refine s_remw rfl rfl (by omega) ?_ | refine Wa rfl rfl (wBits_c _) ?_ | refine s_conv rfl ?_ | refine Qe ?_ | refine Qs rfl ?_ | refine Qg ?_ | refine Qa ?_ | refine Qq ?_)
 refine e_1 Tryd.results145 (Qh rfl) (QD ?_)
 have h1 : IntKind.u64.wrap (ZJ b % 4) = ZJ b % 4 := Int.emod_eq_of_lt (by omega) (by show _ < (18446744073709551616 : Int); omega)
 rw [show (ZJ b).tmod 4 = ZJ b % 4 from Int.tmod_eq_emod_of_nonneg hw.1, h1]
 rfl
theorem wnumber_c (b : Bool) : Go.Av.Pure Tryd.prog G 148 [.b b] (.i (if b = true then 1 else 0)) := fun B => by
 refine Qc Tryd.func148 rfl Tryd.ntmps148 rfl (t := [(0, .b b)]) rfl fun E hE => ?_
 cases b
 ·(repeat' first | refine Qu rfl ?_ | refine QA rfl ?_ | refine Qe ?_ | refine Qs rfl ?_ | refine Qg ?_ | refine Qa ?_ | refine Qk ?_ | refine Qo rfl ?_ | refine Qq ?_)
  refine e_1 Tryd.results148 (Qh rfl) (QD ?_)
  rfl
 ·(repeat' first | refine Qu rfl ?_ | refine QA rfl ?_ | refine Qe ?_ | refine Qs rfl ?_ | refine Qg ?_ | refine Qa ?_ | refine QB rfl ?_ | refine Qq ?_)
  refine e_1 Tryd.results148 (Qh rfl) (QD ?_)
  rfl
theorem op1_c (a b : Int) (ha : -8 <= a /\ a <= 7) (hb : -8 <= b /\ b <= 7) : Go.Av.Pure Tryd.prog G 136 [.i a, .i b] (.i (doM 0 a b)) := fun B => by
 refine Qc Tryd.func136 rfl Tryd.ntmps136 rfl (t := [(0, .i a), (1, .i b)]) rfl fun E hE => ?_
 (repeat' first | refine Qu rfl ?_ | refine QA rfl ?_ | refine Q5 rfl rfl (by omega) ?_ | refine Qe ?_ | refine Qs rfl ?_ | refine Qg ?_ | refine Qa ?_ | refine Qq ?_)
 refine e_1 Tryd.results136 (Qh rfl) (QD ?_)
 rfl
theorem op2_c (a b : Int) (ha : -8 <= a /\ a <= 7) (hb : -8 <= b /\ b <= 7) : Go.Av.Pure Tryd.prog G 137 [.i a, .i b] (.i (doM 1 a b)) := fun B => by
 refine Qc Tryd.func137 rfl Tryd.ntmps137 rfl (t := [(0, .i a), (1, .i b)]) rfl fun E hE => ?_
 (repeat' first | refine Qu rfl ?_ | refine QA rfl ?_ | refine qd rfl rfl (by omega) ?_ | refine Qe ?_ | refine Qs rfl ?_ | refine Qg ?_ | refine Qa ?_ | refine Qq ?_)
 refine e_1 Tryd.results137 (Qh rfl) (QD ?_)
 rfl
theorem op3_c (a b : Int) (ha : -8 <= a /\ a <= 7) (hb : -8 <= b /\ b <= 7) : Go.Av.Pure Tryd.prog G 138 [.i a, .i b] (.i (doM 2 a b)) := fun B => by
 have hm : -9223372036854775808 <= a * b /\ a * b <= 9223372036854775807 := by
  have h1 : -8 <= a := ha.1
  have e1 : -8 * 8 <= a * b /\ a * b <= 8 * 8 := mul_bd ha hb
  omega
 refine Qc Tryd.func138 rfl Tryd.ntmps138 rfl (t := [(0, .i a), (1, .i b)]) rfl fun E hE => ?_
 (repeat' first | refine Qu rfl ?_ | refine QA rfl ?_ | refine s_mul rfl rfl (by assumption) ?_ | refine Qe ?_ | refine Qs rfl ?_ | refine Qg ?_ | refine Qa ?_ | refine Qq ?_)
 refine e_1 Tryd.results138 (Qh rfl) (QD ?_)
 rfl
theorem op4_c (a b : Int) (ha : -8 <= a /\ a <= 7) (hb : -8 <= b /\ b <= 7) (h0 : b ≠ 0) : Go.Av.Pure Tryd.prog G 139 [.i a, .i b] (.i (doM 3 a b)) := fun B => by
 refine Qc Tryd.func139 rfl Tryd.ntmps139 rfl (t := [(0, .i a), (1, .i b)]) rfl fun E hE => ?_
 (repeat' first | refine Qu rfl ?_ | refine QA rfl ?_ | refine s_quow rfl rfl (by omega) ?_ | refine Qe ?_ | refine Qs rfl ?_ | refine Qg ?_ | refine Qa ?_ | refine Qq ?_)
 refine e_1 Tryd.results139 (Qh rfl) (QD ?_)
 rfl
theorem op5_c (a b : Int) (ha : -8 <= a /\ a <= 7) (hb : -8 <= b /\ b <= 7) (h0 : b ≠ 0) : Go.Av.Pure Tryd.prog G 140 [.i a, .i b] (.i (doM 4 a b)) := fun B => by
 refine Qc Tryd.func140 rfl Tryd.ntmps140 rfl (t := [(0, .i a), (1, .i b)]) rfl fun E hE => ?_
 (repeat' first | refine Qu rfl ?_ | refine QA rfl ?_ | refine s_remw rfl rfl (by omega) ?_ | refine Qe ?_ | refine Qs rfl ?_ | refine Qg ?_ | refine Qa ?_ | refine Qq ?_)
 refine e_1 Tryd.results140 (Qh rfl) (QD ?_)
 rfl
theorem op6_c (a b : Int) (ha : -8 <= a /\ a <= 7) (hb : -8 <= b /\ b <= 7) : Go.Av.Pure Tryd.prog G 141 [.i a, .i b] (.i (doM 5 a b)) := fun B => by
 refine Qc Tryd.func141 rfl Tryd.ntmps141 rfl (t := [(0, .i a), (1, .i b)]) rfl fun E hE => ?_
 (repeat' first | refine Qu rfl ?_ | refine QA rfl ?_ | refine s_and rfl rfl ?_ | refine Qe ?_ | refine Qs rfl ?_ | refine Qg ?_ | refine Qa ?_ | refine Qq ?_)
 refine e_1 Tryd.results141 (Qh rfl) (QD ?_)
 rfl
theorem op7_c (a b : Int) (ha : -8 <= a /\ a <= 7) (hb : -8 <= b /\ b <= 7) : Go.Av.Pure Tryd.prog G 142 [.i a, .i b] (.i (doM 6 a b)) := fun B => by
 refine Qc Tryd.func142 rfl Tryd.ntmps142 rfl (t := [(0, .i a), (1, .i b)]) rfl fun E hE => ?_
 (repeat' first | refine Qu rfl ?_ | refine QA rfl ?_ | refine s_or rfl rfl ?_ | refine Qe ?_ | refine Qs rfl ?_ | refine Qg ?_ | refine Qa ?_ | refine Qq ?_)
 refine e_1 Tryd.results142 (Qh rfl) (QD ?_)
 rfl
theorem op8_c (a b : Int) (ha : -8 <= a /\ a <= 7) (hb : -8 <= b /\ b <= 7) : Go.Av.Pure Tryd.prog G 143 [.i a, .i b] (.i (doM 7 a b)) := fun B => by
 refine Qc Tryd.func143 rfl Tryd.ntmps143 rfl (t := [(0, .i a), (1, .i b)]) rfl fun E hE => ?_
 (repeat' first | refine Qu rfl ?_ | refine QA rfl ?_ | refine s_xor rfl rfl ?_ | refine Qe ?_ | refine Qs rfl ?_ | refine Qg ?_ | refine Qa ?_ | refine Qq ?_)
 refine e_1 Tryd.results143 (Qh rfl) (QD ?_)
 rfl
theorem op9_c (a b : Int) (ha : -8 <= a /\ a <= 7) (hb : -8 <= b /\ b <= 7) : Go.Av.Pure Tryd.prog G 144 [.i a, .i b] (.i (doM 8 a b)) := fun B => by
 have hs := wbits_bound b
 have hs1 : 0 <= shiftM b := by unfold shiftM; omega
 refine Qc Tryd.func144 rfl Tryd.ntmps144 rfl (t := [(0, .i a), (1, .i b)]) rfl fun E hE => ?_
 (repeat' first | refine Qu rfl ?_ | refine QA rfl ?_ | refine s_shl rfl rfl (by omega) ?_ | refine Wa rfl rfl (wshift_c _) ?_ | refine Qe ?_ | refine Qs rfl ?_ | refine Qg ?_ | refine Qa ?_ | refine Qq ?_)
 refine e_1 Tryd.results144 (Qh rfl) (QD ?_)
 rfl
theorem op10_c (a b : Int) (ha : -8 <= a /\ a <= 7) (hb : -8 <= b /\ b <= 7) : Go.Av.Pure Tryd.prog G 146 [.i a, .i b] (.i (doM 9 a b)) := fun B => by
 have hs := wbits_bound b
 have hs1 : 0 <= shiftM b := by unfold shiftM; omega
 refine Qc Tryd.func146 rfl Tryd.ntmps146 rfl (t := [(0, .i a), (1, .i b)]) rfl fun E hE => ?_
 (repeat' first | refine Qu rfl ?_ | refine QA rfl ?_ | refine s_shr rfl rfl (by omega) ?_ | refine Wa rfl rfl (wshift_c _) ?_ | refine Qe ?_ | refine Qs rfl ?_ | refine Qg ?_ | refine Qa ?_ | refine Qq ?_)
 refine e_1 Tryd.results146 (Qh rfl) (QD ?_)
 rfl
theorem op11_c (a b : Int) (ha : -8 <= a /\ a <= 7) (hb : -8 <= b /\ b <= 7) : Go.Av.Pure Tryd.prog G 147 [.i a, .i b] (.i (doM 10 a b)) := fun B => by
 refine Qc Tryd.func147 rfl Tryd.ntmps147 rfl (t := [(0, .i a), (1, .i b)]) rfl fun E hE => ?_
 (repeat' first | refine Qu rfl ?_ | refine QA rfl ?_ | refine QL rfl rfl ?_ | refine Wa rfl rfl (wnumber_c _) ?_ | refine Qe ?_ | refine Qs rfl ?_ | refine Qg ?_ | refine Qa ?_ | refine Qq ?_)
 refine e_1 Tryd.results147 (Qh rfl) (QD ?_)
 simp [doM]
theorem op12_c (a b : Int) (ha : -8 <= a /\ a <= 7) (hb : -8 <= b /\ b <= 7) : Go.Av.Pure Tryd.prog G 149 [.i a, .i b] (.i (doM 11 a b)) := fun B => by
 refine Qc Tryd.func149 rfl Tryd.ntmps149 rfl (t := [(0, .i a), (1, .i b)]) rfl fun E hE => ?_
 (repeat' first | refine Qu rfl ?_ | refine QA rfl ?_ | refine QJ rfl rfl ?_ | refine Wa rfl rfl (wnumber_c _) ?_ | refine Qe ?_ | refine Qs rfl ?_ | refine Qg ?_ | refine Qa ?_ | refine Qq ?_)
 refine e_1 Tryd.results149 (Qh rfl) (QD ?_)
 simp [doM]
theorem op13_c (a b : Int) (ha : -8 <= a /\ a <= 7) (hb : -8 <= b /\ b <= 7) : Go.Av.Pure Tryd.prog G 150 [.i a, .i b] (.i (doM 12 a b)) := fun B => by
 refine Qc Tryd.func150 rfl Tryd.ntmps150 rfl (t := [(0, .i a), (1, .i b)]) rfl fun E hE => ?_
 by_cases q1 : a = 0
 all_goals by_cases q2 : b = 0
 all_goals
  (repeat' first | refine Qu rfl ?_ | refine QA rfl ?_ | refine Wu rfl rfl ?_ | refine Wa rfl rfl (wnumber_c _) ?_ | refine WI rfl rfl ?_ | refine Wm rfl rfl ?_ | refine Qe ?_ | refine Qs rfl ?_ | refine WK rfl rfl rfl rfl ?_ | refine W3 rfl rfl rfl rfl ?_ | refine Wg rfl rfl (by omega) ?_ | refine Wc rfl rfl (by omega) ?_ | refine Qg ?_ | refine Qa ?_ | refine Qq ?_)
  refine e_1 Tryd.results150 (Qh rfl) (QD ?_)
  simp [doM, q1, q2]
theorem op14_c (a b : Int) (ha : -8 <= a /\ a <= 7) (hb : -8 <= b /\ b <= 7) : Go.Av.Pure Tryd.prog G 151 [.i a, .i b] (.i (doM 13 a b)) := fun B => by
 refine Qc Tryd.func151 rfl Tryd.ntmps151 rfl (t := [(0, .i a), (1, .i b)]) rfl fun E hE => ?_
 by_cases q1 : a = 0
 all_goals by_cases q2 : b = 0
 all_goals
  (repeat' first | refine Qu rfl ?_ | refine QA rfl ?_ | refine Wu rfl rfl ?_ | refine Wa rfl rfl (wnumber_c _) ?_ | refine WI rfl rfl ?_ | refine Wm rfl rfl ?_ | refine Qe ?_ | refine Qs rfl ?_ | refine WK rfl rfl rfl rfl ?_ | refine W3 rfl rfl rfl rfl ?_ | refine Wg rfl rfl (by omega) ?_ | refine Wc rfl rfl (by omega) ?_ | refine Qg ?_ | refine Qa ?_ | refine Qq ?_)
  refine e_1 Tryd.results151 (Qh rfl) (QD ?_)
  simp [doM, q1, q2]
theorem wOp_0 (hG : G 0 = qE) (a b : Int) (ha : -8 <= wrapI a /\ wrapI a <= 7) (hb : -8 <= wrapI b /\ wrapI b <= 7) : Go.Av.Pure Tryd.prog G 60 [.i 0, .i a, .i b] (.tup [.i (opM 0 a b).1, .i (opM 0 a b).2]) := fun B => by
 have h_op := op1_c (G := G) (wrapI a) (wrapI b) ha hb
 refine Qc Tryd.func60 rfl Tryd.ntmps60 rfl (t := [(0, .i _), (1, .i a), (2, .i b)]) rfl fun E hE => ?_
 (repeat' first | refine Qu rfl ?_ | refine QA rfl ?_ | refine WN rfl (by rfl) (by rfl) ?_ | refine Qb rfl rfl rfl ?_ | refine W4 hG rfl (by omega) (by omega) ?_ | refine QL rfl rfl ?_ | refine Wh rfl rfl ?_ | refine Wa rfl rfl (Zm _) ?_ | refine WU rfl (h_op) (by repeat' first | exact Qx | exact QV _ | exact We (Qn _) | exact Qn _ | refine W5 ?_ ?_ | refine W2 ?_ | refine Wo ?_ | refine Qw ?_ | exact QW | refine QF ?_ ?_ | refine We ?_) ?_ | refine Wm rfl rfl ?_ | refine Qd rfl rfl ?_ | refine Wb rfl rfl rfl rfl (by rfl) (by rfl) (by rfl) ?_ | refine QH (fun _ _ => ?_) | refine Qe ?_ | refine Qs rfl ?_ | refine QZ ?_ | refine WK rfl rfl rfl rfl ?_ | refine W3 rfl rfl rfl rfl ?_ | refine Qg ?_ | refine Qa ?_ | refine Qk ?_ | refine Qo rfl ?_ | refine Qq ?_)
 rw [show opM 0 a b = (wrapI (doM 0 (wrapI a) (wrapI b)), 0) from if_neg fun h => absurd h.1 (by decide)]
 exact e_2 (Tryd.results60) (Qh rfl) (Qh rfl) (QD rfl)
theorem wOp_1 (hG : G 0 = qE) (a b : Int) (ha : -8 <= wrapI a /\ wrapI a <= 7) (hb : -8 <= wrapI b /\ wrapI b <= 7) : Go.Av.Pure Tryd.prog G 60 [.i 1, .i a, .i b] (.tup [.i (opM 1 a b).1, .i (opM 1 a b).2]) := fun B => by
 have h_op := op2_c (G := G) (wrapI a) (wrapI b) ha hb
 refine Qc Tryd.func60 rfl Tryd.ntmps60 rfl (t := [(0, .i _), (1, .i a), (2, .i b)]) rfl fun E hE => ?_
 (repeat' first | refine Qu rfl ?_ | refine QA rfl ?_ | refine WN rfl (by rfl) (by rfl) ?_ | refine Qb rfl rfl rfl ?_ | refine W4 hG rfl (by omega) (by omega) ?_ | refine QL rfl rfl ?_ | refine Wh rfl rfl ?_ | refine Wa rfl rfl (Zm _) ?_ | refine WU rfl (h_op) (by repeat' first | exact Qx | exact QV _ | exact We (Qn _) | exact Qn _ | refine W5 ?_ ?_ | refine W2 ?_ | refine Wo ?_ | refine Qw ?_ | exact QW | refine QF ?_ ?_ | refine We ?_) ?_ | refine Wm rfl rfl ?_ | refine Qd rfl rfl ?_ | refine Wb rfl rfl rfl rfl (by rfl) (by rfl) (by rfl) ?_ | refine QH (fun _ _ => ?_) | refine Qe ?_ | refine Qs rfl ?_ | refine QZ ?_ | refine WK rfl rfl rfl rfl ?_ | refine W3 rfl rfl rfl rfl ?_ | refine Qg ?_ | refine Qa ?_ | refine Qk ?_ | refine Qo rfl ?_ | refine Qq ?_)
 rw [show opM 1 a b = (wrapI (doM 1 (wrapI a) (wrapI b)), 0) from if_neg fun h => absurd h.1 (by decide)]
 exact e_2 (Tryd.results60) (Qh rfl) (Qh rfl) (QD rfl)
theorem wOp_2 (hG : G 0 = qE) (a b : Int) (ha : -8 <= wrapI a /\ wrapI a <= 7) (hb : -8 <= wrapI b /\ wrapI b <= 7) : Go.Av.Pure Tryd.prog G 60 [.i 2, .i a, .i b] (.tup [.i (opM 2 a b).1, .i (opM 2 a b).2]) := fun B => by
 have h_op := op3_c (G := G) (wrapI a) (wrapI b) ha hb
 refine Qc Tryd.func60 rfl Tryd.ntmps60 rfl (t := [(0, .i _), (1, .i a), (2, .i b)]) rfl fun E hE => ?_
 (repeat' first | refine Qu rfl ?_ | refine QA rfl ?_ | refine WN rfl (by rfl) (by rfl) ?_ | refine Qb rfl rfl rfl ?_ | refine W4 hG rfl (by omega) (by omega) ?_ | refine QL rfl rfl ?_ | refine Wh rfl rfl ?_ | refine Wa rfl rfl (Zm _) ?_ | refine WU rfl (h_op) (by repeat' first | exact Qx | exact QV _ | exact We (Qn _) | exact Qn _ | refine W5 ?_ ?_ | refine W2 ?_ | refine Wo ?_ | refine Qw ?_ | exact QW | refine QF ?_ ?_ | refine We ?_) ?_ | refine Wm rfl rfl ?_ | refine Qd rfl rfl ?_ | refine Wb rfl rfl rfl rfl (by rfl) (by rfl) (by rfl) ?_ | refine QH (fun _ _ => ?_) | refine Qe ?_ | refine Qs rfl ?_ | refine QZ ?_ | refine WK rfl rfl rfl rfl ?_ | refine W3 rfl rfl rfl rfl ?_ | refine Qg ?_ | refine Qa ?_ | refine Qk ?_ | refine Qo rfl ?_ | refine Qq ?_)
 rw [show opM 2 a b = (wrapI (doM 2 (wrapI a) (wrapI b)), 0) from if_neg fun h => absurd h.1 (by decide)]
 exact e_2 (Tryd.results60) (Qh rfl) (Qh rfl) (QD rfl)
theorem wOp_3 (hG : G 0 = qE) (a b : Int) (ha : -8 <= wrapI a /\ wrapI a <= 7) (hb : -8 <= wrapI b /\ wrapI b <= 7) : Go.Av.Pure Tryd.prog G 60 [.i 3, .i a, .i b] (.tup [.i (opM 3 a b).1, .i (opM 3 a b).2]) := fun B => by
 by_cases h0 : wrapI b = 0
 ·refine Qc Tryd.func60 rfl Tryd.ntmps60 rfl (t := [(0, .i _), (1, .i a), (2, .i b)]) rfl fun E hE => ?_
  (repeat' first | refine Qu rfl ?_ | refine QA rfl ?_ | refine WN rfl (by rfl) (by rfl) ?_ | refine Qb rfl rfl rfl ?_ | refine W4 hG rfl (by omega) (by omega) ?_ | refine QL rfl rfl ?_ | refine Wh rfl rfl ?_ | refine QJ rfl rfl ?_ | refine Wa rfl rfl (Zm _) ?_ | refine WI rfl rfl ?_ | refine Wm rfl rfl ?_ | refine Qd rfl rfl ?_ | refine Wb rfl rfl rfl rfl (by rfl) (by rfl) (by rfl) ?_ | refine QH (fun _ _ => ?_) | refine Qe ?_ | refine Qs rfl ?_ | refine QZ ?_ | refine WK rfl rfl rfl rfl ?_ | refine Qg ?_ | refine Qa ?_ | refine Qk ?_ | refine Qo rfl ?_ | refine Qp rfl (by omega) ?_ | refine Qq ?_)
  rw [show opM 3 a b = (0, 2) from if_pos ⟨by decide, h0⟩]
  exact e_2 (Tryd.results60) (Qh rfl) (Qh rfl) (QD rfl)
 ·have h_op := op4_c (G := G) (wrapI a) (wrapI b) ha hb h0
  refine Qc Tryd.func60 rfl Tryd.ntmps60 rfl (t := [(0, .i _), (1, .i a), (2, .i b)]) rfl fun E hE => ?_
  (repeat' first | refine Qu rfl ?_ | refine QA rfl ?_ | refine WN rfl (by rfl) (by rfl) ?_ | refine Qb rfl rfl rfl ?_ | refine W4 hG rfl (by omega) (by omega) ?_ | refine QL rfl rfl ?_ | refine Wh rfl rfl ?_ | refine QJ rfl rfl ?_ | refine Wa rfl rfl (Zm _) ?_ | refine WU rfl (h_op) (by repeat' first | exact Qx | exact QV _ | exact We (Qn _) | exact Qn _ | refine W5 ?_ ?_ | refine W2 ?_ | refine Wo ?_ | refine Qw ?_ | exact QW | refine QF ?_ ?_ | refine We ?_) ?_ | refine WI rfl rfl ?_ | refine Wm rfl rfl ?_ | refine Qd rfl rfl ?_ | refine Wb rfl rfl rfl rfl (by rfl) (by rfl) (by rfl) ?_ | refine QH (fun _ _ => ?_) | refine Qe ?_ | refine Qs rfl ?_ | refine QZ ?_ | refine WK rfl rfl rfl rfl ?_ | refine Qg ?_ | refine Qa ?_ | refine Qk ?_ | refine Qo rfl ?_ | refine Qr rfl (by omega) ?_ | refine Qq ?_)
  rw [show opM 3 a b = (wrapI (doM 3 (wrapI a) (wrapI b)), 0) from if_neg fun h => h0 h.2]
  exact e_2 (Tryd.results60) (Qh rfl) (Qh rfl) (QD rfl)
theorem wOp_4 (hG : G 0 = qE) (a b : Int) (ha : -8 <= wrapI a /\ wrapI a <= 7) (hb : -8 <= wrapI b /\ wrapI b <= 7) : Go.Av.Pure Tryd.prog G 60 [.i 4, .i a, .i b] (.tup [.i (opM 4 a b).1, .i (opM 4 a b).2]) := fun B => by
 by_cases h0 : wrapI b = 0
 ·refine Qc Tryd.func60 rfl Tryd.ntmps60 rfl (t := [(0, .i _), (1, .i a), (2, .i b)]) rfl fun E hE => ?_
  (repeat' first | refine Qu rfl ?_ | refine QA rfl ?_ | refine WN rfl (by rfl) (by rfl) ?_ | refine Qb rfl rfl rfl ?_ | refine W4 hG rfl (by omega) (by omega) ?_ | refine QL rfl rfl ?_ | refine Wh rfl rfl ?_ | refine QJ rfl rfl ?_ | refine Wa rfl rfl (Zm _) ?_ | refine WI rfl rfl ?_ | refine Wm rfl rfl ?_ | refine Qd rfl rfl ?_ | refine Wb rfl rfl rfl rfl (by rfl) (by rfl) (by rfl) ?_ | refine QH (fun _ _ => ?_) | refine Qe ?_ | refine Qs rfl ?_ | refine QZ ?_ | refine WK rfl rfl rfl rfl ?_ | refine Qg ?_ | refine Qa ?_ | refine Qk ?_ | refine Qo rfl ?_ | refine Qp rfl (by omega) ?_ | refine Qq ?_)
  rw [show opM 4 a b = (0, 2) from if_pos ⟨by decide, h0⟩]
  exact e_2 (Tryd.results60) (Qh rfl) (Qh rfl) (QD rfl)
 ·have h_op := op5_c (G := G) (wrapI a) (wrapI b) ha hb h0
  refine Qc Tryd.func60 rfl Tryd.ntmps60 rfl (t := [(0, .i _), (1, .i a), (2, .i b)]) rfl fun E hE => ?_
  (repeat' first | refine Qu rfl ?_ | refine QA rfl ?_ | refine WN rfl (by rfl) (by rfl) ?_ | refine Qb rfl rfl rfl ?_ | refine W4 hG rfl (by omega) (by omega) ?_ | refine QL rfl rfl ?_ | refine Wh rfl rfl ?_ | refine QJ rfl rfl ?_ | refine Wa rfl rfl (Zm _) ?_ | refine WU rfl (h_op) (by repeat' first | exact Qx | exact QV _ | exact We (Qn _) | exact Qn _ | refine W5 ?_ ?_ | refine W2 ?_ | refine Wo ?_ | refine Qw ?_ | exact QW | refine QF ?_ ?_ | refine We ?_) ?_ | refine WI rfl rfl ?_ | refine Wm rfl rfl ?_ | refine Qd rfl rfl ?_ | refine Wb rfl rfl rfl rfl (by rfl) (by rfl) (by rfl) ?_ | refine QH (fun _ _ => ?_) | refine Qe ?_ | refine Qs rfl ?_ | refine QZ ?_ | refine WK rfl rfl rfl rfl ?_ | refine Qg ?_ | refine Qa ?_ | refine Qk ?_ | refine Qo rfl ?_ | refine Qr rfl (by omega) ?_ | refine Qq ?_)
  rw [show opM 4 a b = (wrapI (doM 4 (wrapI a) (wrapI b)), 0) from if_neg fun h => h0 h.2]
  exact e_2 (Tryd.results60) (Qh rfl) (Qh rfl) (QD rfl)
theorem wOp_5 (hG : G 0 = qE) (a b : Int) (ha : -8 <= wrapI a /\ wrapI a <= 7) (hb : -8 <= wrapI b /\ wrapI b <= 7) : Go.Av.Pure Tryd.prog G 60 [.i 5, .i a, .i b] (.tup [.i (opM 5 a b).1, .i (opM 5 a b).2]) := fun B => by
 have h_op := op6_c (G := G) (wrapI a) (wrapI b) ha hb
 refine Qc Tryd.func60 rfl Tryd.ntmps60 rfl (t := [(0, .i _), (1, .i a), (2, .i b)]) rfl fun E hE => ?_
 (repeat' first | refine Qu rfl ?_ | refine QA rfl ?_ | refine WN rfl (by rfl) (by rfl) ?_ | refine Qb rfl rfl rfl ?_ | refine W4 hG rfl (by omega) (by omega) ?_ | refine QL rfl rfl ?_ | refine Wh rfl rfl ?_ | refine Wa rfl rfl (Zm _) ?_ | refine WU rfl (h_op) (by repeat' first | exact Qx | exact QV _ | exact We (Qn _) | exact Qn _ | refine W5 ?_ ?_ | refine W2 ?_ | refine Wo ?_ | refine Qw ?_ | exact QW | refine QF ?_ ?_ | refine We ?_) ?_ | refine Wm rfl rfl ?_ | refine Qd rfl rfl ?_ | refine Wb rfl rfl rfl rfl (by rfl) (by rfl) (by rfl) ?_ | refine QH (fun _ _ => ?_) | refine Qe ?_ | refine Qs rfl ?_ | refine QZ ?_ | refine WK rfl rfl rfl rfl ?_ | refine W3 rfl rfl rfl rfl ?_ | refine Qg ?_ | refine Qa ?_ | refine Qk ?_ | refine Qo rfl ?_ | refine Qq ?_)
 rw [show opM 5 a b = (wrapI (doM 5 (wrapI a) (wrapI b)), 0) from if_neg fun h => absurd h.1 (by decide)]
 exact e_2 (Tryd.results60) (Qh rfl) (Qh rfl) (QD rfl)
theorem wOp_6 (hG : G 0 = qE) (a b : Int) (ha : -8 <= wrapI a /\ wrapI a <= 7) (hb : -8 <= wrapI b /\ wrapI b <= 7) : Go.Av.Pure Tryd.prog G 60 [.i 6, .i a, .i b] (.tup [.i (opM 6 a b).1, .i (opM 6 a b).2]) := fun B => by
 have h_op := op7_c (G := G) (wrapI a) (wrapI b) ha hb
 refine Qc Tryd.func60 rfl Tryd.ntmps60 rfl (t := [(0, .i _), (1, .i a), (2, .i b)]) rfl fun E hE => ?_
 (repeat' first | refine Qu rfl ?_ | refine QA rfl ?_ | refine WN rfl (by rfl) (by rfl) ?_ | refine Qb rfl rfl rfl ?_ | refine W4 hG rfl (by omega) (by omega) ?_ | refine QL rfl rfl ?_ | refine Wh rfl rfl ?_ | refine Wa rfl rfl (Zm _) ?_ | refine WU rfl (h_op) (by repeat' first | exact Qx | exact QV _ | exact We (Qn _) | exact Qn _ | refine W5 ?_ ?_ | refine W2 ?_ | refine Wo ?_ | refine Qw ?_ | exact QW | refine QF ?_ ?_ | refine We ?_) ?_ | refine Wm rfl rfl ?_ | refine Qd rfl rfl ?_ | refine Wb rfl rfl rfl rfl (by rfl) (by rfl) (by rfl) ?_ | refine QH (fun _ _ => ?_) | refine Qe ?_ | refine Qs rfl ?_ | refine QZ ?_ | refine WK rfl rfl rfl rfl ?_ | refine W3 rfl rfl rfl rfl ?_ | refine Qg ?_ | refine Qa ?_ | refine Qk ?_ | refine Qo rfl ?_ | refine Qq ?_)
 rw [show opM 6 a b = (wrapI (doM 6 (wrapI a) (wrapI b)), 0) from if_neg fun h => absurd h.1 (by decide)]
 exact e_2 (Tryd.results60) (Qh rfl) (Qh rfl) (QD rfl)
theorem wOp_7 (hG : G 0 = qE) (a b : Int) (ha : -8 <= wrapI a /\ wrapI a <= 7) (hb : -8 <= wrapI b /\ wrapI b <= 7) : Go.Av.Pure Tryd.prog G 60 [.i 7, .i a, .i b] (.tup [.i (opM 7 a b).1, .i (opM 7 a b).2]) := fun B => by
 have h_op := op8_c (G := G) (wrapI a) (wrapI b) ha hb
 refine Qc Tryd.func60 rfl Tryd.ntmps60 rfl (t := [(0, .i _), (1, .i a), (2, .i b)]) rfl fun E hE => ?_
 (repeat' first | refine Qu rfl ?_ | refine QA rfl ?_ | refine WN rfl (by rfl) (by rfl) ?_ | refine Qb rfl rfl rfl ?_ | refine W4 hG rfl (by omega) (by omega) ?_ | refine QL rfl rfl ?_ | refine Wh rfl rfl ?_ | refine Wa rfl rfl (Zm _) ?_ | refine WU rfl (h_op) (by repeat' first | exact Qx | exact QV _ | exact We (Qn _) | exact Qn _ | refine W5 ?_ ?_ | refine W2 ?_ | refine Wo ?_ | refine Qw ?_ | exact QW | refine QF ?_ ?_ | refine We ?_) ?_ | refine Wm rfl rfl ?_ | refine Qd rfl rfl ?_ | refine Wb rfl rfl rfl rfl (by rfl) (by rfl) (by rfl) ?_ | refine QH (fun _ _ => ?_) | refine Qe ?_ | refine Qs rfl ?_ | refine QZ ?_ | refine WK rfl rfl rfl rfl ?_ | refine W3 rfl rfl rfl rfl ?_ | refine Qg ?_ | refine Qa ?_ | refine Qk ?_ | refine Qo rfl ?_ | refine Qq ?_)
 rw [show opM 7 a b = (wrapI (doM 7 (wrapI a) (wrapI b)), 0) from if_neg fun h => absurd h.1 (by decide)]
 exact e_2 (Tryd.results60) (Qh rfl) (Qh rfl) (QD rfl)
theorem wOp_8 (hG : G 0 = qE) (a b : Int) (ha : -8 <= wrapI a /\ wrapI a <= 7) (hb : -8 <= wrapI b /\ wrapI b <= 7) : Go.Av.Pure Tryd.prog G 60 [.i 8, .i a, .i b] (.tup [.i (opM 8 a b).1, .i (opM 8 a b).2]) := fun B => by
 have h_op := op9_c (G := G) (wrapI a) (wrapI b) ha hb
 refine Qc Tryd.func60 rfl Tryd.ntmps60 rfl (t := [(0, .i _), (1, .i a), (2, .i b)]) rfl fun E hE => ?_
 (repeat' first | refine Qu rfl ?_ | refine QA rfl ?_ | refine WN rfl (by rfl) (by rfl) ?_ | refine Qb rfl rfl rfl ?_ | refine W4 hG rfl (by omega) (by omega) ?_ | refine QL rfl rfl ?_ | refine Wh rfl rfl ?_ | refine Wa rfl rfl (Zm _) ?_ | refine WU rfl (h_op) (by repeat' first | exact Qx | exact QV _ | exact We (Qn _) | exact Qn _ | refine W5 ?_ ?_ | refine W2 ?_ | refine Wo ?_ | refine Qw ?_ | exact QW | refine QF ?_ ?_ | refine We ?_) ?_ | refine Wm rfl rfl ?_ | refine Qd rfl rfl ?_ | refine Wb rfl rfl rfl rfl (by rfl) (by rfl) (by rfl) ?_ | refine QH (fun _ _ => ?_) | refine Qe ?_ | refine Qs rfl ?_ | refine QZ ?_ | refine WK rfl rfl rfl rfl ?_ | refine W3 rfl rfl rfl rfl ?_ | refine Qg ?_ | refine Qa ?_ | refine Qk ?_ | refine Qo rfl ?_ | refine Qq ?_)
 rw [show opM 8 a b = (wrapI (doM 8 (wrapI a) (wrapI b)), 0) from if_neg fun h => absurd h.1 (by decide)]
 exact e_2 (Tryd.results60) (Qh rfl) (Qh rfl) (QD rfl)
theorem wOp_9 (hG : G 0 = qE) (a b : Int) (ha : -8 <= wrapI a /\ wrapI a <= 7) (hb : -8 <= wrapI b /\ wrapI b <= 7) : Go.Av.Pure Tryd.prog G 60 [.i 9, .i a, .i b] (.tup [.i (opM 9 a b).1, .i (opM 9 a b).2]) := fun B => by
 have h_op := op10_c (G := G) (wrapI a) (wrapI b) ha hb
 refine Qc Tryd.func60 rfl Tryd.ntmps60 rfl (t := [(0, .i _), (1, .i a), (2, .i b)]) rfl fun E hE => ?_
 (repeat' first | refine Qu rfl ?_ | refine QA rfl ?_ | refine WN rfl (by rfl) (by rfl) ?_ | refine Qb rfl rfl rfl ?_ | refine W4 hG rfl (by omega) (by omega) ?_ | refine QL rfl rfl ?_ | refine Wh rfl rfl ?_ | refine Wa rfl rfl (Zm _) ?_ | refine WU rfl (h_op) (by repeat' first | exact Qx | exact QV _ | exact We (Qn _) | exact Qn _ | refine W5 ?_ ?_ | refine W2 ?_ | refine Wo ?_ | refine Qw ?_ | exact QW | refine QF ?_ ?_ | refine We ?_) ?_ | refine Wm rfl rfl ?_ | refine Qd rfl rfl ?_ | refine Wb rfl rfl rfl rfl (by rfl) (by rfl) (by rfl) ?_ | refine QH (fun _ _ => ?_) | refine Qe ?_ | refine Qs rfl ?_ | refine QZ ?_ | refine WK rfl rfl rfl rfl ?_ | refine W3 rfl rfl rfl rfl ?_ | refine Qg ?_ | refine Qa ?_ | refine Qk ?_ | refine Qo rfl ?_ | refine Qq ?_)
 rw [show opM 9 a b = (wrapI (doM 9 (wrapI a) (wrapI b)), 0) from if_neg fun h => absurd h.1 (by decide)]
 exact e_2 (Tryd.results60) (Qh rfl) (Qh rfl) (QD rfl)
theorem wOp_10 (hG : G 0 = qE) (a b : Int) (ha : -8 <= wrapI a /\ wrapI a <= 7) (hb : -8 <= wrapI b /\ wrapI b <= 7) : Go.Av.Pure Tryd.prog G 60 [.i 10, .i a, .i b] (.tup [.i (opM 10 a b).1, .i (opM 10 a b).2]) := fun B => by
 have h_op := op11_c (G := G) (wrapI a) (wrapI b) ha hb
 refine Qc Tryd.func60 rfl Tryd.ntmps60 rfl (t := [(0, .i _), (1, .i a), (2, .i b)]) rfl fun E hE => ?_
 (repeat' first | refine Qu rfl ?_ | refine QA rfl ?_ | refine WN rfl (by rfl) (by rfl) ?_ | refine Qb rfl rfl rfl ?_ | refine W4 hG rfl (by omega) (by omega) ?_ | refine QL rfl rfl ?_ | refine Wh rfl rfl ?_ | refine Wa rfl rfl (Zm _) ?_ | refine WU rfl (h_op) (by repeat' first | exact Qx | exact QV _ | exact We (Qn _) | exact Qn _ | refine W5 ?_ ?_ | refine W2 ?_ | refine Wo ?_ | refine Qw ?_ | exact QW | refine QF ?_ ?_ | refine We ?_) ?_ | refine Wm rfl rfl ?_ | refine Qd rfl rfl ?_ | refine Wb rfl rfl rfl rfl (by rfl) (by rfl) (by rfl) ?_ | refine QH (fun _ _ => ?_) | refine Qe ?_ | refine Qs rfl ?_ | refine QZ ?_ | refine WK rfl rfl rfl rfl ?_ | refine W3 rfl rfl rfl rfl ?_ | refine Qg ?_ | refine Qa ?_ | refine Qk ?_ | refine Qo rfl ?_ | refine Qq ?_)
 rw [show opM 10 a b = (wrapI (doM 10 (wrapI a) (wrapI b)), 0) from if_neg fun h => absurd h.1 (by decide)]
 exact e_2 (Tryd.results60) (Qh rfl) (Qh rfl) (QD rfl)
theorem wOp_11 (hG : G 0 = qE) (a b : Int) (ha : -8 <= wrapI a /\ wrapI a <= 7) (hb : -8 <= wrapI b /\ wrapI b <= 7) : Go.Av.Pure Tryd.prog G 60 [.i 11, .i a, .i b] (.tup [.i (opM 11 a b).1, .i (opM 11 a b).2]) := fun B => by
 have h_op := op12_c (G := G) (wrapI a) (wrapI b) ha hb
 refine Qc Tryd.func60 rfl Tryd.ntmps60 rfl (t := [(0, .i _), (1, .i a), (2, .i b)]) rfl fun E hE => ?_
 (repeat' first | refine Qu rfl ?_ | refine QA rfl ?_ | refine WN rfl (by rfl) (by rfl) ?_ | refine Qb rfl rfl rfl ?_ | refine W4 hG rfl (by omega) (by omega) ?_ | refine QL rfl rfl ?_ | refine Wh rfl rfl ?_ | refine Wa rfl rfl (Zm _) ?_ | refine WU rfl (h_op) (by repeat' first | exact Qx | exact QV _ | exact We (Qn _) | exact Qn _ | refine W5 ?_ ?_ | refine W2 ?_ | refine Wo ?_ | refine Qw ?_ | exact QW | refine QF ?_ ?_ | refine We ?_) ?_ | refine Wm rfl rfl ?_ | refine Qd rfl rfl ?_ | refine Wb rfl rfl rfl rfl (by rfl) (by rfl) (by rfl) ?_ | refine QH (fun _ _ => ?_) | refine Qe ?_ | refine Qs rfl ?_ | refine QZ ?_ | refine WK rfl rfl rfl rfl ?_ | refine W3 rfl rfl rfl rfl ?_ | refine Qg ?_ | refine Qa ?_ | refine Qk ?_ | refine Qo rfl ?_ | refine Qq ?_)
 rw [show opM 11 a b = (wrapI (doM 11 (wrapI a) (wrapI b)), 0) from if_neg fun h => absurd h.1 (by decide)]
 exact e_2 (Tryd.results60) (Qh rfl) (Qh rfl) (QD rfl)
theorem wOp_12 (hG : G 0 = qE) (a b : Int) (ha : -8 <= wrapI a /\ wrapI a <= 7) (hb : -8 <= wrapI b /\ wrapI b <= 7) : Go.Av.Pure Tryd.prog G 60 [.i 12, .i a, .i b] (.tup [.i (opM 12 a b).1, .i (opM 12 a b).2]) := fun B => by
 have h_op := op13_c (G := G) (wrapI a) (wrapI b) ha hb
 refine Qc Tryd.func60 rfl Tryd.ntmps60 rfl (t := [(0, .i _), (1, .i a), (2, .i b)]) rfl fun E hE => ?_
 (repeat' first | refine Qu rfl ?_ | refine QA rfl ?_ | refine WN rfl (by rfl) (by rfl) ?_ | refine Qb rfl rfl rfl ?_ | refine W4 hG rfl (by omega) (by omega) ?_ | refine QL rfl rfl ?_ | refine Wh rfl rfl ?_ | refine Wa rfl rfl (Zm _) ?_ | refine WU rfl (h_op) (by repeat' first | exact Qx | exact QV _ | exact We (Qn _) | exact Qn _ | refine W5 ?_ ?_ | refine W2 ?_ | refine Wo ?_ | refine Qw ?_ | exact QW | refine QF ?_ ?_ | refine We ?_) ?_ | refine Wm rfl rfl ?_ | refine Qd rfl rfl ?_ | refine Wb rfl rfl rfl rfl (by rfl) (by rfl) (by rfl) ?_ | refine QH (fun _ _ => ?_) | refine Qe ?_ | refine Qs rfl ?_ | refine QZ ?_ | refine WK rfl rfl rfl rfl ?_ | refine W3 rfl rfl rfl rfl ?_ | refine Qg ?_ | refine Qa ?_ | refine Qk ?_ | refine Qo rfl ?_ | refine Qq ?_)
 rw [show opM 12 a b = (wrapI (doM 12 (wrapI a) (wrapI b)), 0) from if_neg fun h => absurd h.1 (by decide)]
 exact e_2 (Tryd.results60) (Qh rfl) (Qh rfl) (QD rfl)
theorem wOp_13 (hG : G 0 = qE) (a b : Int) (ha : -8 <= wrapI a /\ wrapI a <= 7) (hb : -8 <= wrapI b /\ wrapI b <= 7) : Go.Av.Pure Tryd.prog G 60 [.i 13, .i a, .i b] (.tup [.i (opM 13 a b).1, .i (opM 13 a b).2]) := fun B => by
 have h_op := op14_c (G := G) (wrapI a) (wrapI b) ha hb
 refine Qc Tryd.func60 rfl Tryd.ntmps60 rfl (t := [(0, .i _), (1, .i a), (2, .i b)]) rfl fun E hE => ?_
 (repeat' first | refine Qu rfl ?_ | refine QA rfl ?_ | refine WN rfl (by rfl) (by rfl) ?_ | refine Qb rfl rfl rfl ?_ | refine W4 hG rfl (by omega) (by omega) ?_ | refine QL rfl rfl ?_ | refine Wh rfl rfl ?_ | refine Wa rfl rfl (Zm _) ?_ | refine WU rfl (h_op) (by repeat' first | exact Qx | exact QV _ | exact We (Qn _) | exact Qn _ | refine W5 ?_ ?_ | refine W2 ?_ | refine Wo ?_ | refine Qw ?_ | exact QW | refine QF ?_ ?_ | refine We ?_) ?_ | refine Wm rfl rfl ?_ | refine Qd rfl rfl ?_ | refine Wb rfl rfl rfl rfl (by rfl) (by rfl) (by rfl) ?_ | refine QH (fun _ _ => ?_) | refine Qe ?_ | refine Qs rfl ?_ | refine QZ ?_ | refine WK rfl rfl rfl rfl ?_ | refine W3 rfl rfl rfl rfl ?_ | refine Qg ?_ | refine Qa ?_ | refine Qk ?_ | refine Qo rfl ?_ | refine Qq ?_)
 rw [show opM 13 a b = (wrapI (doM 13 (wrapI a) (wrapI b)), 0) from if_neg fun h => absurd h.1 (by decide)]
 exact e_2 (Tryd.results60) (Qh rfl) (Qh rfl) (QD rfl)
theorem wOp_c (hG : G 0 = qE) (op a b : Int) (hop : 0 <= op /\ op < 14) : Go.Av.Pure Tryd.prog G 60 [.i op, .i a, .i b] (.tup [.i (opM op a b).1, .i (opM op a b).2]) := by
 have ha := wrapI_bd a
 have hb := wrapI_bd b
 have : op = 0 \/ op = 1 \/ op = 2 \/ op = 3 \/ op = 4 \/ op = 5 \/ op = 6 \/ op = 7 \/ op = 8 \/ op = 9 \/ op = 10 \/ op = 11 \/ op = 12 \/ op = 13 := by omega
 rcases this with rfl | rfl | rfl | rfl | rfl | rfl | rfl | rfl | rfl | rfl | rfl | rfl | rfl | rfl
 ·exact wOp_0 hG a b ha hb
 ·exact wOp_1 hG a b ha hb
 ·exact wOp_2 hG a b ha hb
 ·exact wOp_3 hG a b ha hb
 ·exact wOp_4 hG a b ha hb
 ·exact wOp_5 hG a b ha hb
 ·exact wOp_6 hG a b ha hb
 ·exact wOp_7 hG a b ha hb
 ·exact wOp_8 hG a b ha hb
 ·exact wOp_9 hG a b ha hb
 ·exact wOp_10 hG a b ha hb
 ·exact wOp_11 hG a b ha hb
 ·exact wOp_12 hG a b ha hb
 ·exact wOp_13 hG a b ha hb
def muxM (s : St) (c x y : Int) : Int × St := or (and (and s c x).2 (-c) y).2 (and s c x).1 (and (and s c x).2 (-c) y).1
theorem mux_gate {s : St} (hs : Ok s) (hv : s.vars + 3 < 1099511627776) {c x y : Int} (hc : Lim s c) (hx : Lim s x) (hy : Lim s y) : Gate s (muxM s c x y).2 3 /\ Lim (muxM s c x y).2 (muxM s c x y).1 := by
 have q1 := Zn hs (by omega) c x
 have k1 := q1.hi
 have q2 := Zn q1.ok (by omega) (-c) y
 have k2 := q2.hi
 have q3 := or_gate q2.ok (by omega) (and s c x).1 (and (and s c x).2 (-c) y).1
 have l1 := ZF hc hx hs.v0
 have l2 := ZF (hc.neg.mono q1.lo) (hy.mono q1.lo) q1.ok.v0
 have l3 := or_lim (l1.mono (Int.le_trans q1.lo q2.lo)) (l2.mono q2.lo) q2.ok.v0
 exact ⟨(q1.trans q2).trans q3, l3.mono q3.lo⟩
theorem mux_c (s : St) (hs : Ok s) (hv0 : s.vars + 3 < 1099511627776) (c x y : Int) (hc : Lim s c) (hx : Lim s x) (hy : Lim s y) : BM Tryd.prog G 85 [.i c, .i x, .i y] s.vars s.cl (.i (muxM s c x y).1) (muxM s c x y).2 := fun g0 g1 g2 g3 c2 c3 c4 m sn h2 h3 h4 hm hsn B b0 b1 b2 b3 => by
 have hv : s.vars < 1099511627776 := by omega
 have q1 := Zn hs hv c x
 have k1 := q1.hi
 have hov1 : (and s c x).2.vars < 1099511627776 := by omega
 have q2 := Zn q1.ok hov1 (-c) y
 have k2 := q2.hi
 have hov2 : (and (and s c x).2 (-c) y).2.vars < 1099511627776 := by omega
 have hc' := hc.neg.mono q1.lo
 have hy' := hy.mono q1.lo
 have l1' := (ZF hc hx hs.v0).mono (Int.le_trans q1.lo q2.lo)
 have l2' := (ZF hc' hy' q1.ok.v0).mono q2.lo
 have c1 := hc.1
 have c2' := hc.2
 have hv1 := hs.v1
 have hv00 := hs.v0
 refine Qc Tryd.func85 rfl Tryd.ntmps85 rfl (t := [(0, .ptr 0 g0 0), (1, .i c), (2, .i x), (3, .i y)]) rfl fun E hE => ?_
 (repeat' first | refine Qu rfl ?_ | refine QA rfl ?_ | refine Zk rfl rfl (and_c s hs hv c x hc hx) rfl (fun _ _ => ?_) | refine Zk rfl rfl (and_c _ q1.ok hov1 (-c) y hc' hy') rfl (fun _ _ => ?_) | refine Zk rfl rfl (or_c _ q2.ok hov2 _ _ l1' l2') rfl (fun _ _ => ?_) | refine s_neg rfl (by omega) ?_ | refine Qe ?_ | refine Qs rfl ?_ | refine Qg ?_ | refine Qa ?_ | refine Qq ?_)
 rename_i ga hga gb hgb gd hgd
 exact e_1 (Tryd.results85) (Qh rfl) (Zg ⟨rfl, _, by omega, rfl⟩)
def sameAt (s : St) (a b out : Int) : Int × St := and (xor s a b).2 out (-(xor s a b).1)
def Zb (s : St) (x y : List Int) : Nat -> Int × St
 | 0 => (1, s)
 | i + 1 => sameAt (Zb s x y i).2 (x.getD i 0) (y.getD i 0) (Zb s x y i).1
theorem sameAt_gate {s : St} (hs : Ok s) (hv : s.vars + 2 < 1099511627776) {a b out : Int} (ha : Lim s a) (hb : Lim s b) (ho : Lim s out) : Gate s (sameAt s a b out).2 2 /\ Lim (sameAt s a b out).2 (sameAt s a b out).1 := by
 have q1 := xor_gate hs (by omega) a b
 have k1 := q1.hi
 have l1 := (xor_lim ha hb hs.v0).neg
 have q2 := Zn q1.ok (by omega) out (-(xor s a b).1)
 have l2 := ZF (ho.mono q1.lo) (l1.mono q1.lo) q1.ok.v0
 exact ⟨q1.trans q2, l2.mono q2.lo⟩
theorem sameTo_gate {s : St} (hs : Ok s) (hv : s.vars + 100 < 1099511627776) {x y : List Int} (hx : ∀ v ∈ x, Lim s v) (hy : ∀ v ∈ y, Lim s v) : ∀ i : Nat, i <= 8 -> Gate s (Zb s x y i).2 (2 * i) /\ Lim (Zb s x y i).2 (Zb s x y i).1
 | 0, _ => ⟨⟨hs, Int.le_refl _, by show s.vars <= _; omega⟩, by have := hs.v0; exact ⟨by show _ <= (1 : Int); show -(s.vars + 1) <= 1; omega, by show (1 : Int) <= s.vars + 1; omega⟩⟩
 | i + 1, hi => by
  obtain ⟨h1, h2⟩ := sameTo_gate hs hv hx hy i (by omega)
  have hh := h1.hi
  obtain ⟨k1, k2⟩ := sameAt_gate h1.ok (by omega) ((Wr hx hs.v0 i).mono h1.lo) ((Wr hy hs.v0 i).mono h1.lo) h2
  exact ⟨by have := h1.trans k1; rwa [show (2 : Int) * (i : Int) + 2 = 2 * ((i + 1 : Nat) : Int) by omega] at this, k2⟩
theorem same_c (s : St) (hs : Ok s) (hv : s.vars + 100 < 1099511627776) (x y : List Int) (hxl : x.length = 4) (hyl : y.length = 4) (hx : ∀ v ∈ x, Lim s v) (hy : ∀ v ∈ y, Lim s v) : BM Tryd.prog G 105 [.agg (Qt x), .agg (Qt y)] s.vars s.cl (.i (Zb s x y 4).1) (Zb s x y 4).2 := fun g0 g1 g2 g3 c2 c3 c4 m sn h2 h3 h4 hm hsn B b0 b1 b2 b3 => by
 have hv0 := hs.v0
 have hv1 := hs.v1
 refine Qc Tryd.func105 rfl Tryd.ntmps105 rfl (t := [(0, .ptr 0 g0 0), (1, .agg (Qt x)), (2, .agg (Qt y))]) rfl fun E hE => ?_
 have hlt := fun i hi => sameTo_gate hs hv hx hy i hi
 (repeat' first | refine Qu rfl ?_ | refine QA rfl ?_ | refine QU rfl rfl (fun _ _ => ?_) | refine Qe ?_ | refine Qs rfl ?_ | refine Qg ?_ | refine Qa ?_ | refine Qf ?_)
 rename_i gx hgx gy hgy
 refine ZV (fun (i gc : Nat) => ⟨[(0, .ptr 0 g0 0), (4, .ptr 4 gx 0), (5, .ptr 5 gy 0), (7, .i (Zb s x y i).1), (9, .i i)], [.row g0 [.sc (.int .i64 (Zb s x y i).2.vars), .ref 1 gc 0 (Zb s x y i).2.cl.length 1, c2, c3, c4, .mp 2 g2, .mp 3 g3], .row gc (Qt (Zb s x y i).2.cl), .mapb g2 (Wp m), .mapb g3 sn, .row gx (Qt x), .row gy (Qt y)]⟩) (fun i gc => i <= 4 /\ (gc = g1 \/ E.N < gc)) (fun i _ => 4 - i) 0 g1 ?_ ⟨by omega, .inl rfl⟩ ?_
 ·exact zal rfl
 intro i gc ⟨hi, hgc⟩
 obtain ⟨hg, hl⟩ := hlt i (by omega)
 have hsucc : Zb s x y (i + 1) = sameAt (Zb s x y i).2 (x.getD i 0) (y.getD i 0) (Zb s x y i).1 := rfl
 (repeat' first | refine QL rfl rfl ?_ | refine Qe ?_ | refine Qs rfl ?_ | refine Qg ?_ | refine Qa ?_)
 refine QE rfl (fun h => ?_) (fun h => ?_)
 ·have hiX : i < x.length := by omega
  have hiY : i < y.length := by omega
  rw [Ord.getD_lt hiX 0, Ord.getD_lt hiY 0] at hsucc
  have ho := hg.ok
  have hh := hg.hi
  have hov : (Zb s x y i).2.vars < 1099511627776 := by omega
  have ha : Lim (Zb s x y i).2 x[i] := (hx _ (List.getElem_mem hiX)).mono hg.lo
  have hb : Lim (Zb s x y i).2 y[i] := (hy _ (List.getElem_mem hiY)).mono hg.lo
  clear hlt
  generalize Zb s x y i = o at *
  have p1 := xor_gate ho hov x[i] y[i]
  have k1 := p1.hi
  have hov3 : (xor o.2 x[i] y[i]).2.vars < 1099511627776 := by omega
  have m1 := hl.mono p1.lo
  have m2 := ((xor_lim ha hb ho.v0).neg).mono p1.lo
  have mb := xor_lim ha hb ho.v0
  obtain ⟨mb1, mb2⟩ := mb
  have hov1' := ho.v1
  (repeat' first | refine Qu rfl ?_ | refine QA rfl ?_ | refine Q5 rfl rfl (by omega) ?_ | refine Zk rfl rfl (xor_c _ ho hov _ _ ha hb) rfl (fun _ _ => ?_) | refine Zk rfl rfl (and_c _ p1.ok hov3 _ _ m1 m2) rfl (fun _ _ => ?_) | refine Qe ?_ | refine Qs rfl ?_ | refine Qg ?_ | refine Qa ?_ | refine Qf ?_ | (refine Q0 ?_; first | (refine Wf (fun p => p.1 :: p.2.1 :: p.2.2.1 :: p.2.2.2.1 :: .row gx (Qt x) :: .row gy (Qt y) :: p.2.2.2.2) 13 [(0, true), (1, true), (2, true), (3, true), (4, true), (5, true), (6, true), (7, true), (8, true), (9, false), (10, true), (11, false), (12, true)] (by rfl) (by rfl) (by kernel_rfl) (by decide +kernel) (by decide +kernel) ⟨(_, _, _, _, _), rfl⟩ ?_) | refine Q3 (by rfl) (by kernel_rfl) (by kernel_rfl) ?_ | refine QP (by kernel_rfl) (by kernel_rfl) ?_) | refine Qk ?_ | refine i_nil ?_ | refine i_st rfl rfl (fun _ => (by (repeat' first | refine Qu rfl ?_ | refine QA rfl ?_ | refine Wj rfl rfl rfl (by first | assumption | omega) rfl ?_ | refine WE rfl rfl rfl (by omega) ?_ | refine s_neg rfl (by omega) ?_ | exact ⟨rfl, rfl⟩))) ?_ | refine i_ef rfl ?_ | refine And.intro (Exists.intro ((_, _, _, _, _)) rfl) ?_)
  rename_i ga hga gb hgb
  refine ⟨i + 1, gb, ⟨by omega, by omega⟩, by omega, ?_⟩
  rw [hsucc]
  exact zal rfl
 ·have hi4 : i = 4 := by omega
  subst hi4
  (repeat' first | refine Qu rfl ?_ | refine QA rfl ?_ | refine Qe ?_ | refine Qs rfl ?_ | refine Qg ?_ | refine Qa ?_ | refine Q2 rfl ?_ | refine Qq ?_)
  exact e_1 (Tryd.results105) (Qh rfl) (Qy (σ := [_, _, _, _]) (r := [_, _]) ⟨rfl, gc, by omega, rfl⟩)
abbrev _root_.Go.Bl.bitN (n : Int) (i : Nat) : Int := Av.bitsOf .and .i64 (n / 2 ^ min ((i : Int)).toNat 64) 1
def _root_.Go.Bl.freshTo (s : St) : Nat -> List Int × St
 | 0 => ([0, 0, 0, 0], s)
 | i + 1 => ((freshTo s i).1.set i ((freshTo s i).2.vars + 1), fresh (freshTo s i).2)
def _root_.Go.Bl.otherTo (x y : List Int) (u v : Int) : Nat -> List Int
 | 0 => []
 | i + 1 => otherTo x y u v i ++ [x.getD i 0 * (1 - 2 * bitN u i), y.getD i 0 * (1 - 2 * bitN v i)]
def _root_.Go.Bl.addTo (s : St) (out other : List Int) (r : Int) : Nat -> St
 | 0 => s
 | i + 1 => add (addTo s out other r i) (other ++ [out.getD i 0 * (2 * bitN (ZJ r) i - 1)])
def _root_.Go.Bl.tableTo (s : St) (op : Int) (x y out : List Int) : Nat -> St
 | 0 => s
 | n + 1 => addTo (tableTo s op x y out n) out (otherTo x y ((n : Int) % 16) ((n : Int) / 16) 4) (opM op ((n : Int) % 16) ((n : Int) / 16)).1 4
theorem _root_.Go.Bl.bitN_01 (n : Int) (i : Nat) : bitN n i = 0 \/ bitN n i = 1 := by
 unfold bitN
 generalize n / 2 ^ min ((i : Int)).toNat 64 = w
 show IntKind.i64.wrap ((BitVec.ofInt 64 w &&& BitVec.ofInt 64 1).toNat : Int) = 0 \/ IntKind.i64.wrap ((BitVec.ofInt 64 w &&& BitVec.ofInt 64 1).toNat : Int) = 1
 rw [BitVec.toNat_and, show (BitVec.ofInt 64 1).toNat = 2 ^ 1 - 1 from rfl, Nat.and_two_pow_sub_one_eq_mod]
 rcases Nat.mod_two_eq_zero_or_one ((BitVec.ofInt 64 w).toNat) with h | h
 ·left; rw [show 2 ^ 1 = 2 from rfl, h]; decide
 ·right; rw [show 2 ^ 1 = 2 from rfl, h]; decide
theorem forceD_id : ∀ l : List DV, forceD l = some l
 | [] => rfl
 | d :: r => by simp only [forceD, forceD_id r]
theorem QS {ds : List DV} {n : Nat} (h : ds.length = n) : partD ds 0 n = some ds := by
 unfold partD
 rw [List.drop_zero, <- h, List.take_length]
 exact forceD_id _
theorem sgn_bd {a b : Int} (ha : -2000000000000 <= a /\ a <= 2000000000000) (hb : b = 0 \/ b = 1) : -9223372036854775808 <= a * (1 - 2 * b) /\ a * (1 - 2 * b) <= 9223372036854775807 := by
 rcases hb with rfl | rfl <;> omega
theorem sgn_bd' {a b : Int} (ha : -2000000000000 <= a /\ a <= 2000000000000) (hb : b = 0 \/ b = 1) : -9223372036854775808 <= a * (2 * b - 1) /\ a * (2 * b - 1) <= 9223372036854775807 := by
 rcases hb with rfl | rfl <;> omega
theorem two_bd {b : Int} (hb : b = 0 \/ b = 1) : -9223372036854775808 <= 2 * b /\ 2 * b <= 9223372036854775807 := by
 rcases hb with rfl | rfl <;> omega
theorem _root_.Go.Bl.freshTo_len (s : St) : ∀ i, (freshTo s i).1.length = 4
 | 0 => rfl
 | i + 1 => by
  show ((freshTo s i).1.set _ _).length = 4
  rw [List.length_set, freshTo_len s i]
theorem _root_.Go.Bl.otherTo_len (x y : List Int) (u v : Int) : ∀ i, (otherTo x y u v i).length = 2 * i
 | 0 => rfl
 | i + 1 => by
  show (otherTo x y u v i ++ [_, _]).length = _
  rw [List.length_append, otherTo_len x y u v i]
  show 2 * i + 2 = _
  omega
theorem _root_.Go.Bl.freshTo_gate {s : St} (hs : Ok s) (hv : s.vars + 20 < 1099511627776) : ∀ i : Nat, i <= 4 -> Gate s (freshTo s i).2 i /\ ∀ v ∈ (freshTo s i).1, Lim (freshTo s i).2 v
 | 0, _ => ⟨⟨hs, Int.le_refl _, by show s.vars <= _; omega⟩, fun v h => by
   have hv : v = 0 := by
    have h : v ∈ [(0 : Int), 0, 0, 0] := h
    simpa using h
   subst hv
   have := hs.v0
   exact ⟨by show -(s.vars + 1) <= 0; omega, by show 0 <= s.vars + 1; omega⟩⟩
 | i + 1, hi => by
  obtain ⟨h1, h3⟩ := freshTo_gate hs hv i (by omega)
  have hh := h1.hi
  have hf : (fresh (freshTo s i).2).vars = (freshTo s i).2.vars + 1 := rfl
  have hl := h1.lo
  have h0 := h1.ok.v0
  refine ⟨⟨fresh_ok h1.ok (by omega), by show s.vars <= (freshTo s i).2.vars + 1; omega, by show (freshTo s i).2.vars + 1 <= _; omega⟩, fun v hv => ?_⟩
  rcases List.mem_or_eq_of_mem_set hv with hv | rfl
  ·exact (h3 v hv).mono (by show (freshTo s i).2.vars <= (freshTo s i).2.vars + 1; omega)
  ·exact ⟨by show -((freshTo s i).2.vars + 1 + 1) <= (freshTo s i).2.vars + 1; omega, by show _ <= (freshTo s i).2.vars + 1 + 1; omega⟩
theorem _root_.Go.Bl.addTo_ok {s : St} (hs : Ok s) (out other : List Int) (r : Int) : ∀ i, Ok (addTo s out other r i) /\ (addTo s out other r i).vars = s.vars
 | 0 => ⟨hs, rfl⟩
 | i + 1 => by
  obtain ⟨h1, h2⟩ := addTo_ok hs out other r i
  exact ⟨add_ok h1 _, by show (add _ _).vars = _; rw [WH, h2]⟩
theorem _root_.Go.Bl.tableTo_ok {s : St} (hs : Ok s) (op : Int) (x y out : List Int) : ∀ n, Ok (tableTo s op x y out n) /\ (tableTo s op x y out n).vars = s.vars
 | 0 => ⟨hs, rfl⟩
 | n + 1 => by
  obtain ⟨h1, h2⟩ := tableTo_ok hs op x y out n
  obtain ⟨h3, h4⟩ := addTo_ok h1 out (otherTo x y ((n : Int) % 16) ((n : Int) / 16) 4) (opM op ((n : Int) % 16) ((n : Int) / 16)).1 4
  exact ⟨h3, by show (addTo _ _ _ _ 4).vars = _; rw [h4, h2]⟩
theorem _root_.Go.Bl.Lim.big {s : St} (hs : Ok s) {v : Int} (h : Lim s v) : -2000000000000 <= v /\ v <= 2000000000000 := by
 have := hs.v1
 obtain ⟨h1, h2⟩ := h
 exact ⟨by omega, by omega⟩
theorem table_c (hG : G 0 = qE) (s : St) (hs : Ok s) (hv : s.vars + 100 < 1099511627776) (op : Int) (hop : 0 <= op /\ op < 14) (x y : List Int) (hxl : x.length = 4) (hyl : y.length = 4) (hx : ∀ v ∈ x, Lim s v) (hy : ∀ v ∈ y, Lim s v) : BM Tryd.prog G 106 [.i op, .agg (Qt x), .agg (Qt y)] s.vars s.cl (.agg (Qt (freshTo s 4).1)) (tableTo (freshTo s 4).2 op x y (freshTo s 4).1 256) := fun g0 g1 g2 g3 c2 c3 c4 m sn h2 h3 h4 hm hsn B b0 b1 b2 b3 => by
 have hv0 := hs.v0
 have hv1 := hs.v1
 refine Qc Tryd.func106 rfl Tryd.ntmps106 rfl (t := [(0, .ptr 0 g0 0), (1, .i op), (2, .agg (Qt x)), (3, .agg (Qt y))]) rfl fun E hE => ?_
 have hlt := fun i hi => freshTo_gate hs (by omega) i hi
 (repeat' first | refine Qu rfl ?_ | refine QH (fun _ _ => ?_) | refine QU rfl rfl (fun _ _ => ?_) | refine Qe ?_ | refine Qs rfl ?_ | refine Qg ?_ | refine Qa ?_ | refine Qf ?_)
 rename_i gx hgx gy hgy gr hgr go hgo
 refine ZV (fun (i gc : Nat) => ⟨[(0, .ptr 0 g0 0), (1, .i op), (6, .ptr 4 gx 0), (7, .ptr 5 gy 0), (8, .ptr 6 gr 0), (9, .ptr 7 go 0), (19, .i i)], [.row g0 [.sc (.int .i64 (freshTo s i).2.vars), .ref 1 gc 0 (freshTo s i).2.cl.length 1, c2, c3, c4, .mp 2 g2, .mp 3 g3], .row gc (Qt (freshTo s i).2.cl), .mapb g2 (Wp m), .mapb g3 sn, .row gx (Qt x), .row gy (Qt y), .row gr [.i 0, .i 0, .i 0, .i 0], .row go (Qt (freshTo s i).1)]⟩) (fun i gc => i <= 4 /\ (gc = g1 \/ E.N < gc)) (fun i _ => 4 - i) 0 g1 ?_ ⟨by omega, .inl rfl⟩ ?_
 ·exact zal rfl
 intro i gc ⟨hi, hgc⟩
 obtain ⟨hg, hlo⟩ := hlt i (by omega)
 have hol := freshTo_len s i
 have hok := hg.ok
 (repeat' first | refine QL rfl rfl ?_ | refine Qe ?_ | refine Qs rfl ?_ | refine Qg ?_ | refine Qa ?_)
 refine QE rfl (fun h => ?_) (fun h => ?_)
 ·have hs1 : freshTo s (i + 1) = ((freshTo s i).1.set i ((freshTo s i).2.vars + 1), fresh (freshTo s i).2) := rfl
  clear hlt
  generalize freshTo s i = p at *
  (repeat' first | refine Qu rfl ?_ | refine QA rfl ?_ | refine WE rfl rfl rfl (by omega) ?_ | refine Q5 rfl rfl (by omega) ?_ | refine Zk rfl rfl (fresh_c _ hok) rfl (fun _ _ => ?_) | refine Wk rfl rfl rfl rfl rfl (by first | assumption | omega) rfl ?_ | refine Qe ?_ | refine Qs rfl ?_ | refine QZ ?_ | refine Qg ?_ | refine Qa ?_ | refine Qf ?_ | refine Qk ?_)
  rename_i ga hga
  refine ⟨i + 1, ga, ⟨by omega, by omega⟩, by omega, ?_⟩
  rw [hs1]
  exact zal rfl
 have hi4 : i = 4 := by omega
 subst hi4
 clear hlt
 have hXx : ∀ v ∈ x, Lim (freshTo s 4).2 v := fun v h => (hx v h).mono hg.lo
 have hYy : ∀ v ∈ y, Lim (freshTo s 4).2 v := fun v h => (hy v h).mono hg.lo
 obtain ⟨out, hout⟩ : ∃ out, out = (freshTo s 4).1 := ⟨_, rfl⟩
 obtain ⟨s4, hs4⟩ : ∃ s4, s4 = (freshTo s 4).2 := ⟨_, rfl⟩
 rw [<- hout] at hol hlo
 rw [<- hs4] at hXx hYy hok hlo
 rw [<- hout, <- hs4]
 have hok4 := hok
 clear hout hs4 hx hy hg
 have htb := fun n => tableTo_ok hok op x y out n
 (repeat' first | refine Qu rfl ?_ | refine Qe ?_ | refine Qs rfl ?_ | refine Qg ?_ | refine Qa ?_ | refine Qf ?_ | refine Q2 rfl ?_)
 refine ZV (fun (n gc : Nat) => ⟨[(0, .ptr 0 g0 0), (1, .i op), (6, .ptr 4 gx 0), (7, .ptr 5 gy 0), (8, .ptr 6 gr 0), (9, .ptr 7 go 0), (27, .i n)], [.row g0 [.sc (.int .i64 (tableTo s4 op x y out n).vars), .ref 1 gc 0 (tableTo s4 op x y out n).cl.length 1, c2, c3, c4, .mp 2 g2, .mp 3 g3], .row gc (Qt (tableTo s4 op x y out n).cl), .mapb g2 (Wp m), .mapb g3 sn, .row gx (Qt x), .row gy (Qt y), .row gr [.i 0, .i 0, .i 0, .i 0], .row go (Qt out)]⟩) (fun n gc => n <= 256 /\ (gc = g1 \/ E.N < gc)) (fun n _ => 256 - n) 0 gc ?_ ⟨by omega, hgc⟩ ?_
 ·exact zal rfl
 intro n gd ⟨hn, hgd⟩
 obtain ⟨hokn, hvn⟩ := htb n
 (repeat' first | refine QL rfl rfl ?_ | refine Qe ?_ | refine Qs rfl ?_ | refine Qg ?_ | refine Qa ?_)
 refine QE rfl (fun h => ?_) (fun h => ?_)
 ·have e16 : (n : Int) / 2 ^ min (Int.toNat 4) IntKind.i64.bits = (n : Int) / 16 := rfl
  have hs1 : tableTo s4 op x y out (n + 1) = addTo (tableTo s4 op x y out n) out (otherTo x y ((n : Int) % 16) ((n : Int) / 16) 4) (opM op ((n : Int) % 16) ((n : Int) / 16)).1 4 := rfl
  have hu0 : 0 <= (n : Int) % 16 /\ (n : Int) % 16 <= 15 := by omega
  have hv0' : 0 <= (n : Int) / 16 /\ (n : Int) / 16 <= 15 := by omega
  (repeat' first | refine Qu rfl ?_ | refine QA rfl ?_ | refine s_rem rfl rfl (by first | omega | exact nn_shr (by omega)) (by omega) ?_ | refine s_shr rfl rfl (by omega) ?_ | refine Qe ?_ | refine Qs rfl ?_ | refine Qg ?_ | refine Qa ?_ | refine Qf ?_ | refine Qk ?_)
  rw [e16]
  generalize (n : Int) % 16 = u at *
  generalize (n : Int) / 16 = v at *
  refine r_own 14 1 rfl fun gt0 hgt0 => ?_
  refine qC (fun (i : Nat) g => ⟨[(0, .ptr 0 g0 0), (1, .i op), (6, .ptr 4 gx 0), (7, .ptr 5 gy 0), (8, .ptr 6 gr 0), (9, .ptr 7 go 0), (27, .i n), (12, .i u), (13, .i v), (34, .i i), (14, .ref 8 g 0 (otherTo x y u v i).length 1)], [.row g0 [.sc (.int .i64 (tableTo s4 op x y out n).vars), .ref 1 gd 0 (tableTo s4 op x y out n).cl.length 1, c2, c3, c4, .mp 2 g2, .mp 3 g3], .row gd (Qt (tableTo s4 op x y out n).cl), .mapb g2 (Wp m), .mapb g3 sn, .row gx (Qt x), .row gy (Qt y), .row gr [.i 0, .i 0, .i 0, .i 0], .row go (Qt out), .row g (Qt (otherTo x y u v i))]⟩) (fun i => i <= 4) (fun i => 4 - i) 0 gt0 hgt0 ?_ (by omega) ?_
  ·exact zal rfl
  intro i gt hgt hi
  have hotl := otherTo_len x y u v i
  (repeat' first | refine QL rfl rfl ?_ | refine Qe ?_ | refine Qs rfl ?_ | refine Qg ?_ | refine Qa ?_)
  refine QE rfl (fun h => ?_) (fun h => ?_)
  ·have hiX : i < x.length := by omega
   have hiY : i < y.length := by omega
   have hss : otherTo x y u v (i + 1) = otherTo x y u v i ++ [x[i] * (1 - 2 * bitN u i), y[i] * (1 - 2 * bitN v i)] := by
    rw [<- Ord.getD_lt hiX 0, <- Ord.getD_lt hiY 0]; rfl
   have bx := sgn_bd ((hXx _ (List.getElem_mem hiX)).big hok) (bitN_01 u i)
   have by' := sgn_bd ((hYy _ (List.getElem_mem hiY)).big hok) (bitN_01 v i)
   have tx := two_bd (bitN_01 u i)
   have ty := two_bd (bitN_01 v i)
   have sx : -9223372036854775808 <= 1 - 2 * bitN u i /\ 1 - 2 * bitN u i <= 9223372036854775807 := by rcases bitN_01 u i with h | h <;> rw [h] <;> omega
   have sy : -9223372036854775808 <= 1 - 2 * bitN v i /\ 1 - 2 * bitN v i <= 9223372036854775807 := by rcases bitN_01 v i with h | h <;> rw [h] <;> omega
   generalize otherTo x y u v i = ot at *
   generalize tableTo s4 op x y out n = p at *
   clear htb hs1 hlo hXx hYy
   (repeat' first | refine Qu rfl ?_ | refine QA rfl ?_ | refine Q5 rfl rfl (by omega) ?_ | refine s_app_r (xs := [x[i]'hiX * (1 - 2 * bitN u i), y[i]'hiY * (1 - 2 * bitN v i)]) rfl rfl rfl rfl rfl rfl rfl (by first | omega | (simp; omega)) (by first | omega | (simp; omega)) (fun _ => rfl) (fun _ _ => ?_) | refine Wi rfl rfl (by decide) rfl ?_ | refine Qe ?_ | refine Qs rfl ?_ | refine Qg ?_ | refine Qa ?_ | refine Qf ?_ | (refine Q0 ?_; first | (refine Wf (fun p => p.1 :: p.2.1 :: p.2.2.1 :: p.2.2.2.1 :: .row gx (Qt x) :: .row gy (Qt y) :: p.2.2.2.2.1 :: .row go (Qt out) :: p.2.2.2.2.2) 17 [(0, true), (1, true), (3, true), (4, true), (5, true), (6, true), (8, true), (2, false), (7, true), (9, true), (10, true), (11, true), (12, true), (13, true), (14, true), (15, false), (16, false)] (by rfl) (by rfl) (by kernel_rfl) (by decide +kernel) (by decide +kernel) ⟨(_, _, _, _, _, _), rfl⟩ ?_) | (refine Wf (fun p => p.1 :: p.2.1 :: p.2.2.1 :: p.2.2.2.1 :: .row gx (Qt x) :: .row gy (Qt y) :: p.2.2.2.2.1 :: .row go (Qt out) :: p.2.2.2.2.2) 24 [(0, true), (1, true), (2, true), (3, true), (4, true), (5, true), (6, true), (7, true), (8, true), (9, true), (10, true), (11, true), (12, true), (13, true), (14, true), (15, true), (16, true), (17, true), (18, true), (19, true), (20, true), (21, false), (22, false), (23, true)] (by rfl) (by rfl) (by kernel_rfl) (by decide +kernel) (by decide +kernel) ⟨(_, _, _, _, _, _), rfl⟩ ?_) | refine Q3 (by rfl) (by kernel_rfl) (by kernel_rfl) ?_ | refine QP (by kernel_rfl) (by kernel_rfl) ?_) | refine Qk ?_ | refine i_nil ?_ | refine i_st rfl rfl (fun _ => (by (repeat' first | refine Qu rfl ?_ | refine QA rfl ?_ | refine Wj rfl rfl rfl (by first | assumption | omega) rfl ?_ | refine WE rfl rfl rfl (by omega) ?_ | refine s_mul rfl rfl (by assumption) ?_ | refine qd rfl rfl (by assumption) ?_ | refine s_and rfl rfl ?_ | refine s_shr rfl rfl (by omega) ?_ | exact ⟨rfl, rfl⟩))) ?_ | refine i_ef rfl ?_ | refine And.intro (Exists.intro ((_, _, _, _, _, _)) rfl) ?_)
   rename_i gz hgz
   refine ⟨i + 1, gz, by omega, by omega, by omega, ?_⟩
   rw [hss]
   exact zal rfl
  have hi4 : i = 4 := by omega
  subst hi4
  have hcl := addTo_ok hokn out (otherTo x y u v 4) (opM op u v).1
  refine r_pub 14 rfl rfl (by rw [Qz]; rfl) rfl ?_
  have hop := wOp_c (G := G) hG op u v hop
  have hot := otherTo_len x y u v 4
  (repeat' first | refine Qu rfl ?_ | refine QA rfl ?_ | refine Wa rfl rfl (hop) ?_ | refine Q4 rfl rfl rfl ?_ | refine Qe ?_ | refine Qs rfl ?_ | refine Qg ?_ | refine Qa ?_ | refine Qf ?_ | refine Q2 rfl ?_)
  generalize otherTo x y u v 4 = other at *
  generalize (opM op u v).1 = r at *
  generalize tableTo s4 op x y out n = p at *
  clear htb hXx hYy hop
  refine ZV (fun (i gc : Nat) => ⟨[(0, .ptr 0 g0 0), (1, .i op), (6, .ptr 4 gx 0), (7, .ptr 5 gy 0), (8, .ptr 6 gr 0), (9, .ptr 7 go 0), (27, .i n), (14, QG other), (16, .i r), (68, .i i)], [.row g0 [.sc (.int .i64 (addTo p out other r i).vars), .ref 1 gc 0 (addTo p out other r i).cl.length 1, c2, c3, c4, .mp 2 g2, .mp 3 g3], .row gc (Qt (addTo p out other r i).cl), .mapb g2 (Wp m), .mapb g3 sn, .row gx (Qt x), .row gy (Qt y), .row gr [.i 0, .i 0, .i 0, .i 0], .row go (Qt out), .gone]⟩) (fun i gc => i <= 4 /\ (gc = g1 \/ E.N < gc)) (fun i _ => 4 - i) 0 gd ?_ ⟨by omega, hgd⟩ ?_
  ·exact zal rfl
  intro i ge ⟨hi, hge⟩
  obtain ⟨hok, hvi⟩ := hcl i
  (repeat' first | refine QL rfl rfl ?_ | refine Qe ?_ | refine Qs rfl ?_ | refine Qg ?_ | refine Qa ?_)
  refine QE rfl (fun h => ?_) (fun h => ?_)
  ·have hiO : i < out.length := by omega
   have hss : addTo p out other r (i + 1) = add (addTo p out other r i) (other ++ [out[i] * (2 * bitN (ZJ r) i - 1)]) := by
    rw [<- Ord.getD_lt hiO 0]; rfl
   have bo := sgn_bd' ((hlo _ (List.getElem_mem hiO)).big hok4) (bitN_01 (ZJ r) i)
   have t1 := two_bd (bitN_01 (ZJ r) i)
   have t2 : -9223372036854775808 <= 2 * bitN (ZJ r) i - 1 /\ 2 * bitN (ZJ r) i - 1 <= 9223372036854775807 := by rcases bitN_01 (ZJ r) i with h | h <;> rw [h] <;> omega
   have hwr := wbits_bound r
   have hol2 : other.length <= 1073741824 := by omega
   have hol3 : (other ++ [out[i] * (2 * bitN (ZJ r) i - 1)]).length <= 1048576 := by rw [List.length_append, hot]; show 2 * 4 + 1 <= 1048576; omega
   generalize addTo p out other r i = q at *
   clear hlo hcl
   (repeat' first | refine Qu rfl ?_ | refine QA rfl ?_ | refine Q5 rfl rfl (by omega) ?_ | refine Z5 rfl rfl rfl rfl rfl rfl rfl (by first | omega | (simp; omega)) (by first | omega | (simp; omega)) (fun _ => rfl) (fun _ _ => ?_) | refine s_call_o rfl rfl (cloneI_c _ hol2) (by first | exact Qn _) (fun _ _ => ?_) | refine qw rfl rfl (add_c _ hok _ hol3) rfl (by assumption) (by assumption) (by assumption) (by assumption) (by assumption) (by rfl) (by rfl) (by rfl) (by rfl) (by rfl) (by rfl) (fun _ _ => ?_) | refine Qe ?_ | refine Qs rfl ?_ | refine Qg ?_ | refine Qa ?_ | refine Qf ?_ | (refine Q0 ?_; first | (refine Wf (fun p => p.1 :: p.2.1 :: p.2.2.1 :: p.2.2.2.1 :: .row gx (Qt x) :: .row gy (Qt y) :: p.2.2.2.2.1 :: .row go (Qt out) :: p.2.2.2.2.2) 17 [(0, true), (1, true), (3, true), (4, true), (5, true), (6, true), (8, true), (2, false), (7, true), (9, true), (10, true), (11, true), (12, true), (13, true), (14, true), (15, false), (16, false)] (by rfl) (by rfl) (by kernel_rfl) (by decide +kernel) (by decide +kernel) ⟨(_, _, _, _, _, _), rfl⟩ ?_) | (refine Wf (fun p => p.1 :: p.2.1 :: p.2.2.1 :: p.2.2.2.1 :: .row gx (Qt x) :: .row gy (Qt y) :: p.2.2.2.2.1 :: .row go (Qt out) :: p.2.2.2.2.2) 24 [(0, true), (1, true), (2, true), (3, true), (4, true), (5, true), (6, true), (7, true), (8, true), (9, true), (10, true), (11, true), (12, true), (13, true), (14, true), (15, true), (16, true), (17, true), (18, true), (19, true), (20, true), (21, false), (22, false), (23, true)] (by rfl) (by rfl) (by kernel_rfl) (by decide +kernel) (by decide +kernel) ⟨(_, _, _, _, _, _), rfl⟩ ?_) | refine Q3 (by rfl) (by kernel_rfl) (by kernel_rfl) ?_ | refine QP (by kernel_rfl) (by kernel_rfl) ?_) | refine Qk ?_ | refine i_nil ?_ | refine i_st rfl rfl (fun _ => (by (repeat' first | refine Qu rfl ?_ | refine Wj rfl rfl rfl (by first | assumption | omega) rfl ?_ | refine WE rfl rfl rfl (by omega) ?_ | refine s_mul rfl rfl (by assumption) ?_ | refine qd rfl rfl (by assumption) ?_ | refine s_and rfl rfl ?_ | refine s_shr rfl rfl (by omega) ?_ | refine Wa rfl rfl (wBits_c _) ?_ | refine Wi rfl rfl (by decide) rfl ?_ | exact ⟨rfl, rfl⟩))) ?_ | refine i_ef rfl ?_ | refine And.intro (Exists.intro ((_, _, _, _, _, _)) rfl) ?_)
   rename_i ga hga
   refine ⟨i + 1, ga, ⟨by omega, by omega⟩, by omega, ?_⟩
   rw [hss]
   exact zal rfl
  ·have hi4 : i = 4 := by omega
   subst hi4
   (repeat' first | refine Qu rfl ?_ | refine Q5 rfl rfl (by omega) ?_ | refine Qe ?_ | refine Qs rfl ?_ | refine Qa ?_ | refine Q2 rfl ?_)
   refine ⟨n + 1, ge, ⟨by omega, by omega⟩, by omega, ?_⟩
   rw [hs1]
   exact zal rfl
 ·have hn4 : n = 256 := by omega
  subst hn4
  have w1 : (Qt out).length = 4 := by rw [Qz, hol]; rfl
  clear htb
  generalize tableTo s4 op x y out 256 = pq at *
  (repeat' first | refine Qm rfl rfl (by first | assumption | rfl) ?_ | refine Qi rfl rfl rfl (by first | assumption | rfl) (by first | assumption | rfl) rfl ?_ | refine Qe ?_ | refine Qs rfl ?_ | refine QZ ?_ | refine Qg ?_ | refine Qa ?_ | refine Q2 rfl ?_ | refine Qq ?_)
  exact e_1 (Tryd.results106) (QR (size := 4) rfl rfl (QS w1) w1) (Qy (σ := [_, _, _, _]) (r := [_, _, _, _]) ⟨rfl, gd, by omega, rfl⟩)
def qa (x : List Int) : Nat -> List Int
 | 0 => x
 | i + 1 => (qa x i).set i (-((qa x i).getD i 0))
theorem notTo_len (x : List Int) : ∀ i, (qa x i).length = x.length
 | 0 => rfl
 | i + 1 => by rw [qa, List.length_set, notTo_len x i]
theorem notTo_bd {x : List Int} {M : Int} (h0 : 0 <= M) (h : ∀ v ∈ x, -M <= v /\ v <= M) : ∀ i, ∀ v ∈ qa x i, -M <= v /\ v <= M
 | 0 => h
 | i + 1 => fun v hv => by
  rw [qa] at hv
  rcases List.mem_or_eq_of_mem_set hv with hv | rfl
  ·exact notTo_bd h0 h i v hv
  ·by_cases hi : i < (qa x i).length
   ·rw [Ord.getD_lt hi]
    have := notTo_bd h0 h i _ (List.getElem_mem hi)
    omega
   ·rw [List.getD_eq_getElem?_getD, List.getElem?_eq_none (by omega)]
    show -M <= -(0 : Int) /\ -(0 : Int) <= M
    omega
theorem not_c (x : List Int) (hx : x.length = 4) (hb : ∀ v ∈ x, -1099511627780 <= v /\ v <= 1099511627780) : Go.Av.Pure Tryd.prog G 100 [.agg (Qt x)] (.agg (Qt (qa x 4))) := fun B => by
 refine Qc Tryd.func100 rfl Tryd.ntmps100 rfl (t := [(0, .agg (Qt x))]) rfl fun E hE => ?_
 (repeat' first | refine Qu rfl ?_ | refine QH (fun _ _ => ?_) | refine QU rfl rfl (fun _ _ => ?_) | refine Qe ?_ | refine Qs rfl ?_ | refine Qg ?_ | refine Qa ?_ | refine Qf ?_)
 rename_i ga hga gb hgb
 refine Wv (fun (i : Nat) => ⟨[(1, .ptr 0 ga 0), (2, .ptr 1 gb 0), (4, .i i)], [.row ga (Qt (qa x i)), .row gb [.i 0, .i 0, .i 0, .i 0]]⟩) (fun i => i <= 4) (fun i => 4 - i) 0 ?_ (by omega) ?_
 ·exact zal rfl
 intro i hi
 have hl : (qa x i).length = 4 := by rw [notTo_len, hx]
 have hbd := notTo_bd (by omega) hb i
 (repeat' first | refine QL rfl rfl ?_ | refine Qe ?_ | refine Qs rfl ?_ | refine Qg ?_ | refine Qa ?_)
 refine QE rfl (fun h => ?_) (fun h => ?_)
 ·have hil : i < (qa x i).length := by omega
  have hs1 : qa x (i + 1) = (qa x i).set i (-(qa x i)[i]) := by rw [qa, Ord.getD_lt hil]
  have hbi := hbd _ (List.getElem_mem hil)
  clear hbd hb
  (repeat' first | refine Qu rfl ?_ | refine QA rfl ?_ | refine Wj rfl rfl rfl (by first | assumption | omega) rfl ?_ | refine WE rfl rfl rfl (by omega) ?_ | refine Q5 rfl rfl (by omega) ?_ | refine s_neg rfl (by omega) ?_ | refine Wk rfl rfl rfl rfl rfl (by first | assumption | omega) rfl ?_ | refine Qe ?_ | refine Qs rfl ?_ | refine QZ ?_ | refine Qg ?_ | refine Qa ?_ | refine Qf ?_ | refine Qk ?_)
  refine ⟨i + 1, by omega, by omega, ?_⟩
  rw [hs1]
  exact zal rfl
 ·have hi4 : i = 4 := by omega
  subst hi4
  obtain ⟨a, b, c, d, rfl⟩ : ∃ a b c d, x = [a, b, c, d] := by
   match x, hx with
   | [a, b, c, d], _ => exact ⟨a, b, c, d, rfl⟩
  (repeat' first | refine s_load_rowa rfl rfl (by rfl) (by rfl) ?_ | refine Wb rfl rfl rfl rfl (by rfl) (by rfl) (by rfl) ?_ | refine Qe ?_ | refine Qs rfl ?_ | refine QZ ?_ | refine Qg ?_ | refine Qa ?_ | refine Q2 rfl ?_ | refine Qq ?_)
  exact e_1 (Tryd.results100) (QR (size := 4) rfl rfl rfl rfl) (QD rfl)
def Wn (s : St) (x y : List Int) (c : Int) : Nat -> List Int × Int × St
 | 0 => ([0, 0, 0, 0], c, s)
 | i + 1 =>
  let p := Wn s x y c i
  let h := xor p.2.2 (x.getD i 0) (y.getD i 0)
  let o := xor h.2 h.1 p.2.1
  let a := and o.2 (x.getD i 0) (y.getD i 0)
  let b := and a.2 h.1 p.2.1
  let r := or b.2 a.1 b.1
  (p.1.set i o.1, r.1, r.2)
theorem ZK (s : St) (x y : List Int) (c : Int) : ∀ i, (Wn s x y c i).1.length = 4
 | 0 => rfl
 | i + 1 => by
  show ((Wn s x y c i).1.set i _).length = 4
  rw [List.length_set, ZK s x y c i]
theorem sumTo_gate {s : St} (hs : Ok s) (hv : s.vars + 100 < 1099511627776) {x y : List Int} {c : Int} (hx : ∀ v ∈ x, Lim s v) (hy : ∀ v ∈ y, Lim s v) (hc : Lim s c) : ∀ i : Nat, i <= 8 -> Gate s (Wn s x y c i).2.2 (5 * i) /\ Lim (Wn s x y c i).2.2 (Wn s x y c i).2.1 /\ ∀ v ∈ (Wn s x y c i).1, Lim (Wn s x y c i).2.2 v
 | 0, _ => ⟨⟨hs, Int.le_refl _, by show s.vars <= _; omega⟩, hc, fun v h => by
   have hv : v = 0 := by
    have h : v ∈ [(0 : Int), 0, 0, 0] := h
    simpa using h
   subst hv
   have := hs.v0
   exact ⟨by show -(s.vars + 1) <= 0; omega, by show 0 <= s.vars + 1; omega⟩⟩
 | i + 1, hi => by
  obtain ⟨h1, h2, h3⟩ := sumTo_gate hs hv hx hy hc i (by omega)
  have hh := h1.hi
  have hs1 : Wn s x y c (i + 1) = ((Wn s x y c i).1.set i (xor (xor (Wn s x y c i).2.2 (x.getD i 0) (y.getD i 0)).2 (xor (Wn s x y c i).2.2 (x.getD i 0) (y.getD i 0)).1 (Wn s x y c i).2.1).1, or (and (and (xor (xor (Wn s x y c i).2.2 (x.getD i 0) (y.getD i 0)).2 (xor (Wn s x y c i).2.2 (x.getD i 0) (y.getD i 0)).1 (Wn s x y c i).2.1).2 (x.getD i 0) (y.getD i 0)).2 (xor (Wn s x y c i).2.2 (x.getD i 0) (y.getD i 0)).1 (Wn s x y c i).2.1).2 (and (xor (xor (Wn s x y c i).2.2 (x.getD i 0) (y.getD i 0)).2 (xor (Wn s x y c i).2.2 (x.getD i 0) (y.getD i 0)).1 (Wn s x y c i).2.1).2 (x.getD i 0) (y.getD i 0)).1 (and (and (xor (xor (Wn s x y c i).2.2 (x.getD i 0) (y.getD i 0)).2 (xor (Wn s x y c i).2.2 (x.getD i 0) (y.getD i 0)).1 (Wn s x y c i).2.1).2 (x.getD i 0) (y.getD i 0)).2 (xor (Wn s x y c i).2.2 (x.getD i 0) (y.getD i 0)).1 (Wn s x y c i).2.1).1) := rfl
  have ha := (Wr hx hs.v0 i).mono h1.lo
  have hb := (Wr hy hs.v0 i).mono h1.lo
  generalize x.getD i 0 = a at *
  generalize y.getD i 0 = b at *
  generalize Wn s x y c i = p at *
  have g1 := xor_gate h1.ok (by omega) a b
  have l1 := (xor_lim ha hb h1.ok.v0).mono g1.lo
  have k1 := g1.hi
  have ha1 := ha.mono g1.lo
  have hb1 := hb.mono g1.lo
  have hc1 := h2.mono g1.lo
  have G1 := h1.trans g1
  have hm1 : ∀ v ∈ p.1, Lim (xor p.2.2 a b).2 v := fun v hv => (h3 v hv).mono g1.lo
  generalize xor p.2.2 a b = h at *
  have g2 := xor_gate g1.ok (by omega) h.1 p.2.1
  have l2 := (xor_lim l1 hc1 g1.ok.v0).mono g2.lo
  have k2 := g2.hi
  have ha2 := ha1.mono g2.lo
  have hb2 := hb1.mono g2.lo
  have hc2 := hc1.mono g2.lo
  have hh2 := l1.mono g2.lo
  have G2 := G1.trans g2
  have hm2 : ∀ v ∈ p.1, Lim (xor h.2 h.1 p.2.1).2 v := fun v hv => (hm1 v hv).mono g2.lo
  generalize xor h.2 h.1 p.2.1 = o at *
  have g3 := Zn g2.ok (by omega) a b
  have l3 := (ZF ha2 hb2 g2.ok.v0).mono g3.lo
  have k3 := g3.hi
  have hc3 := hc2.mono g3.lo
  have hh3 := hh2.mono g3.lo
  have lo3 := l2.mono g3.lo
  have G3 := G2.trans g3
  have hm3 : ∀ v ∈ p.1, Lim (and o.2 a b).2 v := fun v hv => (hm2 v hv).mono g3.lo
  generalize and o.2 a b = e at *
  have g4 := Zn g3.ok (by omega) h.1 p.2.1
  have l4 := (ZF hh3 hc3 g3.ok.v0).mono g4.lo
  have k4 := g4.hi
  have l34 := l3.mono g4.lo
  have lo4 := lo3.mono g4.lo
  have G4 := G3.trans g4
  have hm4 : ∀ v ∈ p.1, Lim (and e.2 h.1 p.2.1).2 v := fun v hv => (hm3 v hv).mono g4.lo
  generalize and e.2 h.1 p.2.1 = f at *
  have g5 := or_gate g4.ok (by omega) e.1 f.1
  have l5 := (or_lim l34 l4 g4.ok.v0).mono g5.lo
  have G5 := G4.trans g5
  rw [hs1]
  refine ⟨by rwa [show (5 : Int) * (i : Int) + 1 + 1 + 1 + 1 + 1 = 5 * ((i + 1 : Nat) : Int) by omega] at G5, l5, fun v hv => ?_⟩
  rcases List.mem_or_eq_of_mem_set hv with hv | rfl
  ·exact (hm4 v hv).mono g5.lo
  ·exact lo4.mono g5.lo
theorem sum_c (s : St) (hs : Ok s) (hv : s.vars + 100 < 1099511627776) (x y : List Int) (c : Int) (hxl : x.length = 4) (hyl : y.length = 4) (hx : ∀ v ∈ x, Lim s v) (hy : ∀ v ∈ y, Lim s v) (hc : Lim s c) : BM Tryd.prog G 99 [.agg (Qt x), .agg (Qt y), .i c] s.vars s.cl (.agg (Qt (Wn s x y c 4).1)) (Wn s x y c 4).2.2 := fun g0 g1 g2 g3 c2 c3 c4 m sn h2 h3 h4 hm hsn B b0 b1 b2 b3 => by
 have hv0 := hs.v0
 have hv1 := hs.v1
 refine Qc Tryd.func99 rfl Tryd.ntmps99 rfl (t := [(0, .ptr 0 g0 0), (1, .agg (Qt x)), (2, .agg (Qt y)), (3, .i c)]) rfl fun E hE => ?_
 have hlt := fun i hi => sumTo_gate hs hv hx hy hc i hi
 (repeat' first | refine Qu rfl ?_ | refine QH (fun _ _ => ?_) | refine QU rfl rfl (fun _ _ => ?_) | refine Qe ?_ | refine Qs rfl ?_ | refine Qg ?_ | refine Qa ?_ | refine Qf ?_)
 rename_i gx hgx gy hgy gr hgr go hgo
 refine ZV (fun (i gc : Nat) => ⟨[(0, .ptr 0 g0 0), (3, .i (Wn s x y c i).2.1), (5, .ptr 4 gx 0), (6, .ptr 5 gy 0), (8, .ptr 6 gr 0), (9, .ptr 7 go 0), (12, .i i)], [.row g0 [.sc (.int .i64 (Wn s x y c i).2.2.vars), .ref 1 gc 0 (Wn s x y c i).2.2.cl.length 1, c2, c3, c4, .mp 2 g2, .mp 3 g3], .row gc (Qt (Wn s x y c i).2.2.cl), .mapb g2 (Wp m), .mapb g3 sn, .row gx (Qt x), .row gy (Qt y), .row gr [.i 0, .i 0, .i 0, .i 0], .row go (Qt (Wn s x y c i).1)]⟩) (fun i gc => i <= 4 /\ (gc = g1 \/ E.N < gc)) (fun i _ => 4 - i) 0 g1 ?_ ⟨by omega, .inl rfl⟩ ?_
 ·exact zal rfl
 intro i gc ⟨hi, hgc⟩
 obtain ⟨hg, hl, hlo⟩ := hlt i (by omega)
 have hol := ZK s x y c i
 (repeat' first | refine QL rfl rfl ?_ | refine Qe ?_ | refine Qs rfl ?_ | refine Qg ?_ | refine Qa ?_)
 refine QE rfl (fun h => ?_) (fun h => ?_)
 ·have hiX : i < x.length := by omega
  have hiY : i < y.length := by omega
  have hs1 : Wn s x y c (i + 1) = ((Wn s x y c i).1.set i (xor (xor (Wn s x y c i).2.2 x[i] y[i]).2 (xor (Wn s x y c i).2.2 x[i] y[i]).1 (Wn s x y c i).2.1).1, or (and (and (xor (xor (Wn s x y c i).2.2 x[i] y[i]).2 (xor (Wn s x y c i).2.2 x[i] y[i]).1 (Wn s x y c i).2.1).2 x[i] y[i]).2 (xor (Wn s x y c i).2.2 x[i] y[i]).1 (Wn s x y c i).2.1).2 (and (xor (xor (Wn s x y c i).2.2 x[i] y[i]).2 (xor (Wn s x y c i).2.2 x[i] y[i]).1 (Wn s x y c i).2.1).2 x[i] y[i]).1 (and (and (xor (xor (Wn s x y c i).2.2 x[i] y[i]).2 (xor (Wn s x y c i).2.2 x[i] y[i]).1 (Wn s x y c i).2.1).2 x[i] y[i]).2 (xor (Wn s x y c i).2.2 x[i] y[i]).1 (Wn s x y c i).2.1).1) := by
   rw [<- Ord.getD_lt hiX 0, <- Ord.getD_lt hiY 0]; rfl
  have ho := hg.ok
  have hh := hg.hi
  have ha : Lim (Wn s x y c i).2.2 x[i] := (hx _ (List.getElem_mem hiX)).mono hg.lo
  have hb : Lim (Wn s x y c i).2.2 y[i] := (hy _ (List.getElem_mem hiY)).mono hg.lo
  clear hlt hlo
  generalize Wn s x y c i = p at *
  have hiP : i < p.1.length := by omega
  have hk1 := xor_c (G := G) p.2.2 ho (by omega) _ _ ha hb
  have q1 := xor_gate ho (by omega) x[i] y[i]
  have l1 := (xor_lim ha hb ho.v0).mono q1.lo
  have k1 := q1.hi
  have ha := ha.mono q1.lo
  have hb := hb.mono q1.lo
  have hl := hl.mono q1.lo
  generalize xor p.2.2 x[i] y[i] = h1 at *
  have hk2 := xor_c (G := G) h1.2 q1.ok (by omega) _ _ l1 hl
  have q2 := xor_gate q1.ok (by omega) h1.1 p.2.1
  have k2 := q2.hi
  have ha := ha.mono q2.lo
  have hb := hb.mono q2.lo
  have hl := hl.mono q2.lo
  have l1 := l1.mono q2.lo
  generalize xor h1.2 h1.1 p.2.1 = h2' at *
  have hk3 := and_c (G := G) h2'.2 q2.ok (by omega) _ _ ha hb
  have q3 := Zn q2.ok (by omega) x[i] y[i]
  have l3 := (ZF ha hb q2.ok.v0).mono q3.lo
  have k3 := q3.hi
  have hl := hl.mono q3.lo
  have l1 := l1.mono q3.lo
  generalize and h2'.2 x[i] y[i] = h3' at *
  have hk4 := and_c (G := G) h3'.2 q3.ok (by omega) _ _ l1 hl
  have q4 := Zn q3.ok (by omega) h1.1 p.2.1
  have l4 := (ZF l1 hl q3.ok.v0).mono q4.lo
  have k4 := q4.hi
  have l3 := l3.mono q4.lo
  generalize and h3'.2 h1.1 p.2.1 = h4' at *
  have hk5 := or_c (G := G) h4'.2 q4.ok (by omega) _ _ l3 l4
  generalize or h4'.2 h3'.1 h4'.1 = h5 at *
  clear hx hy hs hg ho ha hb hl l1 l3 l4 q1 q2 q3 q4 k1 k2 k3 k4 hh hc
  (repeat' first | refine Qu rfl ?_ | refine QA rfl ?_ | refine WE rfl rfl rfl (by omega) ?_ | refine Q5 rfl rfl (by omega) ?_ | refine Zk rfl rfl (hk1) rfl (fun _ _ => ?_) | refine Zk rfl rfl (hk2) rfl (fun _ _ => ?_) | refine Zk rfl rfl (hk3) rfl (fun _ _ => ?_) | refine Zk rfl rfl (hk4) rfl (fun _ _ => ?_) | refine Zk rfl rfl (hk5) rfl (fun _ _ => ?_) | refine Wk rfl rfl rfl rfl rfl (by first | assumption | omega) rfl ?_ | refine Qe ?_ | refine Qs rfl ?_ | refine QZ ?_ | refine Qg ?_ | refine Qa ?_ | refine Qf ?_ | (refine Q0 ?_; first | (refine Wf (fun p => p.1 :: p.2.1 :: p.2.2.1 :: p.2.2.2.1 :: .row gx (Qt x) :: .row gy (Qt y) :: p.2.2.2.2) 9 [(0, true), (1, true), (2, true), (3, true), (4, true), (5, true), (6, true), (7, false), (8, true)] (by rfl) (by rfl) (by kernel_rfl) (by decide +kernel) (by decide +kernel) ⟨(_, _, _, _, _), rfl⟩ ?_) | (refine Wf (fun p => p.1 :: p.2.1 :: p.2.2.1 :: p.2.2.2.1 :: .row gx (Qt x) :: .row gy (Qt y) :: p.2.2.2.2) 15 [(0, true), (1, true), (2, true), (3, true), (4, true), (5, true), (6, true), (7, true), (9, true), (10, true), (11, true), (8, false), (12, false), (13, false), (14, true)] (by rfl) (by rfl) (by kernel_rfl) (by decide +kernel) (by decide +kernel) ⟨(_, _, _, _, _), rfl⟩ ?_) | refine Q3 (by rfl) (by kernel_rfl) (by kernel_rfl) ?_ | refine QP (by kernel_rfl) (by kernel_rfl) ?_) | refine Qk ?_ | refine i_nil ?_ | refine i_st rfl rfl (fun _ => (by (repeat' first | refine Qu rfl ?_ | refine QA rfl ?_ | refine Wj rfl rfl rfl (by first | assumption | omega) rfl ?_ | refine WE rfl rfl rfl (by omega) ?_ | exact ⟨rfl, rfl⟩))) ?_ | refine i_ef rfl ?_ | refine And.intro (Exists.intro ((_, _, _, _, _)) rfl) ?_)
  rename_i ga hga gb hgb gd hgd ge hge gf hgf
  refine ⟨i + 1, gf, ⟨by omega, by omega⟩, by omega, ?_⟩
  rw [hs1]
  exact zal rfl
 ·have hi4 : i = 4 := by omega
  subst hi4
  (repeat' first | refine s_load_rowa rfl rfl (by rfl) (by rfl) ?_ | refine Wb rfl rfl rfl rfl (by rfl) (by rfl) (by rfl) ?_ | refine Qe ?_ | refine Qs rfl ?_ | refine QZ ?_ | refine Qg ?_ | refine Qa ?_ | refine Q2 rfl ?_ | refine Qq ?_)
  exact e_1 (Tryd.results99) (QR (size := 4) rfl rfl rfl rfl) (Qy (σ := [_, _, _, _]) (r := [_, _, _, _]) ⟨rfl, gc, by omega, rfl⟩)
end Go.Proofs
end
