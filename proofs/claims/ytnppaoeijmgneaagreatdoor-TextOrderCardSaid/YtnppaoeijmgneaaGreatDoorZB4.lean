/-
  Part 4 of the proof: OI S0 S1 AvV S2 PR R0 R1 R2 R3 R4 AvB2 R5 R7 R8 R6 RE.
-/
import Derived.Test.YtnppaoeijmgneaaGreatDoorZB0
import Derived.Test.YtnppaoeijmgneaaGreatDoorZB1
import Derived.Test.YtnppaoeijmgneaaGreatDoorZB2
import Derived.Test.YtnppaoeijmgneaaGreatDoorZB3
set_option linter.unusedSimpArgs false
set_option linter.unusedVariables false
set_option maxRecDepth 10000
set_option maxHeartbeats 4000000
section
namespace Go.Proofs
open Go.Av
variable {G : Nat -> DV}
attribute [local irreducible] OpSem Za Zv qc ACalls AEnd AClose RV
open Go.Bl
theorem increases_c (hG : G 6 = pow10T) (hG1 : G 1 = spaceT) (v : Nd) (hv : LineL v) (hok : okN v) (hs : Qr v <= 256) (n : Nd) : ∀ p ∈ Zp v, subN p v = n -> Go.Av.Pure Tryz.prog G 28 [.agg (Enc.enc v), .agg (Enc.enc n), QW p] (.b true) := by
 induction n using Nd.ind with
 | h k nn m ks ih =>
 intro p hp he B
 have hnode := hv.node p hp he
 have hbel := hv.below p hp he
 have hplen := paths_lens v p hp
 have hln0 := line_c1 (G := G) hG hG1 v hok (by omega) p (by omega)
 have hlb := (hv.here p hp)
 have hpb := print_len v hok (by omega)
 have hnl := nl_le (Wb v)
 generalize lineM v p = a at *
 have hsl : QD ks <= 256 := by
  have := sub_size p v
  rw [he, Qr] at this
  omega
 have hln := WU ks
 have hsub := fun i (hi : i < ks.length) => sub_path p v hp he i hi
 have hrecs : ∀ i (hi : i < ks.length), Go.Av.Pure Tryz.prog G 28 [.agg (Enc.enc v), .agg (Enc.enc ks[i]), QW (p ++ [(i : Int)])] (.b true) := fun i hi => ih _ (List.getElem_mem hi) _ (hsub i hi) (by rw [subN_app, he, subN_cons hi, subN])
 have hlns : ∀ i (hi : i < ks.length), Go.Av.Pure Tryz.prog G 26 [.agg (Enc.enc v), QW (p ++ [(i : Int)])] (.i (a + Zn k ks (i : Nat))) := fun i hi => by
  have := line_c1 (G := G) hG hG1 v hok (by omega) (p ++ [(i : Int)]) (by rw [List.length_append, List.length_singleton]; omega)
  rwa [hbel i hi] at this
 have hub : ∀ i (hi : i < ks.length), a + Zn k ks (i : Nat) <= nlC (Wb v) := fun i hi => by
  have := (hv.here _ (hsub i hi)).2
  rwa [hbel i hi] at this
 clear ih hbel hsub he hp hv
 have hln1 := trivial
 have hrec := trivial
 rw [QQ]
 refine Qa Tryz.func28 rfl Tryz.ntmps28 rfl (t := [(0, .agg (Enc.enc v)), (1, .agg [.i k, .i nn, .i m, QW ks]), (2, QW p)]) rfl fun E hE => ?_
 (repeat' first | (refine Qg ?_; (first | refine QJ rfl ?_ | refine QN rfl ?_ | refine WL rfl rfl ?_ | refine WR rfl rfl (hln0) ?_ | refine Q9 rfl rfl (fun _ _ => ?_))) | (refine Qk ?_; (first | refine Qi ?_ | refine QK rfl ?_)) | (refine Qj ?_; (first | refine Ql ?_ | refine Qb ?_ | refine Qe ?_)))
 rename_i g3 hg3 g4 hg4
 refine r_loop2 (fun (i : Nat) (la : Int) => ⟨[(2, QW p), (3, .ptr 0 g3 0), (4, .ptr 1 g4 0), (7, .i la), (8, .i i)], [.row g3 (Enc.enc v), .row g4 [.i k, .i nn, .i m, QW ks]]⟩) (fun i la => i <= ks.length /\ (k = 13 -> (i = 0 /\ la = a) \/ ∃ j, i = j + 1 /\ la = a + Zn k ks (j : Nat)) /\ (k ≠ 13 -> la = a)) (fun i _ => ks.length - i) 0 a ?_ ⟨by omega, fun _ => .inl ⟨rfl, rfl⟩, fun _ => rfl⟩ ?_
 ·exact zal rfl
 intro i la ⟨hi, hl13, hln13⟩
 by_cases hil : i < ks.length
 ·have hln1 := hlns i hil
  have hrec := hrecs i hil
  have hlow := hnode.low i hil
  have hub1 := hub i hil
  have hla : (k = 13 -> la < a + Zn k ks (i : Nat)) /\ ¬ (a + Zn k ks (i : Nat) < la) := by
   refine ⟨fun h13 => ?_, fun h => ?_⟩
   ·rcases hl13 h13 with ⟨e1, e2⟩ | ⟨j, e1, e2⟩
    ·have := hnode.first h13 i hil
     omega
    ·subst e1
     have := hnode.grow h13 j hil
     omega
   ·by_cases h13 : k = 13
    ·rcases hl13 h13 with ⟨e1, e2⟩ | ⟨j, e1, e2⟩
     ·omega
     ·subst e1
      have := hnode.grow h13 j hil
      omega
    ·have := hln13 h13
     omega
  have hfl := hnode.flat i hil
  have hnext : (k = 13 -> (i + 1 = 0 /\ a + Zn k ks (i : Nat) = a) \/ ∃ j, i + 1 = j + 1 /\ a + Zn k ks (i : Nat) = a + Zn k ks (j : Nat)) := fun _ => .inr ⟨i, rfl, rfl⟩
  obtain ⟨hla1, hla2⟩ := hla
  clear hlns hrecs hub hnode hl13
  generalize hz : Zn k ks (i : Nat) = z at *
  obtain ⟨xk, xn, xm, xs, hx⟩ : ∃ xk xn xm xs, ks[i] = Nd.mk xk xn xm xs := by
   generalize ks[i] = x
   obtain ⟨a, b, c, d⟩ := x
   exact ⟨a, b, c, d, rfl⟩
  have hfl : 0 <= xk -> xk <= 12 -> z = 0 := by rw [hx] at hfl; exact hfl
  have hx0 : (Enc.enc ks[i])[0 + 0]? = some (DV.i xk) := by rw [hx, QQ]; rfl
  clear hx
  by_cases h13 : k = 13
  ·have hla1 := hla1 h13
   by_cases hc1 : 0 <= xk
   ·by_cases hc2 : xk <= 12
    ·have hz0 := hfl hc1 hc2
     subst hz0
     (repeat' first | (refine Qg ?_; (first | refine QJ rfl ?_ | refine QN rfl ?_ | (refine QG ?_; (first | refine WL rfl rfl ?_ | refine Qc rfl rfl hx0 ?_ | refine QO rfl ?_ | refine Qc rfl rfl rfl ?_)) | refine QM rfl rfl (by first | assumption | omega | (simp; done) | (simp; omega)) ?_ | (refine Qo ?_; (first | refine QX rfl rfl ?_ | refine Zb rfl rfl ?_ | refine W4 rfl rfl ?_ | refine Q1 rfl rfl ?_ | refine s_neq rfl rfl ?_ | refine W3 rfl rfl (by omega) ?_)) | (refine Qt ?_; (first | refine ZK rfl rfl (.same (.ref rfl (QS _).symm (QC _) .nil)) hln1 rfl ?_ | refine ZK rfl rfl (.same (.same (.ref rfl (QS _).symm (QC _) .nil))) hrec rfl ?_ | refine WR rfl rfl (hln0) ?_ | refine QI rfl ?_ | refine Zt rfl rfl rfl rfl rfl rfl rfl (by first | omega | (simp; omega)) (by first | omega | (simp; omega)) (fun _ => rfl) (fun _ _ => ?_) | refine s_app_z rfl rfl rfl rfl rfl (by first | omega | (simp; omega)) (by first | omega | (simp; omega)) (fun _ => rfl) (fun _ _ => ?_))) | (refine Q8 ?_; (first | refine W1 rfl rfl ?_ | refine WO rfl rfl ?_)) | refine WD rfl rfl rfl rfl ?_ | refine W2 rfl ?_ | refine Qd rfl rfl ?_ | (refine Zl ?_; (first | refine ZL rfl (fun _ _ => ?_) | refine Zk rfl rfl (by decide) rfl ?_)) | refine Qu (fun _ _ => ?_))) | (refine Qk ?_; (first | refine Qi ?_ | refine QK rfl ?_ | refine QR ?_ | refine WM rfl rfl rfl rfl ?_ | refine Wc rfl rfl (by omega) ?_ | refine Q5 rfl rfl (by omega) ?_)) | (refine Qj ?_; (first | refine Ql ?_ | refine Qb ?_ | refine Qe ?_ | refine QB ?_ | refine Qs rfl ?_ | refine Qm rfl (by omega) ?_ | refine Qf rfl (by omega) ?_)))
     refine ⟨i + 1, a + 0, ⟨by omega, hnext, fun h => absurd h13 h⟩, by omega, ?_⟩
     exact zal rfl
    ·(repeat' first | (refine Qg ?_; (first | refine QJ rfl ?_ | refine QN rfl ?_ | (refine QG ?_; (first | refine WL rfl rfl ?_ | refine Qc rfl rfl hx0 ?_ | refine QO rfl ?_ | refine Qc rfl rfl rfl ?_)) | refine QM rfl rfl (by first | assumption | omega | (simp; done) | (simp; omega)) ?_ | (refine Qo ?_; (first | refine QX rfl rfl ?_ | refine Zb rfl rfl ?_ | refine W4 rfl rfl ?_ | refine Q1 rfl rfl ?_ | refine W3 rfl rfl (by omega) ?_)) | (refine Qt ?_; (first | refine ZK rfl rfl (.same (.ref rfl (QS _).symm (QC _) .nil)) hln1 rfl ?_ | refine ZK rfl rfl (.same (.same (.ref rfl (QS _).symm (QC _) .nil))) hrec rfl ?_ | refine QI rfl ?_ | refine Zt rfl rfl rfl rfl rfl rfl rfl (by first | omega | (simp; omega)) (by first | omega | (simp; omega)) (fun _ => rfl) (fun _ _ => ?_) | refine s_app_z rfl rfl rfl rfl rfl (by first | omega | (simp; omega)) (by first | omega | (simp; omega)) (fun _ => rfl) (fun _ _ => ?_))) | (refine Q8 ?_; (first | refine W1 rfl rfl ?_ | refine WO rfl rfl ?_)) | refine WD rfl rfl rfl rfl ?_ | refine W2 rfl ?_ | refine Qd rfl rfl ?_ | (refine Zl ?_; (first | refine ZL rfl (fun _ _ => ?_) | refine Zk rfl rfl (by decide) rfl ?_)) | refine Qu (fun _ _ => ?_))) | (refine Qk ?_; (first | refine Qi ?_ | refine QK rfl ?_ | refine QR ?_ | refine WM rfl rfl rfl rfl ?_ | refine W7 rfl rfl rfl rfl ?_ | refine Wc rfl rfl (by omega) ?_ | refine Q5 rfl rfl (by omega) ?_)) | (refine Qj ?_; (first | refine Ql ?_ | refine Qb ?_ | refine Qe ?_ | refine QB ?_ | refine Qs rfl ?_ | refine Qm rfl (by omega) ?_ | refine Qf rfl (by omega) ?_)))
     refine ⟨i + 1, a + z, ⟨by omega, hnext, fun h => absurd h13 h⟩, by omega, ?_⟩
     exact zal rfl
   ·(repeat' first | (refine Qg ?_; (first | refine QJ rfl ?_ | refine QN rfl ?_ | (refine QG ?_; (first | refine WL rfl rfl ?_ | refine Qc rfl rfl hx0 ?_ | refine QO rfl ?_ | refine Qc rfl rfl rfl ?_)) | refine QM rfl rfl (by first | assumption | omega | (simp; done) | (simp; omega)) ?_ | (refine Qo ?_; (first | refine QX rfl rfl ?_ | refine Zb rfl rfl ?_ | refine W4 rfl rfl ?_ | refine Q1 rfl rfl ?_ | refine W3 rfl rfl (by omega) ?_)) | (refine Qt ?_; (first | refine ZK rfl rfl (.same (.ref rfl (QS _).symm (QC _) .nil)) hln1 rfl ?_ | refine ZK rfl rfl (.same (.same (.ref rfl (QS _).symm (QC _) .nil))) hrec rfl ?_ | refine QI rfl ?_ | refine Zt rfl rfl rfl rfl rfl rfl rfl (by first | omega | (simp; omega)) (by first | omega | (simp; omega)) (fun _ => rfl) (fun _ _ => ?_) | refine s_app_z rfl rfl rfl rfl rfl (by first | omega | (simp; omega)) (by first | omega | (simp; omega)) (fun _ => rfl) (fun _ _ => ?_))) | (refine Q8 ?_; (first | refine W1 rfl rfl ?_ | refine WO rfl rfl ?_)) | refine WD rfl rfl rfl rfl ?_ | refine W2 rfl ?_ | refine Qd rfl rfl ?_ | (refine Zl ?_; (first | refine ZL rfl (fun _ _ => ?_) | refine Zk rfl rfl (by decide) rfl ?_)) | refine Qu (fun _ _ => ?_))) | (refine Qk ?_; (first | refine Qi ?_ | refine QK rfl ?_ | refine QR ?_ | refine WM rfl rfl rfl rfl ?_ | refine W7 rfl rfl rfl rfl ?_ | refine Wc rfl rfl (by omega) ?_ | refine Q5 rfl rfl (by omega) ?_)) | (refine Qj ?_; (first | refine Ql ?_ | refine Qb ?_ | refine Qe ?_ | refine QB ?_ | refine Qs rfl ?_ | refine Qm rfl (by omega) ?_ | refine Qf rfl (by omega) ?_)))
    refine ⟨i + 1, a + z, ⟨by omega, hnext, fun h => absurd h13 h⟩, by omega, ?_⟩
    exact zal rfl
  ·have hle := hln13 h13
   subst hle
   by_cases hc1 : 0 <= xk
   ·by_cases hc2 : xk <= 12
    ·have hz0 := hfl hc1 hc2
     subst hz0
     (repeat' first | (refine Qg ?_; (first | refine QJ rfl ?_ | refine QN rfl ?_ | (refine QG ?_; (first | refine WL rfl rfl ?_ | refine Qc rfl rfl hx0 ?_ | refine QO rfl ?_ | refine Qc rfl rfl rfl ?_)) | refine QM rfl rfl (by first | assumption | omega | (simp; done) | (simp; omega)) ?_ | (refine Qo ?_; (first | refine QX rfl rfl ?_ | refine Zb rfl rfl ?_ | refine W4 rfl rfl ?_ | refine Q1 rfl rfl ?_ | refine s_neq rfl rfl ?_ | refine W3 rfl rfl (by omega) ?_)) | (refine Qt ?_; (first | refine ZK rfl rfl (.same (.ref rfl (QS _).symm (QC _) .nil)) hln1 rfl ?_ | refine ZK rfl rfl (.same (.same (.ref rfl (QS _).symm (QC _) .nil))) hrec rfl ?_ | refine WR rfl rfl (hln0) ?_ | refine QI rfl ?_ | refine Zt rfl rfl rfl rfl rfl rfl rfl (by first | omega | (simp; omega)) (by first | omega | (simp; omega)) (fun _ => rfl) (fun _ _ => ?_) | refine s_app_z rfl rfl rfl rfl rfl (by first | omega | (simp; omega)) (by first | omega | (simp; omega)) (fun _ => rfl) (fun _ _ => ?_))) | (refine Q8 ?_; (first | refine W1 rfl rfl ?_ | refine WO rfl rfl ?_)) | refine WD rfl rfl rfl rfl ?_ | refine W2 rfl ?_ | refine Qd rfl rfl ?_ | (refine Zl ?_; (first | refine ZL rfl (fun _ _ => ?_) | refine Zk rfl rfl (by decide) rfl ?_)) | refine Qu (fun _ _ => ?_))) | (refine Qk ?_; (first | refine Qi ?_ | refine QK rfl ?_ | refine QR ?_ | refine WM rfl rfl rfl rfl ?_ | refine W7 rfl rfl rfl rfl ?_ | refine Wc rfl rfl (by omega) ?_ | refine Q5 rfl rfl (by omega) ?_)) | (refine Qj ?_; (first | refine Ql ?_ | refine Qb ?_ | refine Qe ?_ | refine QB ?_ | refine Qs rfl ?_ | refine Qm rfl (by omega) ?_ | refine Qf rfl (by omega) ?_)))
     refine ⟨i + 1, la, ⟨by omega, fun h => absurd h h13, fun _ => rfl⟩, by omega, ?_⟩
     exact zal rfl
    ·(repeat' first | (refine Qg ?_; (first | refine QJ rfl ?_ | refine QN rfl ?_ | (refine QG ?_; (first | refine WL rfl rfl ?_ | refine Qc rfl rfl hx0 ?_ | refine QO rfl ?_ | refine Qc rfl rfl rfl ?_)) | refine QM rfl rfl (by first | assumption | omega | (simp; done) | (simp; omega)) ?_ | (refine Qo ?_; (first | refine QX rfl rfl ?_ | refine Zb rfl rfl ?_ | refine W4 rfl rfl ?_ | refine Q1 rfl rfl ?_ | refine W3 rfl rfl (by omega) ?_)) | (refine Qt ?_; (first | refine ZK rfl rfl (.same (.ref rfl (QS _).symm (QC _) .nil)) hln1 rfl ?_ | refine ZK rfl rfl (.same (.same (.ref rfl (QS _).symm (QC _) .nil))) hrec rfl ?_ | refine QI rfl ?_ | refine Zt rfl rfl rfl rfl rfl rfl rfl (by first | omega | (simp; omega)) (by first | omega | (simp; omega)) (fun _ => rfl) (fun _ _ => ?_) | refine s_app_z rfl rfl rfl rfl rfl (by first | omega | (simp; omega)) (by first | omega | (simp; omega)) (fun _ => rfl) (fun _ _ => ?_))) | (refine Q8 ?_; (first | refine W1 rfl rfl ?_ | refine WO rfl rfl ?_)) | refine WD rfl rfl rfl rfl ?_ | refine W2 rfl ?_ | refine Qd rfl rfl ?_ | (refine Zl ?_; (first | refine ZL rfl (fun _ _ => ?_) | refine Zk rfl rfl (by decide) rfl ?_)) | refine Qu (fun _ _ => ?_))) | (refine Qk ?_; (first | refine Qi ?_ | refine QK rfl ?_ | refine QR ?_ | refine WM rfl rfl rfl rfl ?_ | refine W7 rfl rfl rfl rfl ?_ | refine Wc rfl rfl (by omega) ?_ | refine Q5 rfl rfl (by omega) ?_)) | (refine Qj ?_; (first | refine Ql ?_ | refine Qb ?_ | refine Qe ?_ | refine QB ?_ | refine Qs rfl ?_ | refine Qm rfl (by omega) ?_ | refine Qf rfl (by omega) ?_)))
     refine ⟨i + 1, la, ⟨by omega, fun h => absurd h h13, fun _ => rfl⟩, by omega, ?_⟩
     exact zal rfl
   ·(repeat' first | (refine Qg ?_; (first | refine QJ rfl ?_ | refine QN rfl ?_ | (refine QG ?_; (first | refine WL rfl rfl ?_ | refine Qc rfl rfl hx0 ?_ | refine QO rfl ?_ | refine Qc rfl rfl rfl ?_)) | refine QM rfl rfl (by first | assumption | omega | (simp; done) | (simp; omega)) ?_ | (refine Qo ?_; (first | refine QX rfl rfl ?_ | refine W4 rfl rfl ?_ | refine Q1 rfl rfl ?_ | refine W3 rfl rfl (by omega) ?_)) | (refine Qt ?_; (first | refine ZK rfl rfl (.same (.ref rfl (QS _).symm (QC _) .nil)) hln1 rfl ?_ | refine ZK rfl rfl (.same (.same (.ref rfl (QS _).symm (QC _) .nil))) hrec rfl ?_ | refine QI rfl ?_ | refine Zt rfl rfl rfl rfl rfl rfl rfl (by first | omega | (simp; omega)) (by first | omega | (simp; omega)) (fun _ => rfl) (fun _ _ => ?_) | refine s_app_z rfl rfl rfl rfl rfl (by first | omega | (simp; omega)) (by first | omega | (simp; omega)) (fun _ => rfl) (fun _ _ => ?_))) | refine WO rfl rfl ?_ | refine WD rfl rfl rfl rfl ?_ | refine W2 rfl ?_ | refine Qd rfl rfl ?_ | (refine Zl ?_; (first | refine ZL rfl (fun _ _ => ?_) | refine Zk rfl rfl (by decide) rfl ?_)) | refine Qu (fun _ _ => ?_))) | (refine Qk ?_; (first | refine Qi ?_ | refine QK rfl ?_ | refine QR ?_ | refine WM rfl rfl rfl rfl ?_ | refine W7 rfl rfl rfl rfl ?_ | refine Q5 rfl rfl (by omega) ?_)) | (refine Qj ?_; (first | refine Ql ?_ | refine Qb ?_ | refine Qe ?_ | refine QB ?_ | refine Qs rfl ?_ | refine Qm rfl (by omega) ?_ | refine Qf rfl (by omega) ?_)))
    refine ⟨i + 1, la, ⟨by omega, fun h => absurd h h13, fun _ => rfl⟩, by omega, ?_⟩
    exact zal rfl
 ·have hi3 : i = ks.length := by omega
  subst hi3
  clear hlns hrecs hub
  (repeat' first | (refine Qg ?_; (first | refine QJ rfl ?_ | refine QN rfl ?_ | refine Qc rfl rfl rfl ?_ | refine QX rfl rfl ?_ | refine QI rfl ?_ | refine Qd rfl rfl ?_)) | (refine Qk ?_; (first | refine Qi ?_ | refine QK rfl ?_)) | (refine Qj ?_; (first | refine Ql ?_ | refine Qb ?_ | refine Qf rfl (by omega) ?_ | refine WC rfl ?_ | refine Qy ?_)))
  exact e_1 (Tryz.results28) (Qx rfl) (QY rfl)
theorem letter_c (b : UInt8) : Go.Av.Pure Tryz.prog G 144 [.u b] (.b (letB b)) := fun B => by
 unfold letB
 by_cases h1 : (97 : Int) <= b.toNat <;> by_cases h2 : (b.toNat : Int) <= 122 <;> by_cases h3 : (65 : Int) <= b.toNat
 all_goals
  refine Qa Tryz.func144 rfl Tryz.ntmps144 rfl (t := [(0, .u b)]) rfl fun E hE => ?_
  (repeat' first | (refine Qg ?_; (first | refine QJ rfl ?_ | refine QN rfl ?_ | (refine Qo ?_; (first | refine Zb rfl rfl ?_ | refine W4 rfl rfl ?_)) | (refine Q8 ?_; (first | refine W1 rfl rfl ?_ | refine WO rfl rfl ?_)))) | (refine Qk ?_; (first | refine Qi ?_ | refine QK rfl ?_ | refine WM rfl rfl rfl rfl ?_ | refine W7 rfl rfl rfl rfl ?_ | refine o_gu rfl rfl rfl rfl rfl ?_ | refine Wc rfl rfl (by omega) ?_ | refine Q5 rfl rfl (by omega) ?_)) | (refine Qj ?_; (first | refine Ql ?_ | refine Qb ?_ | refine Qy ?_)))
  refine e_1 Tryz.results144 (Qx rfl) (QY ?_)
  congr 2
  rw [Bool.eq_iff_iff]
  simp
  try omega
theorem digit_c (b : UInt8) : Go.Av.Pure Tryz.prog G 143 [.u b] (.b (digB b)) := fun B => by
 unfold digB
 by_cases h1 : (48 : Int) <= b.toNat
 all_goals
  refine Qa Tryz.func143 rfl Tryz.ntmps143 rfl (t := [(0, .u b)]) rfl fun E hE => ?_
  (repeat' first | (refine Qg ?_; (first | refine QJ rfl ?_ | refine QN rfl ?_ | (refine Qo ?_; (first | refine Zb rfl rfl ?_ | refine W4 rfl rfl ?_)) | (refine Q8 ?_; (first | refine W1 rfl rfl ?_ | refine WO rfl rfl ?_)))) | (refine Qk ?_; (first | refine Qi ?_ | refine QK rfl ?_ | refine WM rfl rfl rfl rfl ?_ | refine W7 rfl rfl rfl rfl ?_ | refine Wc rfl rfl (by omega) ?_ | refine Q5 rfl rfl (by omega) ?_)) | (refine Qj ?_; (first | refine Ql ?_ | refine Qb ?_ | refine Qy ?_)))
  refine e_1 Tryz.results143 (Qx rfl) (QY ?_)
  congr 2
  rw [Bool.eq_iff_iff]
  simp
  try omega
theorem dw_nil (p : UInt8 -> Bool) : ∀ l : List UInt8, l.dropWhile p = [] ↔ l.all p = true
 | [] => by simp
 | b :: r => by
  by_cases hb : p b = true
  ·rw [List.dropWhile_cons, if_pos hb, dw_nil p r]; simp [hb]
  ·rw [List.dropWhile_cons, if_neg hb]; simp [hb]
theorem dw_all (p : UInt8 -> Bool) : ∀ l : List UInt8, (l.dropWhile p).all p = l.all p
 | [] => by simp
 | b :: r => by
  by_cases hb : p b = true
  ·rw [List.dropWhile_cons, if_pos hb, dw_all p r]; simp [hb]
  ·rw [List.dropWhile_cons, if_neg hb]
theorem trim_digits (s : List UInt8) : Lib.trimS s [48, 49, 50, 51, 52, 53, 54, 55, 56, 57] = [] ↔ s.all digB = true := by
 have hd : (fun b : UInt8 => [48, 49, 50, 51, 52, 53, 54, 55, 56, 57].contains b) = digB := by
  funext b
  have : ∀ n : Fin 256, [48, 49, 50, 51, 52, 53, 54, 55, 56, 57].contains (UInt8.ofNat n.val) = digB (UInt8.ofNat n.val) := by decide +kernel
  have h := this ⟨b.toNat, b.toNat_lt⟩
  simpa using h
 unfold Lib.trimS Lib.trimLeftS Lib.trimRightS
 rw [hd, dw_nil, List.all_reverse, dw_all, List.all_reverse]
theorem tnum_c (s : List UInt8) (hs : s.length <= 1000000) : Go.Av.Pure Tryz.prog G 107 [WS s] (.b (numB s)) := fun B => by
 have htr := trim_c (G := G) s [48, 49, 50, 51, 52, 53, 54, 55, 56, 57] (by omega) (by decide) (by decide)
 have hta : decide (Lib.trimS s [48, 49, 50, 51, 52, 53, 54, 55, 56, 57] = []) = s.all digB := by rw [Bool.eq_iff_iff, decide_eq_true_eq, trim_digits]
 generalize Lib.trimS s [48, 49, 50, 51, 52, 53, 54, 55, 56, 57] = tr at *
 unfold numB
 by_cases h0 : s = []
 ·subst h0
  refine Qa Tryz.func107 rfl Tryz.ntmps107 rfl (t := [(0, WS [])]) rfl fun E hE => ?_
  (repeat' first | (refine Qg ?_; (first | refine QJ rfl ?_ | refine QN rfl ?_ | refine W4 rfl rfl ?_ | refine Wn rfl ?_ | refine WO rfl rfl ?_)) | (refine Qk ?_; (first | refine Qi ?_ | refine QK rfl ?_ | refine W7 rfl rfl rfl rfl ?_ | refine o_gu rfl rfl rfl rfl rfl ?_)) | (refine Qj ?_; (first | refine Ql ?_ | refine Qb ?_ | refine Qy ?_)))
  refine e_1 Tryz.results107 (Qx rfl) (QY ?_)
  rfl
 have hl : 0 < s.length := by cases s with | nil => exact absurd rfl h0 | cons b r => simp
 have hl1 : (1 : Int) <= s.length := by omega
 by_cases h3 : (s.length : Int) <= 3
 case neg =>
  refine Qa Tryz.func107 rfl Tryz.ntmps107 rfl (t := [(0, WS s)]) rfl fun E hE => ?_
  (repeat' first | (refine Qg ?_; (first | refine QJ rfl ?_ | refine QN rfl ?_ | (refine Qo ?_; (first | refine Zb rfl rfl ?_ | refine W4 rfl rfl ?_)) | refine Wn rfl ?_ | (refine Q8 ?_; (first | refine W1 rfl rfl ?_ | refine WO rfl rfl ?_)))) | (refine Qk ?_; (first | refine Qi ?_ | refine QK rfl ?_ | refine WM rfl rfl rfl rfl ?_ | refine W7 rfl rfl rfl rfl ?_ | refine o_gu rfl rfl rfl rfl rfl ?_ | refine Wc rfl rfl (by omega) ?_ | refine Q5 rfl rfl (by omega) ?_)) | (refine Qj ?_; (first | refine Ql ?_ | refine Qb ?_ | refine Qy ?_)))
  refine e_1 Tryz.results107 (Qx rfl) (QY ?_)
  simp; omega
 have h33 : s.length <= 3 := by omega
 by_cases h8 : ((s.getD 0 0).toNat : Int) = 48
 ·have h88 : s.getD 0 0 = 48 := UInt8.toNat_inj.1 (by rw [show (48 : UInt8).toNat = 48 from rfl]; omega)
  by_cases h1 : (s.length : Int) = 1
  ·have h11 : s.length = 1 := by omega
   refine Qa Tryz.func107 rfl Tryz.ntmps107 rfl (t := [(0, WS s)]) rfl fun E hE => ?_
   (repeat' first | (refine Qg ?_; (first | refine QJ rfl ?_ | refine QN rfl ?_ | (refine Qo ?_; (first | refine Q1 rfl rfl ?_ | refine Wx rfl rfl ?_ | refine Zb rfl rfl ?_ | refine W4 rfl rfl ?_ | refine s_neq rfl rfl ?_)) | (refine Qt ?_; (first | refine Wn rfl ?_ | refine WR rfl rfl (htr) ?_)) | (refine Q8 ?_; (first | refine W1 rfl rfl ?_ | refine WO rfl rfl ?_)) | refine WP rfl rfl (by first | assumption | omega | (simp only [List.length_take, List.length_drop]; omega)) ?_)) | (refine Qk ?_; (first | refine Qi ?_ | refine QK rfl ?_ | refine WM rfl rfl rfl rfl ?_ | refine W7 rfl rfl rfl rfl ?_ | refine Wc rfl rfl (by omega) ?_ | refine qw rfl rfl (fun _ => ?_) (fun _ => ?_))) | (refine Qj ?_; (first | refine Ql ?_ | refine Qb ?_ | refine Qy ?_)))
   ·exact absurd h8 (by assumption)
   refine e_1 Tryz.results107 (Qx rfl) (QY ?_)
   rw [h11, h88]
   simpa using hta
  ·have h11 : ¬ s.length = 1 := by omega
   refine Qa Tryz.func107 rfl Tryz.ntmps107 rfl (t := [(0, WS s)]) rfl fun E hE => ?_
   (repeat' first | (refine Qg ?_; (first | refine QJ rfl ?_ | refine QN rfl ?_ | (refine Qo ?_; (first | refine Q1 rfl rfl ?_ | refine Wx rfl rfl ?_ | refine Zb rfl rfl ?_ | refine W4 rfl rfl ?_ | refine s_neq rfl rfl ?_)) | (refine Qt ?_; (first | refine Wn rfl ?_ | refine WR rfl rfl (htr) ?_)) | (refine Q8 ?_; (first | refine W1 rfl rfl ?_ | refine WO rfl rfl ?_)) | refine WP rfl rfl (by first | assumption | omega | (simp only [List.length_take, List.length_drop]; omega)) ?_)) | (refine Qk ?_; (first | refine Qi ?_ | refine QK rfl ?_ | refine WM rfl rfl rfl rfl ?_ | refine W7 rfl rfl rfl rfl ?_ | refine Wc rfl rfl (by omega) ?_ | refine Q5 rfl rfl (by omega) ?_ | refine qw rfl rfl (fun _ => ?_) (fun _ => ?_))) | (refine Qj ?_; (first | refine Ql ?_ | refine Qb ?_ | refine Qy ?_)))
   ·exact absurd h8 (by assumption)
   refine e_1 Tryz.results107 (Qx rfl) (QY ?_)
   rw [h88]
   simp [h11]
 ·have h88 : ¬ s.getD 0 0 = 48 := fun h => h8 (by rw [h]; rfl)
  refine Qa Tryz.func107 rfl Tryz.ntmps107 rfl (t := [(0, WS s)]) rfl fun E hE => ?_
  (repeat' first | (refine Qg ?_; (first | refine QJ rfl ?_ | refine QN rfl ?_ | (refine Qo ?_; (first | refine Wx rfl rfl ?_ | refine Zb rfl rfl ?_ | refine W4 rfl rfl ?_ | refine s_neq rfl rfl ?_)) | (refine Qt ?_; (first | refine Wn rfl ?_ | refine WR rfl rfl (htr) ?_)) | refine W1 rfl rfl ?_ | refine WP rfl rfl (by first | assumption | omega | (simp only [List.length_take, List.length_drop]; omega)) ?_)) | (refine Qk ?_; (first | refine Qi ?_ | refine QK rfl ?_ | refine WM rfl rfl rfl rfl ?_ | refine W7 rfl rfl rfl rfl ?_ | refine Wc rfl rfl (by omega) ?_)) | (refine Qj ?_; (first | refine Ql ?_ | refine Qb ?_ | refine Qy ?_)))
  refine e_1 Tryz.results107 (Qx rfl) (QY ?_)
  rw [show decide (1 <= s.length) = true from decide_eq_true hl, show decide (s.length <= 3) = true by simpa using h33, show decide (s.getD 0 0 ≠ 48) = true by simpa using h88]
  simpa using hta
theorem fields_signs : Lib.fields [61, 61, 32, 38, 38, 32, 124, 124, 32, 60, 60, 32, 62, 62, 32, 40, 32, 41, 32, 123, 32, 125, 32, 91, 32, 93, 32, 44, 32, 46, 32, 61, 32, 43, 32, 45, 32, 42, 32, 47, 32, 37, 32, 38, 32, 124, 32, 94, 32, 60, 32, 33] = signsT := by decide +kernel
theorem signs_own (hG1 : G 1 = spaceT) : Own Tryz.prog G 146 [] 24 1 (Ws (signsT.map Str.mk)) := fun B => by
 refine Qa Tryz.func146 rfl Tryz.ntmps146 rfl (t := []) rfl fun E hE => ?_
 (repeat' first | (refine Qg ?_; (first | refine QN rfl ?_ | refine s_call_o rfl rfl (fields_own hG1 [61, 61, 32, 38, 38, 32, 124, 124, 32, 60, 60, 32, 62, 62, 32, 40, 32, 41, 32, 123, 32, 125, 32, 91, 32, 93, 32, 44, 32, 46, 32, 61, 32, 43, 32, 45, 32, 42, 32, 47, 32, 37, 32, 38, 32, 124, 32, 94, 32, 60, 32, 33] (by decide) (by decide)) (by first | exact QC _) (fun _ _ => ?_))) | (refine Qk ?_; (first | refine Qi ?_ | refine QK rfl ?_)) | (refine Qj ?_; (first | refine Ql ?_ | refine Qb ?_ | refine Qy ?_)))
 exact e_1 (Tryz.results146) (Qx rfl) (c_ownedB hE rfl (by rw [fields_signs]; rfl) (by rw [fields_signs]) rfl)
theorem signs_c (hG1 : G 1 = spaceT) : Go.Av.Pure Tryz.prog G 146 [] (QW (signsT.map Str.mk)) := (signs_own hG1).pure (by rw [QS]; rfl)
def findP {α : Type} (p : α -> Bool) (l : List α) : Int := match l.findIdx? p with | some i => i | none => -1
theorem findP_some {α : Type} {p : α -> Bool} {l : List α} {k : Nat} (hk : k < l.length) (hp : p l[k] = true) (hno : ∀ j (h : j < l.length), j < k -> p l[j] = false) : findP p l = k := by
 unfold findP
 have : l.findIdx? p = some k := List.findIdx?_eq_some_iff_getElem.2 ⟨hk, hp, fun j hj => by simpa using hno j (by omega) hj⟩
 rw [this]
theorem findP_none {α : Type} {p : α -> Bool} {l : List α} (hno : ∀ j (h : j < l.length), p l[j] = false) : findP p l = -1 := by
 unfold findP
 have : l.findIdx? p = none := List.findIdx?_eq_none_iff.2 fun x hx => by
  obtain ⟨j, hj, rfl⟩ := List.getElem_of_mem hx
  exact hno j hj
 rw [this]
theorem idxF_c (l : List Str) (fid : FuncId) (first cap : List DV) (p : Str -> Bool) [FnOk Tryz.prog fid] (hl : l.length <= 4611686018427387904) (hp : ∀ x ∈ l, Go.Av.Pure Tryz.prog G fid (first ++ [WS x.l] ++ cap) (.b (p x))) :
  Go.Av.Pure Tryz.prog G 145 [QW l, .fn (.func fid) first cap] (.i (findP p l)) := fun B => by
 refine Qa Tryz.func145 rfl Tryz.ntmps145 rfl (t := [(0, QW l), (1, .fn (.func fid) first cap)]) rfl fun E hE => ?_
 (repeat' first | (refine Qg ?_; (first | refine QJ rfl ?_ | refine QN rfl ?_ | refine QI rfl ?_)) | (refine Qk ?_; (first | refine Qi ?_ | refine QK rfl ?_)) | (refine Qj ?_; (first | refine Ql ?_ | refine Qb ?_ | refine Qe ?_)))
 refine ZZ (fun k : Nat => ⟨[(0, QW l), (1, .fn (.func fid) first cap), (7, .i l.length), (8, .i k)], []⟩) (fun k => k <= l.length /\ ∀ j (h : j < l.length), j < k -> p l[j] = false) (fun k => l.length - k) 0 ?_ ⟨by omega, fun j h hj => by omega⟩ ?_
 ·exact zal rfl
 intro k ⟨hk, hno⟩
 (repeat' first | refine QX rfl rfl ?_ | (refine Qk ?_; (first | refine Qi ?_ | refine QK rfl ?_)) | (refine Qj ?_; (first | refine Ql ?_ | refine Qb ?_)))
 refine r_cond_d rfl (fun h => ?_) (fun h => ?_)
 ·have hk' : k < l.length := by omega
  (repeat' first | (refine Qg ?_; (first | refine QJ rfl ?_ | refine QN rfl ?_ | refine Wa rfl ?_ | refine QM rfl rfl (by first | assumption | omega | (simp; done) | (simp; omega)) ?_ | refine Z4 rfl (hp _ (by first | assumption | exact List.getElem_mem _)) (by repeat' first | exact Wh | exact Wu _ | exact Wt (QC _) | exact QC _ | refine ZI ?_ ?_ | refine Zu ?_ | refine WV ?_ | refine WK ?_ | exact W0 | refine Wp ?_ ?_ | refine Wt ?_) ?_)) | (refine Qk ?_; (first | refine Qi ?_ | refine QK rfl ?_)) | (refine Qj ?_; (first | refine Ql ?_ | refine Qb ?_ | refine Qe ?_ | refine QB ?_)))
  refine r_cond rfl (fun hb => ?_) (fun hb => ?_)
  ·(repeat' first | (refine Qg ?_; (first | refine QJ rfl ?_ | refine QN rfl ?_)) | (refine Qk ?_; (first | refine Qi ?_ | refine QK rfl ?_)) | (refine Qj ?_; (first | refine Ql ?_ | refine Qb ?_ | refine Qy ?_)))
   refine e_1 Tryz.results145 (Qx rfl) (QY ?_)
   rw [findP_some hk' hb hno]
  ·(repeat' first | (refine Qg ?_; (first | refine QJ rfl ?_ | refine W3 rfl rfl (by omega) ?_)) | (refine Qk ?_; (first | refine Qi ?_ | refine QK rfl ?_)) | (refine Qj ?_; (first | refine Qb ?_ | refine QB ?_)))
   refine ⟨k + 1, ⟨hk', fun j hj hjk => ?_⟩, by omega, ?_⟩
   ·rcases Nat.lt_or_ge j k with h' | h'
    ·exact hno j hj h'
    ·have : j = k := by omega
     subst this; exact hb
   ·exact zal rfl
 ·have hk' : k = l.length := by omega
  (repeat' first | refine QN rfl ?_ | (refine Qk ?_; (first | refine Qi ?_ | refine QK rfl ?_)) | (refine Qj ?_; (first | refine Ql ?_ | refine Qb ?_ | refine WC rfl ?_ | refine Qy ?_)))
  refine e_1 Tryz.results145 (Qx rfl) (QY ?_)
  rw [findP_none fun j hj => hno j hj (by omega)]
theorem first1_c (s t : List UInt8) : Go.Av.Pure Tryz.prog G 147 [WS t, .ep [WS s]] (.b (Lib.hasPrefix s t)) := fun B => by
 refine Qa Tryz.func147 rfl Tryz.ntmps147 rfl (t := [(0, WS t), (1, .ep [WS s])]) rfl fun E hE => ?_
 (repeat' first | (refine Qg ?_; (first | refine QJ rfl ?_ | refine QN rfl ?_ | refine Wa rfl ?_ | refine WR rfl rfl (hasPrefix_c _ _) ?_)) | (refine Qk ?_; (first | refine Qi ?_ | refine QK rfl ?_)) | (refine Qj ?_; (first | refine Ql ?_ | refine Qb ?_ | refine Qy ?_)))
 refine e_1 Tryz.results147 (Qx rfl) (QY ?_)
 rfl
theorem find_idx {s : List UInt8} : (findP (fun x : Str => Lib.hasPrefix s x.l) (signsT.map Str.mk) = -1 /\ signM s = []) \/ ∃ i : Nat, ∃ h : i < (signsT.map Str.mk).length, findP (fun x : Str => Lib.hasPrefix s x.l) (signsT.map Str.mk) = i /\ ((signsT.map Str.mk)[i]).l = signM s := by
 have key : ∀ L : List (List UInt8), (findP (fun x : Str => Lib.hasPrefix s x.l) (L.map Str.mk) = -1 /\ (L.find? (fun t => Lib.hasPrefix s t)).getD [] = []) \/ ∃ i : Nat, ∃ h : i < (L.map Str.mk).length, findP (fun x : Str => Lib.hasPrefix s x.l) (L.map Str.mk) = i /\ ((L.map Str.mk)[i]).l = (L.find? (fun t => Lib.hasPrefix s t)).getD [] := by
  intro L
  unfold findP
  induction L with
  | nil => left; simp
  | cons x r ih =>
   by_cases hx : Lib.hasPrefix s x = true
   ·right
    exact ⟨0, by simp, by simp [List.findIdx?_cons, hx], by simp [hx]⟩
   ·have hx2 : Lib.hasPrefix s x = false := by simpa using hx
    rcases ih with ⟨h1, h2⟩ | ⟨i, hi, h1, h2⟩
    ·left
     refine ⟨?_, by rw [List.find?_cons, hx2]; exact h2⟩
     rw [List.map_cons, List.findIdx?_cons]
     simp only [hx2]
     cases hf : (r.map Str.mk).findIdx? (fun x => Lib.hasPrefix s x.l) with
     | none => rfl
     | some j => rw [hf] at h1; simp at h1 <;> omega
    ·right
     refine ⟨i + 1, by simpa using hi, ?_, by rw [List.find?_cons, hx2]; exact h2⟩
     rw [List.map_cons, List.findIdx?_cons]
     simp only [hx2]
     cases hf : (r.map Str.mk).findIdx? (fun x => Lib.hasPrefix s x.l) with
     | none => rw [hf] at h1; simp at h1 <;> omega
     | some j => rw [hf] at h1; simp at h1 ⊢; omega
 exact key signsT
theorem first_c (hG1 : G 1 = spaceT) (s : List UInt8) (hs : s.length <= 1000000) : Go.Av.Pure Tryz.prog G 103 [WS s] (WS (Zy s)) := fun B => by
 have hpl : (preM s).length <= s.length := (List.takeWhile_sublist _).length_le
 have htk : s.take (preM s).length = preM s := take_pre _ s
 have hsg := signs_c (G := G) hG1
 have hlt0 := letter_c (G := G) (s.getD 0 0)
 unfold Zy
 refine Qa Tryz.func103 rfl Tryz.ntmps103 rfl (t := [(0, WS s)]) rfl fun E hE => ?_
 (repeat' first | (refine Qg ?_; (first | refine QN rfl ?_ | refine Q9 rfl rfl (fun _ _ => ?_))) | (refine Qk ?_; (first | refine Qi ?_ | refine QK rfl ?_)) | (refine Qj ?_; (first | refine Ql ?_ | refine Qb ?_ | refine Qe ?_)))
 refine r_pubptr 1 rfl rfl rfl ?_
 refine ZZ (fun n : Nat => ⟨[(1, .ep [WS s]), (3, .i n)], [.gone]⟩) (fun n => n <= (preM s).length) (fun n => (preM s).length - n) 0 ?_ (by omega) ?_
 ·exact zal rfl
 intro n hn
 by_cases hnl : n < (preM s).length
 ·have hns : n < s.length := by omega
  have hrun : runB (s.getD 0 0) (s.getD n 0) = true := run_in hnl
  have hd := digit_c (G := G) (s.getD n 0)
  unfold runB at hrun
  by_cases hD : digB (s.getD n 0) = true
  ·rw [hD] at hd
   (repeat' first | (refine Qg ?_; (first | refine QJ rfl ?_ | refine QN rfl ?_ | refine Wa rfl ?_ | (refine Qo ?_; (first | refine QX rfl rfl ?_ | refine W3 rfl rfl (by omega) ?_)) | (refine Qt ?_; (first | refine Wn rfl ?_ | refine WR rfl rfl (hd) ?_)) | refine W1 rfl rfl ?_ | refine WP rfl rfl (by first | assumption | omega | (simp only [List.length_take, List.length_drop]; omega)) ?_)) | (refine Qk ?_; (first | refine Qi ?_ | refine QK rfl ?_ | refine WM rfl rfl rfl rfl ?_ | refine W7 rfl rfl rfl rfl ?_ | refine o_gu rfl rfl rfl rfl rfl ?_ | refine Wc rfl rfl (by omega) ?_)) | (refine Qj ?_; (first | refine Ql ?_ | refine Qb ?_ | refine Qe ?_ | refine QB ?_ | refine Qq rfl ?_)))
   refine ⟨n + 1, by omega, by omega, ?_⟩
   exact zal rfl
  ·have hD2 : digB (s.getD n 0) = false := by simpa using hD
   rw [hD2] at hd hrun
   simp at hrun
   have hl0 : Go.Av.Pure Tryz.prog G 144 [.u (s.getD 0 0)] (.b true) := by have := letter_c (G := G) (s.getD 0 0); rwa [show letB (s.getD 0 0) = true by simpa using hrun.1] at this
   have hln : Go.Av.Pure Tryz.prog G 144 [.u (s.getD n 0)] (.b true) := by have := letter_c (G := G) (s.getD n 0); rwa [show letB (s.getD n 0) = true by simpa using hrun.2] at this
   (repeat' first | (refine Qg ?_; (first | refine QJ rfl ?_ | refine QN rfl ?_ | refine Wa rfl ?_ | (refine Qo ?_; (first | refine QX rfl rfl ?_ | refine W3 rfl rfl (by omega) ?_)) | (refine Qt ?_; (first | refine Wn rfl ?_ | refine WR rfl rfl (hd) ?_ | refine WR rfl rfl (hl0) ?_ | refine WR rfl rfl (hln) ?_)) | (refine Q8 ?_; (first | refine W1 rfl rfl ?_ | refine WO rfl rfl ?_)) | refine WP rfl rfl (by first | assumption | omega | (simp only [List.length_take, List.length_drop]; omega)) ?_)) | (refine Qk ?_; (first | refine Qi ?_ | refine QK rfl ?_ | refine WM rfl rfl rfl rfl ?_ | refine Wc rfl rfl (by omega) ?_)) | (refine Qj ?_; (first | refine Ql ?_ | refine Qb ?_ | refine Qe ?_ | refine QB ?_ | refine Qq rfl ?_)))
   refine ⟨n + 1, by omega, by omega, ?_⟩
   exact zal rfl
 have hne : n = (preM s).length := by omega
 have hnm := tnum_c (G := G) (s.take (preM s).length) (by rw [htk]; omega)
 rw [show numB (s.take (preM s).length) = numB (preM s) by rw [htk]] at hnm
 have hix := idxF_c (G := G) (signsT.map Str.mk) 147 [] [.ep [WS s]] (fun x => Lib.hasPrefix s x.l) (by decide) (fun x hx => first1_c s x.l)
 subst hne
 have hlet := letter_c (G := G) (s.getD 0 0)
 by_cases hns : (preM s).length < s.length
 ·have hrun : runB (s.getD 0 0) (s.getD (preM s).length 0) = false := run_end rfl hns
  have hd := digit_c (G := G) (s.getD (preM s).length 0)
  have hln := letter_c (G := G) (s.getD (preM s).length 0)
  unfold runB at hrun
  have hD2 : digB (s.getD (preM s).length 0) = false := by simp at hrun; simpa using hrun.1
  rw [hD2] at hd hrun
  by_cases h0 : letB (s.getD 0 0) = true
  ·rw [h0] at hlet hrun
   have hn2 : letB (s.getD (preM s).length 0) = false := by simpa using hrun
   rw [hn2] at hln
   have hpos : 0 < (preM s).length := by
    rcases Nat.eq_zero_or_pos (preM s).length with h | h
    ·rw [h, h0] at hn2; cases hn2
    ·exact h
   rw [if_pos hpos, if_pos (by rw [h0]; rfl)]
   (repeat' first | (refine Qg ?_; (first | refine QJ rfl ?_ | refine QN rfl ?_ | refine Wa rfl ?_ | (refine Qo ?_; (first | refine QX rfl rfl ?_ | refine ZJ rfl rfl ?_)) | (refine Qt ?_; (first | refine Wn rfl ?_ | refine WR rfl rfl (hlet) ?_ | refine WR rfl rfl (hd) ?_ | refine WR rfl rfl (hln) ?_)) | (refine Q8 ?_; (first | refine W1 rfl rfl ?_ | refine WO rfl rfl ?_)) | refine WP rfl rfl (by first | assumption | omega | (simp only [List.length_take, List.length_drop]; omega)) ?_ | refine s_sh rfl rfl ?_)) | (refine Qk ?_; (first | refine Qi ?_ | refine QK rfl ?_ | refine WM rfl rfl rfl rfl ?_ | refine W7 rfl rfl rfl rfl ?_ | refine Wc rfl rfl (by omega) ?_)) | (refine Qj ?_; (first | refine Ql ?_ | refine Qb ?_ | refine Qq rfl ?_ | refine Qs rfl ?_ | refine Qm rfl (by omega) ?_ | refine WC rfl ?_ | refine Qy ?_)))
   refine e_1 Tryz.results103 (Qx rfl) (QY ?_)
   rw [htk]
  ·have h0 : letB (s.getD 0 0) = false := by simpa using h0
   rw [h0] at hlet
   by_cases hpos : 0 < (preM s).length
   ·rw [if_pos hpos]
    by_cases hN : numB (preM s) = true
    ·rw [hN] at hnm
     rw [if_pos (show (letB (s.getD 0 0) || numB (preM s)) = true by rw [hN]; simp)]
     (repeat' first | (refine Qg ?_; (first | refine QJ rfl ?_ | refine QN rfl ?_ | refine Wa rfl ?_ | (refine Qo ?_; (first | refine QX rfl rfl ?_ | refine ZJ rfl rfl ?_)) | (refine Qt ?_; (first | refine Wn rfl ?_ | refine WR rfl rfl (hlet) ?_ | refine WR rfl rfl (hd) ?_ | refine WR rfl rfl (hnm) ?_)) | (refine Q8 ?_; (first | refine W1 rfl rfl ?_ | refine WO rfl rfl ?_)) | refine WP rfl rfl (by first | assumption | omega | (simp only [List.length_take, List.length_drop]; omega)) ?_ | refine s_sh rfl rfl ?_)) | (refine Qk ?_; (first | refine Qi ?_ | refine QK rfl ?_ | refine WM rfl rfl rfl rfl ?_ | refine W7 rfl rfl rfl rfl ?_ | refine Wc rfl rfl (by omega) ?_)) | (refine Qj ?_; (first | refine Ql ?_ | refine Qb ?_ | refine Qq rfl ?_ | refine Qs rfl ?_ | refine Qm rfl (by omega) ?_ | refine WC rfl ?_ | refine Qy ?_)))
     refine e_1 Tryz.results103 (Qx rfl) (QY ?_)
     rw [htk]
    ·have hN2 : numB (preM s) = false := by simpa using hN
     rw [hN2] at hnm
     rw [if_neg (show ¬ (letB (s.getD 0 0) || numB (preM s)) = true by rw [hN2, h0]; simp)]
     (repeat' first | (refine Qg ?_; (first | refine QJ rfl ?_ | refine QN rfl ?_ | refine Wa rfl ?_ | (refine Qo ?_; (first | refine QX rfl rfl ?_ | refine ZJ rfl rfl ?_)) | (refine Qt ?_; (first | refine Wn rfl ?_ | refine WR rfl rfl (hlet) ?_ | refine WR rfl rfl (hd) ?_ | refine WR rfl rfl (hnm) ?_)) | (refine Q8 ?_; (first | refine W1 rfl rfl ?_ | refine WO rfl rfl ?_)) | refine WP rfl rfl (by first | assumption | omega | (simp only [List.length_take, List.length_drop]; omega)) ?_ | refine s_sh rfl rfl ?_)) | (refine Qk ?_; (first | refine Qi ?_ | refine QK rfl ?_ | refine WM rfl rfl rfl rfl ?_ | refine W7 rfl rfl rfl rfl ?_ | refine Wc rfl rfl (by omega) ?_)) | (refine Qj ?_; (first | refine Ql ?_ | refine Qb ?_ | refine QB ?_ | refine Qs rfl ?_ | refine Qm rfl (by omega) ?_ | refine WC rfl ?_ | refine Qy ?_)))
     refine e_1 Tryz.results103 (Qx rfl) (QY ?_)
     all_goals rfl
   ·rw [if_neg hpos]
    have hz : (preM s).length = 0 := by omega
    rcases find_idx (s := s) with ⟨h1, h2⟩ | ⟨i, hi, h1, h2⟩
    ·rw [h1] at hix
     rw [h2]
     (repeat' first | (refine Qg ?_; (first | refine QJ rfl ?_ | refine QN rfl ?_ | refine Wa rfl ?_ | (refine Qo ?_; (first | refine QX rfl rfl ?_ | refine ZJ rfl rfl ?_ | refine W4 rfl rfl ?_)) | (refine Qt ?_; (first | refine Wn rfl ?_ | refine WR rfl rfl (hlet) ?_ | refine WR rfl rfl (hd) ?_ | refine WR rfl rfl (hsg) ?_ | refine WR rfl rfl (hix) ?_)) | (refine Q8 ?_; (first | refine W1 rfl rfl ?_ | refine WO rfl rfl ?_)) | refine WP rfl rfl (by first | assumption | omega | (simp only [List.length_take, List.length_drop]; omega)) ?_ | refine QH rfl rfl ?_)) | (refine Qk ?_; (first | refine Qi ?_ | refine QK rfl ?_ | refine WM rfl rfl rfl rfl ?_ | refine W7 rfl rfl rfl rfl ?_ | refine Wc rfl rfl (by omega) ?_)) | (refine Qj ?_; (first | refine Ql ?_ | refine Qb ?_ | refine QB ?_ | refine Qs rfl ?_ | refine Qf rfl (by omega) ?_ | refine WC rfl ?_ | refine Qy ?_)))
     refine e_1 Tryz.results103 (Qx rfl) (QY ?_)
     all_goals rfl
    ·rw [h1] at hix
     rw [<- h2]
     have hi2 : i < 24 := by simpa [signsT] using hi
     (repeat' first | (refine Qg ?_; (first | refine QJ rfl ?_ | refine QN rfl ?_ | refine Wa rfl ?_ | refine QM rfl rfl (by first | assumption | omega | (simp; done) | (simp; omega)) ?_ | (refine Qo ?_; (first | refine QX rfl rfl ?_ | refine ZJ rfl rfl ?_ | refine W4 rfl rfl ?_)) | (refine Qt ?_; (first | refine Wn rfl ?_ | refine WR rfl rfl (hlet) ?_ | refine WR rfl rfl (hd) ?_ | refine WR rfl rfl (hsg) ?_ | refine WR rfl rfl (hix) ?_)) | (refine Q8 ?_; (first | refine W1 rfl rfl ?_ | refine WO rfl rfl ?_)) | refine WP rfl rfl (by first | assumption | omega | (simp only [List.length_take, List.length_drop]; omega)) ?_ | refine QH rfl rfl ?_)) | (refine Qk ?_; (first | refine Qi ?_ | refine QK rfl ?_ | refine WM rfl rfl rfl rfl ?_ | refine W7 rfl rfl rfl rfl ?_ | refine Wc rfl rfl (by omega) ?_)) | (refine Qj ?_; (first | refine Ql ?_ | refine Qb ?_ | refine QB ?_ | refine Qq rfl ?_ | refine Qs rfl ?_ | refine Qf rfl (by omega) ?_ | refine WC rfl ?_ | refine Qy ?_)))
     refine e_1 Tryz.results103 (Qx rfl) (QY ?_)
     all_goals rfl
 ·have hN0 : (preM s).length = s.length := by omega
  by_cases hpos : 0 < (preM s).length
  ·rw [if_pos hpos]
   by_cases h0 : letB (s.getD 0 0) = true
   ·rw [h0] at hlet
    rw [if_pos (by rw [h0]; rfl)]
    (repeat' first | (refine Qg ?_; (first | refine QJ rfl ?_ | refine QN rfl ?_ | refine Wa rfl ?_ | (refine Qo ?_; (first | refine QX rfl rfl ?_ | refine ZJ rfl rfl ?_)) | (refine Qt ?_; (first | refine Wn rfl ?_ | refine WR rfl rfl (hlet) ?_)) | (refine Q8 ?_; (first | refine W1 rfl rfl ?_ | refine WO rfl rfl ?_)) | refine WP rfl rfl (by first | assumption | omega | (simp only [List.length_take, List.length_drop]; omega)) ?_ | refine s_sh rfl rfl ?_)) | (refine Qk ?_; (first | refine Qi ?_ | refine QK rfl ?_ | refine W7 rfl rfl rfl rfl ?_ | refine o_gu rfl rfl rfl rfl rfl ?_ | refine Q5 rfl rfl (by omega) ?_)) | (refine Qj ?_; (first | refine Ql ?_ | refine Qb ?_ | refine Qq rfl ?_ | refine Qs rfl ?_ | refine Qm rfl (by omega) ?_ | refine WC rfl ?_ | refine Qy ?_)))
    refine e_1 Tryz.results103 (Qx rfl) (QY ?_)
    rw [htk]
   ·have h0 : letB (s.getD 0 0) = false := by simpa using h0
    rw [h0] at hlet
    by_cases hN : numB (preM s) = true
    ·rw [hN] at hnm
     rw [if_pos (show (letB (s.getD 0 0) || numB (preM s)) = true by rw [hN]; simp)]
     (repeat' first | (refine Qg ?_; (first | refine QJ rfl ?_ | refine QN rfl ?_ | refine Wa rfl ?_ | (refine Qo ?_; (first | refine QX rfl rfl ?_ | refine ZJ rfl rfl ?_)) | (refine Qt ?_; (first | refine Wn rfl ?_ | refine WR rfl rfl (hlet) ?_ | refine WR rfl rfl (hnm) ?_)) | refine WO rfl rfl ?_ | refine WP rfl rfl (by first | assumption | omega | (simp only [List.length_take, List.length_drop]; omega)) ?_ | refine s_sh rfl rfl ?_)) | (refine Qk ?_; (first | refine Qi ?_ | refine QK rfl ?_ | refine WM rfl rfl rfl rfl ?_ | refine W7 rfl rfl rfl rfl ?_ | refine o_gu rfl rfl rfl rfl rfl ?_ | refine Q5 rfl rfl (by omega) ?_)) | (refine Qj ?_; (first | refine Ql ?_ | refine Qb ?_ | refine Qq rfl ?_ | refine Qs rfl ?_ | refine Qm rfl (by omega) ?_ | refine WC rfl ?_ | refine Qy ?_)))
     refine e_1 Tryz.results103 (Qx rfl) (QY ?_)
     rw [htk]
    ·have hN2 : numB (preM s) = false := by simpa using hN
     rw [hN2] at hnm
     rw [if_neg (show ¬ (letB (s.getD 0 0) || numB (preM s)) = true by rw [hN2, h0]; simp)]
     (repeat' first | (refine Qg ?_; (first | refine QJ rfl ?_ | refine QN rfl ?_ | refine Wa rfl ?_ | (refine Qo ?_; (first | refine QX rfl rfl ?_ | refine ZJ rfl rfl ?_)) | (refine Qt ?_; (first | refine Wn rfl ?_ | refine WR rfl rfl (hlet) ?_ | refine WR rfl rfl (hnm) ?_)) | refine WO rfl rfl ?_ | refine WP rfl rfl (by first | assumption | omega | (simp only [List.length_take, List.length_drop]; omega)) ?_ | refine s_sh rfl rfl ?_)) | (refine Qk ?_; (first | refine Qi ?_ | refine QK rfl ?_ | refine WM rfl rfl rfl rfl ?_ | refine W7 rfl rfl rfl rfl ?_ | refine o_gu rfl rfl rfl rfl rfl ?_ | refine Q5 rfl rfl (by omega) ?_)) | (refine Qj ?_; (first | refine Ql ?_ | refine Qb ?_ | refine QB ?_ | refine Qs rfl ?_ | refine Qm rfl (by omega) ?_ | refine WC rfl ?_ | refine Qy ?_)))
     refine e_1 Tryz.results103 (Qx rfl) (QY ?_)
     all_goals rfl
  ·rw [if_neg hpos]
   have hz : (preM s).length = 0 := by omega
   rcases find_idx (s := s) with ⟨h1, h2⟩ | ⟨i, hi, h1, h2⟩
   ·rw [h1] at hix
    rw [h2]
    (repeat' first | (refine Qg ?_; (first | refine QJ rfl ?_ | refine QN rfl ?_ | refine Wa rfl ?_ | (refine Qo ?_; (first | refine QX rfl rfl ?_ | refine ZJ rfl rfl ?_ | refine W4 rfl rfl ?_)) | (refine Qt ?_; (first | refine Wn rfl ?_ | refine WR rfl rfl (hsg) ?_ | refine WR rfl rfl (hix) ?_)) | refine WO rfl rfl ?_ | refine QH rfl rfl ?_)) | (refine Qk ?_; (first | refine Qi ?_ | refine QK rfl ?_ | refine W7 rfl rfl rfl rfl ?_ | refine o_gu rfl rfl rfl rfl rfl ?_ | refine Q5 rfl rfl (by omega) ?_)) | (refine Qj ?_; (first | refine Ql ?_ | refine Qb ?_ | refine QB ?_ | refine Qs rfl ?_ | refine Qf rfl (by omega) ?_ | refine WC rfl ?_ | refine Qy ?_)))
    refine e_1 Tryz.results103 (Qx rfl) (QY ?_)
    all_goals rfl
   ·rw [h1] at hix
    rw [<- h2]
    have hi2 : i < 24 := by simpa [signsT] using hi
    (repeat' first | (refine Qg ?_; (first | refine QJ rfl ?_ | refine QN rfl ?_ | refine Wa rfl ?_ | refine QM rfl rfl (by first | assumption | omega | (simp; done) | (simp; omega)) ?_ | (refine Qo ?_; (first | refine QX rfl rfl ?_ | refine ZJ rfl rfl ?_ | refine W4 rfl rfl ?_)) | (refine Qt ?_; (first | refine Wn rfl ?_ | refine WR rfl rfl (hsg) ?_ | refine WR rfl rfl (hix) ?_)) | refine WO rfl rfl ?_ | refine QH rfl rfl ?_)) | (refine Qk ?_; (first | refine Qi ?_ | refine QK rfl ?_ | refine W7 rfl rfl rfl rfl ?_ | refine o_gu rfl rfl rfl rfl rfl ?_ | refine Q5 rfl rfl (by omega) ?_)) | (refine Qj ?_; (first | refine Ql ?_ | refine Qb ?_ | refine QB ?_ | refine Qq rfl ?_ | refine Qs rfl ?_ | refine Qf rfl (by omega) ?_ | refine WC rfl ?_ | refine Qy ?_)))
    refine e_1 Tryz.results103 (Qx rfl) (QY ?_)
    all_goals rfl
end Go.Proofs
end
section
namespace Go.Av
open Classical
section
variable {P : Program} {G : Nat -> DV} {E : AX} {R : DV -> List ABlk -> Prop}
variable {B : Nat} {f : Operand -> DV} {σ : List ABlk} {K : DV -> List ABlk -> Prop} {dst : Option Tmp} {type : TypeId} {pos : String} {after : Array Edge} {gd : Option (Nat × Bool)}
theorem c_pub_fst {k g len es : Nat} {cs : List DV} {σ : List ABlk} {u : Value} (hk : σ[k]? = some (.row g cs)) (hl : len * es = cs.length) (h : AClose E R (.tup [.sl es cs, .sc u]) (σ.set k .gone)) : AClose E R (.tup [.ref k g 0 len es, .sc u]) σ := fun X v hσ hS hE hv => by
 subst hσ
 refine h { X with σ := X.σ.set k .gone } v rfl (sto_gone hS k) (hE.trans (ZV k)) ?_
 cases hv with | tup _ vs hl2 hg =>
 have hv0 := hg 0 _ rfl
 have hv1 := hg 1 _ rfl
 refine .tup _ _ hl2 fun j e hj => ?_
 match j with
 | 0 => simp at hj; subst hj; exact pub_rep hS hk hl hv0
 | 1 =>
  simp at hj; subst hj
  generalize vs.getD 1 undef = w at hv1 ⊢
  cases hv1; exact .sc _
 | j + 2 => simp at hj
end
end Go.Av
end
section
namespace Go.Proofs
open Go.Av
variable {G : Nat -> DV}
attribute [local irreducible] OpSem Za Zv qc ACalls AEnd AClose RV
open Go.Bl
structure Tk where
 t : List UInt8
 a : Nat
deriving DecidableEq
instance : Enc Tk where
 enc x := [WS x.t, .i x.a]
 es := 2
 len _ := rfl
 one _ d hd := by
  simp only [List.mem_cons, List.not_mem_nil, or_false] at hd
  rcases hd with rfl | rfl <;> rfl
 clo r d hd := by
  simp only [List.mem_cons, List.not_mem_nil, or_false] at hd
  rcases hd with rfl | rfl <;> exact Wh
 pos := by decide
def tks (l : List (List UInt8 × Nat)) : List Tk := l.map fun x => ⟨x.1, x.2⟩
theorem dw_drop (p : UInt8 -> Bool) : ∀ l : List UInt8, l.dropWhile p = l.drop (l.length - (l.dropWhile p).length)
 | [] => rfl
 | b :: r => by
  by_cases hb : p b = true
  ·rw [List.dropWhile_cons, if_pos hb]
   have h := dw_drop p r
   have hl := (List.dropWhile_sublist (l := r) p).length_le
   rw [List.length_cons, show r.length + 1 - (r.dropWhile p).length = (r.length - (r.dropWhile p).length) + 1 by omega, List.drop_succ_cons]
   exact h
  ·rw [List.dropWhile_cons, if_neg hb]; simp
def ZT (s : List UInt8) (a : Nat) : Nat := a + ((s.drop a).length - ((s.drop a).dropWhile spB).length)
theorem skip_le (s : List UInt8) (a : Nat) (h : a <= s.length) : a <= ZT s a /\ ZT s a <= s.length := by
 have h1 := (List.dropWhile_sublist (l := s.drop a) spB).length_le
 unfold ZT
 rw [List.length_drop] at *
 omega
theorem skip_drop (s : List UInt8) (a : Nat) : (s.drop a).dropWhile spB = s.drop (ZT s a) := by
 rw [dw_drop, List.drop_drop]; rfl
theorem scan_none {s : List UInt8} {a : Nat} (h : Zy (s.drop (ZT s a)) = []) : Zo (s.drop a) a = ([], ZT s a) := by
 rw [Zo]
 simp only
 rw [dif_pos (by rw [skip_drop]; exact h)]; rfl
theorem scan_some {s : List UInt8} {a : Nat} (h : ¬ Zy (s.drop (ZT s a)) = []) : Zo (s.drop a) a = ((Zy (s.drop (ZT s a)), ZT s a) :: (Zo (s.drop (ZT s a + (Zy (s.drop (ZT s a))).length)) (ZT s a + (Zy (s.drop (ZT s a))).length)).1, (Zo (s.drop (ZT s a + (Zy (s.drop (ZT s a))).length)) (ZT s a + (Zy (s.drop (ZT s a))).length)).2) := by
 rw [Zo]
 simp only
 rw [dif_neg (by rw [skip_drop]; exact h)]
 have e : a + ((s.drop a).length - (s.drop (ZT s a)).length) = ZT s a := by rw [<- skip_drop]; rfl
 rw [skip_drop, List.drop_drop, e]
theorem scan_c (hG1 : G 1 = spaceT) (s : List UInt8) (hs : s.length <= 1000000) : Go.Av.Pure Tryz.prog G 58 [WS s] (.tup [QW (tks (Zo s 0).1), .i (Zo s 0).2]) := fun B => by
 refine Qa Tryz.func58 rfl Tryz.ntmps58 rfl (t := [(0, WS s)]) rfl fun E hE => ?_
 (repeat' first | refine QN rfl ?_ | (refine Qk ?_; (first | refine Qi ?_ | refine QK rfl ?_)) | (refine Qj ?_; (first | refine Ql ?_ | refine Qb ?_ | refine Qe ?_)))
 refine r_own 4 2 rfl fun gO hgO => ?_
 refine r_loop3 (fun (o : List Tk) (a : Nat) (g : Nat) => ⟨[(0, WS s), (4, .ref 0 g 0 o.length 2), (5, .i a)], [.row g (Ws o)]⟩) (fun o a g => a <= s.length /\ o.length <= a /\ E.N < g /\ tks (Zo s 0).1 = o ++ tks (Zo (s.drop a) a).1 /\ (Zo s 0).2 = (Zo (s.drop a) a).2) (fun o a g => s.length - a) [] 0 gO ?_ ⟨by omega, by simp, hgO, by simp, by simp⟩ ?_
 ·exact zal rfl
 intro o a g ⟨ha, hoa, hg, h1, h2⟩
 obtain ⟨k1, k2⟩ := skip_le s a ha
 have htl := trimLeft_c (G := G) (s.drop a) [32, 10] (by decide) (by decide)
 have hdl : (s.drop a).length = s.length - a := List.length_drop
 have hdl2 : (s.drop (ZT s a)).length = s.length - ZT s a := List.length_drop
 have htr : Lib.trimLeftS (s.drop a) [32, 10] = s.drop (ZT s a) := skip_drop s a
 rw [htr] at htl
 have hat : (a : Int) + (((s.drop a).length : Int) - ((s.drop (ZT s a)).length : Int)) = (ZT s a : Nat) := by omega
 have hfc := first_c (G := G) hG1 (s.drop (ZT s a)) (by omega)
 have hfl := firstM_le (s.drop (ZT s a))
 by_cases ht : Zy (s.drop (ZT s a)) = []
 ·rw [scan_none ht] at h1 h2
  rw [ht] at hfc
  (repeat' first | (refine Qg ?_; (first | refine QJ rfl ?_ | refine QN rfl ?_ | refine Wx rfl rfl ?_ | refine WR rfl rfl (hfc) ?_ | refine s_sl rfl rfl ?_)) | (refine Qk ?_; (first | refine Qi ?_ | refine QK rfl ?_)) | (refine Qj ?_; (first | refine Ql ?_ | refine Qb ?_ | refine Qe ?_ | (refine WF ?_; first | refine Wm (by rfl) (by kernel_rfl) (by kernel_rfl) ?_ | refine Wl (by kernel_rfl) (by kernel_rfl) ?_) | refine Qq rfl ?_ | refine Qy ?_)) | (refine g_lex ?_; (first | refine x_op rfl (by (repeat' first | (refine Qg ?_; (first | refine QJ rfl ?_ | refine QN rfl ?_ | (refine Qo ?_; (first | refine s_add_as rfl rfl hat ⟨by omega, by omega⟩ ?_ | refine Zj rfl rfl (by omega) ?_)) | (refine Qt ?_; (first | refine Wn rfl ?_ | refine WR rfl rfl (htl) ?_)) | refine s_sl rfl rfl ?_)) | exact ⟨rfl, rfl⟩)) ?_ | refine x_nil ?_)))
  exact e_2 (Tryz.results58) (Qx rfl) (Qx rfl) (c_pub_fst rfl (by rw [QS]; try rfl) (QY (by rw [h1, h2]; simp [tks]; try rfl)))
 ·rw [scan_some ht] at h1 h2
  generalize htk : Zy (s.drop (ZT s a)) = t at *
  have htp : 0 < t.length := by cases t with | nil => exact absurd rfl ht | cons b r => simp
  have hat2 : (ZT s a : Int) + (t.length : Int) = (ZT s a + t.length : Nat) := by omega
  generalize ZT s a = a2 at *
  have hne : decide (t = []) = false := decide_eq_false ht
  (repeat' first | (refine Qg ?_; (first | refine QJ rfl ?_ | refine QN rfl ?_ | (refine Qo ?_; (first | refine s_add_as rfl rfl hat2 ⟨by omega, by omega⟩ ?_ | refine Wx rfl rfl ?_)) | (refine Qt ?_; (first | refine Zt (z := Tk.mk _ _) rfl rfl rfl rfl rfl rfl rfl (by first | omega | (simp; omega)) (by first | omega | (simp; omega)) (fun _ => rfl) (fun _ _ => ?_) | refine Wn rfl ?_ | refine WR rfl rfl (hfc) ?_)) | refine QA rfl rfl ?_ | refine Zk rfl rfl (by decide) rfl ?_ | refine s_sl rfl rfl ?_)) | (refine Qk ?_; (first | refine Qi ?_ | refine QK rfl ?_)) | (refine Qj ?_; (first | refine Ql ?_ | refine Qb ?_ | refine Qe ?_ | (refine WF ?_; first | refine Wm (by rfl) (by kernel_rfl) (by kernel_rfl) ?_ | refine Wl (by kernel_rfl) (by kernel_rfl) ?_) | refine QB ?_ | refine Qf rfl (by omega) ?_)) | (refine g_lex ?_; (first | refine x_op rfl (by (repeat' first | (refine Qg ?_; (first | refine QJ rfl ?_ | refine QN rfl ?_ | (refine Qo ?_; (first | refine s_add_as rfl rfl hat ⟨by omega, by omega⟩ ?_ | refine Zj rfl rfl (by omega) ?_)) | (refine Qt ?_; (first | refine Wn rfl ?_ | refine WR rfl rfl (htl) ?_)) | refine s_sl rfl rfl ?_)) | exact ⟨rfl, rfl⟩)) ?_ | refine x_nil ?_)))
  refine ⟨o ++ [Tk.mk t a2], a2 + t.length, _, ⟨by omega, by simp; omega, by assumption, by rw [h1]; simp [tks], h2⟩, by omega, ?_⟩
  exact zal rfl
end Go.Proofs
end
section
namespace Go.Av
open Go.Bl Go.Proofs
section
variable {P : Program} {G : Nat -> DV}
def CE (P : Program) (G : Nat -> DV) (f : FuncId) (aa : Nat -> Nat -> List DV) (cs : List DV) (res : DV) (cs' : List DV) : Prop :=
 ∀ g B, g <= B -> ACalls P G B f (aa 0 g) [.row g cs] (fun d' τ' => d' = res /\ τ' = [.row g cs'])
theorem CE.conv {f : FuncId} {aa : Nat -> Nat -> List DV} {cs cs' c2 : List DV} {res r2 : DV} (h : CE P G f aa cs res cs') (h1 : res = r2) (h2 : cs' = c2) : CE P G f aa cs r2 c2 := by subst h1; subst h2; exact h
def CO (P : Program) (G : Nat -> DV) (f : FuncId) (aa : Nat -> Nat -> List DV) (cs : List DV) (D : DV -> DV) (len es : Nat) (ks cs' : List DV) : Prop :=
 ∀ g B, g <= B -> ACalls P G B f (aa 0 g) [.row g cs] (fun d' τ' => ∃ g', B < g' /\ d' = D (.ref 1 g' 0 len es) /\ τ' = [.row g cs', .row g' ks])
variable {B : Nat} {f : Operand -> DV} {σ : List ABlk} {K : DV -> List ABlk -> Prop} {dst : Option Tmp} {type : TypeId} {pos : String} {after : Array Edge} {gd : Option (Nat × Bool)}
theorem CE.lift {fid : FuncId} {aa : Nat -> Nat -> List DV} {cs cs' : List DV} {res : DV} {k g : Nat} {es : List DV} {σ' : List ABlk} (h : CE P G fid aa cs res cs') (hes : es = aa k g) (hk : σ[k]? = some (.row g cs)) (hc : ∀ d ∈ cs, d.clo = true) (hc' : ∀ d ∈ cs', d.clo = true)
  (hargs : RenL (RenD (qf [k] σ.length)) (aa k g) (aa 0 g)) (hres : res.clo = true) (hσ' : ZO σ [k] [.row g cs'] = some σ') : ACalls P G B fid es σ (fun d τ => d = res /\ τ = σ') := by
 subst hes
 have hpick : pickA σ [k] = some [.row g cs] := by simp only [pickA, hk]
 obtain ⟨hp1, hp2⟩ := pickA_eq hpick
 refine ACalls.sub (R := fun B d' τ' => d' = res /\ τ' = [.row g cs']) hargs (by simp) rfl (fun i hi => ?_) (fun B' hB hg => h g B' (hg 0 _ _ rfl rfl)) ?_
 ·obtain ⟨b, e1, e2⟩ := hp2 i hi
  have hi2 : i = 0 := by simpa using hi
  subst hi2
  simp at e2
  exact ⟨b, .row g cs, e1, rfl, by rw [<- e2]; exact .rowc hc⟩
 ·rintro B' d' τ' hB ⟨rfl, rfl⟩
  exact ⟨d', σ', Out.of (.s (.clo hres)) (by simp) rfl (.cons (.rowc hc') .nil) hσ', rfl, rfl⟩
theorem s_call_ce {args : Array Operand} {ts : Array TypeId} {fid : FuncId} {aa : Nat -> Nat -> List DV} {cs cs' : List DV} {res : DV} {k g : Nat} {es : List DV} {σ' : List ABlk} [FnOk P fid] (h : CE P G fid aa cs res cs') (hx : f (.func fid) = .fn (.func fid) [] []) (hds : reL (args.toList.map f) = some es) (hes : es = aa k g) (hk : σ[k]? = some (.row g cs)) (hc : ∀ d ∈ cs, d.clo = true) (hc' : ∀ d ∈ cs', d.clo = true)
  (hargs : RenL (RenD (qf [k] σ.length)) (aa k g) (aa 0 g)) (hres : res.clo = true) (hσ' : ZO σ [k] [.row g cs'] = some σ') (kk : K res σ') :
  OpSem P G B ⟨dst, .call ⟨.value (.func fid), args, ts⟩, type, pos, after, gd⟩ f σ K := s_call hx hds ((h.lift hes hk hc hc' hargs hres hσ').mono fun _ _ ⟨e1, e2⟩ => by rw [e1, e2]; exact kk)
theorem s_callv_ce {x : Operand} {args : Array Operand} {ts : Array TypeId} {fid : FuncId} {first cap : List DV} {aa : Nat -> Nat -> List DV} {cs cs' : List DV} {res : DV} {k g : Nat} {es : List DV} {σ' : List ABlk} [FnOk P fid] (h : CE P G fid aa cs res cs') (hx : f x = .fn (.func fid) first cap) (hds : reL (first ++ args.toList.map f ++ cap) = some es) (hes : es = aa k g) (hk : σ[k]? = some (.row g cs)) (hc : ∀ d ∈ cs, d.clo = true) (hc' : ∀ d ∈ cs', d.clo = true)
  (hargs : RenL (RenD (qf [k] σ.length)) (aa k g) (aa 0 g)) (hres : res.clo = true) (hσ' : ZO σ [k] [.row g cs'] = some σ') (kk : K res σ') :
  OpSem P G B ⟨dst, .call ⟨.value x, args, ts⟩, type, pos, after, gd⟩ f σ K := s_callv hx hds ((h.lift hes hk hc hc' hargs hres hσ').mono fun _ _ ⟨e1, e2⟩ => by rw [e1, e2]; exact kk)
inductive FrmD : (DV -> DV) -> Prop
 | id : FrmD fun d => d
 | node {a b c : Value} : a.oneCell' = true -> b.oneCell' = true -> c.oneCell' = true -> FrmD fun d => .agg [.sc a, .sc b, .sc c, d]
theorem FrmD.ren {D : DV -> DV} (h : FrmD D) {q : Nat -> Nat} {d e : DV} (hr : RenS q d e) : RenD q (D d) (D e) := by
 cases h with
 | id => exact .s hr
 | node h1 h2 h3 => exact .agg (.cons (.clo Wh) (.cons (.clo Wh) (.cons (.clo Wh) (.cons hr .nil))))
theorem CO.lift {fid : FuncId} {aa : Nat -> Nat -> List DV} {cs cs' ks : List DV} {D : DV -> DV} {len es : Nat} {k g : Nat} {es0 : List DV} {σ' : List ABlk} (h : CO P G fid aa cs D len es ks cs') (hD : FrmD D) (hes : es0 = aa k g) (hk : σ[k]? = some (.row g cs)) (hc : ∀ d ∈ cs, d.clo = true) (hc' : ∀ d ∈ cs', d.clo = true) (hks : ∀ d ∈ ks, d.clo = true)
  (hargs : RenL (RenD (qf [k] σ.length)) (aa k g) (aa 0 g)) (hσ' : ZO σ [k] [.row g cs'] = some σ') : ACalls P G B fid es0 σ (fun d τ => ∃ g', B < g' /\ d = D (.ref σ.length g' 0 len es) /\ τ = σ' ++ [.row g' ks]) := by
 subst hes
 have hpick : pickA σ [k] = some [.row g cs] := by simp only [pickA, hk]
 obtain ⟨hp1, hp2⟩ := pickA_eq hpick
 obtain ⟨k1, k2, k3, k4⟩ := setAll_eq hσ' (by simp)
 refine ACalls.sub (R := fun B d' τ' => ∃ g', B < g' /\ d' = D (.ref 1 g' 0 len es) /\ τ' = [.row g cs', .row g' ks]) hargs (by simp) rfl (fun i hi => ?_) (fun B' hB hg => h g B' (hg 0 _ _ rfl rfl)) ?_
 ·obtain ⟨b, e1, e2⟩ := hp2 i hi
  have hi2 : i = 0 := by simpa using hi
  subst hi2
  simp at e2
  exact ⟨b, .row g cs, e1, rfl, by rw [<- e2]; exact .rowc hc⟩
 ·rintro B' d' τ' hB ⟨g', hg', rfl, rfl⟩
  have hkl : k < σ.length := (List.getElem?_eq_some_iff.1 hk).1
  refine ⟨D (.ref σ.length g' 0 len es), σ' ++ [.row g' ks], ⟨hD.ren (.ref (by rw [qf_out (by simp)]; rfl)), by simp, by simp; omega, fun j hj hj2 => ?_, fun i b hb => ?_⟩, g', by omega, rfl, rfl⟩
  ·rw [List.getElem?_append_left (by omega)]
   exact k3 j hj2
  ·match i with
   | 0 =>
    simp at hb; subst hb
    refine ⟨.row g cs', ?_, .rowc hc'⟩
    rw [qf_in (by simp), List.getElem?_append_left (by simp; omega)]
    exact k4 0 (by simp)
   | 1 =>
    simp at hb; subst hb
    refine ⟨.row g' ks, ?_, .rowc hks⟩
    rw [qf_out (by simp), List.getElem?_append_right (by simp; omega)]
    simp [k2]
   | i + 2 => simp at hb
theorem s_call_co {args : Array Operand} {ts : Array TypeId} {fid : FuncId} {aa : Nat -> Nat -> List DV} {cs cs' ks : List DV} {D : DV -> DV} {len es : Nat} {k g : Nat} {es0 : List DV} {σ' : List ABlk} [FnOk P fid] (h : CO P G fid aa cs D len es ks cs') (hD : FrmD D) (hx : f (.func fid) = .fn (.func fid) [] []) (hds : reL (args.toList.map f) = some es0) (hes : es0 = aa k g) (hk : σ[k]? = some (.row g cs)) (hc : ∀ d ∈ cs, d.clo = true) (hc' : ∀ d ∈ cs', d.clo = true) (hks : ∀ d ∈ ks, d.clo = true)
  (hargs : RenL (RenD (qf [k] σ.length)) (aa k g) (aa 0 g)) (hσ' : ZO σ [k] [.row g cs'] = some σ') (kk : ∀ g', B < g' -> K (D (.ref σ.length g' 0 len es)) (σ' ++ [.row g' ks])) :
  OpSem P G B ⟨dst, .call ⟨.value (.func fid), args, ts⟩, type, pos, after, gd⟩ f σ K := s_call hx hds ((h.lift hD hes hk hc hc' hks hargs hσ').mono fun _ _ ⟨g', hg, e1, e2⟩ => by rw [e1, e2]; exact kk g' hg)
variable {E : AX} {R R2 : DV -> List ABlk -> Prop}
theorem ACalls.close {f : FuncId} {args : List DV} {σ : List ABlk} {B : Nat} (h : ACalls P G B f args σ R) (k : ∀ E d σ', B <= E.N -> R d σ' -> AClose E R2 d σ') : ACalls P G B f args σ R2 := fun X vs hS hσ hB hG hv => by
 refine (h X vs hS hσ hB hG hv).mono ?_
 rintro e w' ⟨v, he, Y, hw, hY, hE, d', hr, hR⟩
 subst hw
 exact ⟨v, he, k X d' Y.σ hB hR Y v rfl hY hE hr⟩
theorem AClose.mono {d : DV} {σ : List ABlk} (h : AClose E R d σ) (k : ∀ d' σ', R d' σ' -> R2 d' σ') : AClose E R2 d σ := fun X v hσ hS hE hv => by
 obtain ⟨Y, e1, e2, e3, d', e4, e5⟩ := h X v hσ hS hE hv
 exact ⟨Y, e1, e2, e3, d', e4, k _ _ e5⟩
theorem FrmD.close {D : DV -> DV} (hD : FrmD D) {d : DV} {σ : List ABlk} (h : AClose E R d σ) (h1 : ∀ d0 σ', R d0 σ' -> d0.one = true) : AClose E (fun d' σ' => ∃ d0, R d0 σ' /\ d' = D d0) (D d) σ := by
 cases hD with
 | id => exact h.mono fun d' σ' hr => ⟨d', hr, rfl⟩
 | @node a b c ha hb hc =>
  intro X v hσ hS hE hv
  cases hv with | agg _ vs hl ho hg =>
  obtain ⟨Y, e1, e2, e3, d0, e4, e5⟩ := h X _ hσ hS hE (hg 3 _ rfl)
  have g0 := hg 0 _ rfl
  have g1 := hg 1 _ rfl
  have g2 := hg 2 _ rfl
  refine ⟨Y, e1, e2, e3, _, ?_, d0, e5, rfl⟩
  refine .agg _ _ hl (fun e he => ?_) fun j e hj => ?_
  ·simp only [List.mem_cons, List.not_mem_nil, or_false] at he
   rcases he with rfl | rfl | rfl | rfl
   ·exact ha
   ·exact hb
   ·exact hc
   ·exact h1 _ _ e5
  ·match j with
   | 0 => simp at hj; subst hj; generalize vs.getD 0 undef = w at g0 ⊢; cases g0; exact .sc _
   | 1 => simp at hj; subst hj; generalize vs.getD 1 undef = w at g1 ⊢; cases g1; exact .sc _
   | 2 => simp at hj; subst hj; generalize vs.getD 2 undef = w at g2 ⊢; cases g2; exact .sc _
   | 3 => simp at hj; subst hj; exact e4
   | j + 4 => simp at hj
theorem c_ce {g : Nat} {d res : DV} {cs' c2 : List DV} {r : List ABlk} (hd : d = res) (hc : c2 = cs') : AClose E (fun d' τ' => d' = res /\ τ' = [.row g cs']) d (.row g c2 :: r) := by
 subst hc
 exact WW (σ := [_]) ⟨hd, rfl⟩
theorem c_co {D D2 : DV -> DV} {B k g gk len len2 es es2 : Nat} {cs' c2 ks k2 : List DV} {r : List ABlk} (hD : FrmD D) (hB : B <= E.N) (hk1 : 1 <= k) (hk : (ABlk.row g c2 :: r)[k]? = some (.row gk k2)) (hDD : D2 = D) (hl : len2 = len) (he : es2 = es) (hks : k2 = ks) (hc : c2 = cs') :
  AClose E (fun d' τ' => ∃ g', B < g' /\ d' = D (.ref 1 g' 0 len es) /\ τ' = [.row g cs', .row g' ks]) (D2 (.ref k gk 0 len2 es2)) (.row g c2 :: r) := by
 subst hDD hl he hks hc
 refine (hD.close (c_own (m := 1) (R := fun d' τ' => ∃ g', B < g' /\ d' = .ref 1 g' 0 len2 es2 /\ τ' = [.row g c2, .row g' k2]) hk1 hk fun g' hg' => ⟨g', by omega, rfl, rfl⟩) ?_).mono ?_
 ·rintro d0 σ' ⟨g', _, rfl, _⟩; rfl
 ·rintro d' σ' ⟨d0, ⟨g', h1, rfl, h3⟩, rfl⟩
  exact ⟨g', h1, rfl, h3⟩
theorem c_nil1 {B g es : Nat} {c2 : List DV} {r : List ABlk} (hB : B <= E.N) : AClose E (fun d' τ' => ∃ g', B < g' /\ d' = .ref 1 g' 0 0 es /\ τ' = [.row g c2, .row g' []]) (.sc (.slice none 0 0)) (.row g c2 :: r) := fun X v hσ hS hE hv => by
 have hob : ∀ b nn, (none : Option (Nat × Nat)) = some (b, nn) -> X.w.heap.size <= b := fun _ _ h => by cases h
 have hEx := WExt.push hS (Keep.refl X.w) (B := .row (X.N + 1) []) rfl hob
 have hlen : X.σ.length = r.length + 1 := by rw [hσ]; rfl
 refine c_own (m := 1) (k := X.σ.length) (g := X.N + 1) (off := 0) (len := 0) (es := es) (cs := []) (σ := .row g c2 :: (r ++ [.row (X.N + 1) []])) (R := fun d' τ' => ∃ g', B < g' /\ d' = .ref 1 g' 0 0 es /\ τ' = [.row g c2, .row g' []]) (by omega) (by rw [hlen]; simp) (fun g' hg' => ⟨g', by omega, rfl, rfl⟩) (X.push X.w none (.row (X.N + 1) [])) v (by simp only [AX.push, hσ]; rfl) (hS.push (Keep.refl X.w) rfl hob rfl) (hE.trans hEx) ?_
 rw [VRep.sc_eq hv]
 refine .ref _ _ _ _ _ _ _ _ (Nat.le_refl _) fun ob hobb => ?_
 rw [AX.row_mk (AX.push_live.2 (.inr ⟨rfl, rfl⟩))] at hobb
 simp only [AX.push, if_true, Option.some.injEq] at hobb
 subst hobb
 exact ⟨rfl, rfl, rfl⟩
theorem c_co_nil {D D2 : DV -> DV} {B g len es : Nat} {cs' c2 ks : List DV} {r : List ABlk} (hD : FrmD D) (hB : B <= E.N) (hDD : D2 = D) (hl : len = 0) (hks : ks = []) (hc : c2 = cs') :
  AClose E (fun d' τ' => ∃ g', B < g' /\ d' = D (.ref 1 g' 0 len es) /\ τ' = [.row g cs', .row g' ks]) (D2 (.sc (.slice none 0 0))) (.row g c2 :: r) := by
 subst hDD hl hks hc
 refine (hD.close (c_nil1 (es := es) hB) ?_).mono ?_
 ·rintro d0 σ' ⟨g', _, rfl, _⟩; rfl
 ·rintro d' σ' ⟨d0, ⟨g', h1, rfl, h3⟩, rfl⟩
  exact ⟨g', h1, rfl, h3⟩
theorem CO.pub {fid : FuncId} {aa : Nat -> Nat -> List DV} {cs cs' ks : List DV} {D : DV -> DV} {len es : Nat} (h : CO P G fid aa cs D len es ks cs') (hD : FrmD D) (hl : len * es = ks.length) : CE P G fid aa cs (D (.sl es ks)) cs' := fun g B hg => by
 refine (h g B hg).close ?_
 rintro E d σ' hB ⟨g', hg', rfl, rfl⟩
 refine (hD.close (c_pub (k := 1) (g := g') (cs := ks) (R := fun d' τ' => d' = .sl es ks /\ τ' = [.row g cs']) rfl hl (WW (σ := [.row g cs']) (r := [.gone]) ⟨rfl, rfl⟩)) ?_).mono ?_
 ·rintro d0 σ' ⟨rfl, _⟩; rfl
 ·rintro d' σ' ⟨d0, ⟨rfl, h3⟩, rfl⟩
  exact ⟨rfl, h3⟩
end
section
theorem Q4 (k : Nat) {P : Program} {G : Nat -> DV} {B : Nat} {f : Operand -> DV} {σ : List ABlk} {K : DV -> List ABlk -> Prop} {dst : Option Tmp} {type : TypeId} {pos : String} {after : Array Edge} {gd : Option (Nat × Bool)} {args : Array Operand} {ts : Array TypeId} {fid : FuncId} {aa : Nat -> Nat -> List DV} {cs cs' : List DV} {res : DV} {g : Nat} {es : List DV} {σ' : List ABlk} [FnOk P fid] (h : CE P G fid aa cs res cs') (hx : f (.func fid) = .fn (.func fid) [] []) (hds : reL (args.toList.map f) = some es) (hes : es = aa k g) (hk : σ[k]? = some (.row g cs)) (kk : K res σ') (hc : ∀ d ∈ cs, d.clo = true := by repeat' first | exact W0 | refine Wp ?_ ?_ | exact Wh | exact Wu _ | exact Wt (QC _)) (hc' : ∀ d ∈ cs', d.clo = true := by repeat' first | exact W0 | refine Wp ?_ ?_ | exact Wh | exact Wu _ | exact Wt (QC _))
  (hargs : RenL (RenD (qf [k] σ.length)) (aa k g) (aa 0 g) := by repeat' first | exact .nil | refine .cons ?_ ?_ | exact .s (.mp rfl) | exact .s (.ptr rfl) | exact .s (.ref rfl) | exact .fn (by repeat' first | exact .nil | refine .cons ?_ ?_ | exact .ptr rfl | exact .mp rfl | exact .clo Wh) (by repeat' first | exact .nil | refine .cons ?_ ?_ | exact .ptr rfl | exact .mp rfl | exact .clo Wh) | exact .s (.clo (by (repeat' first | exact Enc.clo _ | exact Wh | exact Wu _ | exact Wt (QC _) | exact QC _ | refine ZI ?_ ?_ | refine Zu ?_ | refine WV ?_ | refine WK ?_ | exact W0 | refine Wp ?_ ?_ | refine Wt ?_); done))) (hres : res.clo = true := by (repeat' first | exact Enc.clo _ | exact Wh | exact Wu _ | exact Wt (QC _) | exact QC _ | refine ZI ?_ ?_ | refine Zu ?_ | refine WV ?_ | refine WK ?_ | exact W0 | refine Wp ?_ ?_ | refine Wt ?_); done) (hσ' : ZO σ [k] [.row g cs'] = some σ' := by rfl) :
  OpSem P G B ⟨dst, .call ⟨.value (.func fid), args, ts⟩, type, pos, after, gd⟩ f σ K := s_call_ce h hx hds hes hk hc hc' hargs hres hσ' kk
theorem s_co (k : Nat) {P : Program} {G : Nat -> DV} {B : Nat} {f : Operand -> DV} {σ : List ABlk} {K : DV -> List ABlk -> Prop} {dst : Option Tmp} {type : TypeId} {pos : String} {after : Array Edge} {gd : Option (Nat × Bool)} {args : Array Operand} {ts : Array TypeId} {fid : FuncId} {aa : Nat -> Nat -> List DV} {cs cs' ks : List DV} {D : DV -> DV} {len es : Nat} {g : Nat} {es0 : List DV} {σ' : List ABlk} [FnOk P fid] (h : CO P G fid aa cs D len es ks cs') (hD : FrmD D) (hx : f (.func fid) = .fn (.func fid) [] []) (hds : reL (args.toList.map f) = some es0) (hes : es0 = aa k g) (hk : σ[k]? = some (.row g cs)) (hks : ∀ d ∈ ks, d.clo = true) (kk : ∀ g', B < g' -> K (D (.ref σ.length g' 0 len es)) (σ' ++ [.row g' ks])) (hc : ∀ d ∈ cs, d.clo = true := by repeat' first | exact W0 | refine Wp ?_ ?_ | exact Wh | exact Wu _ | exact Wt (QC _)) (hc' : ∀ d ∈ cs', d.clo = true := by repeat' first | exact W0 | refine Wp ?_ ?_ | exact Wh | exact Wu _ | exact Wt (QC _))
  (hargs : RenL (RenD (qf [k] σ.length)) (aa k g) (aa 0 g) := by repeat' first | exact .nil | refine .cons ?_ ?_ | exact .s (.mp rfl) | exact .s (.ptr rfl) | exact .s (.ref rfl) | exact .fn (by repeat' first | exact .nil | refine .cons ?_ ?_ | exact .ptr rfl | exact .mp rfl | exact .clo Wh) (by repeat' first | exact .nil | refine .cons ?_ ?_ | exact .ptr rfl | exact .mp rfl | exact .clo Wh) | exact .s (.clo (by (repeat' first | exact Enc.clo _ | exact Wh | exact Wu _ | exact Wt (QC _) | exact QC _ | refine ZI ?_ ?_ | refine Zu ?_ | refine WV ?_ | refine WK ?_ | exact W0 | refine Wp ?_ ?_ | refine Wt ?_); done))) (hσ' : ZO σ [k] [.row g cs'] = some σ' := by rfl) :
  OpSem P G B ⟨dst, .call ⟨.value (.func fid), args, ts⟩, type, pos, after, gd⟩ f σ K := s_call_co h hD hx hds hes hk hc hc' hks hargs hσ' kk
end
end Go.Av
end
section
namespace Go.Proofs
open Go.Av
variable {G : Nat -> DV}
attribute [local irreducible] OpSem Za Zv qc ACalls AEnd AClose RV
open Go.Bl
abbrev rdC (L : Zq) (S : RS) : List DV := [QW (tks L), .i S.p, .i (badI S)]
theorem tks_get {L : Zq} {i : Nat} (h : i < L.length) : (tks L)[i]'(by simpa [tks] using h) = ⟨L[i].1, L[i].2⟩ := by simp [tks]
theorem ZQ (L : Zq) (S : RS) (hL : OkL L) : CE Tryz.prog G 106 (fun p g => [.ptr p g 0]) (rdC L S) (WS (QV L S)) (rdC L S) := fun g B hg => by
 have htl : (tks L).length = L.length := by simp [tks]
 obtain ⟨p, bad⟩ := S
 unfold QV rdC badI
 cases bad with
 | true =>
  simp only [if_true]
  refine Qa Tryz.func106 rfl Tryz.ntmps106 rfl (t := [(0, .ptr 0 g 0)]) rfl fun E hE => ?_
  (repeat' first | refine QN rfl ?_ | (refine Qk ?_; (first | refine Qi ?_ | refine QK rfl ?_)) | (refine Qj ?_; (first | refine Ql ?_ | refine Qb ?_ | (refine WF ?_; first | refine Wm (by rfl) (by kernel_rfl) (by kernel_rfl) ?_ | refine Wl (by kernel_rfl) (by kernel_rfl) ?_) | refine Qq rfl ?_ | refine Qy ?_)) | (refine g_lex ?_; (first | refine x_gn rfl rfl rfl rfl ?_ | refine x_op rfl (by (repeat' first | (refine Qg ?_; (first | refine QJ rfl ?_ | refine Qc rfl rfl rfl ?_ | refine W4 rfl rfl ?_ | refine W1 rfl rfl ?_ | refine Qd rfl rfl ?_ | refine Qp rfl rfl ?_)) | exact ⟨rfl, rfl⟩)) ?_ | refine x_nil ?_)))
  exact e_1 (Tryz.results106) (Qx rfl) (c_ce rfl rfl)
 | false =>
  simp only [Bool.false_eq_true, if_false]
  by_cases hp : p < L.length
  ·have hp2 : p < (tks L).length := by omega
   have hgt : (L.getD p ([], 0)).1 = (tks L)[p].t := by rw [tks_get hp, List.getD_eq_getElem?_getD, List.getElem?_eq_getElem hp]; rfl
   rw [hgt]
   refine Qa Tryz.func106 rfl Tryz.ntmps106 rfl (t := [(0, .ptr 0 g 0)]) rfl fun E hE => ?_
   (repeat' first | refine QN rfl ?_ | (refine Qk ?_; (first | refine Qi ?_ | refine QK rfl ?_)) | (refine Qj ?_; (first | refine Ql ?_ | refine Qb ?_ | (refine WF ?_; first | refine Wm (by rfl) (by kernel_rfl) (by kernel_rfl) ?_ | refine Wl (by kernel_rfl) (by kernel_rfl) ?_) | refine QB ?_ | refine Qf rfl (by omega) ?_ | refine Qy ?_)) | (refine g_lex ?_; (first | refine x_op rfl (by (repeat' first | (refine Qg ?_; (first | refine QJ rfl ?_ | refine QN rfl ?_ | (refine QG ?_; (first | refine Wa rfl ?_ | refine Qc rfl rfl rfl ?_)) | refine QM rfl rfl (by first | assumption | omega | (simp; done) | (simp; omega)) ?_ | refine W4 rfl rfl ?_ | refine QI rfl ?_ | refine WO rfl rfl ?_ | (refine g_fieldAddr ?_; (first | refine Qd rfl rfl ?_ | refine s_fld_ep rfl rfl ?_)) | refine Qp rfl rfl ?_)) | exact ⟨rfl, rfl⟩)) ?_ | refine x_gy rfl rfl rfl rfl (by (repeat' first | (refine Qg ?_; (first | refine QJ rfl ?_ | refine QN rfl ?_ | (refine QG ?_; (first | refine Wa rfl ?_ | refine Qc rfl rfl rfl ?_)) | refine QM rfl rfl (by first | assumption | omega | (simp; done) | (simp; omega)) ?_ | refine W4 rfl rfl ?_ | refine QI rfl ?_ | refine WO rfl rfl ?_ | (refine g_fieldAddr ?_; (first | refine Qd rfl rfl ?_ | refine s_fld_ep rfl rfl ?_)) | refine Qp rfl rfl ?_)) | exact ⟨rfl, rfl⟩)) ?_ | refine x_nil ?_)))
   exact e_1 (Tryz.results106) (Qx rfl) (c_ce rfl rfl)
  ·have hgt : (L.getD p ([], 0)).1 = [] := by rw [List.getD_eq_getElem?_getD, List.getElem?_eq_none (by omega)]; rfl
   rw [hgt]
   refine Qa Tryz.func106 rfl Tryz.ntmps106 rfl (t := [(0, .ptr 0 g 0)]) rfl fun E hE => ?_
   (repeat' first | refine QN rfl ?_ | (refine Qk ?_; (first | refine Qi ?_ | refine QK rfl ?_)) | (refine Qj ?_; (first | refine Ql ?_ | refine Qb ?_ | (refine WF ?_; first | refine Wm (by rfl) (by kernel_rfl) (by kernel_rfl) ?_ | refine Wl (by kernel_rfl) (by kernel_rfl) ?_) | refine Qm rfl (by omega) ?_ | refine Qy ?_)) | (refine g_lex ?_; (first | refine x_op rfl (by (repeat' first | (refine Qg ?_; (first | refine QJ rfl ?_ | refine Qc rfl rfl rfl ?_ | refine W4 rfl rfl ?_ | refine QI rfl ?_ | refine WO rfl rfl ?_ | refine Qd rfl rfl ?_ | refine Qp rfl rfl ?_)) | exact ⟨rfl, rfl⟩)) ?_ | refine x_gy rfl rfl rfl rfl (by (repeat' first | (refine Qg ?_; (first | refine QJ rfl ?_ | refine Qc rfl rfl rfl ?_ | refine W4 rfl rfl ?_ | refine QI rfl ?_ | refine WO rfl rfl ?_ | refine Qd rfl rfl ?_ | refine Qp rfl rfl ?_)) | exact ⟨rfl, rfl⟩)) ?_ | refine x_nil ?_)))
   exact e_1 (Tryz.results106) (Qx rfl) (c_ce rfl rfl)
theorem fail_c (L : Zq) (S : RS) : CE Tryz.prog G 105 (fun p g => [.ptr p g 0]) (rdC L S) (.tup []) (rdC L (WQ S)) := fun g B hg => by
 obtain ⟨p, bad⟩ := S
 unfold WQ rdC badI
 cases bad with
 | true =>
  simp only [if_true]
  refine Qa Tryz.func105 rfl Tryz.ntmps105 rfl (t := [(0, .ptr 0 g 0)]) rfl fun E hE => ?_
  (repeat' first | (refine Qg ?_; (first | refine QJ rfl ?_ | refine Qc rfl rfl rfl ?_ | refine QX rfl rfl ?_ | refine Qd rfl rfl ?_ | refine Qp rfl rfl ?_)) | (refine Qk ?_; (first | refine Qi ?_ | refine QK rfl ?_)) | (refine Qj ?_; (first | refine Ql ?_ | refine Qb ?_ | refine QB ?_ | refine Qs rfl ?_)))
  exact e_0 (Tryz.results105) (c_ce rfl rfl)
 | false =>
  simp only [Bool.false_eq_true, if_false, if_true]
  refine Qa Tryz.func105 rfl Tryz.ntmps105 rfl (t := [(0, .ptr 0 g 0)]) rfl fun E hE => ?_
  (repeat' first | (refine Qg ?_; (first | refine QJ rfl ?_ | refine Qc rfl rfl rfl ?_ | refine QX rfl rfl ?_ | refine Qd rfl rfl ?_ | refine QZ rfl rfl rfl rfl (by rfl) (by rfl) (by rfl) ?_ | refine Qp rfl rfl ?_)) | (refine Qk ?_; (first | refine Qi ?_ | refine QK rfl ?_ | refine QR ?_)) | (refine Qj ?_; (first | refine Ql ?_ | refine Qb ?_ | refine Qq rfl ?_)))
  exact e_0 (Tryz.results105) (c_ce rfl rfl)
theorem next_cells {L : Zq} {S : RS} (h : S.bad = false) : [QW (tks L), .i ((S.p : Int) + 1), .i (badI S)] = rdC L (Qn S) := by
 unfold rdC Qn badI; simp [h]
theorem have_c (L : Zq) (S : RS) (hL : OkL L) (s : List UInt8) (hs0 : s ≠ []) : CE Tryz.prog G 104 (fun p g => [.ptr p g 0, WS s]) (rdC L S) (.b (haveM L s S).1) (rdC L (haveM L s S).2) := fun g B hg => by
 unfold haveM
 by_cases h : QV L S = s
 ·obtain ⟨h1, h2, h3⟩ := now_at (L := L) (S := S) (by rw [h]; exact hs0)
  have hd : decide (QV L S = s) = true := decide_eq_true h
  have hb := hL.1
  rw [if_pos h, <- next_cells h1]
  refine Qa Tryz.func104 rfl Tryz.ntmps104 rfl (t := [(0, .ptr 0 g 0), (1, WS s)]) rfl fun E hE => ?_
  (repeat' first | (refine Qg ?_; (first | refine QJ rfl ?_ | refine QN rfl ?_ | refine Qc rfl rfl rfl ?_ | (refine Qo ?_; (first | refine Wx rfl rfl ?_ | refine W3 rfl rfl (by omega) ?_)) | refine Q4 0 (ZQ L S hL) rfl rfl rfl rfl ?_ | refine Qd rfl rfl ?_ | refine QZ rfl rfl rfl rfl (by rfl) (by rfl) (by rfl) ?_ | refine Qp rfl rfl ?_)) | (refine Qk ?_; (first | refine Qi ?_ | refine QK rfl ?_ | refine QR ?_)) | (refine Qj ?_; (first | refine Ql ?_ | refine Qb ?_ | refine Qm rfl (by omega) ?_ | refine Qy ?_)))
  exact e_1 (Tryz.results104) (Qx rfl) (c_ce (by rw [hd]) rfl)
 ·have hd : decide (QV L S = s) = false := decide_eq_false h
  rw [if_neg h]
  refine Qa Tryz.func104 rfl Tryz.ntmps104 rfl (t := [(0, .ptr 0 g 0), (1, WS s)]) rfl fun E hE => ?_
  (repeat' first | (refine Qg ?_; (first | refine QJ rfl ?_ | refine QN rfl ?_ | refine Wx rfl rfl ?_ | refine Q4 0 (ZQ L S hL) rfl rfl rfl rfl ?_)) | (refine Qk ?_; (first | refine Qi ?_ | refine QK rfl ?_)) | (refine Qj ?_; (first | refine Ql ?_ | refine Qb ?_ | refine QB ?_ | refine Qf rfl (by omega) ?_ | refine Qy ?_)))
  exact e_1 (Tryz.results104) (Qx rfl) (c_ce (by rw [hd]) rfl)
theorem take_c (L : Zq) (S : RS) (hL : OkL L) (s : List UInt8) (hs0 : s ≠ []) : CE Tryz.prog G 59 (fun p g => [.ptr p g 0, WS s]) (rdC L S) (.tup []) (rdC L (QU L s S)) := fun g B hg => by
 have hv := have_c (G := G) L S hL s hs0
 unfold QU
 unfold haveM at hv
 by_cases h : QV L S = s
 ·rw [if_pos h] at hv ⊢
  refine Qa Tryz.func59 rfl Tryz.ntmps59 rfl (t := [(0, .ptr 0 g 0), (1, WS s)]) rfl fun E hE => ?_
  (repeat' first | (refine Qg ?_; (first | refine QJ rfl ?_ | refine Q4 0 (hv) rfl rfl rfl rfl ?_ | refine W2 rfl ?_)) | (refine Qk ?_; (first | refine Qi ?_ | refine QK rfl ?_)) | (refine Qj ?_; (first | refine Ql ?_ | refine Qb ?_ | refine QB ?_ | refine Qs rfl ?_)))
  exact e_0 (Tryz.results59) (c_ce rfl rfl)
 ·rw [if_neg h] at hv ⊢
  refine Qa Tryz.func59 rfl Tryz.ntmps59 rfl (t := [(0, .ptr 0 g 0), (1, WS s)]) rfl fun E hE => ?_
  (repeat' first | (refine Qg ?_; (first | refine QJ rfl ?_ | (refine Qt ?_; (first | refine Q4 0 (fail_c L S) rfl rfl rfl rfl ?_ | refine Q4 0 (hv) rfl rfl rfl rfl ?_)) | refine W2 rfl ?_)) | (refine Qk ?_; (first | refine Qi ?_ | refine QK rfl ?_)) | (refine Qj ?_; (first | refine Ql ?_ | refine Qb ?_ | refine Qq rfl ?_)))
  exact e_0 (Tryz.results59) (c_ce rfl rfl)
theorem qj (L : Zq) (S : RS) (hL : OkL L) : CE Tryz.prog G 60 (fun p g => [.ptr p g 0]) (rdC L S) (.i (Qw L S).1) (rdC L (Qw L S).2) := fun g B hg => by
 have htn2 := tnum_c (G := G) (QV L S) (now_len hL S)
 unfold Qw
 by_cases h : numB (QV L S) = true
 ·obtain ⟨h1, h2, h3⟩ := now_at (numB_ne h)
  obtain ⟨v1, v2, v3⟩ := val_num h
  have hlen : (QV L S).length <= 18 := by unfold numB at h; simp only [Bool.and_eq_true, decide_eq_true_eq] at h; omega
  have hao := atoi_c (G := G) (QV L S) (valM (QV L S)) hlen v1
  have hb := hL.1
  rw [if_pos h, <- next_cells h1]
  rw [h] at htn2
  refine Qa Tryz.func60 rfl Tryz.ntmps60 rfl (t := [(0, .ptr 0 g 0)]) rfl fun E hE => ?_
  (repeat' first | (refine Qg ?_; (first | refine QJ rfl ?_ | refine QN rfl ?_ | refine Qc rfl rfl rfl ?_ | refine W3 rfl rfl (by omega) ?_ | (refine Qt ?_; (first | refine WR rfl rfl (htn2) ?_ | refine WR rfl rfl (hao) ?_ | refine Q4 0 (ZQ L S hL) rfl rfl rfl rfl ?_)) | refine W2 rfl ?_ | refine Qd rfl rfl ?_ | refine ZP rfl rfl rfl ?_ | refine QZ rfl rfl rfl rfl (by rfl) (by rfl) (by rfl) ?_ | refine Qp rfl rfl ?_)) | (refine Qk ?_; (first | refine Qi ?_ | refine QK rfl ?_ | refine QR ?_)) | (refine Qj ?_; (first | refine Ql ?_ | refine Qb ?_ | refine QB ?_ | refine Qs rfl ?_ | refine Qy ?_)))
  exact e_1 (Tryz.results60) (Qx rfl) (c_ce rfl rfl)
 ·rw [if_neg h]
  rw [show numB (QV L S) = false by simpa using h] at htn2
  refine Qa Tryz.func60 rfl Tryz.ntmps60 rfl (t := [(0, .ptr 0 g 0)]) rfl fun E hE => ?_
  (repeat' first | (refine Qg ?_; (first | refine QJ rfl ?_ | refine QN rfl ?_ | (refine Qt ?_; (first | refine WR rfl rfl (htn2) ?_ | refine Q4 0 (ZQ L S hL) rfl rfl rfl rfl ?_ | refine Q4 0 (fail_c L S) rfl rfl rfl rfl ?_)) | refine W2 rfl ?_)) | (refine Qk ?_; (first | refine Qi ?_ | refine QK rfl ?_)) | (refine Qj ?_; (first | refine Ql ?_ | refine Qb ?_ | refine Qq rfl ?_ | refine Qy ?_)))
  exact e_1 (Tryz.results60) (Qx rfl) (c_ce rfl rfl)
theorem is_c (L : Zq) (S : RS) (hL : OkL L) (c : UInt8) : CE Tryz.prog G 177 (fun p g => [.ptr p g 0, WS [c]]) (rdC L S) (.b (isM L c S)) (rdC L S) := fun g B hg => by
 have hcut := cutPrefix_c (G := G) (QV L S) [c]
 have hnl := now_len hL S
 unfold isM
 by_cases h : Lib.hasPrefix (QV L S) [c] = true
 ·rw [show Lib.trimPrefix (QV L S) [c] = (QV L S).drop 1 by unfold Lib.trimPrefix; rw [if_pos h]; rfl, h] at hcut
  have htn2 := tnum_c (G := G) ((QV L S).drop 1) (by rw [List.length_drop]; omega)
  refine Qa Tryz.func177 rfl Tryz.ntmps177 rfl (t := [(0, .ptr 0 g 0), (1, WS [c])]) rfl fun E hE => ?_
  (repeat' first | (refine Qg ?_; (first | refine QJ rfl ?_ | refine QN rfl ?_ | (refine Qt ?_; (first | refine WR rfl rfl (hcut) ?_ | refine WR rfl rfl (htn2) ?_ | refine Q4 0 (ZQ L S hL) rfl rfl rfl rfl ?_)) | refine W1 rfl rfl ?_ | refine ZP rfl rfl rfl ?_)) | (refine Qk ?_; (first | refine Qi ?_ | refine QK rfl ?_ | refine WM rfl rfl rfl rfl ?_)) | (refine Qj ?_; (first | refine Ql ?_ | refine Qb ?_ | refine Qy ?_)))
  exact e_1 (Tryz.results177) (Qx rfl) (c_ce (by rw [h]; simp) rfl)
 ·have h2 : Lib.hasPrefix (QV L S) [c] = false := by simpa using h
  rw [h2] at hcut
  refine Qa Tryz.func177 rfl Tryz.ntmps177 rfl (t := [(0, .ptr 0 g 0), (1, WS [c])]) rfl fun E hE => ?_
  (repeat' first | (refine Qg ?_; (first | refine QJ rfl ?_ | refine QN rfl ?_ | (refine Qt ?_; (first | refine WR rfl rfl (hcut) ?_ | refine Q4 0 (ZQ L S hL) rfl rfl rfl rfl ?_)) | refine WO rfl rfl ?_ | refine ZP rfl rfl rfl ?_)) | (refine Qk ?_; (first | refine Qi ?_ | refine QK rfl ?_ | refine W7 rfl rfl rfl rfl ?_)) | (refine Qj ?_; (first | refine Ql ?_ | refine Qb ?_ | refine Qy ?_)))
  exact e_1 (Tryz.results177) (Qx rfl) (c_ce (by rw [h2]; simp) rfl)
theorem is_now {L : Zq} {S : RS} {c : UInt8} (h : isM L c S = true) : QV L S ≠ [] /\ numB ((QV L S).drop 1) = true /\ 1 <= (QV L S).length := by
 unfold isM at h
 simp only [Bool.and_eq_true] at h
 have h1 : 1 <= (QV L S).length := (List.isPrefixOf_iff_prefix.1 h.1).length_le
 exact ⟨fun e => by rw [e] at h1; simp at h1, h.2, h1⟩
theorem numbered_c (L : Zq) (S : RS) (hL : OkL L) (c : UInt8) : CE Tryz.prog G 179 (fun p g => [.ptr p g 0, WS [c]]) (rdC L S) (.i (Qh L c S).1) (rdC L (Qh L c S).2) := fun g B hg => by
 have his := is_c (G := G) L S hL c
 unfold Qh
 by_cases h : isM L c S = true
 ·obtain ⟨e1, e2, e3⟩ := is_now h
  obtain ⟨h1, h2, h3⟩ := now_at e1
  obtain ⟨v1, v2, v3⟩ := val_num e2
  have hlen : ((QV L S).drop 1).length <= 18 := by unfold numB at e2; simp only [Bool.and_eq_true, decide_eq_true_eq] at e2; omega
  have hao := atoi_c (G := G) ((QV L S).drop 1) (valM ((QV L S).drop 1)) hlen v1
  have hb := hL.1
  rw [if_pos h, <- next_cells h1]
  rw [h] at his
  refine Qa Tryz.func179 rfl Tryz.ntmps179 rfl (t := [(0, .ptr 0 g 0), (1, WS [c])]) rfl fun E hE => ?_
  (repeat' first | (refine Qg ?_; (first | refine QJ rfl ?_ | refine QN rfl ?_ | refine Qc rfl rfl rfl ?_ | refine W3 rfl rfl (by omega) ?_ | (refine Qt ?_; (first | refine WR rfl rfl (hao) ?_ | refine Q4 0 (ZQ L S hL) rfl rfl rfl rfl ?_ | refine Q4 0 (his) rfl rfl rfl rfl ?_)) | refine W2 rfl ?_ | refine Qd rfl rfl ?_ | refine ZP rfl rfl rfl ?_ | refine QZ rfl rfl rfl rfl (by rfl) (by rfl) (by rfl) ?_ | refine s_sl rfl rfl ?_ | refine Qp rfl rfl ?_)) | (refine Qk ?_; (first | refine Qi ?_ | refine QK rfl ?_ | refine QR ?_)) | (refine Qj ?_; (first | refine Ql ?_ | refine Qb ?_ | refine QB ?_ | refine Qs rfl ?_ | refine Qy ?_)))
  exact e_1 (Tryz.results179) (Qx rfl) (c_ce rfl rfl)
 ·rw [if_neg h]
  rw [show isM L c S = false by simpa using h] at his
  refine Qa Tryz.func179 rfl Tryz.ntmps179 rfl (t := [(0, .ptr 0 g 0), (1, WS [c])]) rfl fun E hE => ?_
  (repeat' first | (refine Qg ?_; (first | refine QJ rfl ?_ | refine QN rfl ?_ | (refine Qt ?_; (first | refine Q4 0 (fail_c L S) rfl rfl rfl rfl ?_ | refine Q4 0 (his) rfl rfl rfl rfl ?_)) | refine W2 rfl ?_)) | (refine Qk ?_; (first | refine Qi ?_ | refine QK rfl ?_)) | (refine Qj ?_; (first | refine Ql ?_ | refine Qb ?_ | refine Qq rfl ?_ | refine Qy ?_)))
  exact e_1 (Tryz.results179) (Qx rfl) (c_ce rfl rfl)
section
variable {P : Program} {G : Nat -> DV} {B : Nat} {f : Operand -> DV} {σ : List ABlk} {K : DV -> List ABlk -> Prop} {dst : Option Tmp} {type : TypeId} {pos : String} {after : Array Edge} {gd : Option (Nat × Bool)}
theorem s_bslice_own1 {α : Type} [Enc α] {z : α} {t e : Nat} {g1 g2 : Bool} {z1 : Nat} {td : TypeDesc} {zs : List Value} {ps : List (Nat × Operand)} [ht : TyI P t (.slice e) g1 z1] [he : TyI P e td g2 (Enc.es α)] [hz : TyZ P e zs] (hzl : zs.length = Enc.es α) (hp : partsD f ps = some [(0, .agg (Enc.enc z))]) (hn : Nat.ble (Enc.es α) 16777216 = true) (hl : Nat.blt 0 (Enc.es α) = true)
  (k : ∀ g, B < g -> K (.ref σ.length g 0 1 (Enc.es α)) (σ ++ [.row g (Ws [z])])) : OpSem P G B ⟨dst, .buildSlice t 1 ps.toArray, type, pos, after, gd⟩ f σ K := by
 have e1 : Ws [z] = Enc.enc z := by simp [Ws]
 refine s_bslice_own (cs := Enc.enc z) hzl hp (by simpa using hn) (fill_one hzl (Enc.len z) (by simpa using hl)) (by rw [Enc.len]; omega) fun g hg => ?_
 have := k g hg
 rwa [e1] at this
end
def rM (L : Zq) (S : RS) : Nat := if S.bad = true then 0 else L.length - S.p
theorem WE {L : Zq} {S : RS} {s : List UInt8} (h : QV L S = s) (hs : s ≠ []) : rM L (Qn S) + 1 = rM L S /\ S.bad = false := by
 obtain ⟨h1, h2, h3⟩ := now_at (L := L) (S := S) (by rw [h]; exact hs)
 unfold rM Qn
 simp only [h1]
 constructor
 ·simp; omega
 ·trivial
theorem Z6 {L : Zq} {S : RS} : rM L (WQ S) = 0 := by unfold rM WQ; simp
theorem rM_take {L : Zq} {S : RS} (s : List UInt8) (hs : s ≠ []) : rM L (QU L s S) <= rM L S := by
 unfold QU
 split
 ·have := (WE (by assumption) hs).1; omega
 ·rw [Z6]; omega
def ElC (G : Nat -> DV) (F : FuncId) (L : Zq) (E : Rd1) (r0 : Nat) : Prop := ∀ S, rM L S <= r0 -> CE Tryz.prog G F (fun p g => [.ptr p g 0]) (rdC L S) (.agg (Enc.enc (E S).1)) (rdC L (E S).2) /\ rM L (E S).2 <= rM L S
theorem list_rc (F : FuncId) [FnOk Tryz.prog F] (L : Zq) (E : Rd1) (r0 k : Nat) (hL : OkL L) (hE : ElC G F L E r0) (S : RS) (hr : rM L S <= r0) (hk : rM L S + 1 <= k) :
  CO Tryz.prog G 151 (fun p g => [.ptr p g 0, .fn (.func F) [.ptr p g 0] []]) (rdC L S) (fun d => d) (Zx L E k S).1.length 4 (Ws (Zx L E k S).1) (rdC L (Zx L E k S).2) := fun g B hg => by
 obtain ⟨hE0, hrE⟩ := hE S hr
 unfold Zx
 generalize hx0 : (E S).1 = hd1 at *
 generalize hS1 : (E S).2 = S1 at *
 refine Qa Tryz.func151 rfl Tryz.ntmps151 rfl (t := [(0, .ptr 0 g 0), (1, .fn (.func F) [.ptr 0 g 0] [])]) rfl fun E0 hE1 => ?_
 (repeat' first | (refine Qg ?_; (first | refine QJ rfl ?_ | refine QN rfl ?_ | refine s_callv_ce (k := 0) (hE0) rfl rfl rfl rfl (by repeat' first | exact W0 | refine Wp ?_ ?_ | exact Wh | exact Wu _ | exact Wt (QC _)) (by repeat' first | exact W0 | refine Wp ?_ ?_ | exact Wh | exact Wu _ | exact Wt (QC _)) (by repeat' first | exact .nil | refine .cons ?_ ?_ | exact .s (.mp rfl) | exact .s (.ptr rfl) | exact .s (.ref rfl) | exact .fn (by repeat' first | exact .nil | refine .cons ?_ ?_ | exact .ptr rfl | exact .mp rfl | exact .clo Wh) (by repeat' first | exact .nil | refine .cons ?_ ?_ | exact .ptr rfl | exact .mp rfl | exact .clo Wh) | exact .s (.clo (by (repeat' first | exact Enc.clo _ | exact Wh | exact Wu _ | exact Wt (QC _) | exact QC _ | refine ZI ?_ ?_ | refine Zu ?_ | refine WV ?_ | refine WK ?_ | exact W0 | refine Wp ?_ ?_ | refine Wt ?_); done))) (by (repeat' first | exact Enc.clo _ | exact Wh | exact Wu _ | exact Wt (QC _) | exact QC _ | refine ZI ?_ ?_ | refine Zu ?_ | refine WV ?_ | refine WK ?_ | exact W0 | refine Wp ?_ ?_ | refine Wt ?_); done) (by rfl) ?_ | refine s_bslice_own1 (z := hd1) rfl rfl rfl rfl (fun _ _ => ?_))) | (refine Qk ?_; (first | refine Qi ?_ | refine QK rfl ?_)) | (refine Qj ?_; (first | refine Ql ?_ | refine Qb ?_ | refine Qe ?_)))
 rename_i g1 hg1
 have hr1000 : rM L S <= 1000000 := by unfold rM; split <;> have := hL.1 <;> omega
 refine r_loop3 (fun (o : List Nd) (Q : RS) (gg : Nat) => ⟨[(0, .ptr 0 g 0), (1, .fn (.func F) [.ptr 0 g 0] []), (5, .ref 1 gg 0 o.length 4)], [.row g (rdC L Q), .row gg (Ws o)]⟩) (fun o Q gg => E0.N < gg /\ rM L Q <= rM L S /\ o.length + rM L Q <= rM L S + 1 /\ ∃ k', We L E k [hd1] S1 = We L E k' o Q /\ rM L Q + 1 <= k') (fun o Q gg => rM L Q) [hd1] S1 g1 ?_ ⟨hg1, hrE, by simp; omega, k, rfl, by omega⟩ ?_
 ·exact zal rfl
 intro o Q gg ⟨hgg, hq1, hq2, k', hk1, hk2⟩
 rw [hk1]
 have hhv := have_c (G := G) L Q hL [44] (by decide)
 unfold haveM at hhv
 by_cases hc : QV L Q = [44]
 ·rw [if_pos hc] at hhv
  obtain ⟨hn1, hn2⟩ := WE hc (by decide)
  obtain ⟨hE2, hrE2⟩ := hE (Qn Q) (by omega)
  match k', hk1, hk2 with
  | k2 + 1, hk1, hk2 =>
  have hrec : We L E (k2 + 1) o Q = We L E k2 (o ++ [(E (Qn Q)).1]) (E (Qn Q)).2 := by rw [We, if_pos hc]
  generalize hx2 : (E (Qn Q)).1 = x2 at *
  generalize hS2 : (E (Qn Q)).2 = S2 at *
  (repeat' first | (refine Qg ?_; (first | refine QJ rfl ?_ | refine QN rfl ?_ | (refine Qt ?_; (first | refine Zt (z := x2) rfl rfl rfl rfl rfl rfl rfl (by first | omega | (simp; omega)) (by first | omega | (simp; omega)) (fun _ => rfl) (fun _ _ => ?_) | refine s_callv_ce (k := 0) (hE2) rfl rfl rfl rfl (by repeat' first | exact W0 | refine Wp ?_ ?_ | exact Wh | exact Wu _ | exact Wt (QC _)) (by repeat' first | exact W0 | refine Wp ?_ ?_ | exact Wh | exact Wu _ | exact Wt (QC _)) (by repeat' first | exact .nil | refine .cons ?_ ?_ | exact .s (.mp rfl) | exact .s (.ptr rfl) | exact .s (.ref rfl) | exact .fn (by repeat' first | exact .nil | refine .cons ?_ ?_ | exact .ptr rfl | exact .mp rfl | exact .clo Wh) (by repeat' first | exact .nil | refine .cons ?_ ?_ | exact .ptr rfl | exact .mp rfl | exact .clo Wh) | exact .s (.clo (by (repeat' first | exact Enc.clo _ | exact Wh | exact Wu _ | exact Wt (QC _) | exact QC _ | refine ZI ?_ ?_ | refine Zu ?_ | refine WV ?_ | refine WK ?_ | exact W0 | refine Wp ?_ ?_ | refine Wt ?_); done))) (by (repeat' first | exact Enc.clo _ | exact Wh | exact Wu _ | exact Wt (QC _) | exact QC _ | refine ZI ?_ ?_ | refine Zu ?_ | refine WV ?_ | refine WK ?_ | exact W0 | refine Wp ?_ ?_ | refine Wt ?_); done) (by rfl) ?_ | refine Q4 0 (hhv) rfl rfl rfl rfl ?_)) | refine Q3 (z := x2) rfl rfl (by decide) ?_)) | (refine Qk ?_; (first | refine Qi ?_ | refine QK rfl ?_)) | (refine Qj ?_; (first | refine Ql ?_ | refine Qb ?_ | refine Qe ?_ | refine QB ?_ | refine Qq rfl ?_)))
  refine ⟨o ++ [x2], S2, _, ⟨by assumption, by omega, by simp; omega, k2, hrec, by omega⟩, by omega, ?_⟩
  exact zal rfl
 ·rw [if_neg hc] at hhv
  have htk := take_c (G := G) L Q hL [41] (by decide)
  have hend : We L E k' o Q = (o, Q) := by
   cases k' with
   | zero => rfl
   | succ k2 => rw [We, if_neg hc]
  rw [hend]
  (repeat' first | (refine Qg ?_; (first | refine QJ rfl ?_ | refine QN rfl ?_ | (refine Qt ?_; (first | refine Q4 0 (hhv) rfl rfl rfl rfl ?_ | refine Q4 0 (htk) rfl rfl rfl rfl ?_)))) | (refine Qk ?_; (first | refine Qi ?_ | refine QK rfl ?_)) | (refine Qj ?_; (first | refine Ql ?_ | refine Qb ?_ | refine Qs rfl ?_ | refine WC rfl ?_ | refine Qy ?_)))
  exact e_1 (Tryz.results151) (Qx rfl) (c_co (k := 1) .id hE1 (by omega) rfl rfl rfl rfl rfl rfl)
theorem ZC (L : Zq) (S : RS) (hL : OkL L) (s : List UInt8) (hs0 : s ≠ []) (h : QV L S = s) : CE Tryz.prog G 104 (fun p g => [.ptr p g 0, WS s]) (rdC L S) (.b true) (rdC L (Qn S)) := (have_c L S hL s hs0).conv (by unfold haveM; rw [if_pos h]) (by unfold haveM; rw [if_pos h])
theorem ZH (L : Zq) (S : RS) (hL : OkL L) (s : List UInt8) (hs0 : s ≠ []) (h : ¬ QV L S = s) : CE Tryz.prog G 104 (fun p g => [.ptr p g 0, WS s]) (rdC L S) (.b false) (rdC L S) := (have_c L S hL s hs0).conv (by unfold haveM; rw [if_neg h]) (by unfold haveM; rw [if_neg h])
theorem Zi {E : AX} {D : DV -> DV} {k g gk len es : Nat} {res : DV} {cs' c2 ks : List DV} {r : List ABlk} (hD : FrmD D) (hk : r[k]? = some (.row gk ks)) (hl : len * es = ks.length) (hd : D (.sl es ks) = res) (hc : c2 = cs') :
  AClose E (fun d' τ' => d' = res /\ τ' = [.row g cs']) (D (.ref (k + 1) gk 0 len es)) (.row g c2 :: r) := by
 subst hd hc
 refine (hD.close (c_pub (R := fun d' τ' => d' = .sl es ks /\ τ' = [.row g c2]) (by rw [List.getElem?_cons_succ]; exact hk) hl ?_) ?_).mono ?_
 ·rw [List.set_cons_succ]
  exact WW (σ := [_]) ⟨rfl, rfl⟩
 ·rintro d0 σ' ⟨rfl, _⟩; rfl
 ·rintro d' σ' ⟨d0, ⟨rfl, h3⟩, rfl⟩
  exact ⟨rfl, h3⟩
theorem WN {E : AX} {D : DV -> DV} {g es : Nat} {res : DV} {cs' c2 : List DV} {r : List ABlk} (hD : FrmD D) (hd : D (.sl es []) = res) (hc : c2 = cs') :
  AClose E (fun d' τ' => d' = res /\ τ' = [.row g cs']) (D (.sc (.slice none 0 0))) (.row g c2 :: r) := by
 subst hd hc
 refine (hD.close (c_conv (d2 := .sl es []) (R := fun d' τ' => d' = .sl es [] /\ τ' = [.row g c2]) (fun L v h => nil_str h) (WW (σ := [_]) ⟨rfl, rfl⟩)) ?_).mono ?_
 ·rintro d0 σ' ⟨rfl, _⟩; rfl
 ·rintro d' σ' ⟨d0, ⟨rfl, h3⟩, rfl⟩
  exact ⟨rfl, h3⟩
theorem rM_numeral (L : Zq) (S : RS) : rM L (Qw L S).2 <= rM L S := by
 unfold Qw
 split
 ·rename_i h
  have := (WE (L := L) (S := S) rfl (numB_ne h)).1
  simp only; omega
 ·simp only; rw [Z6]; omega
theorem rM_numbered (L : Zq) (c : UInt8) (S : RS) : rM L (Qh L c S).2 <= rM L S := by
 unfold Qh
 split
 ·rename_i h
  have := (WE (L := L) (S := S) rfl (is_now h).1).1
  simp only; omega
 ·simp only; rw [Z6]; omega
theorem listLoop_le {F : FuncId} {L : Zq} {E : Rd1} {r0 : Nat} (hE : ElC G F L E r0) : ∀ (k : Nat) (o : List Nd) (S : RS), rM L S <= r0 -> rM L (We L E k o S).2 <= rM L S
 | 0, o, S, _ => Nat.le_refl _
 | k + 1, o, S, h => by
  rw [We]
  split
  ·rename_i hc
   have h1 := (WE hc (by decide)).1
   have h2 := (hE (Qn S) (by omega)).2
   have h3 := listLoop_le hE k (o ++ [(E (Qn S)).1]) (E (Qn S)).2 (by omega)
   omega
  ·exact Nat.le_refl _
theorem list_le {F : FuncId} {L : Zq} {E : Rd1} {r0 : Nat} (hE : ElC G F L E r0) (k : Nat) (S : RS) (h : rM L S <= r0) : rM L (Zx L E k S).2 <= rM L S := by
 unfold Zx
 have h1 := (hE S h).2
 have h2 := listLoop_le hE k [(E S).1] (E S).2 (by omega)
 have h3 := rM_take (L := L) (S := (We L E k [(E S).1] (E S).2).2) [41] (by decide)
 show rM L (QU L [41] (We L E k [(E S).1] (E S).2).2) <= _
 omega
theorem args_rc (F : FuncId) [FnOk Tryz.prog F] (L : Zq) (E : Rd1) (r0 k : Nat) (hL : OkL L) (hE : ElC G F L E r0) (S : RS) (hr : rM L S <= r0) (hk : rM L S + 1 <= k) :
  CO Tryz.prog G 109 (fun p g => [.ptr p g 0, .fn (.func F) [.ptr p g 0] []]) (rdC L S) (fun d => d) (WH L E k S).1.length 4 (Ws (WH L E k S).1) (rdC L (WH L E k S).2) := fun g B hg => by
 have htk := take_c (G := G) L S hL [40] (by decide)
 have hle := rM_take (L := L) (S := S) [40] (by decide)
 unfold WH
 generalize QU L [40] S = S1 at *
 by_cases hc : QV L S1 = [41]
 ·rw [if_pos hc]
  have hv1 := ZC (G := G) L S1 hL [41] (by decide) hc
  refine Qa Tryz.func109 rfl Tryz.ntmps109 rfl (t := [(0, .ptr 0 g 0), (1, .fn (.func F) [.ptr 0 g 0] [])]) rfl fun E0 hE1 => ?_
  (repeat' first | (refine Qg ?_; (first | refine QJ rfl ?_ | refine QN rfl ?_ | (refine Qt ?_; (first | refine Q4 0 (htk) rfl rfl rfl rfl ?_ | refine Q4 0 (hv1) rfl rfl rfl rfl ?_)))) | (refine Qk ?_; (first | refine Qi ?_ | refine QK rfl ?_)) | (refine Qj ?_; (first | refine Ql ?_ | refine Qb ?_ | refine Qq rfl ?_ | refine Qy ?_)))
  exact e_1 (Tryz.results109) (Qx rfl) (c_co_nil .id hE1 rfl rfl rfl rfl)
 ·rw [if_neg hc]
  have hv1 := ZH (G := G) L S1 hL [41] (by decide) hc
  have hlist := list_rc (G := G) F L E r0 k hL hE S1 (by omega) (by omega)
  refine Qa Tryz.func109 rfl Tryz.ntmps109 rfl (t := [(0, .ptr 0 g 0), (1, .fn (.func F) [.ptr 0 g 0] [])]) rfl fun E0 hE1 => ?_
  (repeat' first | (refine Qg ?_; (first | refine QJ rfl ?_ | refine QN rfl ?_ | (refine Qt ?_; (first | refine Q4 0 (htk) rfl rfl rfl rfl ?_ | refine Q4 0 (hv1) rfl rfl rfl rfl ?_ | refine s_co 0 (hlist) (by first | exact .id | exact .node rfl rfl rfl) rfl rfl rfl rfl (QC _) (fun _ _ => ?_))))) | (refine Qk ?_; (first | refine Qi ?_ | refine QK rfl ?_)) | (refine Qj ?_; (first | refine Ql ?_ | refine Qb ?_ | refine QB ?_ | refine Qs rfl ?_ | refine Qy ?_)))
  exact e_1 (Tryz.results109) (Qx rfl) (c_co (k := 1) .id hE1 (by omega) rfl rfl rfl rfl rfl rfl)
theorem typed_rc (L : Zq) (hL : OkL L) : ∀ (n : Nat) (S : RS), rM L S + 2 <= n -> CE Tryz.prog G 110 (fun p g => [.ptr p g 0]) (rdC L S) (.agg (Enc.enc (WB L n S).1)) (rdC L (WB L n S).2) /\ rM L (WB L n S).2 <= rM L S := by
 intro n
 induction n with
 | zero => intro S h; omega
 | succ n ih =>
 intro S hn
 rw [WB]
 by_cases h1 : QV L S = wInt
 ·have := (WE h1 (by decide)).1
  rw [if_pos h1]
  refine ⟨fun g B hg => ?_, by simp only; omega⟩
  refine Qa Tryz.func110 rfl Tryz.ntmps110 rfl (t := [(0, .ptr 0 g 0)]) rfl fun E0 hE1 => ?_
  (repeat' first | (refine Qg ?_; (first | refine QJ rfl ?_ | refine QN rfl ?_ | refine Q4 0 (ZC L S hL _ (by decide) (by assumption)) rfl rfl rfl rfl ?_ | refine WD rfl rfl rfl rfl ?_ | refine QA rfl rfl ?_ | refine Qu (fun _ _ => ?_))) | (refine Qk ?_; (first | refine Qi ?_ | refine QK rfl ?_ | refine QR ?_)) | (refine Qj ?_; (first | refine Ql ?_ | refine Qb ?_ | refine Qe ?_ | refine Qq rfl ?_ | refine Qy ?_)))
  exact e_1 (Tryz.results110) (Qz (size := 4) rfl rfl rfl rfl) (WN (es := 4) (.node rfl rfl rfl) (by rw [QQ]; rfl) rfl)
 rw [if_neg h1]
 by_cases h2 : QV L S = wBool
 ·have := (WE h2 (by decide)).1
  rw [if_pos h2]
  refine ⟨fun g B hg => ?_, by simp only; omega⟩
  refine Qa Tryz.func110 rfl Tryz.ntmps110 rfl (t := [(0, .ptr 0 g 0)]) rfl fun E0 hE1 => ?_
  (repeat' first | (refine Qg ?_; (first | refine QJ rfl ?_ | refine QN rfl ?_ | (refine Qt ?_; (first | refine Q4 0 (ZH L S hL _ (by decide) (by assumption)) rfl rfl rfl rfl ?_ | refine Q4 0 (ZC L S hL _ (by decide) (by assumption)) rfl rfl rfl rfl ?_)) | refine WD rfl rfl rfl rfl ?_ | refine QA rfl rfl ?_ | refine Qu (fun _ _ => ?_))) | (refine Qk ?_; (first | refine Qi ?_ | refine QK rfl ?_ | refine QR ?_)) | (refine Qj ?_; (first | refine Ql ?_ | refine Qb ?_ | refine Qe ?_ | refine Qq rfl ?_ | refine Qs rfl ?_ | refine Qy ?_)))
  exact e_1 (Tryz.results110) (Qz (size := 4) rfl rfl rfl rfl) (WN (es := 4) (.node rfl rfl rfl) (by rw [QQ]; rfl) rfl)
 rw [if_neg h2]
 by_cases h3 : QV L S = wArr
 ·have := (WE h3 (by decide)).1
  rw [if_pos h3]
  have hnm := qj (G := G) L (Qn S) hL
  have hnl := rM_numeral L (Qn S)
  refine ⟨fun g B hg => ?_, by simp only; omega⟩
  refine Qa Tryz.func110 rfl Tryz.ntmps110 rfl (t := [(0, .ptr 0 g 0)]) rfl fun E0 hE1 => ?_
  (repeat' first | (refine Qg ?_; (first | refine QJ rfl ?_ | refine QN rfl ?_ | (refine Qt ?_; (first | refine Q4 0 (ZH L S hL _ (by decide) (by assumption)) rfl rfl rfl rfl ?_ | refine Q4 0 (ZC L S hL _ (by decide) (by assumption)) rfl rfl rfl rfl ?_ | refine Q4 0 (hnm) rfl rfl rfl rfl ?_)) | refine WD rfl rfl rfl rfl ?_ | refine QA rfl rfl ?_ | refine Qu (fun _ _ => ?_))) | (refine Qk ?_; (first | refine Qi ?_ | refine QK rfl ?_ | refine QR ?_)) | (refine Qj ?_; (first | refine Ql ?_ | refine Qb ?_ | refine Qe ?_ | refine Qq rfl ?_ | refine Qs rfl ?_ | refine Qy ?_)))
  exact e_1 (Tryz.results110) (Qz (size := 4) rfl rfl rfl rfl) (WN (es := 4) (.node rfl rfl rfl) (by rw [QQ]; rfl) rfl)
 rw [if_neg h3]
 by_cases h4 : QV L S = wRec
 ·have hrn := (WE h4 (by decide)).1
  rw [if_pos h4]
  have htk := take_c (G := G) L (Qn S) hL [40] (by decide)
  have hle := rM_take (L := L) (S := Qn S) [40] (by decide)
  have hel : ElC G 110 L (WB L n) (rM L (Qn S)) := fun Q hQ => ih Q (by omega)
  have hlist := list_rc (G := G) 110 L (WB L n) _ n hL hel (QU L [40] (Qn S)) hle (by omega)
  have hll := list_le hel n (QU L [40] (Qn S)) hle
  refine ⟨fun g B hg => ?_, by simp only; omega⟩
  refine Qa Tryz.func110 rfl Tryz.ntmps110 rfl (t := [(0, .ptr 0 g 0)]) rfl fun E0 hE1 => ?_
  (repeat' first | (refine Qg ?_; (first | refine QJ rfl ?_ | refine QN rfl ?_ | (refine Qt ?_; (first | refine Q4 0 (ZH L S hL _ (by decide) (by assumption)) rfl rfl rfl rfl ?_ | refine Q4 0 (ZC L S hL _ (by decide) (by assumption)) rfl rfl rfl rfl ?_ | refine Q4 0 (htk) rfl rfl rfl rfl ?_ | refine s_co 0 (hlist) (by first | exact .id | exact .node rfl rfl rfl) rfl rfl rfl rfl (QC _) (fun _ _ => ?_))) | refine WD rfl rfl rfl rfl ?_ | refine QA rfl rfl ?_ | refine QH rfl rfl ?_ | refine Qu (fun _ _ => ?_))) | (refine Qk ?_; (first | refine Qi ?_ | refine QK rfl ?_ | refine QR ?_)) | (refine Qj ?_; (first | refine Ql ?_ | refine Qb ?_ | refine Qe ?_ | refine Qq rfl ?_ | refine Qs rfl ?_ | refine Qy ?_)))
  exact e_1 (Tryz.results110) (Qz (size := 4) rfl rfl rfl rfl) (Zi (D := fun d => .agg [.i 3, .i 0, .i 0, d]) (k := 1) (.node rfl rfl rfl) rfl (by rw [QS]; rfl) (by rw [QQ]; rfl) rfl)
 ·rw [if_neg h4]
  refine ⟨fun g B hg => ?_, by simp only; rw [Z6]; omega⟩
  refine Qa Tryz.func110 rfl Tryz.ntmps110 rfl (t := [(0, .ptr 0 g 0)]) rfl fun E0 hE1 => ?_
  (repeat' first | (refine Qg ?_; (first | refine QJ rfl ?_ | refine QN rfl ?_ | (refine Qt ?_; (first | refine Q4 0 (ZH L S hL _ (by decide) (by assumption)) rfl rfl rfl rfl ?_ | refine Q4 0 (fail_c L S) rfl rfl rfl rfl ?_)) | refine WD rfl rfl rfl rfl ?_ | refine QA rfl rfl ?_ | refine Qu (fun _ _ => ?_))) | (refine Qk ?_; (first | refine Qi ?_ | refine QK rfl ?_ | refine QR ?_)) | (refine Qj ?_; (first | refine Ql ?_ | refine Qb ?_ | refine Qe ?_ | refine QB ?_ | refine Qs rfl ?_ | refine Qy ?_)))
  exact e_1 (Tryz.results110) (Qz (size := 4) rfl rfl rfl rfl) (WN (es := 4) (.node rfl rfl rfl) (by show _ = DV.agg (Enc.enc (Nd.mk 0 0 0 [])); rw [QQ]; rfl) rfl)
def frmN (v : Nd) (d : DV) : DV := match v with | .mk k n m _ => .agg [.i k, .i n, .i m, d]
def kidsN (v : Nd) : List Nd := match v with | .mk _ _ _ ks => ks
theorem frmN_ok (v : Nd) : FrmD (frmN v) := by cases v; exact .node rfl rfl rfl
theorem frmN_enc (v : Nd) : frmN v (.sl 4 (Ws (kidsN v))) = .agg (Enc.enc v) := by cases v; rw [QQ]; rfl
theorem variable_rc (L : Zq) (hL : OkL L) (E : Rd1) (r0 : Nat) (hE : ElC G 176 L E r0) (S : RS) (hr : rM L S <= r0 + 1) :
  CO Tryz.prog G 199 (fun p g => [.ptr p g 0]) (rdC L S) (frmN (Wq L E S).1) (kidsN (Wq L E S).1).length 4 (Ws (kidsN (Wq L E S).1)) (rdC L (Wq L E S).2) /\ rM L (Wq L E S).2 <= rM L S := by
 have hnb := numbered_c (G := G) L S hL 118
 have hnl := rM_numbered L 118 S
 unfold Wq
 generalize (Qh L 118 S).1 = v at *
 generalize (Qh L 118 S).2 = S1 at *
 unfold varTail
 by_cases h1 : QV L S1 = [91]
 ·have hv1 := ZC (G := G) L S1 hL [91] (by decide) h1
  have hrn := (WE h1 (by decide)).1
  obtain ⟨hE2, hle2⟩ := hE (Qn S1) (by omega)
  rw [if_pos h1]
  generalize (E (Qn S1)).1 = xE at *
  generalize (E (Qn S1)).2 = S2 at *
  have htk := take_c (G := G) L S2 hL [93] (by decide)
  have htl := rM_take (L := L) (S := S2) [93] (by decide)
  refine ⟨fun g B hg => ?_, by first | omega | (simp only; omega)⟩
  refine Qa Tryz.func199 rfl Tryz.ntmps199 rfl (t := [(0, .ptr 0 g 0)]) rfl fun E0 hE1 => ?_
  (repeat' first | (refine Qg ?_; (first | refine QJ rfl ?_ | refine QN rfl ?_ | refine WL rfl rfl ?_ | (refine Qt ?_; (first | refine Q4 0 (hnb) rfl rfl rfl rfl ?_ | refine Q4 0 (hv1) rfl rfl rfl rfl ?_ | refine Q4 0 (htk) rfl rfl rfl rfl ?_ | refine Q4 0 (hE2) rfl rfl rfl rfl ?_)) | (refine Wg ?_; (first | refine WD rfl rfl rfl rfl ?_ | refine QZ rfl rfl rfl rfl (by rfl) (by rfl) (by rfl) ?_)) | refine s_bslice_own1 (z := xE) rfl rfl rfl rfl (fun _ _ => ?_) | refine Qd rfl rfl ?_ | refine QA rfl rfl ?_ | refine Qu (fun _ _ => ?_))) | (refine Qk ?_; (first | refine Qi ?_ | refine QK rfl ?_ | refine QR ?_)) | (refine Qj ?_; (first | refine Ql ?_ | refine Qb ?_ | refine Qe ?_ | refine Qq rfl ?_ | refine Qy ?_)))
  exact e_1 (Tryz.results199) (Qz (size := 4) rfl rfl rfl rfl) (c_co (k := 3) (D2 := frmN (.mk 7 v 0 [xE])) (frmN_ok _) hE1 (by omega) rfl rfl rfl rfl rfl rfl)
 rw [if_neg h1]
 have hv1 := ZH (G := G) L S1 hL [91] (by decide) h1
 by_cases h2 : QV L S1 = [46]
 ·have hv2 := ZC (G := G) L S1 hL [46] (by decide) h2
  have hrn := (WE h2 (by decide)).1
  rw [if_pos h2]
  have hnm := qj (G := G) L (Qn S1) hL
  have hnl2 := rM_numeral L (Qn S1)
  generalize (Qw L (Qn S1)).1 = m at *
  generalize (Qw L (Qn S1)).2 = S2 at *
  refine ⟨fun g B hg => ?_, by first | omega | (simp only; omega)⟩
  refine Qa Tryz.func199 rfl Tryz.ntmps199 rfl (t := [(0, .ptr 0 g 0)]) rfl fun E0 hE1 => ?_
  (repeat' first | (refine Qg ?_; (first | refine QJ rfl ?_ | refine QN rfl ?_ | refine WL rfl rfl ?_ | (refine Qt ?_; (first | refine Q4 0 (hnb) rfl rfl rfl rfl ?_ | refine Q4 0 (hv1) rfl rfl rfl rfl ?_ | refine Q4 0 (hv2) rfl rfl rfl rfl ?_ | refine Q4 0 (hnm) rfl rfl rfl rfl ?_)) | (refine Wg ?_; (first | refine WD rfl rfl rfl rfl ?_ | refine QZ rfl rfl rfl rfl (by rfl) (by rfl) (by rfl) ?_)) | refine Qd rfl rfl ?_ | refine QA rfl rfl ?_ | refine Qu (fun _ _ => ?_))) | (refine Qk ?_; (first | refine Qi ?_ | refine QK rfl ?_ | refine QR ?_)) | (refine Qj ?_; (first | refine Ql ?_ | refine Qb ?_ | refine Qe ?_ | refine Qq rfl ?_ | refine Qs rfl ?_ | refine Qy ?_)))
  exact e_1 (Tryz.results199) (Qz (size := 4) rfl rfl rfl rfl) (c_co_nil (D2 := frmN (.mk 8 v m [])) (frmN_ok _) hE1 rfl rfl rfl rfl)
 ·rw [if_neg h2]
  have hv2 := ZH (G := G) L S1 hL [46] (by decide) h2
  refine ⟨fun g B hg => ?_, by first | omega | (simp only; omega)⟩
  refine Qa Tryz.func199 rfl Tryz.ntmps199 rfl (t := [(0, .ptr 0 g 0)]) rfl fun E0 hE1 => ?_
  (repeat' first | (refine Qg ?_; (first | refine QJ rfl ?_ | refine QN rfl ?_ | refine WL rfl rfl ?_ | (refine Qt ?_; (first | refine Q4 0 (hnb) rfl rfl rfl rfl ?_ | refine Q4 0 (hv1) rfl rfl rfl rfl ?_ | refine Q4 0 (hv2) rfl rfl rfl rfl ?_)) | refine WD rfl rfl rfl rfl ?_ | refine QA rfl rfl ?_ | refine Qu (fun _ _ => ?_))) | (refine Qk ?_; (first | refine Qi ?_ | refine QK rfl ?_ | refine QR ?_)) | (refine Qj ?_; (first | refine Ql ?_ | refine Qb ?_ | refine Qe ?_ | refine QB ?_ | refine Qs rfl ?_ | refine Qy ?_)))
  exact e_1 (Tryz.results199) (Qz (size := 4) rfl rfl rfl rfl) (c_co_nil (D2 := frmN (.mk 6 v 0 [])) (frmN_ok _) hE1 rfl rfl rfl rfl)
end Go.Proofs
end
section
namespace Go.Av
open Classical
theorem spliceD_pre : ∀ (l ds rest : List DV), l.length = ds.length -> Zd (l ++ rest) 0 ds = some (ds ++ rest)
 | [], [], rest, _ => by
  cases rest <;> exact forceD_same _
 | x :: r, d :: ds, rest, h => by
  have ih := spliceD_pre r ds rest (by simpa using h)
  show (match Zd (r ++ rest) 0 ds with | some r' => some (d :: r') | none => none) = _
  rw [ih]; rfl
theorem spliceD_at : ∀ (l1 l2 : List DV) (d : DV) (ds : List DV), l2.length = (d :: ds).length -> Zd (l1 ++ l2) l1.length (d :: ds) = some (l1 ++ (d :: ds))
 | [], l2, d, ds, h => spliceD_all l2 (d :: ds) h
 | x :: r, l2, d, ds, h => by
  have ih := spliceD_at r l2 d ds h
  show (match Zd (r ++ l2) r.length (d :: ds) with | some r' => some (x :: r') | none => none) = _
  rw [ih]; rfl
theorem fill_two {zs : List Value} {cs ds : List DV} {n : Nat} (h1 : zs.length = n) (h2 : cs.length = n) (h3 : ds.length = n) (h0 : 0 < n) : fillD (fun i => some (i * n, n)) (WG zs 2) [(0, .agg cs), (1, .agg ds)] = some (cs ++ ds) := by
 have hz : WG zs 2 = WG zs 1 ++ WG zs 1 := by simp [WG, List.replicate]
 have hz1 : (WG zs 1).length = n := by rw [qg, h1]; omega
 cases cs with
 | nil => simp at h2; omega
 | cons e r =>
 cases ds with
 | nil => simp at h3; omega
 | cons e2 r2 =>
  have hb : Nat.beq (e :: r).length n = true := by rw [h2]; exact Nat.beq_refl n
  have hb2 : Nat.beq (e2 :: r2).length n = true := by rw [h3]; exact Nat.beq_refl n
  have s1 : Zd (WG zs 1 ++ WG zs 1) 0 (e :: r) = some ((e :: r) ++ WG zs 1)  := spliceD_pre (WG zs 1) (e :: r) (WG zs 1) (by rw [hz1, h2])
  have s2 : Zd ((e :: r) ++ WG zs 1) n (e2 :: r2) = some ((e :: r) ++ (e2 :: r2)) := by
   have := spliceD_at (e :: r) (WG zs 1) e2 r2 (by rw [hz1, h3])
   rwa [h2] at this
  rw [hz]
  simp only [fillD, dcells, hb, hb2, Nat.zero_mul, Nat.one_mul, s1, s2]
  exact forceD_same _
theorem ZD {P : Program} {G : Nat -> DV} {B : Nat} {f : Operand -> DV} {σ : List ABlk} {K : DV -> List ABlk -> Prop} {dst : Option Tmp} {type : TypeId} {pos : String} {after : Array Edge} {gd : Option (Nat × Bool)} {α : Type} [Enc α] {y z : α} {t e : Nat} {g1 g2 : Bool} {z1 : Nat} {td : TypeDesc} {zs : List Value} {ps : List (Nat × Operand)} [ht : TyI P t (.slice e) g1 z1] [he : TyI P e td g2 (Enc.es α)] [hz : TyZ P e zs] (hzl : zs.length = Enc.es α) (hp : partsD f ps = some [(0, .agg (Enc.enc y)), (1, .agg (Enc.enc z))]) (hn : 2 * Enc.es α <= 16777216)
  (k : K (QW [y, z]) σ) : OpSem P G B ⟨dst, .buildSlice t 2 ps.toArray, type, pos, after, gd⟩ f σ K := by
 refine Zk hzl hp hn (fill_two hzl (Enc.len y) (Enc.len z) Enc.pos) ?_
 have e1 : QW [y, z] = .sl (Enc.es α) (Enc.enc y ++ Enc.enc z) := by simp [QW, Ws]
 rwa [<- e1]
end Go.Av
end
section
namespace Go.Proofs
open Go.Av
variable {G : Nat -> DV}
attribute [local irreducible] OpSem Za Zv qc ACalls AEnd AClose RV
open Go.Bl
theorem idxS_c (l : List Str) (s : List UInt8) (hl : l.length <= 4611686018427387904) : Go.Av.Pure Tryz.prog G 221 [QW l, WS s] (.i (findP (fun x : Str => decide (s = x.l)) l)) := fun B => by
 refine Qa Tryz.func221 rfl Tryz.ntmps221 rfl (t := [(0, QW l), (1, WS s)]) rfl fun E hE => ?_
 (repeat' first | (refine Qg ?_; (first | refine QJ rfl ?_ | refine QN rfl ?_ | refine QI rfl ?_)) | (refine Qk ?_; (first | refine Qi ?_ | refine QK rfl ?_)) | (refine Qj ?_; (first | refine Ql ?_ | refine Qb ?_ | refine Qe ?_)))
 refine ZZ (fun k : Nat => ⟨[(0, QW l), (1, WS s), (7, .i l.length), (8, .i k)], []⟩) (fun k => k <= l.length /\ ∀ j (h : j < l.length), j < k -> decide (s = l[j].l) = false) (fun k => l.length - k) 0 ?_ ⟨by omega, fun j h hj => by omega⟩ ?_
 ·exact zal rfl
 intro k ⟨hk, hno⟩
 by_cases hkl : k < l.length
 ·by_cases hx : s = l[k].l
  ·have hd : decide (s = l[k].l) = true := decide_eq_true hx
   (repeat' first | (refine Qg ?_; (first | refine QJ rfl ?_ | refine QN rfl ?_ | refine Wa rfl ?_ | refine QM rfl rfl (by first | assumption | omega | (simp; done) | (simp; omega)) ?_ | (refine Qo ?_; (first | refine QX rfl rfl ?_ | refine Wx rfl rfl ?_)))) | (refine Qk ?_; (first | refine Qi ?_ | refine QK rfl ?_)) | (refine Qj ?_; (first | refine Ql ?_ | refine Qb ?_ | refine Qe ?_ | refine QB ?_ | refine Qm rfl (by omega) ?_ | refine Qy ?_)))
   refine e_1 Tryz.results221 (Qx rfl) (QY ?_)
   rw [findP_some (p := fun x : Str => decide (s = x.l)) hkl hd hno]
  ·have hd : decide (s = l[k].l) = false := decide_eq_false hx
   (repeat' first | (refine Qg ?_; (first | refine QJ rfl ?_ | refine QN rfl ?_ | refine Wa rfl ?_ | refine QM rfl rfl (by first | assumption | omega | (simp; done) | (simp; omega)) ?_ | (refine Qo ?_; (first | refine W3 rfl rfl (by omega) ?_ | refine QX rfl rfl ?_ | refine Wx rfl rfl ?_)))) | (refine Qk ?_; (first | refine Qi ?_ | refine QK rfl ?_)) | (refine Qj ?_; (first | refine Ql ?_ | refine Qb ?_ | refine Qe ?_ | refine QB ?_ | refine Qm rfl (by omega) ?_ | refine Qf rfl (by omega) ?_)))
   refine ⟨k + 1, ⟨hkl, fun j hj hjk => ?_⟩, by omega, ?_⟩
   ·rcases Nat.lt_or_ge j k with h' | h'
    ·exact hno j hj h'
    ·have : j = k := by omega
     subst this; exact hd
   ·exact zal rfl
 ·have hk' : k = l.length := by omega
  (repeat' first | (refine Qg ?_; (first | refine QN rfl ?_ | refine QX rfl rfl ?_)) | (refine Qk ?_; (first | refine Qi ?_ | refine QK rfl ?_)) | (refine Qj ?_; (first | refine Ql ?_ | refine Qb ?_ | refine Qf rfl (by omega) ?_ | refine WC rfl ?_ | refine Qy ?_)))
  refine e_1 Tryz.results221 (Qx rfl) (QY ?_)
  rw [findP_none (p := fun x : Str => decide (s = x.l)) fun j hj => hno j hj (by omega)]
theorem opIdx_eq (s : List UInt8) : findP (fun x : Str => decide (s = x.l)) (opTexts.map Str.mk) = qs s := by
 unfold findP qs
 rw [List.findIdx?_map]
 have : ((fun x : Str => decide (s = x.l)) ∘ Str.mk) = fun t => decide (t = s) := by
  funext t
  show decide (s = t) = decide (t = s)
  rw [Bool.eq_iff_iff]; simp [eq_comm]
 rw [this]
 try (cases List.findIdx? (fun t => decide (t = s)) opTexts <;> rfl)
theorem opIdx_ne {s : List UInt8} (h : 0 <= qs s) : s ≠ [] /\ qs s < 14 := by
 constructor
 ·rintro rfl; revert h; decide
 ·unfold qs at h ⊢
  cases hf : opTexts.findIdx? (fun t => decide (t = s)) with
  | none => rw [hf] at h; simp at h
  | some i =>
   obtain ⟨hi, _⟩ := List.findIdx?_eq_some_iff_getElem.1 hf
   have : opTexts.length = 14 := rfl
   simp only; omega
theorem binary_rc (hG1 : G 1 = spaceT) (L : Zq) (hL : OkL L) (E : Rd1) (r0 : Nat) (hE : ElC G 176 L E r0) (S : RS) (hr : rM L S <= r0) :
  CE Tryz.prog G 200 (fun p g => [.ptr p g 0]) (rdC L S) (.agg (Enc.enc (qb L E S).1)) (rdC L (qb L E S).2) /\ rM L (qb L E S).2 <= rM L S := by
 obtain ⟨hEa, hla⟩ := hE S hr
 have hops := ops_c (G := G) hG1
 unfold qb
 generalize (E S).1 = a at *
 generalize (E S).2 = S1 at *
 have hnw := ZQ (G := G) L S1 hL
 have hix := idxS_c (G := G) (opTexts.map Str.mk) (QV L S1) (by decide)
 rw [opIdx_eq] at hix
 have hfl := fail_c (G := G) L S1
 have hne := opIdx_ne (s := QV L S1)
 by_cases ho : qs (QV L S1) < 0
 ·rw [if_pos ho]
  refine ⟨fun g B hg => ?_, by simp only; rw [Z6]; omega⟩
  refine Qa Tryz.func200 rfl Tryz.ntmps200 rfl (t := [(0, .ptr 0 g 0)]) rfl fun E0 hE1 => ?_
  (repeat' first | (refine Qg ?_; (first | refine QJ rfl ?_ | refine QN rfl ?_ | refine QX rfl rfl ?_ | (refine Qt ?_; (first | refine WR rfl rfl (hops) ?_ | refine WR rfl rfl (hix) ?_ | refine Q4 0 (hEa) rfl rfl rfl rfl ?_ | refine Q4 0 (hnw) rfl rfl rfl rfl ?_ | refine Q4 0 (hfl) rfl rfl rfl rfl ?_)) | refine WD rfl rfl rfl rfl ?_ | refine QA rfl rfl ?_ | refine Qu (fun _ _ => ?_))) | (refine Qk ?_; (first | refine Qi ?_ | refine QK rfl ?_ | refine QR ?_)) | (refine Qj ?_; (first | refine Ql ?_ | refine Qb ?_ | refine Qm rfl (by omega) ?_ | refine Qy ?_)))
  exact e_1 (Tryz.results200) (Qz (size := 4) rfl rfl rfl rfl) (WN (es := 4) (.node rfl rfl rfl) (by show _ = DV.agg (Enc.enc (Nd.mk 0 0 0 [])); rw [QQ]; rfl) rfl)
 ·rw [if_neg ho]
  obtain ⟨hn0, hn14⟩ := hne (by omega)
  obtain ⟨q1, q2, q3⟩ := now_at hn0
  have hrn := (WE (L := L) (S := S1) rfl hn0).1
  obtain ⟨hEb, hlb⟩ := hE (Qn S1) (by omega)
  generalize (E (Qn S1)).1 = b at *
  generalize (E (Qn S1)).2 = S2 at *
  have htk := take_c (G := G) L S2 hL [41] (by decide)
  have htl := rM_take (L := L) (S := S2) [41] (by decide)
  have hll := hL.1
  obtain ⟨p, bd⟩ := S1
  simp only at q1 q2
  subst q1
  have hat : (p : Int) + 1 = (p + 1 : Nat) := by omega
  generalize qs (QV L ⟨p, false⟩) = io at *
  refine ⟨fun g B hg => ?_, by first | omega | (simp only; omega)⟩
  refine Qa Tryz.func200 rfl Tryz.ntmps200 rfl (t := [(0, .ptr 0 g 0)]) rfl fun E0 hE1 => ?_
  (repeat' first | (refine Qg ?_; (first | refine QJ rfl ?_ | refine QN rfl ?_ | (refine QG ?_; (first | refine WL rfl rfl ?_ | refine Qc rfl rfl rfl ?_)) | (refine Qo ?_; (first | refine s_add_as (a := (p : Int)) (b := 1) rfl rfl hat ⟨by omega, by omega⟩ ?_ | refine QX rfl rfl ?_)) | (refine Qt ?_; (first | refine WR rfl rfl (hops) ?_ | refine WR rfl rfl (hix) ?_ | refine Q4 0 (hEa) rfl rfl rfl rfl ?_ | refine Q4 0 (hnw) rfl rfl rfl rfl ?_ | refine Q4 0 (hEb) rfl rfl rfl rfl ?_ | refine Q4 0 (htk) rfl rfl rfl rfl ?_)) | (refine Wg ?_; (first | refine WD rfl rfl rfl rfl ?_ | refine QZ rfl rfl rfl rfl (by rfl) (by rfl) (by rfl) ?_)) | refine ZD (y := a) (z := b) rfl rfl (by decide) ?_ | refine Qd rfl rfl ?_ | refine QA rfl rfl ?_ | refine Qp rfl rfl ?_ | refine Qu (fun _ _ => ?_))) | (refine Qk ?_; (first | refine Qi ?_ | refine QK rfl ?_ | refine QR ?_)) | (refine Qj ?_; (first | refine Ql ?_ | refine Qb ?_ | refine QB ?_ | refine Qf rfl (by omega) ?_ | refine Qy ?_)))
  refine e_1 (Tryz.results200) (Qz (size := 4) rfl rfl rfl rfl) ?_
  rw [QQ]
  exact c_ce rfl rfl
abbrev Lp3 {α β γ : Type} (I : α -> β -> γ -> ASt) (pre : α -> β -> γ -> Prop) (μ : α -> β -> γ -> Nat) (x : α) (y : β) (z : γ) (st' : ASt) : Prop := ∃ x' y' z', pre x' y' z' /\ μ x' y' z' < μ x y z /\ ALe st' (I x' y' z')
theorem r_loop3n {P : Program} {G : Nat -> DV} {E : AX} {n : Nat} {N : ASt -> Prop} {xs : List (Nat × (ASt -> Prop))} {R : ASt -> Prop} {st : ASt} {c : Code} {α β γ : Type} (I : α -> β -> γ -> ASt) (pre : α -> β -> γ -> Prop) (μ : α -> β -> γ -> Nat) (x0 : α) (y0 : β) (z0 : γ) (h0 : ALe st (I x0 y0 z0)) (hp0 : pre x0 y0 z0)
  (round : ∀ x y z, pre x y z -> Za P G E n c (Lp3 I pre μ x y z) xs R (I x y z)) : Za P G E n (.loop c) N xs R st := r_loop3 I pre μ x0 y0 z0 h0 hp0 round
def mM (L : Zq) (S : RS) : Nat := if S.bad = true then 0 else L.length - S.p + 1
theorem rm_mM (L : Zq) (S : RS) : rM L S <= mM L S /\ mM L S <= rM L S + 1 := by
 unfold rM mM; split <;> omega
def Eats (L : Zq) (T : Rd1) : Prop := ∀ S, S.bad = false -> mM L (T S).2 < mM L S
theorem mm_next {L : Zq} {S : RS} {s : List UInt8} (h : QV L S = s) (hs : s ≠ []) : mM L (Qn S) < mM L S := by
 obtain ⟨h1, h2, h3⟩ := now_at (L := L) (S := S) (by rw [h]; exact hs)
 unfold mM Qn
 rw [h1]
 simp; omega
theorem mm_fail {L : Zq} {S : RS} (h : S.bad = false) : mM L (WQ S) < mM L S := by
 unfold mM WQ; rw [h]; simp
theorem mm_take {L : Zq} {S : RS} (s : List UInt8) (hs : s ≠ []) : mM L (QU L s S) <= rM L S /\ rM L (QU L s S) <= rM L S - 1 := by
 unfold QU
 split
 ·rename_i h
  obtain ⟨h1, h2, h3⟩ := now_at (L := L) (S := S) (by rw [h]; exact hs)
  unfold mM rM Qn
  rw [h1]
  simp; omega
 ·unfold mM rM WQ; simp
theorem bad_neg {S : RS} (h : S.bad = false) : badI S < 0 := by unfold badI; rw [h]; simp
theorem bad_pos {S : RS} (h : S.bad = true) : 0 <= badI S := by unfold badI; rw [if_pos h]; omega
theorem bloop_bad {L : Zq} {T : Rd1} {o : List Nd} {S : RS} (h : S.bad = true) : ∀ k, Wr L T k o S = (o, S)
 | 0 => rfl
 | k + 1 => by rw [Wr, if_pos h]
theorem block_rc (L : Zq) (hL : OkL L) (T : Rd1) (r0 k : Nat) (hT : ElC G 152 L T r0) (he : Eats L T) (S : RS) (hr : rM L S <= r0 + 1) (hk : rM L S + 1 <= k) :
  CE Tryz.prog G 111 (fun p g => [.ptr p g 0]) (rdC L S) (.agg (Enc.enc (Wi L T k S).1)) (rdC L (Wi L T k S).2) := fun g B hg => by
 have htk := take_c (G := G) L S hL [123] (by decide)
 have hle := mm_take (L := L) (S := S) [123] (by decide)
 have hle0 : rM L (QU L [123] S) <= r0 := by omega
 unfold Wi
 generalize QU L [123] S = S1 at *
 have hr1000 : rM L S <= 1000000 := by unfold rM; split <;> have := hL.1 <;> omega
 refine Qa Tryz.func111 rfl Tryz.ntmps111 rfl (t := [(0, .ptr 0 g 0)]) rfl fun E0 hE1 => ?_
 (repeat' first | (refine Qg ?_; (first | refine QJ rfl ?_ | refine Q4 0 (htk) rfl rfl rfl rfl ?_ | refine WD rfl rfl rfl rfl ?_ | refine QA rfl rfl ?_ | refine Qu (fun _ _ => ?_))) | (refine Qk ?_; (first | refine Qi ?_ | refine QK rfl ?_ | refine QR ?_)) | (refine Qj ?_; (first | refine Ql ?_ | refine Qb ?_ | refine Qe ?_)))
 rename_i g2 hg2 gn hgn
 refine r_ownin 2 3 4 rfl rfl (fun _ => rfl) (fun gk hgk => ?_)
 refine r_loop3n (fun (o : List Nd) (Q : RS) (gg : Nat) => ⟨[(0, .ptr 0 g 0), (2, .ptr 1 g2 0), (3, .ptr 2 gn 0)], [.row g (rdC L Q), .row g2 [.i 0, .i 0, .i 0, .nil], .row gn [.i 13, .i 0, .i 0, .ref 3 gg 0 o.length 4], .row gg (Ws o)]⟩) (fun o Q gg => E0.N < gg /\ rM L Q <= r0 /\ o.length + mM L Q <= rM L S + 1 /\ ∃ k', Wr L T k [] S1 = Wr L T k' o Q /\ mM L Q + 1 <= k') (fun o Q gg => mM L Q) [] S1 gk ?_ ⟨hgk, hle0, by have := rm_mM L S1; simp; omega, k, rfl, by have := rm_mM L S1; omega⟩ ?_
 ·exact zal rfl
 intro o Q gg ⟨hgg, hq1, hq2, k', hk1, hk2⟩
 have hol : o.length <= 2000000 := by omega
 rw [hk1]
 cases hb : Q.bad with
 | true =>
  have hbi := bad_pos hb
  rw [bloop_bad hb]
  (repeat' first | (refine Qg ?_; (first | refine QJ rfl ?_ | (refine QG ?_; (first | refine WL rfl rfl ?_ | refine Qc rfl rfl rfl ?_)) | refine QX rfl rfl ?_ | refine WO rfl rfl ?_ | refine WD rfl rfl rfl rfl ?_ | refine Qd rfl rfl ?_ | refine Qp rfl rfl ?_)) | (refine Qk ?_; (first | refine Qi ?_ | refine QK rfl ?_ | refine QR ?_ | refine W7 rfl rfl rfl rfl ?_ | refine Q5 rfl rfl (by omega) ?_)) | (refine Qj ?_; (first | refine Ql ?_ | refine Qb ?_ | refine Qs rfl ?_ | refine WC rfl ?_ | refine Qy ?_)))
  exact e_1 (Tryz.results111) (Qz (size := 4) rfl rfl rfl rfl) (Zi (D := fun d => .agg [.i 13, .i 0, .i 0, d]) (k := 2) (.node rfl rfl rfl) rfl (by rw [QS]; rfl) (by rw [QQ]; rfl) rfl)
 | false =>
  have hbi := bad_neg hb
  match k', hk1, hk2 with
  | k2 + 1, hk1, hk2 =>
  by_cases hc : QV L Q = [125]
  ·have hv1 := ZC (G := G) L Q hL [125] (by decide) hc
   have hend : Wr L T (k2 + 1) o Q = (o, Qn Q) := by rw [Wr, if_neg (by rw [hb]; decide), if_pos hc]
   rw [hend]
   (repeat' first | (refine Qg ?_; (first | refine QJ rfl ?_ | (refine QG ?_; (first | refine WL rfl rfl ?_ | refine Qc rfl rfl rfl ?_)) | refine QX rfl rfl ?_ | refine Q4 0 (hv1) rfl rfl rfl rfl ?_ | refine W1 rfl rfl ?_ | refine WD rfl rfl rfl rfl ?_ | refine W2 rfl ?_ | refine Qd rfl rfl ?_ | refine Qp rfl rfl ?_)) | (refine Qk ?_; (first | refine Qi ?_ | refine QK rfl ?_ | refine QR ?_ | refine WM rfl rfl rfl rfl ?_ | refine Wc rfl rfl (by omega) ?_)) | (refine Qj ?_; (first | refine Ql ?_ | refine Qb ?_ | refine Qs rfl ?_ | refine WC rfl ?_ | refine Qy ?_)))
   exact e_1 (Tryz.results111) (Qz (size := 4) rfl rfl rfl rfl) (Zi (D := fun d => .agg [.i 13, .i 0, .i 0, d]) (k := 2) (.node rfl rfl rfl) rfl (by rw [QS]; rfl) (by rw [QQ]; rfl) rfl)
  ·have hv1 := ZH (G := G) L Q hL [125] (by decide) hc
   have hrec : Wr L T (k2 + 1) o Q = Wr L T k2 (o ++ [(T Q).1]) (T Q).2 := by rw [Wr, if_neg (by rw [hb]; decide), if_neg hc]
   have hlt := he Q hb
   obtain ⟨hT2, hrT⟩ := hT Q hq1
   generalize hx2 : (T Q).1 = x2 at *
   generalize hS2 : (T Q).2 = S2 at *
   (repeat' first | (refine Qg ?_; (first | refine QJ rfl ?_ | refine Qc rfl rfl rfl ?_ | refine QX rfl rfl ?_ | (refine Qt ?_; (first | refine Zt (z := x2) rfl rfl rfl rfl rfl rfl rfl (by first | omega | (simp; omega)) (by first | omega | (simp; omega)) (fun _ => rfl) (fun _ _ => ?_) | refine Q4 0 (hv1) rfl rfl rfl rfl ?_ | refine Q4 0 (hT2) rfl rfl rfl rfl ?_)) | refine W1 rfl rfl ?_ | refine QZ rfl rfl rfl rfl (by rfl) (by rfl) (by rfl) ?_ | refine W2 rfl ?_ | refine Qd rfl rfl ?_ | refine Qp rfl rfl ?_)) | (refine Qk ?_; (first | refine Qi ?_ | refine QK rfl ?_ | refine WM rfl rfl rfl rfl ?_ | refine Wc rfl rfl (by omega) ?_)) | (refine Qj ?_; (first | refine Ql ?_ | refine Qb ?_ | refine Qe ?_ | (refine WF ?_; first | (refine Qv (fun p => p.1 :: .row g2 [.i 0, .i 0, .i 0, .nil] :: .row gn [.i 13, .i 0, .i 0, .ref 3 gg 0 o.length 4] :: p.2) 7 [(0, true), (1, true), (2, true), (3, false), (4, true), (5, false), (6, true), (7, false)] (by rfl) (by rfl) (by kernel_rfl) (by decide +kernel) (by decide +kernel) ⟨(_, _), rfl⟩ ?_) | refine Wm (by rfl) (by kernel_rfl) (by kernel_rfl) ?_ | refine Wl (by kernel_rfl) (by kernel_rfl) ?_) | refine QB ?_ | refine Qq rfl ?_)) | (refine W6 ?_; (first | refine ZG ?_ | refine i_z0 ?_ | refine i_st rfl rfl (fun _ => (by (repeat' first | (refine Qg ?_; (first | refine QJ rfl ?_ | refine Qc rfl rfl rfl ?_ | refine Q3 (z := x2) rfl rfl (by decide) ?_ | refine Qd rfl rfl ?_)) | exact ⟨rfl, rfl⟩))) ?_ | refine i_ef rfl ?_)) | refine And.intro (Exists.intro ((_, _)) rfl) ?_)
   refine ⟨o ++ [x2], S2, _, ⟨by assumption, by omega, by simp; omega, k2, hrec, by omega⟩, by omega, ?_⟩
   exact zal rfl
section
variable {P : Program} {G : Nat -> DV} {B : Nat} {f : Operand -> DV} {σ : List ABlk} {K : DV -> List ABlk -> Prop} {dst : Option Tmp} {type : TypeId} {pos : String} {after : Array Edge} {gd : Option (Nat × Bool)} {E : AX}
theorem s_callv_og {x : Operand} {args : Array Operand} {ts : Array TypeId} {fid : FuncId} {first cap es : List DV} {d0 : Nat -> DV} {σ1 : Nat -> List ABlk} [FnOk P fid] (hx : f x = .fn (.func fid) first cap) (hds : reL (first ++ args.toList.map f ++ cap) = some es) (h : ACalls P G B fid es σ (fun d τ => ∃ g', B < g' /\ d = d0 g' /\ τ = σ1 g')) (kk : ∀ g', B < g' -> K (d0 g') (σ1 g')) :
  OpSem P G B ⟨dst, .call ⟨.value x, args, ts⟩, type, pos, after, gd⟩ f σ K := s_callv hx hds (h.mono fun _ _ ⟨g', hg, e1, e2⟩ => by rw [e1, e2]; exact kk g' hg)
theorem c_co3 {D D2 : DV -> DV} {B k gk len len2 es es2 : Nat} {ks k2 : List DV} {b0 b1 b2 : ABlk} {r : List ABlk} (hD : FrmD D) (hB : B <= E.N) (hk1 : 3 <= k) (hk : (b0 :: b1 :: b2 :: r)[k]? = some (.row gk k2)) (hDD : D2 = D) (hl : len2 = len) (he : es2 = es) (hks : k2 = ks) :
  AClose E (fun d' τ' => ∃ g', B < g' /\ d' = D (.ref 3 g' 0 len es) /\ τ' = [b0, b1, b2, .row g' ks]) (D2 (.ref k gk 0 len2 es2)) (b0 :: b1 :: b2 :: r) := by
 subst hDD hl he hks
 refine (hD.close (c_own (m := 3) (R := fun d' τ' => ∃ g', B < g' /\ d' = .ref 3 g' 0 len2 es2 /\ τ' = [b0, b1, b2, .row g' k2]) hk1 hk fun g' hg' => ⟨g', by omega, rfl, rfl⟩) ?_).mono ?_
 ·rintro d0 σ' ⟨g', _, rfl, _⟩; rfl
 ·rintro d' σ' ⟨d0, ⟨g', h1, rfl, h3⟩, rfl⟩
  exact ⟨g', h1, rfl, h3⟩
end
theorem stmt1_rc (L : Zq) (E : Rd1) (r0 : Nat) (hE : ElC G 176 L E r0) (S : RS) (hr : rM L S <= r0) (kk : Int) (g gb g2 B : Nat) (hg : g <= B) :
  ACalls Tryz.prog G B 175 [.i kk, .ptr 1 gb 0] [.row g (rdC L S), .row gb [.ptr 0 g 0], .row g2 [.i 0, .i 0, .i 0, .nil]] (fun d τ => ∃ g', B < g' /\ d = .agg [.i kk, .i 0, .i 0, .ref 3 g' 0 [(E S).1].length 4] /\ τ = [.row g (rdC L (E S).2), .row gb [.ptr 0 g 0], .row g2 [.i 0, .i 0, .i 0, .nil], .row g' (Ws [(E S).1])]) := by
 obtain ⟨hE2, _⟩ := hE S hr
 generalize (E S).1 = xE at *
 generalize (E S).2 = S2 at *
 refine Qa Tryz.func175 rfl Tryz.ntmps175 rfl (t := [(0, .i kk), (1, .ptr 1 gb 0)]) rfl fun E0 hE1 => ?_
 (repeat' first | (refine Qg ?_; (first | refine QJ rfl ?_ | refine Qc rfl rfl rfl ?_ | refine Q4 0 (hE2) rfl rfl rfl rfl ?_ | refine WD rfl rfl rfl rfl ?_ | refine s_bslice_own1 (z := xE) rfl rfl rfl rfl (fun _ _ => ?_) | refine QA rfl rfl ?_ | refine Qu (fun _ _ => ?_))) | (refine Qk ?_; (first | refine Qi ?_ | refine QK rfl ?_ | refine QR ?_)) | (refine Qj ?_; (first | refine Ql ?_ | refine Qb ?_ | refine Qy ?_)))
 exact e_1 (Tryz.results175) (Qz (size := 4) rfl rfl rfl rfl) (c_co3 (k := 4) (D := fun d => .agg [.i kk, .i 0, .i 0, d]) (.node rfl rfl rfl) hE1 (by omega) rfl rfl rfl rfl rfl)
theorem assign_rc (L : Zq) (hL : OkL L) (E : Rd1) (r0 : Nat) (hE : ElC G 176 L E r0) (S : RS) (hr : rM L S <= r0 + 1) (hw : isM L 118 S = true) :
  CE Tryz.prog G 178 (fun p g => [.ptr p g 0]) (rdC L S) (.agg (Enc.enc (qu L E S).1)) (rdC L (qu L E S).2) := fun g B hg => by
 obtain ⟨hv, hvl⟩ := variable_rc (G := G) L hL E r0 hE S hr
 have hlt : rM L (Wq L E S).2 <= r0 := by
  have h1 := (WE (L := L) (S := S) rfl (is_now hw).1).1
  have h2 : (Qh L 118 S).2 = Qn S := by unfold Qh; rw [if_pos hw]
  have hn : rM L (Qh L 118 S).2 <= r0 := by rw [h2]; omega
  unfold Wq varTail
  generalize (Qh L 118 S).2 = S1 at *
  split
  ·rename_i hc
   have h3 := (WE hc (by decide)).1
   have h4 := (hE (Qn S1) (by omega)).2
   have h5 := rM_take (L := L) (S := (E (Qn S1)).2) [93] (by decide)
   show rM L (QU L [93] (E (Qn S1)).2) <= r0
   omega
  ·split
   ·rename_i hc
    have h3 := (WE hc (by decide)).1
    have h4 := rM_numeral L (Qn S1)
    show rM L (Qw L (Qn S1)).2 <= r0
    omega
   ·exact hn
 have hkl : (kidsN (Wq L E S).1).length <= 1 := by
  unfold Wq varTail
  repeat' split
  all_goals simp [kidsN]
 unfold qu
 generalize (Wq L E S).1 = v at *
 generalize (Wq L E S).2 = S1 at *
 obtain ⟨k, n, m, ks⟩ := v
 have hvar : CO Tryz.prog G 199 (fun p g => [.ptr p g 0]) (rdC L S) (fun d => .agg [.i k, .i n, .i m, d]) ks.length 4 (Ws ks) (rdC L S1) := hv
 have htk := take_c (G := G) L S1 hL [61] (by decide)
 have hle := rM_take (L := L) (S := S1) [61] (by decide)
 generalize QU L [61] S1 = S2 at *
 obtain ⟨hx2, _⟩ := hE S2 (by omega)
 generalize (E S2).1 = x2 at *
 generalize (E S2).2 = S3 at *
 unfold setM setKind
 dsimp only
 have hkl : ks.length <= 1 := hkl
 by_cases k7 : k = 7
 ·rw [if_pos k7]
  refine Qa Tryz.func178 rfl Tryz.ntmps178 rfl (t := [(0, .ptr 0 g 0)]) rfl fun E0 hE1 => ?_
  (repeat' first | (refine Qg ?_; (first | refine QJ rfl ?_ | refine QN rfl ?_ | (refine QG ?_; (first | refine WL rfl rfl ?_ | refine Qc rfl rfl rfl ?_)) | refine Q1 rfl rfl ?_ | (refine Qt ?_; (first | refine Zt (z := x2) rfl rfl rfl rfl rfl rfl rfl (by first | omega | (simp; omega)) (by first | omega | (simp; omega)) (fun _ => rfl) (fun _ _ => ?_) | refine Q4 0 (hx2) rfl rfl rfl rfl ?_ | refine Q4 0 (htk) rfl rfl rfl rfl ?_ | refine s_co 0 (hvar) (by first | exact .id | exact .node rfl rfl rfl) rfl rfl rfl rfl (QC _) (fun _ _ => ?_))) | (refine Wg ?_; (first | refine WD rfl rfl rfl rfl ?_ | refine QZ rfl rfl rfl rfl (by rfl) (by rfl) (by rfl) ?_)) | refine Qd rfl rfl ?_ | refine Qu (fun _ _ => ?_))) | (refine Qk ?_; (first | refine Qi ?_ | refine QK rfl ?_ | refine QR ?_)) | (refine Qj ?_; (first | refine Ql ?_ | refine Qb ?_ | refine Qe ?_ | (refine WF ?_; first | (rename_i g2 hg2 gk hgk gn hgn; refine Qv (fun p => p.1 :: .row g2 [.i 0, .i 0, .i 0, .nil] :: p.2 :: .row gn [.i k, .i n, .i m, .ref 2 gk 0 ks.length 4] :: []) 7 [(0, true), (1, true), (2, true), (3, false), (4, true), (5, false), (6, true), (7, false)] (by rfl) (by rfl) (by kernel_rfl) (by decide +kernel) (by decide +kernel) ⟨(_, _), rfl⟩ ?_) | (refine Qv (fun p => p.1 :: p.2 :: []) 100 [(0, true)] (by rfl) (by rfl) (by kernel_rfl) (by decide +kernel) (by decide +kernel) ⟨(_, _), rfl⟩ ?_) | (refine Qv (fun p => p) 100 [(0, true)] (by rfl) (by rfl) (by kernel_rfl) (by decide +kernel) (by decide +kernel) ⟨_, rfl⟩ ?_) | refine Wm (by rfl) (by kernel_rfl) (by kernel_rfl) ?_ | refine Wl (by kernel_rfl) (by kernel_rfl) ?_) | refine Qm rfl (by omega) ?_ | refine Qy ?_)) | (refine W6 ?_; (first | refine ZG ?_ | refine i_z0 ?_ | refine i_st rfl rfl (fun _ => (by (repeat' first | (refine Qg ?_; (first | refine QJ rfl ?_ | refine Qc rfl rfl rfl ?_ | refine Q3 (z := x2) rfl rfl (by decide) ?_ | refine Qd rfl rfl ?_)) | exact ⟨rfl, rfl⟩))) ?_ | refine i_ef rfl ?_)) | refine And.intro (Exists.intro ((_, _)) rfl) ?_)
  exact e_1 (Tryz.results178) (Qz (size := 4) rfl rfl rfl rfl) (Zi (D := fun d => .agg [.i 15, .i n, .i m, d]) (k := 1) (.node rfl rfl rfl) rfl (by rw [QS]; rfl) (by rw [QQ]; rfl) rfl)
 rw [if_neg k7]
 by_cases k8 : k = 8
 ·rw [if_pos k8]
  refine Qa Tryz.func178 rfl Tryz.ntmps178 rfl (t := [(0, .ptr 0 g 0)]) rfl fun E0 hE1 => ?_
  (repeat' first | (refine Qg ?_; (first | refine QJ rfl ?_ | refine QN rfl ?_ | (refine QG ?_; (first | refine WL rfl rfl ?_ | refine Qc rfl rfl rfl ?_)) | refine Q1 rfl rfl ?_ | (refine Qt ?_; (first | refine Zt (z := x2) rfl rfl rfl rfl rfl rfl rfl (by first | omega | (simp; omega)) (by first | omega | (simp; omega)) (fun _ => rfl) (fun _ _ => ?_) | refine Q4 0 (hx2) rfl rfl rfl rfl ?_ | refine Q4 0 (htk) rfl rfl rfl rfl ?_ | refine s_co 0 (hvar) (by first | exact .id | exact .node rfl rfl rfl) rfl rfl rfl rfl (QC _) (fun _ _ => ?_))) | (refine Wg ?_; (first | refine WD rfl rfl rfl rfl ?_ | refine QZ rfl rfl rfl rfl (by rfl) (by rfl) (by rfl) ?_)) | refine Qd rfl rfl ?_ | refine Qu (fun _ _ => ?_))) | (refine Qk ?_; (first | refine Qi ?_ | refine QK rfl ?_ | refine QR ?_)) | (refine Qj ?_; (first | refine Ql ?_ | refine Qb ?_ | refine Qe ?_ | (refine WF ?_; first | (rename_i g2 hg2 gk hgk gn hgn; refine Qv (fun p => p.1 :: .row g2 [.i 0, .i 0, .i 0, .nil] :: p.2 :: .row gn [.i k, .i n, .i m, .ref 2 gk 0 ks.length 4] :: []) 7 [(0, true), (1, true), (2, true), (3, false), (4, true), (5, false), (6, true), (7, false)] (by rfl) (by rfl) (by kernel_rfl) (by decide +kernel) (by decide +kernel) ⟨(_, _), rfl⟩ ?_) | (refine Qv (fun p => p.1 :: p.2 :: []) 100 [(0, true)] (by rfl) (by rfl) (by kernel_rfl) (by decide +kernel) (by decide +kernel) ⟨(_, _), rfl⟩ ?_) | (refine Qv (fun p => p) 100 [(0, true)] (by rfl) (by rfl) (by kernel_rfl) (by decide +kernel) (by decide +kernel) ⟨_, rfl⟩ ?_) | refine Wm (by rfl) (by kernel_rfl) (by kernel_rfl) ?_ | refine Wl (by kernel_rfl) (by kernel_rfl) ?_) | refine Qm rfl (by omega) ?_ | refine Qf rfl (by omega) ?_ | refine Qy ?_)) | (refine W6 ?_; (first | refine ZG ?_ | refine i_z0 ?_ | refine i_st rfl rfl (fun _ => (by (repeat' first | (refine Qg ?_; (first | refine QJ rfl ?_ | refine Qc rfl rfl rfl ?_ | refine Q3 (z := x2) rfl rfl (by decide) ?_ | refine Qd rfl rfl ?_)) | exact ⟨rfl, rfl⟩))) ?_ | refine i_ef rfl ?_)) | refine And.intro (Exists.intro ((_, _)) rfl) ?_)
  exact e_1 (Tryz.results178) (Qz (size := 4) rfl rfl rfl rfl) (Zi (D := fun d => .agg [.i 16, .i n, .i m, d]) (k := 1) (.node rfl rfl rfl) rfl (by rw [QS]; rfl) (by rw [QQ]; rfl) rfl)
 ·rw [if_neg k8]
  refine Qa Tryz.func178 rfl Tryz.ntmps178 rfl (t := [(0, .ptr 0 g 0)]) rfl fun E0 hE1 => ?_
  (repeat' first | (refine Qg ?_; (first | refine QJ rfl ?_ | refine QN rfl ?_ | (refine QG ?_; (first | refine WL rfl rfl ?_ | refine Qc rfl rfl rfl ?_)) | refine Q1 rfl rfl ?_ | (refine Qt ?_; (first | refine Zt (z := x2) rfl rfl rfl rfl rfl rfl rfl (by first | omega | (simp; omega)) (by first | omega | (simp; omega)) (fun _ => rfl) (fun _ _ => ?_) | refine Q4 0 (hx2) rfl rfl rfl rfl ?_ | refine Q4 0 (htk) rfl rfl rfl rfl ?_ | refine s_co 0 (hvar) (by first | exact .id | exact .node rfl rfl rfl) rfl rfl rfl rfl (QC _) (fun _ _ => ?_))) | (refine Wg ?_; (first | refine WD rfl rfl rfl rfl ?_ | refine QZ rfl rfl rfl rfl (by rfl) (by rfl) (by rfl) ?_)) | refine Qd rfl rfl ?_ | refine Qu (fun _ _ => ?_))) | (refine Qk ?_; (first | refine Qi ?_ | refine QK rfl ?_ | refine QR ?_)) | (refine Qj ?_; (first | refine Ql ?_ | refine Qb ?_ | refine Qe ?_ | (refine WF ?_; first | (rename_i g2 hg2 gk hgk gn hgn; refine Qv (fun p => p.1 :: .row g2 [.i 0, .i 0, .i 0, .nil] :: p.2 :: .row gn [.i k, .i n, .i m, .ref 2 gk 0 ks.length 4] :: []) 7 [(0, true), (1, true), (2, true), (3, false), (4, true), (5, false), (6, true), (7, false)] (by rfl) (by rfl) (by kernel_rfl) (by decide +kernel) (by decide +kernel) ⟨(_, _), rfl⟩ ?_) | (refine Qv (fun p => p.1 :: p.2 :: []) 100 [(0, true)] (by rfl) (by rfl) (by kernel_rfl) (by decide +kernel) (by decide +kernel) ⟨(_, _), rfl⟩ ?_) | (refine Qv (fun p => p) 100 [(0, true)] (by rfl) (by rfl) (by kernel_rfl) (by decide +kernel) (by decide +kernel) ⟨_, rfl⟩ ?_) | refine Wm (by rfl) (by kernel_rfl) (by kernel_rfl) ?_ | refine Wl (by kernel_rfl) (by kernel_rfl) ?_) | refine Qf rfl (by omega) ?_ | refine Qy ?_)) | (refine W6 ?_; (first | refine ZG ?_ | refine i_z0 ?_ | refine i_st rfl rfl (fun _ => (by (repeat' first | (refine Qg ?_; (first | refine QJ rfl ?_ | refine Qc rfl rfl rfl ?_ | refine Q3 (z := x2) rfl rfl (by decide) ?_ | refine Qd rfl rfl ?_)) | exact ⟨rfl, rfl⟩))) ?_ | refine i_ef rfl ?_)) | refine And.intro (Exists.intro ((_, _)) rfl) ?_)
  exact e_1 (Tryz.results178) (Qz (size := 4) rfl rfl rfl rfl) (Zi (D := fun d => .agg [.i 14, .i n, .i m, d]) (k := 1) (.node rfl rfl rfl) rfl (by rw [QS]; rfl) (by rw [QQ]; rfl) rfl)
theorem agg4_nil {L : Lay} {a b c : DV} {es : Nat} {v : Value} (h : VRep L (.agg [a, b, c, .sc (.slice none 0 0)]) v) : VRep L (.agg [a, b, c, .sl es []]) v := by
 cases h with | agg _ vs hl ho hg =>
 refine .agg _ _ hl (fun e he => ?_) fun j e hj => ?_
 ·simp only [List.mem_cons, List.not_mem_nil, or_false] at he
  rcases he with rfl | rfl | rfl | rfl
  ·exact ho _ (by simp)
  ·exact ho _ (by simp)
  ·exact ho _ (by simp)
  ·rfl
 ·match j with
  | 0 => exact hg 0 e hj
  | 1 => exact hg 1 e hj
  | 2 => exact hg 2 e hj
  | 3 => simp at hj; subst hj; exact nil_str (hg 3 _ rfl)
  | j + 4 => simp at hj
theorem partD_node (v : Nd) : partD (Enc.enc v) 0 4 = some (Enc.enc v) := by cases v; rw [QQ]; rfl
theorem numeralM_le (L : Zq) (S : RS) : 0 <= (Qw L S).1 /\ (Qw L S).1 <= 999 := by
 unfold Qw
 split
 ·rename_i h; exact ⟨(val_num h).2.1, (val_num h).2.2⟩
 ·simp
theorem args_le {F : FuncId} {L : Zq} {E : Rd1} {r0 : Nat} (hE : ElC G F L E r0) (k : Nat) (S : RS) (h : rM L S <= r0) : rM L (WH L E k S).2 <= rM L S := by
 have h1 := rM_take (L := L) (S := S) [40] (by decide)
 unfold WH
 split
 ·rename_i hc
  have := (WE hc (by decide)).1
  show rM L (Qn (QU L [40] S)) <= _
  omega
 ·have := list_le hE k (QU L [40] S) (by omega)
  omega
theorem one_c (k n : Int) : Go.Av.Pure Tryz.prog G 198 [.i k, .i n] (.agg [.i k, .i n, .i 0, QW ([] : List Nd)]) := fun B => by
 refine Qa Tryz.func198 rfl Tryz.ntmps198 rfl (t := [(0, .i k), (1, .i n)]) rfl fun E hE => ?_
 (repeat' first | (refine Qg ?_; (first | refine QJ rfl ?_ | refine WD rfl rfl rfl rfl ?_ | refine QA rfl rfl ?_ | refine Qu (fun _ _ => ?_))) | (refine Qk ?_; (first | refine Qi ?_ | refine QK rfl ?_ | refine QR ?_)) | (refine Qj ?_; (first | refine Ql ?_ | refine Qb ?_ | refine Qy ?_)))
 exact e_1 (Tryz.results198) (Qz (size := 4) rfl rfl rfl rfl) (c_conv (d2 := .agg [.i k, .i n, .i 0, .sl 4 []]) (fun L v h => agg4_nil h) (QY rfl))
theorem expr_rc (hG1 : G 1 = spaceT) (L : Zq) (hL : OkL L) : ∀ (n : Nat) (S : RS), rM L S + 2 <= n -> CE Tryz.prog G 176 (fun p g => [.ptr p g 0]) (rdC L S) (.agg (Enc.enc (Wz L (.mk 4 0 0 []) n S).1)) (rdC L (Wz L (.mk 4 0 0 []) n S).2) /\ rM L (Wz L (.mk 4 0 0 []) n S).2 <= rM L S := by
 intro n
 induction n with
 | zero => intro S h; omega
 | succ n ih =>
 intro S hn
 rw [Wz]
 have htn := tnum_c (G := G) (QV L S) (now_len hL S)
 by_cases h1 : numB (QV L S) = true
 ·rw [if_pos h1]
  rw [h1] at htn
  have hnm := qj (G := G) L S hL
  have hnl := rM_numeral L S
  refine ⟨fun g B hg => ?_, by first | omega | (simp only; omega)⟩
  refine Qa Tryz.func176 rfl Tryz.ntmps176 rfl (t := [(0, .ptr 0 g 0)]) rfl fun E0 hE1 => ?_
  (repeat' first | (refine Qg ?_; (first | refine QJ rfl ?_ | refine QN rfl ?_ | (refine Qt ?_; (first | refine WR rfl rfl (htn) ?_ | refine Z4 rfl (one_c _ _) (by repeat' first | exact Wh | exact Wu _ | exact Wt (QC _) | exact QC _ | refine ZI ?_ ?_ | refine Zu ?_ | refine WV ?_ | refine WK ?_ | exact W0 | refine Wp ?_ ?_ | refine Wt ?_) ?_ | refine Q4 0 (ZQ L S hL) rfl rfl rfl rfl ?_ | refine Q4 0 (hnm) rfl rfl rfl rfl ?_)) | refine WD rfl rfl rfl rfl ?_ | refine Qu (fun _ _ => ?_))) | (refine Qk ?_; (first | refine Qi ?_ | refine QK rfl ?_ | refine QR ?_)) | (refine Qj ?_; (first | refine Ql ?_ | refine Qb ?_ | refine Qe ?_ | refine Qq rfl ?_ | refine Qy ?_)))
  refine e_1 (Tryz.results176) (Qz (size := 4) rfl rfl rfl rfl) ?_
  rw [QQ]
  exact c_ce rfl rfl
 rw [if_neg h1]
 rw [show numB (QV L S) = false by simpa using h1] at htn
 have his1 := is_c (G := G) L S hL 118
 have hel : rM L S >= 1 -> ElC G 176 L (Wz L (.mk 4 0 0 []) n) (rM L S - 1) := fun _ Q hQ => ih Q (by omega)
 by_cases h2 : isM L 118 S = true
 ·rw [if_pos h2]
  rw [h2] at his1
  have hrn := (WE (L := L) (S := S) rfl (is_now h2).1).1
  obtain ⟨hv, hvl⟩ := variable_rc (G := G) L hL _ _ (hel (by omega)) S (by omega)
  have hvar := (hv.pub (frmN_ok _) (by rw [QS]; rfl)).conv (frmN_enc _) rfl
  refine ⟨fun g B hg => ?_, by first | exact hvl | omega | (simp only; omega) | (simp only; rw [Z6]; omega)⟩
  refine Qa Tryz.func176 rfl Tryz.ntmps176 rfl (t := [(0, .ptr 0 g 0)]) rfl fun E0 hE1 => ?_
  (repeat' first | (refine Qg ?_; (first | refine QJ rfl ?_ | refine QN rfl ?_ | (refine Qt ?_; (first | refine WR rfl rfl (htn) ?_ | refine Q4 0 (ZQ L S hL) rfl rfl rfl rfl ?_ | refine Q4 0 (his1) rfl rfl rfl rfl ?_ | refine Q4 0 (hvar) rfl rfl rfl rfl ?_)) | refine WD rfl rfl rfl rfl ?_ | refine Qu (fun _ _ => ?_))) | (refine Qk ?_; (first | refine Qi ?_ | refine QK rfl ?_ | refine QR ?_)) | (refine Qj ?_; (first | refine Ql ?_ | refine Qb ?_ | refine Qe ?_ | refine Qq rfl ?_ | refine Qs rfl ?_ | refine Qy ?_)))
  exact e_1 (Tryz.results176) (Qz (size := 4) rfl rfl (partD_node _) (Enc.len _)) (c_ce rfl rfl)
 rw [if_neg h2]
 rw [show isM L 118 S = false by simpa using h2] at his1
 have his2 := is_c (G := G) L S hL 102
 by_cases h3 : isM L 102 S = true
 ·rw [if_pos h3]
  rw [h3] at his2
  have hrn := (WE (L := L) (S := S) rfl (is_now h3).1).1
  have hnb := numbered_c (G := G) L S hL 102
  have hr2 : rM L (Qh L 102 S).2 + 1 = rM L S := by unfold Qh; rw [if_pos h3]; exact hrn
  generalize (Qh L 102 S).1 = v at *
  generalize (Qh L 102 S).2 = S1 at *
  have hargs := args_rc (G := G) 176 L _ _ n hL (hel (by omega)) S1 (by omega) (by omega)
  have hal := args_le (hel (by omega)) n S1 (by omega)
  refine ⟨fun g B hg => ?_, by first | omega | (simp only; omega) | (simp only; rw [Z6]; omega)⟩
  refine Qa Tryz.func176 rfl Tryz.ntmps176 rfl (t := [(0, .ptr 0 g 0)]) rfl fun E0 hE1 => ?_
  (repeat' first | (refine Qg ?_; (first | refine QJ rfl ?_ | refine QN rfl ?_ | refine WL rfl rfl ?_ | (refine Qt ?_; (first | refine WR rfl rfl (htn) ?_ | refine Z4 rfl (one_c _ _) (by repeat' first | exact Wh | exact Wu _ | exact Wt (QC _) | exact QC _ | refine ZI ?_ ?_ | refine Zu ?_ | refine WV ?_ | refine WK ?_ | exact W0 | refine Wp ?_ ?_ | refine Wt ?_) ?_ | refine Q4 0 (ZQ L S hL) rfl rfl rfl rfl ?_ | refine Q4 0 (his1) rfl rfl rfl rfl ?_ | refine Q4 0 (his2) rfl rfl rfl rfl ?_ | refine Q4 0 (hnb) rfl rfl rfl rfl ?_ | refine s_co 0 (hargs) (by first | exact .id | exact .node rfl rfl rfl) rfl rfl rfl rfl (QC _) (fun _ _ => ?_))) | (refine Wg ?_; (first | refine WD rfl rfl rfl rfl ?_ | refine QZ rfl rfl rfl rfl (by rfl) (by rfl) (by rfl) ?_)) | refine Qd rfl rfl ?_ | refine QH rfl rfl ?_ | refine Qu (fun _ _ => ?_))) | (refine Qk ?_; (first | refine Qi ?_ | refine QK rfl ?_ | refine QR ?_)) | (refine Qj ?_; (first | refine Ql ?_ | refine Qb ?_ | refine Qe ?_ | refine Qq rfl ?_ | refine Qs rfl ?_ | refine Qy ?_)))
  exact e_1 (Tryz.results176) (Qz (size := 4) rfl rfl rfl rfl) (Zi (D := fun d => .agg [.i 11, .i v, .i 0, d]) (k := 2) (.node rfl rfl rfl) rfl (by rw [QS]; rfl) (by rw [QQ]; rfl) rfl)
 rw [if_neg h3]
 rw [show isM L 102 S = false by simpa using h3] at his2
 by_cases h4 : QV L S = [45]
 ·rw [if_pos h4]
  have hrn := (WE h4 (by decide)).1
  have hnw2 := ZQ (G := G) L (Qn S) hL
  by_cases h5 : QV L (Qn S) = [48]
  ·rw [if_pos h5]
   have hd : decide (QV L (Qn S) = [48]) = true := decide_eq_true h5
   have hfl := fail_c (G := G) L (Qn S)
   have hnm := qj (G := G) L (WQ (Qn S)) hL
   rw [show Qw L (WQ (Qn S)) = (0, WQ (Qn S)) by unfold Qw QV WQ; simp [numB]] at hnm
   refine ⟨fun g B hg => ?_, by first | omega | (simp only; omega) | (simp only; rw [Z6]; omega)⟩
   refine Qa Tryz.func176 rfl Tryz.ntmps176 rfl (t := [(0, .ptr 0 g 0)]) rfl fun E0 hE1 => ?_
   (repeat' first | (refine Qg ?_; (first | refine QJ rfl ?_ | refine QN rfl ?_ | refine Wx rfl rfl ?_ | (refine Qt ?_; (first | refine WR rfl rfl (htn) ?_ | refine Z4 rfl (one_c _ _) (by repeat' first | exact Wh | exact Wu _ | exact Wt (QC _) | exact QC _ | refine ZI ?_ ?_ | refine Zu ?_ | refine WV ?_ | refine WK ?_ | exact W0 | refine Wp ?_ ?_ | refine Wt ?_) ?_ | refine Q4 0 (ZQ L S hL) rfl rfl rfl rfl ?_ | refine Q4 0 (his1) rfl rfl rfl rfl ?_ | refine Q4 0 (his2) rfl rfl rfl rfl ?_ | refine Q4 0 (hnw2) rfl rfl rfl rfl ?_ | refine Q4 0 (ZC L S hL _ (by decide) (by assumption)) rfl rfl rfl rfl ?_ | refine Q4 0 (hnm) rfl rfl rfl rfl ?_ | refine Q4 0 (hfl) rfl rfl rfl rfl ?_)) | refine WD rfl rfl rfl rfl ?_ | refine s_neg rfl (by omega) ?_ | refine Qu (fun _ _ => ?_))) | (refine Qk ?_; (first | refine Qi ?_ | refine QK rfl ?_ | refine QR ?_)) | (refine Qj ?_; (first | refine Ql ?_ | refine Qb ?_ | refine Qe ?_ | refine Qq rfl ?_ | refine Qs rfl ?_ | refine Qm rfl (by omega) ?_ | refine Qy ?_)))
   refine e_1 (Tryz.results176) (Qz (size := 4) rfl rfl rfl rfl) ?_
   rw [QQ]
   exact c_ce rfl rfl
  ·rw [if_neg h5]
   have hd : decide (QV L (Qn S) = [48]) = false := decide_eq_false h5
   have hnm := qj (G := G) L (Qn S) hL
   have hnl := rM_numeral L (Qn S)
   have hnb := numeralM_le L (Qn S)
   generalize (Qw L (Qn S)).1 = v at *
   generalize (Qw L (Qn S)).2 = S2 at *
   refine ⟨fun g B hg => ?_, by first | omega | (simp only; omega) | (simp only; rw [Z6]; omega)⟩
   refine Qa Tryz.func176 rfl Tryz.ntmps176 rfl (t := [(0, .ptr 0 g 0)]) rfl fun E0 hE1 => ?_
   (repeat' first | (refine Qg ?_; (first | refine QJ rfl ?_ | refine QN rfl ?_ | refine Wx rfl rfl ?_ | (refine Qt ?_; (first | refine WR rfl rfl (htn) ?_ | refine Z4 rfl (one_c _ _) (by repeat' first | exact Wh | exact Wu _ | exact Wt (QC _) | exact QC _ | refine ZI ?_ ?_ | refine Zu ?_ | refine WV ?_ | refine WK ?_ | exact W0 | refine Wp ?_ ?_ | refine Wt ?_) ?_ | refine Q4 0 (ZQ L S hL) rfl rfl rfl rfl ?_ | refine Q4 0 (his1) rfl rfl rfl rfl ?_ | refine Q4 0 (his2) rfl rfl rfl rfl ?_ | refine Q4 0 (hnw2) rfl rfl rfl rfl ?_ | refine Q4 0 (ZC L S hL _ (by decide) (by assumption)) rfl rfl rfl rfl ?_ | refine Q4 0 (hnm) rfl rfl rfl rfl ?_)) | refine WD rfl rfl rfl rfl ?_ | refine s_neg rfl (by omega) ?_ | refine Qu (fun _ _ => ?_))) | (refine Qk ?_; (first | refine Qi ?_ | refine QK rfl ?_ | refine QR ?_)) | (refine Qj ?_; (first | refine Ql ?_ | refine Qb ?_ | refine Qe ?_ | refine QB ?_ | refine Qq rfl ?_ | refine Qs rfl ?_ | refine Qf rfl (by omega) ?_ | refine Qy ?_)))
   refine e_1 (Tryz.results176) (Qz (size := 4) rfl rfl rfl rfl) ?_
   rw [QQ]
   exact c_ce rfl rfl
 rw [if_neg h4]
 by_cases hwTrue : QV L S = wTrue
 ·rw [if_pos hwTrue]
  have hrn := (WE hwTrue (by decide)).1
  refine ⟨fun g B hg => ?_, by first | omega | (simp only; omega) | (simp only; rw [Z6]; omega)⟩
  refine Qa Tryz.func176 rfl Tryz.ntmps176 rfl (t := [(0, .ptr 0 g 0)]) rfl fun E0 hE1 => ?_
  (repeat' first | (refine Qg ?_; (first | refine QJ rfl ?_ | refine QN rfl ?_ | (refine Qt ?_; (first | refine WR rfl rfl (htn) ?_ | refine Z4 rfl (one_c _ _) (by repeat' first | exact Wh | exact Wu _ | exact Wt (QC _) | exact QC _ | refine ZI ?_ ?_ | refine Zu ?_ | refine WV ?_ | refine WK ?_ | exact W0 | refine Wp ?_ ?_ | refine Wt ?_) ?_ | refine Q4 0 (ZQ L S hL) rfl rfl rfl rfl ?_ | refine Q4 0 (his1) rfl rfl rfl rfl ?_ | refine Q4 0 (his2) rfl rfl rfl rfl ?_ | refine Q4 0 (ZH L S hL _ (by decide) (by assumption)) rfl rfl rfl rfl ?_ | refine Q4 0 (ZC L S hL _ (by decide) (by assumption)) rfl rfl rfl rfl ?_)) | refine WD rfl rfl rfl rfl ?_ | refine Qu (fun _ _ => ?_))) | (refine Qk ?_; (first | refine Qi ?_ | refine QK rfl ?_ | refine QR ?_)) | (refine Qj ?_; (first | refine Ql ?_ | refine Qb ?_ | refine Qe ?_ | refine Qq rfl ?_ | refine Qs rfl ?_ | refine Qy ?_)))
  refine e_1 (Tryz.results176) (Qz (size := 4) rfl rfl rfl rfl) ?_
  rw [QQ]
  exact c_ce rfl rfl
 rw [if_neg hwTrue]
 by_cases hwFalse : QV L S = wFalse
 ·rw [if_pos hwFalse]
  have hrn := (WE hwFalse (by decide)).1
  refine ⟨fun g B hg => ?_, by first | omega | (simp only; omega) | (simp only; rw [Z6]; omega)⟩
  refine Qa Tryz.func176 rfl Tryz.ntmps176 rfl (t := [(0, .ptr 0 g 0)]) rfl fun E0 hE1 => ?_
  (repeat' first | (refine Qg ?_; (first | refine QJ rfl ?_ | refine QN rfl ?_ | (refine Qt ?_; (first | refine WR rfl rfl (htn) ?_ | refine Z4 rfl (one_c _ _) (by repeat' first | exact Wh | exact Wu _ | exact Wt (QC _) | exact QC _ | refine ZI ?_ ?_ | refine Zu ?_ | refine WV ?_ | refine WK ?_ | exact W0 | refine Wp ?_ ?_ | refine Wt ?_) ?_ | refine Q4 0 (ZQ L S hL) rfl rfl rfl rfl ?_ | refine Q4 0 (his1) rfl rfl rfl rfl ?_ | refine Q4 0 (his2) rfl rfl rfl rfl ?_ | refine Q4 0 (ZH L S hL _ (by decide) (by assumption)) rfl rfl rfl rfl ?_ | refine Q4 0 (ZC L S hL _ (by decide) (by assumption)) rfl rfl rfl rfl ?_)) | refine WD rfl rfl rfl rfl ?_ | refine Qu (fun _ _ => ?_))) | (refine Qk ?_; (first | refine Qi ?_ | refine QK rfl ?_ | refine QR ?_)) | (refine Qj ?_; (first | refine Ql ?_ | refine Qb ?_ | refine Qe ?_ | refine Qq rfl ?_ | refine Qs rfl ?_ | refine Qy ?_)))
  refine e_1 (Tryz.results176) (Qz (size := 4) rfl rfl rfl rfl) ?_
  rw [QQ]
  exact c_ce rfl rfl
 rw [if_neg hwFalse]
 by_cases h6 : QV L S = [40]
 ·rw [if_pos h6]
  have hrn := (WE h6 (by decide)).1
  obtain ⟨hbin, hbl⟩ := binary_rc (G := G) hG1 L hL _ _ (hel (by omega)) (Qn S) (by omega)
  refine ⟨fun g B hg => ?_, by omega⟩
  refine Qa Tryz.func176 rfl Tryz.ntmps176 rfl (t := [(0, .ptr 0 g 0)]) rfl fun E0 hE1 => ?_
  (repeat' first | (refine Qg ?_; (first | refine QJ rfl ?_ | refine QN rfl ?_ | (refine Qt ?_; (first | refine WR rfl rfl (htn) ?_ | refine Q4 0 (ZQ L S hL) rfl rfl rfl rfl ?_ | refine Q4 0 (his1) rfl rfl rfl rfl ?_ | refine Q4 0 (his2) rfl rfl rfl rfl ?_ | refine Q4 0 (ZH L S hL _ (by decide) (by assumption)) rfl rfl rfl rfl ?_ | refine Q4 0 (ZC L S hL _ (by decide) (by assumption)) rfl rfl rfl rfl ?_ | refine Q4 0 (hbin) rfl rfl rfl rfl ?_)) | refine WD rfl rfl rfl rfl ?_ | refine Qu (fun _ _ => ?_))) | (refine Qk ?_; (first | refine Qi ?_ | refine QK rfl ?_ | refine QR ?_)) | (refine Qj ?_; (first | refine Ql ?_ | refine Qb ?_ | refine Qe ?_ | refine Qq rfl ?_ | refine Qs rfl ?_ | refine Qy ?_)))
  exact e_1 (Tryz.results176) (Qz (size := 4) rfl rfl (partD_node _) (Enc.len _)) (c_ce rfl rfl)
 rw [if_neg h6]
 by_cases h7 : QV L S = [33]
 ·rw [if_pos h7]
  have hrn := (WE h7 (by decide)).1
  obtain ⟨hE2, hl2⟩ := hel (by omega) (Qn S) (by omega)
  generalize (Wz L (.mk 4 0 0 []) n (Qn S)).1 = xE at *
  generalize (Wz L (.mk 4 0 0 []) n (Qn S)).2 = S2 at *
  refine ⟨fun g B hg => ?_, by first | omega | (simp only; omega) | (simp only; rw [Z6]; omega)⟩
  refine Qa Tryz.func176 rfl Tryz.ntmps176 rfl (t := [(0, .ptr 0 g 0)]) rfl fun E0 hE1 => ?_
  (repeat' first | (refine Qg ?_; (first | refine QJ rfl ?_ | refine QN rfl ?_ | (refine Qt ?_; (first | refine WR rfl rfl (htn) ?_ | refine Q4 0 (ZQ L S hL) rfl rfl rfl rfl ?_ | refine Q4 0 (his1) rfl rfl rfl rfl ?_ | refine Q4 0 (his2) rfl rfl rfl rfl ?_ | refine Q4 0 (ZH L S hL _ (by decide) (by assumption)) rfl rfl rfl rfl ?_ | refine Q4 0 (ZC L S hL _ (by decide) (by assumption)) rfl rfl rfl rfl ?_ | refine Q4 0 (hE2) rfl rfl rfl rfl ?_)) | refine WD rfl rfl rfl rfl ?_ | refine Q3 (z := xE) rfl rfl (by decide) ?_ | refine QA rfl rfl ?_ | refine Qu (fun _ _ => ?_))) | (refine Qk ?_; (first | refine Qi ?_ | refine QK rfl ?_ | refine QR ?_)) | (refine Qj ?_; (first | refine Ql ?_ | refine Qb ?_ | refine Qe ?_ | refine Qq rfl ?_ | refine Qs rfl ?_ | refine Qy ?_)))
  refine e_1 (Tryz.results176) (Qz (size := 4) rfl rfl rfl rfl) ?_
  rw [QQ]
  exact c_ce (by simp [QW, Ws]; try rfl) rfl
 rw [if_neg h7]
 by_cases h8 : QV L S = wRecv
 ·rw [if_pos h8]
  have hrn := (WE h8 (by decide)).1
  have hnb := numbered_c (G := G) L (Qn S) hL 99
  have hnl := rM_numbered L 99 (Qn S)
  refine ⟨fun g B hg => ?_, by first | omega | (simp only; omega) | (simp only; rw [Z6]; omega)⟩
  refine Qa Tryz.func176 rfl Tryz.ntmps176 rfl (t := [(0, .ptr 0 g 0)]) rfl fun E0 hE1 => ?_
  (repeat' first | (refine Qg ?_; (first | refine QJ rfl ?_ | refine QN rfl ?_ | (refine Qt ?_; (first | refine WR rfl rfl (htn) ?_ | refine Z4 rfl (one_c _ _) (by repeat' first | exact Wh | exact Wu _ | exact Wt (QC _) | exact QC _ | refine ZI ?_ ?_ | refine Zu ?_ | refine WV ?_ | refine WK ?_ | exact W0 | refine Wp ?_ ?_ | refine Wt ?_) ?_ | refine Q4 0 (ZQ L S hL) rfl rfl rfl rfl ?_ | refine Q4 0 (his1) rfl rfl rfl rfl ?_ | refine Q4 0 (his2) rfl rfl rfl rfl ?_ | refine Q4 0 (ZH L S hL _ (by decide) (by assumption)) rfl rfl rfl rfl ?_ | refine Q4 0 (ZC L S hL _ (by decide) (by assumption)) rfl rfl rfl rfl ?_ | refine Q4 0 (hnb) rfl rfl rfl rfl ?_)) | refine WD rfl rfl rfl rfl ?_ | refine Qu (fun _ _ => ?_))) | (refine Qk ?_; (first | refine Qi ?_ | refine QK rfl ?_ | refine QR ?_)) | (refine Qj ?_; (first | refine Ql ?_ | refine Qb ?_ | refine Qe ?_ | refine Qq rfl ?_ | refine Qs rfl ?_ | refine Qy ?_)))
  refine e_1 (Tryz.results176) (Qz (size := 4) rfl rfl rfl rfl) ?_
  rw [QQ]
  exact c_ce rfl rfl
 rw [if_neg h8]
 refine ⟨fun g B hg => ?_, by first | omega | (simp only; omega) | (simp only; rw [Z6]; omega)⟩
 refine Qa Tryz.func176 rfl Tryz.ntmps176 rfl (t := [(0, .ptr 0 g 0)]) rfl fun E0 hE1 => ?_
 (repeat' first | (refine Qg ?_; (first | refine QJ rfl ?_ | refine QN rfl ?_ | (refine Qt ?_; (first | refine WR rfl rfl (htn) ?_ | refine Q4 0 (ZQ L S hL) rfl rfl rfl rfl ?_ | refine Q4 0 (his1) rfl rfl rfl rfl ?_ | refine Q4 0 (his2) rfl rfl rfl rfl ?_ | refine Q4 0 (ZH L S hL _ (by decide) (by assumption)) rfl rfl rfl rfl ?_ | refine Q4 0 (fail_c L S) rfl rfl rfl rfl ?_)) | refine WD rfl rfl rfl rfl ?_ | refine QA rfl rfl ?_ | refine Qu (fun _ _ => ?_))) | (refine Qk ?_; (first | refine Qi ?_ | refine QK rfl ?_ | refine QR ?_)) | (refine Qj ?_; (first | refine Ql ?_ | refine Qb ?_ | refine Qe ?_ | refine QB ?_ | refine Qs rfl ?_ | refine Qy ?_)))
 exact e_1 (Tryz.results176) (Qz (size := 4) rfl rfl rfl rfl) (WN (es := 4) (.node rfl rfl rfl) (by show _ = DV.agg (Enc.enc (Nd.mk 0 0 0 [])); rw [QQ]; rfl) rfl)
end Go.Proofs
end
section
namespace Go.Proofs
open Go.Av Go.Bl
theorem jr {α : Type} {L : Zq} {F : RS -> α × RS} (h : ∀ i, J i True F F) (S : RS) : rM L (F S).2 <= rM L S /\ mM L (F S).2 <= mM L S := by
 obtain ⟨h1, h2, _⟩ := h 0 S
 unfold rM mM
 cases hb : S.bad with
 | true => rw [h2 hb]; simp
 | false => constructor <;> split <;> simp <;> omega
theorem jB {L : Zq} {T : Rd1} (hT : ∀ i c, J i c T T) (k i : Nat) (c : Prop) : J i c (Wi L T k) (Wi L T k) := J.block (Ag.refl L i) (hT i) k c
theorem jS {L : Zq} {E : Rd1} (hE : ∀ i c, J i c E E) (q n i : Nat) (c : Prop) : J i c (WA L E q n) (WA L E q n) := J.stmt (Ag.refl L i) (hE i) q n c
theorem mm_is {L : Zq} {S : RS} {c : UInt8} (h : isM L c S = true) : mM L (Qh L c S).2 < mM L S := by
 have h1 := mm_next (L := L) (S := S) rfl (is_now h).1
 unfold Qh; rw [if_pos h]; exact h1
theorem eats_st {L : Zq} {E : Rd1} (hE : ∀ i c, J i c E E) (q n : Nat) : Eats L (WA L E q (n + 1)) := by
 intro S hb
 rw [WA]
 have hB : ∀ i c, J i c (Wi L (WA L E q n) n) (Wi L (WA L E q n) n) := fun i c => jB (fun i c => jS hE q n i c) n i c
 have nx : ∀ {α : Type} {F : RS -> α × RS} {s : List UInt8}, (∀ i, J i True F F) -> QV L S = s -> s ≠ [] -> mM L (F (Qn S)).2 < mM L S := fun hF h1 h2 => Nat.lt_of_le_of_lt (jr hF (Qn S)).2 (mm_next h1 h2)
 by_cases h : QV L S = [123]
 ·rw [if_pos h]
  have h1 := (mm_take (L := L) (S := S) [123] (by decide)).1
  have h2 := rm_mM L S
  have h3 : rM L S < mM L S := by unfold rM mM; rw [hb]; simp
  have h4 : mM L (Wr L (WA L E q n) n [] (QU L [123] S)).2 <= mM L (QU L [123] S) := (jr (fun i => J.bloop (Ag.refl L i) (fun c => jS hE q n i c) n True [] [] fun _ => rfl) _).2
  show mM L (Wr L (WA L E q n) n [] (QU L [123] S)).2 < _
  omega
 rw [if_neg h]
 clear h
 by_cases h : isM L 118 S = true
 ·rw [if_pos h]
  have h1 := mm_is h
  have h2 : mM L (Wq L E S).2 <= mM L (Qh L 118 S).2 := (jr (fun i => (J.vtail (Ag.refl L i) (hE i) _ _ : J i (True /\ (Qh L 118 S).1 = (Qh L 118 S).1) _ _).weak fun _ => ⟨trivial, rfl⟩) _).2
  have h3 : mM L (qu L E S).2 <= mM L (Wq L E S).2 := (jr (fun i => (J.atail (Ag.refl L i) (hE i) _ _ : J i (True /\ (Wq L E S).1 = (Wq L E S).1) _ _).weak fun _ => ⟨trivial, rfl⟩) _).2
  omega
 rw [if_neg h]
 clear h
 by_cases h : QV L S = wIf
 ·rw [if_pos h]
  exact nx (F := ifM L E (Wi L (WA L E q n) n)) (fun i => J.iff (Ag.refl L i) (hE i) (hB i)) h (by decide)
 rw [if_neg h]
 clear h
 by_cases h : QV L S = wWhile
 ·rw [if_pos h]
  exact nx (F := whileM E (Wi L (WA L E q n) n)) (fun i => J.whil (hE i) (hB i)) h (by decide)
 rw [if_neg h]
 clear h
 by_cases h : QV L S = wReturn
 ·rw [if_pos h]
  exact nx (F := oneM E 19 0) (fun i => J.one (hE i) _ _ _ fun _ => rfl) h (by decide)
 rw [if_neg h]
 clear h
 by_cases h : QV L S = wThrow
 ·rw [if_pos h]
  exact nx (F := oneM E 20 0) (fun i => J.one (hE i) _ _ _ fun _ => rfl) h (by decide)
 rw [if_neg h]
 clear h
 by_cases h : QV L S = wOut
 ·rw [if_pos h]
  exact nx (F := oneM E 24 0) (fun i => J.one (hE i) _ _ _ fun _ => rfl) h (by decide)
 rw [if_neg h]
 clear h
 by_cases h : QV L S = wSkip
 ·rw [if_pos h]
  exact mm_next h (by decide)
 rw [if_neg h]
 clear h
 by_cases h : QV L S = wTry
 ·rw [if_pos h]
  exact nx (F := tryM L (Wi L (WA L E q n) n)) (fun i => J.tri (Ag.refl L i) (hB i)) h (by decide)
 rw [if_neg h]
 clear h
 by_cases h : QV L S = wSend
 ·rw [if_pos h]
  have h1 := mm_next h (by decide)
  have h2 := (jr (L := L) (F := Qh L 99) (fun i => J.numbered (Ag.refl L i) 99) (Qn S)).2
  have h3 := (jr (L := L) (F := oneM E 22 (Qh L 99 (Qn S)).1) (fun i => J.one (hE i) _ _ _ fun _ => rfl) (Qh L 99 (Qn S)).2).2
  omega
 rw [if_neg h]
 clear h
 by_cases h : QV L S = wSpawn
 ·rw [if_pos h]
  have h1 := mm_next h (by decide)
  have h2 := (jr (L := L) (F := Qh L 102) (fun i => J.numbered (Ag.refl L i) 102) (Qn S)).2
  have h3 := (jr (L := L) (F := WH L E q) (fun i => J.arg (Ag.refl L i) (hE i) q) (Qh L 102 (Qn S)).2).2
  show mM L (WH L E q (Qh L 102 (Qn S)).2).2 < _
  omega
 rw [if_neg h]
 exact mm_fail hb
end Go.Proofs
end
