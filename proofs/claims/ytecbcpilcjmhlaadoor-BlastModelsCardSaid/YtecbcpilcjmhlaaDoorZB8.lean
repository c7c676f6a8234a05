/-
  Part 8 of the proof: V2.
-/
import Derived.Test.YtecbcpilcjmhlaaDoorZB1
import Derived.Test.YtecbcpilcjmhlaaDoorZB5
set_option linter.unusedSimpArgs false
set_option linter.unusedVariables false
set_option maxRecDepth 10000
set_option maxHeartbeats 4000000
section
namespace Go.Proofs
open Go.Av
variable {G : Nat -> DV}
attribute [local irreducible] OpSem WE WY W0 ACalls ZE QV RV
open Go.Fo
theorem roundM_none {cls : List (List Int)} {j : Nat} (hj : j < cls.length) {S : List Int} {ch : Bool} (h : stepM S cls[j] = none) : ZK (cls.drop j) S ch = none := by
 rw [List.drop_eq_getElem_cons hj, ZK, h]
theorem roundM_step {cls : List (List Int)} {j : Nat} (hj : j < cls.length) {S S' : List Int} {ch b : Bool} (h : stepM S cls[j] = some (S', b)) : ZK (cls.drop j) S ch = ZK (cls.drop (j + 1)) S' (ch || b) := by
 rw [List.drop_eq_getElem_cons hj, ZK, h]
theorem follow_c (vars : Int) (cls : List (List Int)) (c2 c3 c4 : DV) (l : List Int) (hcl : cls.length <= 1048576) (hcc : ∀ c ∈ cls, c.length <= 1048576) (hll : l.length <= 1048576)
  (hcb : ∀ c ∈ cls, ∀ x ∈ c, -2000 <= x /\ x <= 2000) (hlb : ∀ x ∈ l, -2000 <= x /\ x <= 2000) : Go.Av.Pure Tryd.prog G 17 [.agg [.i vars, Qy cls, c2, c3, c4], Qy l] (retM (followM cls l)) := fun B => by
 rw [finM_eq]
 refine Qb Tryd.func17 rfl Tryd.ntmps17 rfl (t := [(0, .agg [.i vars, Qy cls, c2, c3, c4]), (1, Qy l)]) rfl fun E hE => ?_
 (repeat' first | refine Qt rfl ?_ | refine Qv rfl ?_ | refine Qn rfl ?_ | refine s_alloc_tab (fun _ _ => ?_) | refine QJ (fun _ _ => ?_) | refine Wf rfl rfl rfl rfl (by rfl) (by rfl) (by rfl) ?_ | refine Zt rfl rfl ?_ | refine Q5 rfl rfl (fun _ _ => ?_) | refine Qe ?_ | refine Qp rfl ?_ | refine Q0 ?_ | refine Qf ?_ | refine Qa ?_ | refine Qg ?_)
 rename_i g0 hg0 g1 hg1 g2 hg2
 refine Wi (fun k : Nat => ⟨[(1, Qy l), (2, .ptr 0 g0 0), (6, .ptr 1 g1 0), (7, .ptr 2 g2 0), (19, Qy l), (20, .i l.length), (21, .i k)], [.row g0 [.i vars, Qy cls, c2, c3, c4], .row g1 (Qq (tab (ZG (l.take k)))), .row g2 [.fn (.func 48) [] [.ptr 1 g1 0]]]⟩) (fun k => k <= l.length) (fun k => l.length - k) 0 ?_ (by omega) ?_
 ·exact zal rfl
 ·intro k hk
  (repeat' first | refine QG rfl rfl ?_ | refine Qe ?_ | refine Qp rfl ?_ | refine Qf ?_ | refine Qa ?_)
  refine QE rfl (fun h => ?_) (fun h => ?_)
  ·have hk' : k < l.length := by omega
   have hz : -2000 <= l[k] /\ l[k] <= 2000 := hlb _ (List.getElem_mem hk')
   have hmem : ∀ y, y ∈ ZG (l.take (k + 1)) ↔ y ∈ ZG (l.take k) \/ y = l[k] := fun y => by rw [startM_take hk']; exact mem_addS
   (repeat' first | refine Qt rfl ?_ | refine Qv rfl ?_ | refine QF rfl ?_ | refine s_idx_tab_p rfl rfl rfl hz ?_ | refine Qo rfl rfl (by first | assumption | omega | (simp; done) | (simp; omega)) ?_ | refine QS rfl rfl (by omega) ?_ | refine s_store_tab rfl rfl rfl hmem hz rfl ?_ | refine Qe ?_ | refine Qp rfl ?_ | refine Q0 ?_ | refine Qf ?_ | refine Qa ?_ | refine Qg ?_ | refine Qj ?_)
   refine ⟨k + 1, by omega, by omega, ?_⟩
   exact zal rfl
  ·have hk' : k = l.length := by omega
   subst hk'
   rw [List.take_length]
   have hS0 : ∀ x ∈ ZG l, -2000 <= x /\ x <= 2000 := fun x hx => hlb x (mem_startM.1 hx)
   generalize hR : fixM cls (meas cls (ZG l) + 1) (ZG l) = R
   (repeat' first | refine Qv rfl ?_ | refine Qe ?_ | refine Qp rfl ?_ | refine Qf ?_ | refine Qa ?_ | refine Qg ?_ | refine QU rfl ?_)
   refine r_loop3 (fun (k : Nat) (S : List Int) (ch : Bool) => ⟨[(2, .ptr 0 g0 0), (6, .ptr 1 g1 0), (7, .ptr 2 g2 0), (10, .b ch)], [.row g0 [.i vars, Qy cls, c2, c3, c4], .row g1 (Qq (tab S)), .row g2 [.fn (.func 48) [] [.ptr 1 g1 0]]]⟩) (fun k S ch => (∀ x ∈ S, -2000 <= x /\ x <= 2000) /\ (ch = true -> fixM cls k S = R /\ meas cls S < k) /\ (ch = false -> R = some S)) (fun k S ch => if ch = true then k + 1 else 0) (meas cls (ZG l) + 1) (ZG l) true ?_ ⟨hS0, fun _ => ⟨hR, by omega⟩, fun e => by cases e⟩ ?_
   ·exact zal rfl
   intro k S ch ⟨hg, hct', hcf⟩
   cases ch with
   | false =>
    have hRS := hcf rfl
    subst hRS
    (repeat' first | refine Qt rfl ?_ | refine Qv rfl ?_ | refine Qe ?_ | refine Qp rfl ?_ | refine Qf ?_ | refine Qa ?_ | refine Qg ?_ | refine Qi rfl ?_ | refine QU rfl ?_)
    refine r_own 16 1 rfl fun g3 hg3 => ?_
    refine r_loopg (fun (p : Nat × List Int) g => ⟨[(7, .ptr 2 g2 0), (17, .i ((p.1 : Int) + 1)), (16, .ref 3 g 0 p.2.length 1)], [.row g0 [.i vars, Qy cls, c2, c3, c4], .row g1 (Qq (tab S)), .row g2 [.fn (.func 48) [] [.ptr 1 g1 0]], .row g (Qq p.2)]⟩) (fun p => p.1 <= 2000 /\ outM S p.1 = some p.2 /\ p.2.length <= p.1) (fun p => 2000 - p.1) (0, []) g3 hg3 ?_ ⟨by omega, rfl, by simp⟩ ?_
    ·exact zal rfl
    intro p g ⟨h1, h2, h3⟩ hgg
    obtain ⟨v, o⟩ := p
    have h1 : v <= 2000 := h1
    have h2 : outM S v = some o := h2
    have h3 : o.length <= v := h3
    (repeat' first | refine Qt rfl ?_ | refine s_leq rfl rfl ?_ | refine Qe ?_ | refine Qp rfl ?_ | refine Qf ?_ | refine Qa ?_)
    refine QE rfl (fun h => ?_) (fun h => ?_)
    ·have hv : v < 2000 := by omega
     have hout : outM S (v + 1) = if ((v : Int) + 1) ∈ S /\ -((v : Int) + 1) ∈ S then none else if ((v : Int) + 1) ∈ S then some (o ++ [(v : Int) + 1]) else if -((v : Int) + 1) ∈ S then some (o ++ [-((v : Int) + 1)]) else some o := by rw [outM, h2]
     by_cases ha : ((v : Int) + 1) ∈ S
     ·by_cases hb : -((v : Int) + 1) ∈ S
      ·rw [if_pos ⟨ha, hb⟩] at hout
       (repeat' first | refine Qt rfl ?_ | refine Qv rfl ?_ | refine Qc rfl rfl rfl ?_ | (refine Zu (holds_t ?_ ?_) rfl rfl (by (repeat' first | exact .same (Qk _) | exact .nil | refine .cons ?_ ?_ | exact .clo QA | exact .clo (QQ _) | refine .ptr rfl ?_ | refine .fn ?_ ?_); done) rfl ?_; (first | exact ha | exact hb); (first | omega | exact hz)) | refine WR rfl rfl ?_ | refine Z1 rfl (by omega) ?_ | refine Qe ?_ | refine Qp rfl ?_ | refine WC rfl rfl rfl rfl ?_ | refine Qf ?_ | refine Qa ?_ | refine Qg ?_ | refine Qj ?_ | refine Qs rfl ?_ | refine Qm ?_)
       refine e_2 (Tryd.results17) (Qh rfl) (Qh rfl) (Qr ?_)
       show _ = retM (outM S 2000)
       rw [outM_none hout hv]
       rfl
      ·rw [if_neg (fun h => hb h.2), if_pos ha] at hout
       (repeat' first | refine Qt rfl ?_ | refine Qv rfl ?_ | refine Qc rfl rfl rfl ?_ | refine QS rfl rfl (by omega) ?_ | (refine Zu (holds_t ?_ ?_) rfl rfl (by (repeat' first | exact .same (Qk _) | exact .nil | refine .cons ?_ ?_ | exact .clo QA | exact .clo (QQ _) | refine .ptr rfl ?_ | refine .fn ?_ ?_); done) rfl ?_; (first | exact ha | exact hb); (first | omega | exact hz)) | (refine Zu (holds_f ?_ ?_) rfl rfl (by (repeat' first | exact .same (Qk _) | exact .nil | refine .cons ?_ ?_ | exact .clo QA | exact .clo (QQ _) | refine .ptr rfl ?_ | refine .fn ?_ ?_); done) rfl ?_; (first | exact ha | exact hb); (first | omega | exact hz)) | refine s_app1 rfl rfl rfl rfl rfl rfl rfl (by first | omega | (simp; omega)) (by first | omega | (simp; omega)) (fun _ => rfl) (fun _ _ => ?_) | refine WR rfl rfl ?_ | refine Z1 rfl (by omega) ?_ | refine Wl rfl rfl (by decide) rfl ?_ | refine Qe ?_ | refine Qp rfl ?_ | refine WC rfl rfl rfl rfl ?_ | refine Qf ?_ | refine Qa ?_ | refine Qg ?_ | refine Qj ?_ | refine Qs rfl ?_ | refine Qi rfl ?_)
       rename_i g4 hg4
       refine ⟨(v + 1, o ++ [(v : Int) + 1]), g4, ⟨hv, hout, by simp; omega⟩, by omega, Nat.sub_lt_sub_left hv (Nat.lt_succ_self v), ?_⟩
       exact zal rfl
     ·by_cases hb : -((v : Int) + 1) ∈ S
      ·rw [if_neg (fun h => ha h.1), if_neg ha, if_pos hb] at hout
       (repeat' first | refine Qt rfl ?_ | refine Qv rfl ?_ | refine Qc rfl rfl rfl ?_ | refine QS rfl rfl (by omega) ?_ | (refine Zu (holds_t ?_ ?_) rfl rfl (by (repeat' first | exact .same (Qk _) | exact .nil | refine .cons ?_ ?_ | exact .clo QA | exact .clo (QQ _) | refine .ptr rfl ?_ | refine .fn ?_ ?_); done) rfl ?_; (first | exact ha | exact hb); (first | omega | exact hz)) | (refine Zu (holds_f ?_ ?_) rfl rfl (by (repeat' first | exact .same (Qk _) | exact .nil | refine .cons ?_ ?_ | exact .clo QA | exact .clo (QQ _) | refine .ptr rfl ?_ | refine .fn ?_ ?_); done) rfl ?_; (first | exact ha | exact hb); (first | omega | exact hz)) | refine s_app1 rfl rfl rfl rfl rfl rfl rfl (by first | omega | (simp; omega)) (by first | omega | (simp; omega)) (fun _ => rfl) (fun _ _ => ?_) | refine Wk rfl rfl ?_ | refine Z1 rfl (by omega) ?_ | refine Wl rfl rfl (by decide) rfl ?_ | refine Qe ?_ | refine Qp rfl ?_ | refine WO rfl rfl rfl rfl ?_ | refine Qf ?_ | refine Qa ?_ | refine Qg ?_ | refine Qj ?_ | refine Qs rfl ?_ | refine Qi rfl ?_)
       rename_i g4 hg4
       refine ⟨(v + 1, o ++ [-((v : Int) + 1)]), g4, ⟨hv, hout, by simp; omega⟩, by omega, Nat.sub_lt_sub_left hv (Nat.lt_succ_self v), ?_⟩
       exact zal rfl
      ·rw [if_neg (fun h => ha h.1), if_neg ha, if_neg hb] at hout
       (repeat' first | refine Qt rfl ?_ | refine Qv rfl ?_ | refine Qc rfl rfl rfl ?_ | refine QS rfl rfl (by omega) ?_ | (refine Zu (holds_f ?_ ?_) rfl rfl (by (repeat' first | exact .same (Qk _) | exact .nil | refine .cons ?_ ?_ | exact .clo QA | exact .clo (QQ _) | refine .ptr rfl ?_ | refine .fn ?_ ?_); done) rfl ?_; (first | exact ha | exact hb); (first | omega | exact hz)) | refine Wk rfl rfl ?_ | refine Z1 rfl (by omega) ?_ | refine Qe ?_ | refine Qp rfl ?_ | refine WO rfl rfl rfl rfl ?_ | refine Qf ?_ | refine Qa ?_ | refine Qg ?_ | refine Qj ?_ | refine Qi rfl ?_)
       refine ⟨(v + 1, o), g, ⟨hv, hout, by simp; omega⟩, by omega, Nat.sub_lt_sub_left hv (Nat.lt_succ_self v), ?_⟩
       exact zal rfl
    ·have hv : v = 2000 := by omega
     subst hv
     refine r_pub 16 rfl rfl (by rw [Qz]; rfl) rfl ?_
     (repeat' first | refine Qt rfl ?_ | refine Qv rfl ?_ | refine Qe ?_ | refine Qp rfl ?_ | refine Qf ?_ | refine Qa ?_ | refine QU rfl ?_ | refine Qm ?_)
     refine e_2 (Tryd.results17) (Qh rfl) (Qh rfl) (Qr ?_)
     show _ = retM (outM S 2000)
     rw [h2]
     rfl
   | true =>
    obtain ⟨hk1, hk2⟩ := hct' rfl
    obtain ⟨k, rfl⟩ : ∃ k', k = k' + 1 := ⟨k - 1, by omega⟩
    rw [fixM] at hk1
    (repeat' first | refine Qt rfl ?_ | refine Qv rfl ?_ | refine Qc rfl rfl rfl ?_ | refine Qn rfl ?_ | refine Qd rfl rfl ?_ | refine Qe ?_ | refine Qp rfl ?_ | refine Qf ?_ | refine Qa ?_ | refine Qg ?_ | refine Qj ?_ | refine Qs rfl ?_)
    refine r_loop3 (fun (j : Nat) (S' : List Int) (b : Bool) => ⟨[(2, .ptr 0 g0 0), (6, .ptr 1 g1 0), (7, .ptr 2 g2 0), (10, .b b), (31, Qy cls), (32, .i cls.length), (33, .i j)], [.row g0 [.i vars, Qy cls, c2, c3, c4], .row g1 (Qq (tab S')), .row g2 [.fn (.func 48) [] [.ptr 1 g1 0]]]⟩) (fun j S' b => j <= cls.length /\ (∀ x ∈ S', -2000 <= x /\ x <= 2000) /\ ZK (cls.drop j) S' b = ZK cls S false /\ (b = true -> meas cls S' < meas cls S) /\ (b = false -> S' = S)) (fun j _ _ => cls.length - j) 0 S false ?_ ⟨by omega, hg, rfl, fun e => (by cases e), fun _ => rfl⟩ ?_
    ·exact zal rfl
    intro j S' b ⟨hj, hg', hrd, hbt, hbf⟩
    (repeat' first | refine QG rfl rfl ?_ | refine Qe ?_ | refine Qp rfl ?_ | refine Qf ?_ | refine Qa ?_)
    refine QE rfl (fun h => ?_) (fun h => ?_)
    ·have hj' : j < cls.length := by omega
     have hmc := List.getElem_mem hj'
     have hlc := hcc _ hmc
     have hbc := hcb _ hmc
     have hix := indexFuncI_c (G := G) cls[j] 49 [] [.ep [.fn (.func 48) [] [.ep (Qq (tab S'))]]] (qd S') (by omega) (fun x hx => left_c S' x (hbc x hx))
     by_cases hfi : Ord.findI (qd S') cls[j] = -1
     ·rw [hfi] at hix
      have hst := stepM_none hfi
      have hnone := roundM_none hj' (ch := b) hst
      rw [hrd] at hnone
      rw [hnone] at hk1
      subst hk1
      (repeat' first | refine Qv rfl ?_ | refine QF rfl ?_ | refine Qc rfl rfl rfl ?_ | refine Qo rfl rfl (by first | assumption | omega | (simp; done) | (simp; omega)) ?_ | refine QG rfl rfl ?_ | refine s_call_dv hix rfl rfl (by (repeat' first | exact .same (Qk _) | exact .nil | refine .cons ?_ ?_ | exact .clo QA | exact .clo (QQ _) | refine .ptr rfl ?_ | refine .fn ?_ ?_); done) rfl ?_ | refine QJ (fun _ _ => ?_) | refine Wf rfl rfl rfl rfl (by rfl) (by rfl) (by rfl) ?_ | refine Zt rfl rfl ?_ | refine Qe ?_ | refine Qp rfl ?_ | refine Q0 ?_ | refine Qf ?_ | refine Qa ?_ | refine Qg ?_ | refine Qj ?_ | refine Qs rfl ?_ | refine Qm ?_)
      exact e_2 (Tryd.results17) (Qh rfl) (Qh rfl) (Qr rfl)
     ·obtain ⟨i, hi0, hil, hpi, hno⟩ := Ord.findI_pos hfi
      rw [hi0] at hix
      have hct := containsFuncI_c (G := G) cls[j] 51 [] [.ep [Qy cls[j]], .ep [.i i], .ep [.fn (.func 49) [] [.ep [.fn (.func 48) [] [.ep (Qq (tab S'))]]]]] (fun x => decide (x ≠ cls[j][i]) && qd S' x) (by omega) (fun x hx => other_c S' cls[j] i hil x (hbc x hx))
      have hz := hbc _ (List.getElem_mem hil)
      have hmem : ∀ y, y ∈ S' ++ [cls[j][i]] ↔ y ∈ S' \/ y = cls[j][i] := fun y => by simp
      have hst := stepM_some hil hpi fun q hq hqi => hno _ (by rw [List.mem_take_iff_getElem]; exact ⟨q, by omega, rfl⟩)
      have stay : stepM S' cls[j] = some (S', false) -> ZK (cls.drop (j + 1)) S' b = ZK cls S false := fun e => by
       rw [<- hrd, roundM_step hj' e, Bool.or_false]
      by_cases ha : cls[j][i] ∈ S'
      ·rw [if_neg (fun h => h.2 ha)] at hst
       have hst := stay hst
       (repeat' first | refine Qt rfl ?_ | refine Qv rfl ?_ | refine QF rfl ?_ | refine Qc rfl rfl rfl ?_ | refine Qo rfl rfl (by first | assumption | omega | (simp; done) | (simp; omega)) ?_ | refine QG rfl rfl ?_ | refine QS rfl rfl (by omega) ?_ | refine s_call_dv hix rfl rfl (by (repeat' first | exact .same (Qk _) | exact .nil | refine .cons ?_ ?_ | exact .clo QA | exact .clo (QQ _) | refine .ptr rfl ?_ | refine .fn ?_ ?_); done) rfl ?_ | refine QJ (fun _ _ => ?_) | refine Wf rfl rfl rfl rfl (by rfl) (by rfl) (by rfl) ?_ | refine Zt rfl rfl ?_ | refine x_gn rfl rfl rfl rfl ?_ | refine Qe ?_ | refine Qp rfl ?_ | refine Q0 ?_ | refine Qf ?_ | refine Qa ?_ | refine Qg ?_ | (refine Wa ?_; first | refine Wj (by rfl) (by kernel_rfl) (by kernel_rfl) ?_ | refine QT (by kernel_rfl) (by kernel_rfl) ?_) | refine Qj ?_ | refine Qi rfl ?_ | refine x_op rfl (by (repeat' first | refine Qt rfl ?_ | refine QF rfl ?_ | refine Qc rfl rfl rfl ?_ | refine Qo rfl rfl (by first | assumption | omega | (simp; done) | (simp; omega)) ?_ | refine s_call_dv hct rfl rfl (by (repeat' first | exact .same (Qk _) | exact .nil | refine .cons ?_ ?_ | exact .clo QA | exact .clo (QQ _) | refine .ptr rfl ?_ | refine .fn ?_ ?_); done) rfl ?_ | (refine Zu (holds_t ?_ ?_) rfl rfl (by (repeat' first | exact .same (Qk _) | exact .nil | refine .cons ?_ ?_ | exact .clo QA | exact .clo (QQ _) | refine .ptr rfl ?_ | refine .fn ?_ ?_); done) rfl ?_; (first | exact ha | exact hb); (first | omega | exact hz)) | refine WR rfl rfl ?_ | refine Wk rfl rfl ?_ | refine ZQ rfl ?_ | exact ⟨rfl, rfl⟩)) ?_ | refine x_gy rfl rfl rfl rfl (by (repeat' first | refine Qt rfl ?_ | refine QF rfl ?_ | refine Qc rfl rfl rfl ?_ | refine Qo rfl rfl (by first | assumption | omega | (simp; done) | (simp; omega)) ?_ | refine s_call_dv hct rfl rfl (by (repeat' first | exact .same (Qk _) | exact .nil | refine .cons ?_ ?_ | exact .clo QA | exact .clo (QQ _) | refine .ptr rfl ?_ | refine .fn ?_ ?_); done) rfl ?_ | (refine Zu (holds_t ?_ ?_) rfl rfl (by (repeat' first | exact .same (Qk _) | exact .nil | refine .cons ?_ ?_ | exact .clo QA | exact .clo (QQ _) | refine .ptr rfl ?_ | refine .fn ?_ ?_); done) rfl ?_; (first | exact ha | exact hb); (first | omega | exact hz)) | refine WR rfl rfl ?_ | refine Wk rfl rfl ?_ | refine ZQ rfl ?_ | exact ⟨rfl, rfl⟩)) ?_ | refine x_nil ?_ | refine x_sp rfl rfl (fun _ => ?_) (fun _ => ?_))
       ·refine ⟨j + 1, S', b, ⟨hj', hg', hst, hbt, hbf⟩, by omega, ?_⟩
        exact zal rfl
       ·refine ⟨j + 1, S', b, ⟨hj', hg', hst, hbt, hbf⟩, by omega, ?_⟩
        exact zal rfl
      ·(repeat' first | refine Qt rfl ?_ | refine Qv rfl ?_ | refine QF rfl ?_ | refine Qc rfl rfl rfl ?_ | refine s_idx_tab_p rfl rfl rfl hz ?_ | refine Qo rfl rfl (by first | assumption | omega | (simp; done) | (simp; omega)) ?_ | refine QG rfl rfl ?_ | refine QS rfl rfl (by omega) ?_ | refine s_call_dv hix rfl rfl (by (repeat' first | exact .same (Qk _) | exact .nil | refine .cons ?_ ?_ | exact .clo QA | exact .clo (QQ _) | refine .ptr rfl ?_ | refine .fn ?_ ?_); done) rfl ?_ | refine QJ (fun _ _ => ?_) | refine s_store_tab rfl rfl rfl hmem hz rfl ?_ | refine Wf rfl rfl rfl rfl (by rfl) (by rfl) (by rfl) ?_ | refine Zt rfl rfl ?_ | refine x_gn rfl rfl rfl rfl ?_ | refine Qe ?_ | refine Qp rfl ?_ | refine Q0 ?_ | refine Qf ?_ | refine Qa ?_ | refine Qg ?_ | (refine Wa ?_; first | refine Wj (by rfl) (by kernel_rfl) (by kernel_rfl) ?_ | refine QT (by kernel_rfl) (by kernel_rfl) ?_) | refine Qj ?_ | refine Qs rfl ?_ | refine Qi rfl ?_ | refine x_op rfl (by (repeat' first | refine Qt rfl ?_ | refine QF rfl ?_ | refine Qc rfl rfl rfl ?_ | refine Qo rfl rfl (by first | assumption | omega | (simp; done) | (simp; omega)) ?_ | refine s_call_dv hct rfl rfl (by (repeat' first | exact .same (Qk _) | exact .nil | refine .cons ?_ ?_ | exact .clo QA | exact .clo (QQ _) | refine .ptr rfl ?_ | refine .fn ?_ ?_); done) rfl ?_ | (refine Zu (holds_f ?_ ?_) rfl rfl (by (repeat' first | exact .same (Qk _) | exact .nil | refine .cons ?_ ?_ | exact .clo QA | exact .clo (QQ _) | refine .ptr rfl ?_ | refine .fn ?_ ?_); done) rfl ?_; (first | exact ha | exact hb); (first | omega | exact hz)) | refine WR rfl rfl ?_ | refine Wk rfl rfl ?_ | refine ZQ rfl ?_ | exact ⟨rfl, rfl⟩)) ?_ | refine x_gy rfl rfl rfl rfl (by (repeat' first | refine Qt rfl ?_ | refine QF rfl ?_ | refine Qc rfl rfl rfl ?_ | refine Qo rfl rfl (by first | assumption | omega | (simp; done) | (simp; omega)) ?_ | refine s_call_dv hct rfl rfl (by (repeat' first | exact .same (Qk _) | exact .nil | refine .cons ?_ ?_ | exact .clo QA | exact .clo (QQ _) | refine .ptr rfl ?_ | refine .fn ?_ ?_); done) rfl ?_ | (refine Zu (holds_f ?_ ?_) rfl rfl (by (repeat' first | exact .same (Qk _) | exact .nil | refine .cons ?_ ?_ | exact .clo QA | exact .clo (QQ _) | refine .ptr rfl ?_ | refine .fn ?_ ?_); done) rfl ?_; (first | exact ha | exact hb); (first | omega | exact hz)) | refine WR rfl rfl ?_ | refine Wk rfl rfl ?_ | refine ZQ rfl ?_ | exact ⟨rfl, rfl⟩)) ?_ | refine x_nil ?_ | refine x_sp rfl rfl (fun _ => ?_) (fun _ => ?_))
       ·rename_i hany
        have hany : (cls[j].any fun x => decide (x ≠ cls[j][i]) && qd S' x) = false := by simpa using hany
        rw [if_pos ⟨hany, ha⟩] at hst
        refine ⟨j + 1, S' ++ [cls[j][i]], true, ⟨hj', fun x hx => ?_, ?_, fun _ => ?_, fun e => by cases e⟩, by omega, ?_⟩
        ·rcases (hmem x).1 hx with h1 | rfl
         ·exact hg' x h1
         ·exact hz
        ·rw [<- hrd, roundM_step hj' hst, Bool.or_true]
        ·have h1 := meas_lt hmc (List.getElem_mem hil) ha
         cases b with
         | true => have := hbt rfl; omega
         | false => rw [hbf rfl] at h1 ⊢; exact h1
        ·exact zal rfl
       ·rename_i hany
        have hany : (cls[j].any fun x => decide (x ≠ cls[j][i]) && qd S' x) = true := by simpa using hany
        rw [if_neg (fun h => by rw [hany] at h; cases h.1)] at hst
        have hst := stay hst
        refine ⟨j + 1, S', b, ⟨hj', hg', hst, hbt, hbf⟩, by omega, ?_⟩
        exact zal rfl
    ·have hj' : j = cls.length := by omega
     subst hj'
     rw [List.drop_length] at hrd
     have hrd : some (S', b) = ZK cls S false := hrd
     rw [<- hrd] at hk1
     (repeat' first | refine QU rfl ?_)
     refine ⟨k, S', b, ⟨hg', fun e => ?_, fun e => ?_⟩, ?_, ?_⟩
     ·subst e
      exact ⟨hk1, by have := hbt rfl; omega⟩
     ·subst e
      exact hk1.symm
     ·cases b <;> simp
     ·exact zal rfl
end Go.Proofs
end
