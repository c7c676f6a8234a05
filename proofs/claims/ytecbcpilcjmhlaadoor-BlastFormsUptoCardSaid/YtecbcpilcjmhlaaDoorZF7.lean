/-
  Part 7 of the proof: Ct6b.
-/
import Derived.Test.YtecbcpilcjmhlaaDoorZF1
import Derived.Test.YtecbcpilcjmhlaaDoorZF6
set_option linter.unusedSimpArgs false
set_option linter.unusedVariables false
set_option maxRecDepth 10000
set_option maxHeartbeats 4000000
section
namespace Go.Proofs
open Go.Av
variable {G : Nat -> DV}
attribute [local irreducible] OpSem WB WQ WW ACalls Zo QY RV
open Go.Bl
theorem ctypes_6b (hG : G 0 = qE) (n m : Int) (ks : List Nd) (hm : m = 1) (ih : ∀ x ∈ ks, Fit x -> ∀ M : List (Int × Int), TM Tryd.prog G 64 (fun g => [.mp 0 g, .agg (Enc.enc x)]) M (.i (Wq x M).1) (Wq x M).2) (hfit : Fit (.mk 6 n m ks)) (M : List (Int × Int)) :
  TM Tryd.prog G 64 (fun g => [.mp 0 g, .agg (Enc.enc (Nd.mk 6 n m ks))]) M (.i (Wq (.mk 6 n m ks) M).1) (Wq (.mk 6 n m ks) M).2 := by
 intro g B b1
 have hks := hfit.len
 rw [Q9]
 refine Qc Tryd.func64 rfl Tryd.ntmps64 rfl (t := [(0, .mp 0 g), (1, .agg [.i 6, .i n, .i m, QG ks])]) rfl fun E hE => ?_
 have hM : Wq (.mk 6 n m ks) M = (match Wx ks M with | (none, M') => (-1, M') | (some l, M') => WG 6 n m l M') := by (rw [Wq, if_neg (fun h => h.2 rfl)]; try rfl)
 have hz : WS [Value.int .i64 0] (ks.length : Int).toNat = Qt (Q6 ks M 0) := by
  show _ = Qt (List.replicate ks.length (0 : Int))
  rw [show (ks.length : Int).toNat = ks.length from rfl]
  exact Zc _
 (repeat' first | refine Qu rfl ?_ | refine QA rfl ?_ | refine Qb rfl rfl rfl ?_ | refine Wu rfl rfl ?_ | refine Qj rfl ?_ | refine WI rfl rfl ?_ | refine Qd rfl rfl ?_ | refine s_make rfl rfl rfl (by omega) (by omega) (by omega) (by omega) (fun _ _ => ?_) | refine QU rfl rfl (fun _ _ => ?_) | refine Qe ?_ | refine Qs rfl ?_ | refine WK rfl rfl rfl rfl ?_ | refine Wg rfl rfl (by omega) ?_ | refine Qg ?_ | (refine QK [0, 1, 2, 3, 4, 5, 6, 7, 8, 9, 23, 24, 25] rfl ?_; refine Qa ?_) | refine Qf ?_ | refine Qk ?_ | refine Qo rfl ?_)
 all_goals
  rename_i gt hgt gk hgk
  refine Wv (fun (i : Nat) => ⟨[(0, .mp 0 g), (3, .ptr 1 gt 0), (5, .ref 2 gk 0 ks.length (Enc.es Int)), (23, QG ks), (24, .i ks.length), (25, .i i)], [.mapb g (Wp (Zv (Wx (ks.take i) M).2)), .row gt [.i 6, .i n, .i m, QG ks], .row gk (Qt (Q6 ks M i))]⟩) (fun i => i <= ks.length /\ (Wx (ks.take i) M).1.isSome = true) (fun i => ks.length - i) 0 ?_ ⟨by omega, rfl⟩ ?_
  ·rw [<- hz]
   exact zal rfl
  intro i ⟨hi, hok⟩
  have hkl := ZD hi hok
  (repeat' first | refine QL rfl rfl ?_ | refine Qe ?_ | refine Qs rfl ?_ | refine Qg ?_ | (refine QK [0, 1, 2, 3, 4, 5, 6, 7, 8, 9, 23, 24, 25] rfl ?_; refine Qa ?_))
  refine QE rfl (fun h => ?_) (fun h => ?_)
  ·have hil : i < ks.length := by omega
   have htm := ih _ (List.getElem_mem hil) (hfit.kids _ (List.getElem_mem hil)) (Wx (ks.take i) M).2
   obtain ⟨hst1, hst2⟩ := Z0 hil hok
   have hik : i < (Q6 ks M i).length := by omega
   have hik2 : i < ((Q6 ks M i).set i (Wq ks[i] (Wx (ks.take i) M).2).1).length := by rw [List.length_set]; omega
   have hget : ((Q6 ks M i).set i (Wq ks[i] (Wx (ks.take i) M).2).1)[i] = (Wq ks[i] (Wx (ks.take i) M).2).1 := List.getElem_set_self ..
   clear ih hfit hz
   (repeat' first | refine Qu rfl ?_ | refine QA rfl ?_ | refine Qm rfl rfl (by first | exact Enc.len _ | rfl) ?_ | refine QC rfl ?_ | refine Wj rfl rfl rfl (by first | assumption | omega) rfl ?_ | refine Ql rfl rfl (by first | assumption | omega | (simp; done) | (simp; omega)) ?_ | refine WF rfl rfl rfl (by omega) ?_ | refine QL rfl rfl ?_ | refine s_ctm 0 (htm) rfl rfl rfl ?_ | refine Qi rfl rfl rfl (by first | exact Enc.len _ | rfl) (by first | exact Enc.len _ | rfl) (by rfl) ?_ | refine Wk rfl rfl rfl rfl rfl (by first | assumption | omega) rfl ?_ | refine QH (fun _ _ => ?_) | refine Qe ?_ | refine Qs rfl ?_ | refine QZ ?_ | refine Qg ?_ | (refine QK [0, 1, 2, 3, 4, 5, 6, 7, 8, 9, 23, 24, 25] rfl ?_; refine Qa ?_) | refine Qf ?_ | refine Qk ?_)
   refine QE rfl (fun hn => ?_) (fun hn => ?_)
   ·rw [hget] at hn
    rw [hM, hst1 hn]
    (repeat' first | refine QA rfl ?_ | refine Qe ?_ | refine Qs rfl ?_ | refine Qg ?_ | (refine QK [0, 1, 2, 3, 4, 5, 6, 7, 8, 9, 23, 24, 25] rfl ?_; refine Qa ?_) | refine Qq ?_)
    exact e_1 (Tryd.results64) (Qh rfl) (Qy (σ := [_]) (r := [_, _, _]) ⟨rfl, rfl⟩)
   ·rw [hget] at hn
    obtain ⟨k1, k2, k3⟩ := hst2 hn
    (repeat' first | refine Qu rfl ?_ | refine Q5 rfl rfl (by omega) ?_ | refine Qe ?_ | refine Qs rfl ?_ | (refine QK [0, 1, 2, 3, 4, 5, 6, 7, 8, 9, 23, 24, 25] rfl ?_; refine Qa ?_) | refine Qk ?_)
    refine ⟨i + 1, ⟨by omega, k1⟩, by omega, ?_⟩
    rw [k2, k3]
    exact zal rfl
  ·have hil : i = ks.length := by omega
   subst hil
   refine Q2 rfl ?_
   refine r_pub 5 rfl rfl (by rw [Qz, hkl]) rfl ?_
   rw [List.take_length] at hok ⊢
   obtain ⟨l, M', hl⟩ : ∃ l M', Wx ks M = (some l, M') := by
    rcases he : Wx ks M with ⟨_ | l, M'⟩
    ·rw [he] at hok; cases hok
    ·exact ⟨l, M', rfl⟩
   have hkt : Q6 ks M ks.length = l := by unfold Q6; rw [List.take_length, hl]; simp
   have hll := ZI _ _ _ _ hl
   rw [hl] at hM
   rw [hM, hl, hkt]
   have hM2 : (match (some l, M') with | (none, M') => (-1, M') | (some l, M') => WG 6 n m l M' : Int × List (Int × Int)) = WG 6 n m l M' := rfl
   rw [hM2]
   have hq0 := Wt (G := G) l [0, 0] (by omega) (by decide)
   have hq1 := Wt (G := G) l [1, 1] (by omega) (by decide)
   have hq2 := Wt (G := G) l [1] (by omega) (by decide)
   clear hM hM2 hkt hkl hok hz ih hl hfit
   have hnil : l.length = 0 -> l = [] := List.length_eq_zero_iff.1
   have hnil' : l = [] -> l.length = 0 := List.length_eq_zero_iff.2
   clear hq0 hq1 hq2
   have hmm : m = 0 \/ m = 1 := .inr hm
   by_cases hc1 : l.length = 0
   ·by_cases hc2 : 0 <= n
    ·by_cases hc3 : n <= 63
     ·cases hg : W8 M' n with
      | none =>
       rw [show WG 6 n m l M' = (m, putI M' n m) by unfold WG; rw [if_neg (by decide), if_neg (by decide), if_pos rfl, if_pos ⟨hnil hc1, hc2, hc3, hmm⟩, hg, if_neg (fun h => Bool.noConfusion h.1)]]
       (repeat' first | refine Qu rfl ?_ | refine QA rfl ?_ | refine Qb rfl rfl rfl ?_ | refine ZN rfl rfl ?_ | refine Wh rfl rfl ?_ | refine QJ rfl rfl ?_ | refine Qj rfl ?_ | refine WI rfl rfl ?_ | refine Wm rfl rfl ?_ | refine s_lookup_none hg rfl rfl rfl (by kernel_rfl) ?_ | refine qk rfl rfl rfl rfl rfl ?_ | refine Qd rfl rfl ?_ | refine Q4 rfl rfl rfl ?_ | refine Qe ?_ | refine Qs rfl ?_ | refine QZ ?_ | refine WK rfl rfl rfl rfl ?_ | refine W3 rfl rfl rfl rfl ?_ | refine o_gu rfl rfl rfl rfl rfl ?_ | refine Wg rfl rfl (by omega) ?_ | refine Wc rfl rfl (by omega) ?_ | refine Qg ?_ | (refine QK [0, 1, 2, 3, 4, 5, 6, 7, 8, 9, 23, 24, 25] rfl ?_; refine Qa ?_) | refine Qf ?_ | refine Qk ?_ | refine Qo rfl ?_ | refine Qp rfl (by omega) ?_ | refine Qq ?_)
       all_goals exact e_1 (Tryd.results64) (Qh rfl) (Qy (σ := [_]) (r := [_, _]) ⟨rfl, rfl⟩)
      | some v =>
       by_cases hv : v = m
       ·rw [show WG 6 n m l M' = (m, putI M' n m) by unfold WG; rw [if_neg (by decide), if_neg (by decide), if_pos rfl, if_pos ⟨hnil hc1, hc2, hc3, hmm⟩, hg, if_neg (fun h => h.2 hv)]]
        (repeat' first | refine Qu rfl ?_ | refine QA rfl ?_ | refine Qb rfl rfl rfl ?_ | refine ZN rfl rfl ?_ | refine Wh rfl rfl ?_ | refine QJ rfl rfl ?_ | refine Wu rfl rfl ?_ | refine Qj rfl ?_ | refine WI rfl rfl ?_ | refine Wm rfl rfl ?_ | refine s_lookup_some hg rfl rfl rfl (by kernel_rfl) ?_ | refine qk rfl rfl rfl rfl rfl ?_ | refine Qd rfl rfl ?_ | refine Q4 rfl rfl rfl ?_ | refine Qe ?_ | refine Qs rfl ?_ | refine QZ ?_ | refine WK rfl rfl rfl rfl ?_ | refine W3 rfl rfl rfl rfl ?_ | refine o_gu rfl rfl rfl rfl rfl ?_ | refine Wg rfl rfl (by omega) ?_ | refine Wc rfl rfl (by omega) ?_ | refine Qg ?_ | (refine QK [0, 1, 2, 3, 4, 5, 6, 7, 8, 9, 23, 24, 25] rfl ?_; refine Qa ?_) | refine Qf ?_ | refine Qk ?_ | refine Qo rfl ?_ | refine Qp rfl (by omega) ?_ | refine Qr rfl (by omega) ?_ | refine Qq ?_)
        all_goals exact e_1 (Tryd.results64) (Qh rfl) (Qy (σ := [_]) (r := [_, _]) ⟨rfl, rfl⟩)
       ·rw [show WG 6 n m l M' = (-1, M') by unfold WG; rw [if_neg (by decide), if_neg (by decide), if_pos rfl, if_pos ⟨hnil hc1, hc2, hc3, hmm⟩, hg, if_pos ⟨rfl, hv⟩]]
        (repeat' first | refine Qu rfl ?_ | refine QA rfl ?_ | refine Qb rfl rfl rfl ?_ | refine ZN rfl rfl ?_ | refine Wh rfl rfl ?_ | refine QJ rfl rfl ?_ | refine Wu rfl rfl ?_ | refine Qj rfl ?_ | refine WI rfl rfl ?_ | refine Wm rfl rfl ?_ | refine s_lookup_some hg rfl rfl rfl (by kernel_rfl) ?_ | refine Qd rfl rfl ?_ | refine Q4 rfl rfl rfl ?_ | refine Qe ?_ | refine Qs rfl ?_ | refine WK rfl rfl rfl rfl ?_ | refine W3 rfl rfl rfl rfl ?_ | refine o_gu rfl rfl rfl rfl rfl ?_ | refine Wg rfl rfl (by omega) ?_ | refine Wc rfl rfl (by omega) ?_ | refine Qg ?_ | (refine QK [0, 1, 2, 3, 4, 5, 6, 7, 8, 9, 23, 24, 25] rfl ?_; refine Qa ?_) | refine Qf ?_ | refine Qo rfl ?_ | refine Qp rfl (by omega) ?_ | refine Qq ?_)
        all_goals exact e_1 (Tryd.results64) (Qh rfl) (Qy (σ := [_]) (r := [_, _]) ⟨rfl, rfl⟩)
     ·rw [show WG 6 n m l M' = (-1, M') by unfold WG; rw [if_neg (by decide), if_neg (by decide), if_pos rfl, if_neg (fun h => hc3 h.2.2.1)]]
      (repeat' first | refine Qu rfl ?_ | refine QA rfl ?_ | refine Qb rfl rfl rfl ?_ | refine ZN rfl rfl ?_ | refine Wh rfl rfl ?_ | refine QJ rfl rfl ?_ | refine Qj rfl ?_ | refine WI rfl rfl ?_ | refine Wm rfl rfl ?_ | refine Qd rfl rfl ?_ | refine x_gn rfl rfl rfl rfl ?_ | refine Qe ?_ | refine Qs rfl ?_ | refine WK rfl rfl rfl rfl ?_ | refine W3 rfl rfl rfl rfl ?_ | refine o_gu rfl rfl rfl rfl rfl ?_ | refine Wg rfl rfl (by omega) ?_ | refine Wc rfl rfl (by omega) ?_ | refine Qg ?_ | (refine QK [0, 1, 2, 3, 4, 5, 6, 7, 8, 9, 23, 24, 25] rfl ?_; refine Qa ?_) | refine Qf ?_ | (refine Q0 ?_; refine QK [0, 1, 2, 3, 4, 5, 6, 7, 8, 9, 23, 24, 25] rfl ?_; first | refine WD (by rfl) (by kernel_rfl) (by kernel_rfl) rfl ?_ | refine QP (by kernel_rfl) (by kernel_rfl) ?_) | refine Qk ?_ | refine Qo rfl ?_ | refine Qq ?_ | refine qb rfl (by (repeat' first | refine Qu rfl ?_ | refine QA rfl ?_ | refine Qb rfl rfl rfl ?_ | refine QJ rfl rfl ?_ | refine Wm rfl rfl ?_ | refine Qd rfl rfl ?_ | exact ⟨rfl, rfl⟩)) ?_ | refine Zs ?_)
      all_goals exact e_1 (Tryd.results64) (Qh rfl) (Qy (σ := [_]) (r := [_, _]) ⟨rfl, rfl⟩)
    ·rw [show WG 6 n m l M' = (-1, M') by unfold WG; rw [if_neg (by decide), if_neg (by decide), if_pos rfl, if_neg (fun h => hc2 h.2.1)]]
     (repeat' first | refine Qu rfl ?_ | refine QA rfl ?_ | refine Qb rfl rfl rfl ?_ | refine Wh rfl rfl ?_ | refine QJ rfl rfl ?_ | refine Qj rfl ?_ | refine WI rfl rfl ?_ | refine Wm rfl rfl ?_ | refine Qd rfl rfl ?_ | refine x_gn rfl rfl rfl rfl ?_ | refine Qe ?_ | refine Qs rfl ?_ | refine WK rfl rfl rfl rfl ?_ | refine W3 rfl rfl rfl rfl ?_ | refine o_gu rfl rfl rfl rfl rfl ?_ | refine Wg rfl rfl (by omega) ?_ | refine Wc rfl rfl (by omega) ?_ | refine Qg ?_ | (refine QK [0, 1, 2, 3, 4, 5, 6, 7, 8, 9, 23, 24, 25] rfl ?_; refine Qa ?_) | refine Qf ?_ | (refine Q0 ?_; refine QK [0, 1, 2, 3, 4, 5, 6, 7, 8, 9, 23, 24, 25] rfl ?_; first | refine WD (by rfl) (by kernel_rfl) (by kernel_rfl) rfl ?_ | refine QP (by kernel_rfl) (by kernel_rfl) ?_) | refine Qk ?_ | refine Qo rfl ?_ | refine Qq ?_ | refine qb rfl (by (repeat' first | refine Qu rfl ?_ | refine QA rfl ?_ | refine Qb rfl rfl rfl ?_ | refine QJ rfl rfl ?_ | refine Wm rfl rfl ?_ | refine Qd rfl rfl ?_ | exact ⟨rfl, rfl⟩)) ?_ | refine Zs ?_)
     all_goals exact e_1 (Tryd.results64) (Qh rfl) (Qy (σ := [_]) (r := [_, _]) ⟨rfl, rfl⟩)
   ·rw [show WG 6 n m l M' = (-1, M') by unfold WG; rw [if_neg (by decide), if_neg (by decide), if_pos rfl, if_neg (fun h => hc1 (hnil' h.1))]]
    (repeat' first | refine Qu rfl ?_ | refine QA rfl ?_ | refine Qb rfl rfl rfl ?_ | refine QJ rfl rfl ?_ | refine Qj rfl ?_ | refine WI rfl rfl ?_ | refine Wm rfl rfl ?_ | refine Qd rfl rfl ?_ | refine x_gn rfl rfl rfl rfl ?_ | refine Qe ?_ | refine Qs rfl ?_ | refine WK rfl rfl rfl rfl ?_ | refine W3 rfl rfl rfl rfl ?_ | refine o_gu rfl rfl rfl rfl rfl ?_ | refine Wc rfl rfl (by omega) ?_ | refine Qg ?_ | (refine QK [0, 1, 2, 3, 4, 5, 6, 7, 8, 9, 23, 24, 25] rfl ?_; refine Qa ?_) | refine Qf ?_ | (refine Q0 ?_; refine QK [0, 1, 2, 3, 4, 5, 6, 7, 8, 9, 23, 24, 25] rfl ?_; first | refine WD (by rfl) (by kernel_rfl) (by kernel_rfl) rfl ?_ | refine QP (by kernel_rfl) (by kernel_rfl) ?_) | refine Qk ?_ | refine Qo rfl ?_ | refine Qq ?_ | refine qb rfl (by (repeat' first | refine Qu rfl ?_ | refine QA rfl ?_ | refine Qb rfl rfl rfl ?_ | refine QJ rfl rfl ?_ | refine Wm rfl rfl ?_ | refine Qd rfl rfl ?_ | exact ⟨rfl, rfl⟩)) ?_ | refine Zs ?_)
    all_goals exact e_1 (Tryd.results64) (Qh rfl) (Qy (σ := [_]) (r := [_, _]) ⟨rfl, rfl⟩)
end Go.Proofs
end
