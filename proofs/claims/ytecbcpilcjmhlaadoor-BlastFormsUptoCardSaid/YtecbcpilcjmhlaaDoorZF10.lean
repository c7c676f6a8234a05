/-
  Part 10 of the proof: Ct29 Ctx Ctb CtJ CtV M3 E5 E6.
-/
import Derived.Test.YtecbcpilcjmhlaaDoorZF1
import Derived.Test.YtecbcpilcjmhlaaDoorZF4
import Derived.Test.YtecbcpilcjmhlaaDoorZF5
import Derived.Test.YtecbcpilcjmhlaaDoorZF6
import Derived.Test.YtecbcpilcjmhlaaDoorZF7
import Derived.Test.YtecbcpilcjmhlaaDoorZF8
import Derived.Test.YtecbcpilcjmhlaaDoorZF9
set_option linter.unusedSimpArgs false
set_option linter.unusedVariables false
set_option maxRecDepth 10000
set_option maxHeartbeats 4000000
section
namespace Go.Proofs
open Go.Av
variable {G : Nat -> DV}
attribute [local irreducible] OpSem WB WQ WW ACalls Zo QY RV
open Go.Bl
theorem ctypes_29 (hG : G 0 = qE) (n : Int) (ks : List Nd)  (ih : ∀ x ∈ ks, Fit x -> ∀ M : List (Int × Int), TM Tryd.prog G 64 (fun g => [.mp 0 g, .agg (Enc.enc x)]) M (.i (Wq x M).1) (Wq x M).2) (hfit : Fit (.mk 29 n 0 ks)) (M : List (Int × Int)) :
  TM Tryd.prog G 64 (fun g => [.mp 0 g, .agg (Enc.enc (Nd.mk 29 n 0 ks))]) M (.i (Wq (.mk 29 n 0 ks) M).1) (Wq (.mk 29 n 0 ks) M).2 := by
 intro g B b1
 have hks := hfit.len
 rw [Q9]
 refine Qc Tryd.func64 rfl Tryd.ntmps64 rfl (t := [(0, .mp 0 g), (1, .agg [.i 29, .i n, .i 0, QG ks])]) rfl fun E hE => ?_
 have hM : Wq (.mk 29 n 0 ks) M = (match Wx ks M with | (none, M') => (-1, M') | (some l, M') => WG 29 n 0 l M') := by (rw [Wq, if_neg (fun h => h.1 rfl)]; try rfl)
 have hz : WS [Value.int .i64 0] (ks.length : Int).toNat = Qt (Q6 ks M 0) := by
  show _ = Qt (List.replicate ks.length (0 : Int))
  rw [show (ks.length : Int).toNat = ks.length from rfl]
  exact Zc _
 (repeat' first | refine Qu rfl ?_ | refine QA rfl ?_ | refine Qb rfl rfl rfl ?_ | refine Wu rfl rfl ?_ | refine Qj rfl ?_ | refine Wm rfl rfl ?_ | refine Qd rfl rfl ?_ | refine s_make rfl rfl rfl (by omega) (by omega) (by omega) (by omega) (fun _ _ => ?_) | refine QU rfl rfl (fun _ _ => ?_) | refine Qe ?_ | refine Qs rfl ?_ | refine W3 rfl rfl rfl rfl ?_ | refine Qg ?_ | (refine QK [0, 1, 2, 3, 4, 5, 6, 7, 8, 9, 23, 24, 25] rfl ?_; refine Qa ?_) | refine Qf ?_ | refine Qk ?_ | refine Qo rfl ?_)
 all_goals
  rename_i gt hgt gk hgk
  refine Wv (fun (i : Nat) => ⟨[(0, .mp 0 g), (3, .ptr 1 gt 0), (5, .ref 2 gk 0 ks.length (Enc.es Int)), (23, QG ks), (24, .i ks.length), (25, .i i)], [.mapb g (Wp (Zv (Wx (ks.take i) M).2)), .row gt [.i 29, .i n, .i 0, QG ks], .row gk (Qt (Q6 ks M i))]⟩) (fun i => i <= ks.length /\ (Wx (ks.take i) M).1.isSome = true) (fun i => ks.length - i) 0 ?_ ⟨by omega, rfl⟩ ?_
  ·rw [<- hz]
   exact zal rfl
  intro i ⟨hi, hok⟩
  have hkl := ZD hi hok
  (repeat' first | refine QL rfl rfl ?_ | refine Qe ?_ | refine Qs rfl ?_ | refine Qg ?_ | (refine QK [0, 1, 2, 3, 4, 5, 6, 7, 8, 9, 23, 24, 25] rfl ?_; refine Qa ?_))
  refine QE rfl (fun h => ?_) (fun h => ?_)
  ·have hil : i < ks.length := by omega
   have htm := ih _ (List.getElem_mem hil) (hfit.kids _ (List.getElem_mem hil)) (Wx (ks.take i) M).2
   obtain ⟨hst1, hst2⟩ := Z0 hil hok
   have hik : i < (Q6 ks M i).length := by omega
   have hik2 : i < ((Q6 ks M i).set i (Wq ks[i] (Wx (ks.take i) M).2).1).length := by rw [List.length_set]; omega
   have hget : ((Q6 ks M i).set i (Wq ks[i] (Wx (ks.take i) M).2).1)[i] = (Wq ks[i] (Wx (ks.take i) M).2).1 := List.getElem_set_self ..
   clear ih hfit hz
   (repeat' first | refine Qu rfl ?_ | refine QA rfl ?_ | refine Qm rfl rfl (by first | exact Enc.len _ | rfl) ?_ | refine QC rfl ?_ | refine Wj rfl rfl rfl (by first | assumption | omega) rfl ?_ | refine Ql rfl rfl (by first | assumption | omega | (simp; done) | (simp; omega)) ?_ | refine WF rfl rfl rfl (by omega) ?_ | refine QL rfl rfl ?_ | refine s_ctm 0 (htm) rfl rfl rfl ?_ | refine Qi rfl rfl rfl (by first | exact Enc.len _ | rfl) (by first | exact Enc.len _ | rfl) (by rfl) ?_ | refine Wk rfl rfl rfl rfl rfl (by first | assumption | omega) rfl ?_ | refine QH (fun _ _ => ?_) | refine Qe ?_ | refine Qs rfl ?_ | refine QZ ?_ | refine Qg ?_ | (refine QK [0, 1, 2, 3, 4, 5, 6, 7, 8, 9, 23, 24, 25] rfl ?_; refine Qa ?_) | refine Qf ?_ | refine Qk ?_)
   refine QE rfl (fun hn => ?_) (fun hn => ?_)
   ·rw [hget] at hn
    rw [hM, hst1 hn]
    (repeat' first | refine QA rfl ?_ | refine Qe ?_ | refine Qs rfl ?_ | refine Qg ?_ | (refine QK [0, 1, 2, 3, 4, 5, 6, 7, 8, 9, 23, 24, 25] rfl ?_; refine Qa ?_) | refine Qq ?_)
    exact e_1 (Tryd.results64) (Qh rfl) (Qy (σ := [_]) (r := [_, _, _]) ⟨rfl, rfl⟩)
   ·rw [hget] at hn
    obtain ⟨k1, k2, k3⟩ := hst2 hn
    (repeat' first | refine Qu rfl ?_ | refine Q5 rfl rfl (by omega) ?_ | refine Qe ?_ | refine Qs rfl ?_ | (refine QK [0, 1, 2, 3, 4, 5, 6, 7, 8, 9, 23, 24, 25] rfl ?_; refine Qa ?_) | refine Qk ?_)
    refine ⟨i + 1, ⟨by omega, k1⟩, by omega, ?_⟩
    rw [k2, k3]
    exact zal rfl
  ·have hil : i = ks.length := by omega
   subst hil
   refine Q2 rfl ?_
   refine r_pub 5 rfl rfl (by rw [Qz, hkl]) rfl ?_
   rw [List.take_length] at hok ⊢
   obtain ⟨l, M', hl⟩ : ∃ l M', Wx ks M = (some l, M') := by
    rcases he : Wx ks M with ⟨_ | l, M'⟩
    ·rw [he] at hok; cases hok
    ·exact ⟨l, M', rfl⟩
   have hkt : Q6 ks M ks.length = l := by unfold Q6; rw [List.take_length, hl]; simp
   have hll := ZI _ _ _ _ hl
   rw [hl] at hM
   rw [hM, hl, hkt]
   have hM2 : (match (some l, M') with | (none, M') => (-1, M') | (some l, M') => WG 29 n 0 l M' : Int × List (Int × Int)) = WG 29 n 0 l M' := rfl
   rw [hM2]
   have hq0 := Wt (G := G) l [0, 0] (by omega) (by decide)
   have hq1 := Wt (G := G) l [1, 1] (by omega) (by decide)
   have hq2 := Wt (G := G) l [1] (by omega) (by decide)
   clear hM hM2 hkt hkl hok hz ih hl hfit
   have hnil : l.length = 0 -> l = [] := List.length_eq_zero_iff.1
   have hnil' : l = [] -> l.length = 0 := List.length_eq_zero_iff.2
   clear hq0 hq1 hq2
   by_cases hc1 : n = 0
   ·by_cases hc2 : l.length = 3
    ·have h0 : 0 < l.length := by omega
     have h1 : 1 < l.length := by omega
     have h2 : 2 < l.length := by omega
     have g0 : l.getD 0 0 = l[0] := Ord.getD_lt h0 _
     have g1 : l.getD 1 0 = l[1] := Ord.getD_lt h1 _
     have g2 : l.getD 2 0 = l[2] := Ord.getD_lt h2 _
     by_cases ha : l[0] = 1
     ·by_cases hb : l[1] = l[2]
      ·rw [show WG 29 n 0 l M' = (l[1], M') by unfold WG; rw [if_neg (by decide), if_neg (by decide), if_neg (by decide), if_neg (by decide), if_neg (by decide), if_pos rfl, if_pos ⟨hc1, hc2, by rw [g0]; exact ha, by rw [g1, g2]; exact hb⟩, g1]]
       (repeat' first | refine Qu rfl ?_ | refine QA rfl ?_ | refine Qv rfl ?_ | refine Qb rfl rfl rfl ?_ | refine Ql rfl rfl (by first | assumption | omega | (simp; done) | (simp; omega)) ?_ | refine QJ rfl rfl ?_ | refine Wm rfl rfl ?_ | refine Qd rfl rfl ?_ | refine Qe ?_ | refine Qs rfl ?_ | refine W3 rfl rfl rfl rfl ?_ | refine o_gu rfl rfl rfl rfl rfl ?_ | refine Qg ?_ | (refine QK [0, 1, 2, 3, 4, 5, 6, 7, 8, 9, 23, 24, 25] rfl ?_; refine Qa ?_) | refine Qf ?_ | (refine Q0 ?_; refine QK [0, 1, 2, 3, 4, 5, 6, 7, 8, 9, 23, 24, 25] rfl ?_; first | refine WD (by rfl) (by kernel_rfl) (by kernel_rfl) rfl ?_ | refine QP (by kernel_rfl) (by kernel_rfl) ?_) | refine Qo rfl ?_ | refine Qp rfl (by omega) ?_ | refine Qq ?_ | refine qb rfl (by (repeat' first | refine Qu rfl ?_ | refine QA rfl ?_ | refine Qv rfl ?_ | refine Qb rfl rfl rfl ?_ | refine Ql rfl rfl (by first | assumption | omega | (simp; done) | (simp; omega)) ?_ | refine QJ rfl rfl ?_ | refine Qj rfl ?_ | refine WI rfl rfl ?_ | refine Qd rfl rfl ?_ | exact ⟨rfl, rfl⟩)) ?_ | refine x_gy rfl rfl rfl rfl (by (repeat' first | refine Qu rfl ?_ | refine QA rfl ?_ | refine Qv rfl ?_ | refine Qb rfl rfl rfl ?_ | refine Ql rfl rfl (by first | assumption | omega | (simp; done) | (simp; omega)) ?_ | refine QJ rfl rfl ?_ | refine Qj rfl ?_ | refine WI rfl rfl ?_ | refine Qd rfl rfl ?_ | exact ⟨rfl, rfl⟩)) ?_ | refine x_sp_t rfl rfl (by omega) ?_ | refine Zs ?_)
       all_goals exact e_1 (Tryd.results64) (Qh rfl) (Qy (σ := [_]) (r := [_, _]) ⟨rfl, rfl⟩)
      ·rw [show WG 29 n 0 l M' = (-1, M') by unfold WG; rw [if_neg (by decide), if_neg (by decide), if_neg (by decide), if_neg (by decide), if_neg (by decide), if_pos rfl, if_neg (fun h => hb (by rw [<- g1, <- g2]; exact h.2.2.2))]]
       (repeat' first | refine Qu rfl ?_ | refine QA rfl ?_ | refine Qb rfl rfl rfl ?_ | refine QJ rfl rfl ?_ | refine Wm rfl rfl ?_ | refine Qd rfl rfl ?_ | refine Qe ?_ | refine Qs rfl ?_ | refine W3 rfl rfl rfl rfl ?_ | refine o_gu rfl rfl rfl rfl rfl ?_ | refine Qg ?_ | (refine QK [0, 1, 2, 3, 4, 5, 6, 7, 8, 9, 23, 24, 25] rfl ?_; refine Qa ?_) | refine Qf ?_ | (refine Q0 ?_; refine QK [0, 1, 2, 3, 4, 5, 6, 7, 8, 9, 23, 24, 25] rfl ?_; first | refine WD (by rfl) (by kernel_rfl) (by kernel_rfl) rfl ?_ | refine QP (by kernel_rfl) (by kernel_rfl) ?_) | refine Qk ?_ | refine Qo rfl ?_ | refine Qr rfl (by omega) ?_ | refine Qq ?_ | refine qb rfl (by (repeat' first | refine Qu rfl ?_ | refine QA rfl ?_ | refine Qv rfl ?_ | refine Qb rfl rfl rfl ?_ | refine Ql rfl rfl (by first | assumption | omega | (simp; done) | (simp; omega)) ?_ | refine QJ rfl rfl ?_ | refine Qj rfl ?_ | refine WI rfl rfl ?_ | refine Qd rfl rfl ?_ | exact ⟨rfl, rfl⟩)) ?_ | refine x_gy rfl rfl rfl rfl (by (repeat' first | refine Qu rfl ?_ | refine QA rfl ?_ | refine Qv rfl ?_ | refine Qb rfl rfl rfl ?_ | refine Ql rfl rfl (by first | assumption | omega | (simp; done) | (simp; omega)) ?_ | refine QJ rfl rfl ?_ | refine Qj rfl ?_ | refine WI rfl rfl ?_ | refine Qd rfl rfl ?_ | exact ⟨rfl, rfl⟩)) ?_ | refine x_sp_t rfl rfl (by omega) ?_ | refine Zs ?_)
       all_goals exact e_1 (Tryd.results64) (Qh rfl) (Qy (σ := [_]) (r := [_, _]) ⟨rfl, rfl⟩)
     ·rw [show WG 29 n 0 l M' = (-1, M') by unfold WG; rw [if_neg (by decide), if_neg (by decide), if_neg (by decide), if_neg (by decide), if_neg (by decide), if_pos rfl, if_neg (fun h => ha (by rw [<- g0]; exact h.2.2.1))]]
      (repeat' first | refine Qu rfl ?_ | refine QA rfl ?_ | refine Qb rfl rfl rfl ?_ | refine QJ rfl rfl ?_ | refine Wm rfl rfl ?_ | refine Qd rfl rfl ?_ | refine x_gn rfl rfl rfl rfl ?_ | refine Qe ?_ | refine Qs rfl ?_ | refine W3 rfl rfl rfl rfl ?_ | refine o_gu rfl rfl rfl rfl rfl ?_ | refine Qg ?_ | (refine QK [0, 1, 2, 3, 4, 5, 6, 7, 8, 9, 23, 24, 25] rfl ?_; refine Qa ?_) | refine Qf ?_ | (refine Q0 ?_; refine QK [0, 1, 2, 3, 4, 5, 6, 7, 8, 9, 23, 24, 25] rfl ?_; first | refine WD (by rfl) (by kernel_rfl) (by kernel_rfl) rfl ?_ | refine QP (by kernel_rfl) (by kernel_rfl) ?_) | refine Qk ?_ | refine Qo rfl ?_ | refine Qq ?_ | refine qb rfl (by (repeat' first | refine Qu rfl ?_ | refine QA rfl ?_ | refine Qv rfl ?_ | refine Qb rfl rfl rfl ?_ | refine Ql rfl rfl (by first | assumption | omega | (simp; done) | (simp; omega)) ?_ | refine QJ rfl rfl ?_ | refine Qj rfl ?_ | refine WI rfl rfl ?_ | refine Wm rfl rfl ?_ | refine Qd rfl rfl ?_ | exact ⟨rfl, rfl⟩)) ?_ | refine x_gy rfl rfl rfl rfl (by (repeat' first | refine Qu rfl ?_ | refine QA rfl ?_ | refine Qv rfl ?_ | refine Qb rfl rfl rfl ?_ | refine Ql rfl rfl (by first | assumption | omega | (simp; done) | (simp; omega)) ?_ | refine QJ rfl rfl ?_ | refine Qj rfl ?_ | refine WI rfl rfl ?_ | refine Wm rfl rfl ?_ | refine Qd rfl rfl ?_ | exact ⟨rfl, rfl⟩)) ?_ | refine x_sp_t rfl rfl (by omega) ?_ | refine x_sp_f rfl rfl (by omega) ?_ | refine Zs ?_)
      all_goals exact e_1 (Tryd.results64) (Qh rfl) (Qy (σ := [_]) (r := [_, _]) ⟨rfl, rfl⟩)
    ·rw [show WG 29 n 0 l M' = (-1, M') by unfold WG; rw [if_neg (by decide), if_neg (by decide), if_neg (by decide), if_neg (by decide), if_neg (by decide), if_pos rfl, if_neg (fun h => hc2 h.2.1)]]
     (repeat' first | refine Qu rfl ?_ | refine QA rfl ?_ | refine Qb rfl rfl rfl ?_ | refine QJ rfl rfl ?_ | refine Wm rfl rfl ?_ | refine Qd rfl rfl ?_ | refine x_gn rfl rfl rfl rfl ?_ | refine Qe ?_ | refine Qs rfl ?_ | refine W3 rfl rfl rfl rfl ?_ | refine o_gu rfl rfl rfl rfl rfl ?_ | refine Qg ?_ | (refine QK [0, 1, 2, 3, 4, 5, 6, 7, 8, 9, 23, 24, 25] rfl ?_; refine Qa ?_) | refine Qf ?_ | (refine Q0 ?_; refine QK [0, 1, 2, 3, 4, 5, 6, 7, 8, 9, 23, 24, 25] rfl ?_; first | refine WD (by rfl) (by kernel_rfl) (by kernel_rfl) rfl ?_ | refine QP (by kernel_rfl) (by kernel_rfl) ?_) | refine Qk ?_ | refine Qo rfl ?_ | refine Qq ?_ | refine qb rfl (by (repeat' first | refine Qu rfl ?_ | refine QA rfl ?_ | refine Qb rfl rfl rfl ?_ | refine QJ rfl rfl ?_ | refine Qj rfl ?_ | refine WI rfl rfl ?_ | refine Wm rfl rfl ?_ | refine Qd rfl rfl ?_ | exact ⟨rfl, rfl⟩)) ?_ | refine x_gy rfl rfl rfl rfl (by (repeat' first | refine Qu rfl ?_ | refine QA rfl ?_ | refine Qb rfl rfl rfl ?_ | refine QJ rfl rfl ?_ | refine Qj rfl ?_ | refine WI rfl rfl ?_ | refine Wm rfl rfl ?_ | refine Qd rfl rfl ?_ | exact ⟨rfl, rfl⟩)) ?_ | refine x_sp_t rfl rfl (by omega) ?_ | refine x_sp_f rfl rfl (by omega) ?_ | refine Zs ?_)
     all_goals exact e_1 (Tryd.results64) (Qh rfl) (Qy (σ := [_]) (r := [_, _]) ⟨rfl, rfl⟩)
   ·rw [show WG 29 n 0 l M' = (-1, M') by unfold WG; rw [if_neg (by decide), if_neg (by decide), if_neg (by decide), if_neg (by decide), if_neg (by decide), if_pos rfl, if_neg (fun h => hc1 h.1)]]
    (repeat' first | refine Qu rfl ?_ | refine QA rfl ?_ | refine Qb rfl rfl rfl ?_ | refine QJ rfl rfl ?_ | refine Wm rfl rfl ?_ | refine Qd rfl rfl ?_ | refine x_gn rfl rfl rfl rfl ?_ | refine Qe ?_ | refine Qs rfl ?_ | refine W3 rfl rfl rfl rfl ?_ | refine o_gu rfl rfl rfl rfl rfl ?_ | refine Qg ?_ | (refine QK [0, 1, 2, 3, 4, 5, 6, 7, 8, 9, 23, 24, 25] rfl ?_; refine Qa ?_) | refine Qf ?_ | (refine Q0 ?_; refine QK [0, 1, 2, 3, 4, 5, 6, 7, 8, 9, 23, 24, 25] rfl ?_; first | refine WD (by rfl) (by kernel_rfl) (by kernel_rfl) rfl ?_ | refine QP (by kernel_rfl) (by kernel_rfl) ?_) | refine Qk ?_ | refine Qo rfl ?_ | refine Qq ?_ | refine qb rfl (by (repeat' first | refine Qu rfl ?_ | refine QA rfl ?_ | refine Qb rfl rfl rfl ?_ | refine QJ rfl rfl ?_ | refine WI rfl rfl ?_ | refine Wm rfl rfl ?_ | refine Qd rfl rfl ?_ | exact ⟨rfl, rfl⟩)) ?_ | refine x_gy rfl rfl rfl rfl (by (repeat' first | refine Qu rfl ?_ | refine QA rfl ?_ | refine Qb rfl rfl rfl ?_ | refine QJ rfl rfl ?_ | refine WI rfl rfl ?_ | refine Wm rfl rfl ?_ | refine Qd rfl rfl ?_ | exact ⟨rfl, rfl⟩)) ?_ | refine x_sp_f rfl rfl (by omega) ?_ | refine Zs ?_)
    all_goals exact e_1 (Tryd.results64) (Qh rfl) (Qy (σ := [_]) (r := [_, _]) ⟨rfl, rfl⟩)
theorem ctypes_x (hG : G 0 = qE) (k n : Int) (ks : List Nd) (h4 : k ≠ 4) (h5 : k ≠ 5) (h6 : k ≠ 6) (h9 : k ≠ 9) (h10 : k ≠ 10) (h29 : k ≠ 29) (ih : ∀ x ∈ ks, Fit x -> ∀ M : List (Int × Int), TM Tryd.prog G 64 (fun g => [.mp 0 g, .agg (Enc.enc x)]) M (.i (Wq x M).1) (Wq x M).2) (hfit : Fit (.mk k n 0 ks)) (M : List (Int × Int)) :
  TM Tryd.prog G 64 (fun g => [.mp 0 g, .agg (Enc.enc (Nd.mk k n 0 ks))]) M (.i (Wq (.mk k n 0 ks) M).1) (Wq (.mk k n 0 ks) M).2 := by
 intro g B b1
 have hks := hfit.len
 rw [Q9]
 refine Qc Tryd.func64 rfl Tryd.ntmps64 rfl (t := [(0, .mp 0 g), (1, .agg [.i k, .i n, .i 0, QG ks])]) rfl fun E hE => ?_
 have hM : Wq (.mk k n 0 ks) M = (match Wx ks M with | (none, M') => (-1, M') | (some l, M') => WG k n 0 l M') := by (rw [Wq, if_neg (fun h => h.1 rfl)]; try rfl)
 have hz : WS [Value.int .i64 0] (ks.length : Int).toNat = Qt (Q6 ks M 0) := by
  show _ = Qt (List.replicate ks.length (0 : Int))
  rw [show (ks.length : Int).toNat = ks.length from rfl]
  exact Zc _
 (repeat' first | refine Qu rfl ?_ | refine QA rfl ?_ | refine Qb rfl rfl rfl ?_ | refine Wu rfl rfl ?_ | refine Qj rfl ?_ | refine Wm rfl rfl ?_ | refine Qd rfl rfl ?_ | refine s_make rfl rfl rfl (by omega) (by omega) (by omega) (by omega) (fun _ _ => ?_) | refine QU rfl rfl (fun _ _ => ?_) | refine Qe ?_ | refine Qs rfl ?_ | refine W3 rfl rfl rfl rfl ?_ | refine Qg ?_ | (refine QK [0, 1, 2, 3, 4, 5, 6, 7, 8, 9, 23, 24, 25] rfl ?_; refine Qa ?_) | refine Qf ?_ | refine Qk ?_ | refine Qo rfl ?_)
 all_goals
  rename_i gt hgt gk hgk
  refine Wv (fun (i : Nat) => ⟨[(0, .mp 0 g), (3, .ptr 1 gt 0), (5, .ref 2 gk 0 ks.length (Enc.es Int)), (23, QG ks), (24, .i ks.length), (25, .i i)], [.mapb g (Wp (Zv (Wx (ks.take i) M).2)), .row gt [.i k, .i n, .i 0, QG ks], .row gk (Qt (Q6 ks M i))]⟩) (fun i => i <= ks.length /\ (Wx (ks.take i) M).1.isSome = true) (fun i => ks.length - i) 0 ?_ ⟨by omega, rfl⟩ ?_
  ·rw [<- hz]
   exact zal rfl
  intro i ⟨hi, hok⟩
  have hkl := ZD hi hok
  (repeat' first | refine QL rfl rfl ?_ | refine Qe ?_ | refine Qs rfl ?_ | refine Qg ?_ | (refine QK [0, 1, 2, 3, 4, 5, 6, 7, 8, 9, 23, 24, 25] rfl ?_; refine Qa ?_))
  refine QE rfl (fun h => ?_) (fun h => ?_)
  ·have hil : i < ks.length := by omega
   have htm := ih _ (List.getElem_mem hil) (hfit.kids _ (List.getElem_mem hil)) (Wx (ks.take i) M).2
   obtain ⟨hst1, hst2⟩ := Z0 hil hok
   have hik : i < (Q6 ks M i).length := by omega
   have hik2 : i < ((Q6 ks M i).set i (Wq ks[i] (Wx (ks.take i) M).2).1).length := by rw [List.length_set]; omega
   have hget : ((Q6 ks M i).set i (Wq ks[i] (Wx (ks.take i) M).2).1)[i] = (Wq ks[i] (Wx (ks.take i) M).2).1 := List.getElem_set_self ..
   clear ih hfit hz
   (repeat' first | refine Qu rfl ?_ | refine QA rfl ?_ | refine Qm rfl rfl (by first | exact Enc.len _ | rfl) ?_ | refine QC rfl ?_ | refine Wj rfl rfl rfl (by first | assumption | omega) rfl ?_ | refine Ql rfl rfl (by first | assumption | omega | (simp; done) | (simp; omega)) ?_ | refine WF rfl rfl rfl (by omega) ?_ | refine QL rfl rfl ?_ | refine s_ctm 0 (htm) rfl rfl rfl ?_ | refine Qi rfl rfl rfl (by first | exact Enc.len _ | rfl) (by first | exact Enc.len _ | rfl) (by rfl) ?_ | refine Wk rfl rfl rfl rfl rfl (by first | assumption | omega) rfl ?_ | refine QH (fun _ _ => ?_) | refine Qe ?_ | refine Qs rfl ?_ | refine QZ ?_ | refine Qg ?_ | (refine QK [0, 1, 2, 3, 4, 5, 6, 7, 8, 9, 23, 24, 25] rfl ?_; refine Qa ?_) | refine Qf ?_ | refine Qk ?_)
   refine QE rfl (fun hn => ?_) (fun hn => ?_)
   ·rw [hget] at hn
    rw [hM, hst1 hn]
    (repeat' first | refine QA rfl ?_ | refine Qe ?_ | refine Qs rfl ?_ | refine Qg ?_ | (refine QK [0, 1, 2, 3, 4, 5, 6, 7, 8, 9, 23, 24, 25] rfl ?_; refine Qa ?_) | refine Qq ?_)
    exact e_1 (Tryd.results64) (Qh rfl) (Qy (σ := [_]) (r := [_, _, _]) ⟨rfl, rfl⟩)
   ·rw [hget] at hn
    obtain ⟨k1, k2, k3⟩ := hst2 hn
    (repeat' first | refine Qu rfl ?_ | refine Q5 rfl rfl (by omega) ?_ | refine Qe ?_ | refine Qs rfl ?_ | (refine QK [0, 1, 2, 3, 4, 5, 6, 7, 8, 9, 23, 24, 25] rfl ?_; refine Qa ?_) | refine Qk ?_)
    refine ⟨i + 1, ⟨by omega, k1⟩, by omega, ?_⟩
    rw [k2, k3]
    exact zal rfl
  ·have hil : i = ks.length := by omega
   subst hil
   refine Q2 rfl ?_
   refine r_pub 5 rfl rfl (by rw [Qz, hkl]) rfl ?_
   rw [List.take_length] at hok ⊢
   obtain ⟨l, M', hl⟩ : ∃ l M', Wx ks M = (some l, M') := by
    rcases he : Wx ks M with ⟨_ | l, M'⟩
    ·rw [he] at hok; cases hok
    ·exact ⟨l, M', rfl⟩
   have hkt : Q6 ks M ks.length = l := by unfold Q6; rw [List.take_length, hl]; simp
   have hll := ZI _ _ _ _ hl
   rw [hl] at hM
   rw [hM, hl, hkt]
   have hM2 : (match (some l, M') with | (none, M') => (-1, M') | (some l, M') => WG k n 0 l M' : Int × List (Int × Int)) = WG k n 0 l M' := rfl
   rw [hM2]
   have hq0 := Wt (G := G) l [0, 0] (by omega) (by decide)
   have hq1 := Wt (G := G) l [1, 1] (by omega) (by decide)
   have hq2 := Wt (G := G) l [1] (by omega) (by decide)
   clear hM hM2 hkt hkl hok hz ih hl hfit
   have hnil : l.length = 0 -> l = [] := List.length_eq_zero_iff.1
   have hnil' : l = [] -> l.length = 0 := List.length_eq_zero_iff.2
   clear hq0 hq1 hq2
   rw [show WG k n 0 l M' = (-1, M') by unfold WG; rw [if_neg h4, if_neg h5, if_neg h6, if_neg h9, if_neg h10, if_neg h29]]
   (repeat' first | refine Qu rfl ?_ | refine QA rfl ?_ | refine Qb rfl rfl rfl ?_ | refine QJ rfl rfl ?_ | refine Wm rfl rfl ?_ | refine Qd rfl rfl ?_ | refine x_gn rfl rfl rfl rfl ?_ | refine Qe ?_ | refine Qs rfl ?_ | refine W3 rfl rfl rfl rfl ?_ | refine o_gu rfl rfl rfl rfl rfl ?_ | refine Wc rfl rfl (by omega) ?_ | refine Qg ?_ | (refine QK [0, 1, 2, 3, 4, 5, 6, 7, 8, 9, 23, 24, 25] rfl ?_; refine Qa ?_) | refine Qf ?_ | (refine Q0 ?_; refine QK [0, 1, 2, 3, 4, 5, 6, 7, 8, 9, 23, 24, 25] rfl ?_; first | refine WD (by rfl) (by kernel_rfl) (by kernel_rfl) rfl ?_ | refine QP (by kernel_rfl) (by kernel_rfl) ?_) | refine Qk ?_ | refine Qo rfl ?_ | refine Qq ?_ | refine qb rfl (by (repeat' first | refine Qu rfl ?_ | refine QA rfl ?_ | refine Qb rfl rfl rfl ?_ | refine QJ rfl rfl ?_ | refine Wm rfl rfl ?_ | refine Qd rfl rfl ?_ | exact ⟨rfl, rfl⟩)) ?_ | refine x_sp_f rfl rfl (by omega) ?_ | refine Zs ?_)
   all_goals exact e_1 (Tryd.results64) (Qh rfl) (Qy (σ := [_]) (r := [_, _]) ⟨rfl, rfl⟩)
theorem ctypes_b (k n m : Int) (ks : List Nd) (hm0 : m ≠ 0) (hk6 : k ≠ 6) (M : List (Int × Int)) :
  TM Tryd.prog G 64 (fun g => [.mp 0 g, .agg (Enc.enc (Nd.mk k n m ks))]) M (.i (Wq (.mk k n m ks) M).1) (Wq (.mk k n m ks) M).2 := by
 intro g B b1
 rw [Q9]
 refine Qc Tryd.func64 rfl Tryd.ntmps64 rfl (t := [(0, .mp 0 g), (1, .agg [.i k, .i n, .i m, QG ks])]) rfl fun E hE => ?_
 rw [show Wq (.mk k n m ks) M = (-1, M) by rw [Wq, if_pos ⟨hm0, hk6⟩]]
 (repeat' first | refine Qu rfl ?_ | refine QA rfl ?_ | refine Qb rfl rfl rfl ?_ | refine Wu rfl rfl ?_ | refine WI rfl rfl ?_ | refine Qd rfl rfl ?_ | refine QU rfl rfl (fun _ _ => ?_) | refine Qe ?_ | refine Qs rfl ?_ | refine WK rfl rfl rfl rfl ?_ | refine Wg rfl rfl (by omega) ?_ | refine Qg ?_ | (refine QK [0, 1, 2, 3, 4, 5, 6, 7, 8, 9, 23, 24, 25] rfl ?_; refine Qa ?_) | refine Qp rfl (by omega) ?_ | refine Qq ?_)
 exact e_1 (Tryd.results64) (Qh rfl) (Qy (σ := [_]) (r := [_]) ⟨rfl, rfl⟩)
theorem ctypes_c (hG : G 0 = qE) (t : Nd) : Fit t -> ∀ M : List (Int × Int), TM Tryd.prog G 64 (fun g => [.mp 0 g, .agg (Enc.enc t)]) M (.i (Wq t M).1) (Wq t M).2 := by
 induction t using Nd.ind with
 | h k n m ks ih =>
 intro hfit M
 by_cases h6 : k = 6
 ·subst h6
  by_cases hm : m = 0
  ·exact ctypes_6a hG n m ks hm ih hfit M
  by_cases hm1 : m = 1
  ·exact ctypes_6b hG n m ks hm1 ih hfit M
  ·exact ctypes_6c hG n m ks hm hm1 ih hfit M
 by_cases hm : m = 0
 ·subst hm
  by_cases h4 : k = 4
  ·subst h4; exact ctypes_4 hG n ks ih hfit M
  by_cases h5 : k = 5
  ·subst h5; exact ctypes_5 hG n ks ih hfit M
  by_cases h9 : k = 9
  ·subst h9
   by_cases hc : 0 <= n /\ n < 12
   ·exact ctypes_9a hG n ks hc.1 hc.2 ih hfit M
   ·exact ctypes_9b hG n ks hc ih hfit M
  by_cases h10 : k = 10
  ·subst h10; exact ctypes_10 hG n ks ih hfit M
  by_cases h29 : k = 29
  ·subst h29; exact ctypes_29 hG n ks ih hfit M
  exact ctypes_x hG k n ks h4 h5 h6 h9 h10 h29 ih hfit M
 ·exact ctypes_b k n m ks hm h6 M
theorem s_max_v {P : Program} {B : Nat} {f : Operand -> DV} {σ : List ABlk} {K : DV -> List ABlk -> Prop} {dst : Option Tmp} {type : TypeId} {pos : String} {after : Array Edge} {gd : Option (Nat × Bool)} {ts : Array TypeId} {x y : Operand} {k1 : IntKind} {a b : Int} (hx : f x = .sc (.int k1 a)) (hy : f y = .sc (.int k1 b)) (k : K (.sc (.int k1 (max a b))) σ) : OpSem P G B ⟨dst, .call ⟨.builtin .max, #[x, y], ts⟩, type, pos, after, gd⟩ f σ K :=
 s_max hx hy (by rwa [show (if a < b then b else a) = max a b by rw [Int.max_def]; split <;> split <;> omega])
theorem valid_of (t : Nd) (htm : TM Tryd.prog G 64 (fun g => [.mp 0 g, .agg (Enc.enc t)]) [] (.i (Wq t []).1) (Wq t []).2) :
  Go.Av.Pure Tryd.prog G 36 [.agg (Enc.enc t)] (.tup [.i (max (Wq t []).1 0), .b (decide (0 <= (Wq t []).1))]) := fun B => by
 refine Qc Tryd.func36 rfl Tryd.ntmps36 rfl (t := [(0, .agg (Enc.enc t))]) rfl fun E hE => ?_
 (repeat' first | refine Qu rfl ?_ | refine QA rfl ?_ | refine Qm rfl rfl (by first | exact Enc.len _ | rfl) ?_ | refine Wh rfl rfl ?_ | refine s_max_v rfl rfl ?_ | refine s_ctm 1 (htm) rfl rfl rfl ?_ | refine s_mkmap_i (fun _ _ => ?_) | refine QU rfl rfl (fun _ _ => ?_) | refine Qe ?_ | refine Qs rfl ?_ | refine Qg ?_ | refine Qa ?_ | refine Qq ?_)
 exact e_2 (Tryd.results36) (Qh rfl) (Qh rfl) (Qy (σ := []) (r := [_, _]) ⟨rfl, rfl⟩)
end Go.Proofs
end
section
namespace Go.Av
open Go.Bl
section
variable {P : Program} {G : Nat -> DV}
def BS (P : Program) (G : Nat -> DV) (f : FuncId) (args : List DV) (A : List (Int × Int)) (v : Int) (cl : List (List Int)) (S : ZW) (res : DV) (s' : St) (S' : ZW) : Prop :=
 ∀ (g0 g1 g2 g3 : Nat) (c2 c3 c4 : DV), c2.clo = true -> c3.clo = true -> c4.clo = true -> ∀ B, g0 <= B -> g1 <= B -> g2 <= B -> g3 <= B ->
  ACalls P G B f (.ptr 0 g0 0 :: args) [.row g0 [.sc (.int .i64 v), .ref 1 g1 0 cl.length 1, c2, c3, c4, .mp 2 g2, .mp 3 g3], .row g1 (Qt cl), .mapb g2 (Wp (Zv A)), .mapb g3 (Zw S)]
   (fun d' τ' => d' = res /\ ∃ g1', (g1' = g1 \/ B < g1') /\ τ' = [.row g0 [.sc (.int .i64 s'.vars), .ref 1 g1' 0 s'.cl.length 1, c2, c3, c4, .mp 2 g2, .mp 3 g3], .row g1' (Qt s'.cl), .mapb g2 (Wp (Zv A)), .mapb g3 (Zw S')])
variable {B : Nat} {f : Operand -> DV} {σ : List ABlk} {K : DV -> List ABlk -> Prop} {dst : Option Tmp} {type : TypeId} {pos : String} {after : Array Edge} {gd : Option (Nat × Bool)}
theorem ZX {args : Array Operand} {ts : Array TypeId} {fid : FuncId} {ds : List DV} {A : List (Int × Int)} {v : Int} {cl : List (List Int)} {S S' : ZW} {res : DV} {s' : St} {g0 g1 g2 g3 : Nat} {c2 c3 c4 : DV} {rest : List ABlk} [FnOk P fid]
  (hx : f (.func fid) = .fn (.func fid) [] []) (hds : reL (args.toList.map f) = some (.ptr 0 g0 0 :: ds)) (h : BS P G fid ds A v cl S res s' S')
  (hσ : σ = .row g0 [.sc (.int .i64 v), .ref 1 g1 0 cl.length 1, c2, c3, c4, .mp 2 g2, .mp 3 g3] :: .row g1 (Qt cl) :: .mapb g2 (Wp (Zv A)) :: .mapb g3 (Zw S) :: rest)
  (h2 : c2.clo = true) (h3 : c3.clo = true) (h4 : c4.clo = true) (hdc : ∀ d ∈ ds, d.clo = true) (hres : res.clo = true)
  (k : ∀ g1', (g1' = g1 \/ B < g1') -> K res (.row g0 [.sc (.int .i64 s'.vars), .ref 1 g1' 0 s'.cl.length 1, c2, c3, c4, .mp 2 g2, .mp 3 g3] :: .row g1' (Qt s'.cl) :: .mapb g2 (Wp (Zv A)) :: .mapb g3 (Zw S') :: rest)) :
  OpSem P G B ⟨dst, .call ⟨.value (.func fid), args, ts⟩, type, pos, after, gd⟩ f σ K := by
 subst hσ
 have hrow : ∀ {n : Nat} {v : Int} {g1 l : Nat}, RenB (qf [0, 1, 2, 3] n) (.row g0 [.sc (.int .i64 v), .ref 1 g1 0 l 1, c2, c3, c4, .mp 2 g2, .mp 3 g3]) (.row g0 [.sc (.int .i64 v), .ref 1 g1 0 l 1, c2, c3, c4, .mp 2 g2, .mp 3 g3]) := fun {n v g1 l} =>
  .row (.cons (.clo (by simp [DV.clo])) (.cons (.ref rfl) (.cons (.clo h2) (.cons (.clo h3) (.cons (.clo h4) (.cons (.mp rfl) (.cons (.mp rfl) .nil)))))))
 have hbs : ∀ {n : Nat} {v : Int} {cl : List (List Int)} {g1 : Nat} {S : ZW}, RenBs (qf [0, 1, 2, 3] n) [.row g0 [.sc (.int .i64 v), .ref 1 g1 0 cl.length 1, c2, c3, c4, .mp 2 g2, .mp 3 g3], .row g1 (Qt cl), .mapb g2 (Wp (Zv A)), .mapb g3 (Zw S)] [.row g0 [.sc (.int .i64 v), .ref 1 g1 0 cl.length 1, c2, c3, c4, .mp 2 g2, .mp 3 g3], .row g1 (Qt cl), .mapb g2 (Wp (Zv A)), .mapb g3 (Zw S)] := fun {n v cl g1 S} =>
  .cons hrow (.cons (.rowc (Qn cl)) (.cons (.map ZG) (.cons (.map qu) .nil)))
 refine Zd (R := fun B d' τ' => d' = res /\ ∃ g1', (g1' = g1 \/ B < g1') /\ τ' = [.row g0 [.sc (.int .i64 s'.vars), .ref 1 g1' 0 s'.cl.length 1, c2, c3, c4, .mp 2 g2, .mp 3 g3], .row g1' (Qt s'.cl), .mapb g2 (Wp (Zv A)), .mapb g3 (Zw S')]) [0, 1, 2, 3] hx hds (.cons (.s (.ptr rfl)) (renl_clo hdc)) (by decide) rfl hbs (fun B' hB hg => h g0 g1 g2 g3 c2 c3 c4 h2 h3 h4 B' (hg 0 _ _ rfl rfl) (hg 1 _ _ rfl rfl) (hg 2 _ _ rfl rfl) (hg 3 _ _ rfl rfl)) ?_
 rintro B' d' τ' hB ⟨rfl, g1', hg, rfl⟩
 exact ⟨d', _, _, .s (.clo hres), hbs, rfl, k g1' (by omega)⟩
theorem s_lookup_s1 {t kt et : TypeId} {agg a1 : Bool} {size s1 : Nat} {m ix : Operand} {k g : Nat} {S : ZW} {x : List UInt8} {v : List Int} [ht : TyI P t (.map kt et) agg size] [hkt : TyI P kt .string a1 s1] (hm : f m = .mp k g) (hσk : σ[k]? = some (.mapb g (Zw S))) (hx : f ix = .sc (.string ⟨x.toArray⟩)) (hz : (P.info? et).bind (·.zero) = some (.agg #[.int .i64 0, .int .i64 0, .int .i64 0, .int .i64 0])) (hget : getS S x = some v)
  (kk : K (.tup [.agg (Qt v), .b true]) σ) : OpSem P G B ⟨dst, .lookup t m ix true, type, pos, after, gd⟩ f σ K := s_lookup_sok hm hσk hx hz (by rw [hget]; exact kk)
theorem s_lookup_s0 {t kt et : TypeId} {agg a1 : Bool} {size s1 : Nat} {m ix : Operand} {k g : Nat} {S : ZW} {x : List UInt8} [ht : TyI P t (.map kt et) agg size] [hkt : TyI P kt .string a1 s1] (hm : f m = .mp k g) (hσk : σ[k]? = some (.mapb g (Zw S))) (hx : f ix = .sc (.string ⟨x.toArray⟩)) (hz : (P.info? et).bind (·.zero) = some (.agg #[.int .i64 0, .int .i64 0, .int .i64 0, .int .i64 0])) (hget : getS S x = none)
  (kk : K (.tup [.agg (Qt ([0, 0, 0, 0] : List Int)), .b false]) σ) : OpSem P G B ⟨dst, .lookup t m ix true, type, pos, after, gd⟩ f σ K := s_lookup_sok hm hσk hx hz (by rw [hget]; exact kk)
theorem s_index_e {t e n : Nat} {d : TypeDesc} {g1 : Bool} {z1 : Nat} {x y : Operand} {l : List Int} {kd : IntKind} {i : Nat} [ht : TyI P t (.array n e) g1 z1] [he : TyI P e d false 1]
  (hx : f x = .agg (Qt l)) (hy : f y = .sc (.int kd (i : Nat))) (h1 : i < n) (hl : i < l.length) (k : K (.i (l.getD i 0)) σ) : OpSem P G B ⟨dst, .index t x y, type, pos, after, gd⟩ f σ K :=
 s_index_a hx hy h1 (e' := .i (l.getD i 0)) (by
  rw [Nat.mul_one]
  refine encs_at1 (α := Int) rfl hl ?_
  rw [List.getD_eq_getElem?_getD, List.getElem?_eq_getElem hl]; rfl) k
end
end Go.Av
namespace Go.Proofs
open Go.Av Go.Bl
def varTo (a : Int) : Nat -> List Int
 | 0 => [0, 0, 0, 0]
 | i + 1 => (varTo a i).set i (a + i)
theorem qs (a : Int) : ∀ i, (varTo a i).length = 4
 | 0 => rfl
 | i + 1 => by rw [varTo, List.length_set, qs a i]
def varM (a m : Int) : List Int := if m = 1 then varTo a 1 else varTo a 4
mutual
def QQ (A : List (Int × Int)) (t : Nd) (s : St) (S : ZW) : List Int × St × ZW :=
 match getS S (keyS t) with
 | some x => (x, s, S)
 | none => if ZH s = true then ([0, 0, 0, 0], s, S) else ((Zl A t s S).1, (Zl A t s S).2.1, putS (Zl A t s S).2.2 (keyS t) (Zl A t s S).1)
termination_by (SizeOf.sizeOf t, 1)
def Zl (A : List (Int × Int)) (t : Nd) (s : St) (S : ZW) : List Int × St × ZW :=
 match t with
 | .mk k n m [] => if k = 4 then (qy n, s, S) else if k = 5 then ([1 * (2 * n - 1), 0, 0, 0], s, S) else (varM ((W8 A n).getD 0) m, s, S)
 | .mk k n m [a] => ([-((QQ A a s S).1.getD 0 0), 0, 0, 0], (QQ A a s S).2.1, (QQ A a s S).2.2)
 | .mk k n m [a, b] =>
  ((ZC n (QQ A b (QQ A a s S).2.1 (QQ A a s S).2.2).2.1 (QQ A a s S).1 (QQ A b (QQ A a s S).2.1 (QQ A a s S).2.2).1).1,
  (ZC n (QQ A b (QQ A a s S).2.1 (QQ A a s S).2.2).2.1 (QQ A a s S).1 (QQ A b (QQ A a s S).2.1 (QQ A a s S).2.2).1).2,
  (QQ A b (QQ A a s S).2.1 (QQ A a s S).2.2).2.2)
 | .mk k n m [c, a, b] =>
  let r := QQ A c s S
  let q := QQ A a r.2.1 r.2.2
  let u := QQ A b q.2.1 q.2.2
  if (Wq (.mk k n m [c, a, b]) []).1 = 1 then ([(muxM u.2.1 (r.1.getD 0 0) (q.1.getD 0 0) (u.1.getD 0 0)).1, 0, 0, 0], (muxM u.2.1 (r.1.getD 0 0) (q.1.getD 0 0) (u.1.getD 0 0)).2, u.2.2)
  else ((eachTo (muxG (r.1.getD 0 0)) u.2.1 q.1 u.1 4).1, (eachTo (muxG (r.1.getD 0 0)) u.2.1 q.1 u.1 4).2, u.2.2)
 | .mk k n m _ => ([0, 0, 0, 0], s, S)
termination_by (SizeOf.sizeOf t, 0)
decreasing_by all_goals (simp_wf; try omega)
end
theorem ZE (A : List (Int × Int)) (k n m : Int) (s : St) (S : ZW) : Zl A (.mk k n m []) s S = if k = 4 then (qy n, s, S) else if k = 5 then ([1 * (2 * n - 1), 0, 0, 0], s, S) else (varM ((W8 A n).getD 0) m, s, S) := by rw [Zl]
theorem madeM_1 (A : List (Int × Int)) (k n m : Int) (a : Nd) (s : St) (S : ZW) : Zl A (.mk k n m [a]) s S = ([-((QQ A a s S).1.getD 0 0), 0, 0, 0], (QQ A a s S).2.1, (QQ A a s S).2.2) := by rw [Zl]
theorem madeM_2 (A : List (Int × Int)) (k n m : Int) (a b : Nd) (s : St) (S : ZW) : Zl A (.mk k n m [a, b]) s S =
  ((ZC n (QQ A b (QQ A a s S).2.1 (QQ A a s S).2.2).2.1 (QQ A a s S).1 (QQ A b (QQ A a s S).2.1 (QQ A a s S).2.2).1).1,
  (ZC n (QQ A b (QQ A a s S).2.1 (QQ A a s S).2.2).2.1 (QQ A a s S).1 (QQ A b (QQ A a s S).2.1 (QQ A a s S).2.2).1).2,
  (QQ A b (QQ A a s S).2.1 (QQ A a s S).2.2).2.2) := by rw [Zl]
def condM (ty : Int) (s : St) (c : Int) (x y : List Int) : List Int × St :=
 if ty = 1 then ([(muxM s c (x.getD 0 0) (y.getD 0 0)).1, 0, 0, 0], (muxM s c (x.getD 0 0) (y.getD 0 0)).2) else eachTo (muxG c) s x y 4
theorem madeM_3 (A : List (Int × Int)) (k n m : Int) (c a b : Nd) (s : St) (S : ZW) : Zl A (.mk k n m [c, a, b]) s S =
  ((condM (Wq (.mk k n m [c, a, b]) []).1 (QQ A b (QQ A a (QQ A c s S).2.1 (QQ A c s S).2.2).2.1 (QQ A a (QQ A c s S).2.1 (QQ A c s S).2.2).2.2).2.1 ((QQ A c s S).1.getD 0 0) (QQ A a (QQ A c s S).2.1 (QQ A c s S).2.2).1 (QQ A b (QQ A a (QQ A c s S).2.1 (QQ A c s S).2.2).2.1 (QQ A a (QQ A c s S).2.1 (QQ A c s S).2.2).2.2).1).1,
  (condM (Wq (.mk k n m [c, a, b]) []).1 (QQ A b (QQ A a (QQ A c s S).2.1 (QQ A c s S).2.2).2.1 (QQ A a (QQ A c s S).2.1 (QQ A c s S).2.2).2.2).2.1 ((QQ A c s S).1.getD 0 0) (QQ A a (QQ A c s S).2.1 (QQ A c s S).2.2).1 (QQ A b (QQ A a (QQ A c s S).2.1 (QQ A c s S).2.2).2.1 (QQ A a (QQ A c s S).2.1 (QQ A c s S).2.2).2.2).1).2,
  (QQ A b (QQ A a (QQ A c s S).2.1 (QQ A c s S).2.2).2.1 (QQ A a (QQ A c s S).2.1 (QQ A c s S).2.2).2.2).2.2) := by
 rw [Zl]
 unfold condM
 by_cases h : (Wq (.mk k n m [c, a, b]) []).1 = 1
 ·rw [if_pos h, if_pos h]
 ·rw [if_neg h, if_neg h]
theorem bitsM_some {A : List (Int × Int)} {t : Nd} {s : St} {S : ZW} {x : List Int} (h : getS S (keyS t) = some x) : QQ A t s S = (x, s, S) := by rw [QQ, h]
theorem bitsM_full {A : List (Int × Int)} {t : Nd} {s : St} {S : ZW} (h : getS S (keyS t) = none) (hf : ZH s = true) : QQ A t s S = ([0, 0, 0, 0], s, S) := by rw [QQ, h]; exact if_pos hf
theorem bitsM_new {A : List (Int × Int)} {t : Nd} {s : St} {S : ZW} (h : getS S (keyS t) = none) (hf : ZH s = false) : QQ A t s S = ((Zl A t s S).1, (Zl A t s S).2.1, putS (Zl A t s S).2.2 (keyS t) (Zl A t s S).1) := by
 rw [QQ, h]; exact if_neg (by rw [hf]; decide)
end Go.Proofs
end
section
namespace Go.Proofs
open Go.Av
variable {G : Nat -> DV}
attribute [local irreducible] OpSem WB WQ WW ACalls Zo QY RV
open Go.Bl
theorem bits_of (hG : G 1 = pow10T) (A : List (Int × Int)) (t : Nd) (ht : Tin t) (hk : (keyS t).length <= 1048576) (s : St) (S : ZW) (hs : Ok s) (hS : ∀ p ∈ S, p.2.length = 4)
  (hmade : getS S (keyS t) = none -> ZH s = false -> (Zl A t s S).1.length = 4 /\ BS Tryd.prog G 71 [.agg (Enc.enc t)] A s.vars s.cl S (.agg (Qt (Zl A t s S).1)) (Zl A t s S).2.1 (Zl A t s S).2.2) :
  BS Tryd.prog G 41 [.agg (Enc.enc t)] A s.vars s.cl S (.agg (Qt (QQ A t s S).1)) (QQ A t s S).2.1 (QQ A t s S).2.2 := fun g0 g1 g2 g3 c2 c3 c4 h2 h3 h4 B b0 b1 b2 b3 => by
 have hkey := keyS_c (G := G) hG t ht hk
 have hwn : (Enc.enc t : List DV).length = 4 := Enc.len t
 have hsn := qu (S := S)
 have hm := ZG (M := A)
 have hfc := full_c (G := G) s hs
 have hM1 := fun x => bitsM_some (A := A) (t := t) (s := s) (S := S) (x := x)
 have hM2 := bitsM_full (A := A) (t := t) (s := s) (S := S)
 have hM3 := bitsM_new (A := A) (t := t) (s := s) (S := S)
 generalize keyS t = key at *
 cases hget : getS S key with
 | some x =>
  have hxl : x.length = 4 := by
   unfold getS at hget
   cases hi : idxS S key with
   | none => rw [hi] at hget; cases hget
   | some j =>
    rw [hi] at hget
    have hj : j < S.length := (List.findIdx?_eq_some_iff_getElem.1 hi).1
    rw [Option.map_some, List.getD_eq_getElem?_getD, List.getElem?_eq_getElem hj] at hget
    have := hS _ (List.getElem_mem hj)
    have e : S[j].2 = x := Option.some.inj hget
    rw [<- e]; exact this
  have hwx : (Qt x).length = 4 := by rw [Qz, hxl]; rfl
  rw [hM1 x hget]
  clear hmade hS hM1 hM2 hM3
  refine Qc Tryd.func41 rfl Tryd.ntmps41 rfl (t := [(0, .ptr 0 g0 0), (1, .agg (Enc.enc t))]) rfl fun E hE => ?_
  (repeat' first | refine Qu rfl ?_ | refine QA rfl ?_ | refine Qm rfl rfl (by first | assumption | rfl) ?_ | refine Qb rfl rfl rfl ?_ | refine Wa rfl rfl (hkey) ?_ | refine WI rfl rfl ?_ | refine Qi rfl rfl rfl (by first | assumption | rfl) (by first | assumption | rfl) rfl ?_ | refine s_lookup_s1 rfl rfl rfl (by kernel_rfl) hget ?_ | refine Qd rfl rfl ?_ | refine Q4 rfl rfl rfl ?_ | refine Q7 rfl rfl ?_ | refine QH (fun _ _ => ?_) | refine QU rfl rfl (fun _ _ => ?_) | refine Qe ?_ | refine Qs rfl ?_ | refine QZ ?_ | refine W3 rfl rfl rfl rfl ?_ | refine Qg ?_ | refine Qa ?_ | refine QB rfl ?_ | refine Qq ?_)
  exact e_1 (Tryd.results41) (QR (size := 4) rfl rfl (QS hwx) hwx) (Qy (σ := [_, _, _, _]) (r := [_, _, _]) ⟨rfl, g1, by omega, rfl⟩)
 | none =>
  cases hf : ZH s with
  | true =>
   rw [hM2 hget hf]
   rw [hf] at hfc
   have hw0 : (Qt ([0, 0, 0, 0] : List Int)).length = 4 := rfl
   clear hmade hS hM1 hM2 hM3
   refine Qc Tryd.func41 rfl Tryd.ntmps41 rfl (t := [(0, .ptr 0 g0 0), (1, .agg (Enc.enc t))]) rfl fun E hE => ?_
   (repeat' first | refine Qu rfl ?_ | refine QA rfl ?_ | refine Qm rfl rfl (by first | assumption | rfl) ?_ | refine Qb rfl rfl rfl ?_ | refine Zk rfl rfl (hfc) rfl (fun _ _ => ?_) | refine Wa rfl rfl (hkey) ?_ | refine Wm rfl rfl ?_ | refine Qi rfl rfl rfl (by first | assumption | rfl) (by first | assumption | rfl) rfl ?_ | refine s_lookup_s0 rfl rfl rfl (by kernel_rfl) hget ?_ | refine Qd rfl rfl ?_ | refine Q4 rfl rfl rfl ?_ | refine Q7 rfl rfl ?_ | refine QH (fun _ _ => ?_) | refine QU rfl rfl (fun _ _ => ?_) | refine Qe ?_ | refine Qs rfl ?_ | refine QZ ?_ | refine WK rfl rfl rfl rfl ?_ | refine Qg ?_ | refine Qa ?_ | refine QB rfl ?_ | refine Qq ?_)
   exact e_1 (Tryd.results41) (QR (size := 4) rfl rfl (QS hw0) hw0) (Qy (σ := [_, _, _, _]) (r := [_, _, _]) ⟨rfl, _, by omega, rfl⟩)
  | false =>
   obtain ⟨hml, hmd⟩ := hmade hget hf
   rw [hM3 hget hf]
   rw [hf] at hfc
   have hw0 : (Qt ([0, 0, 0, 0] : List Int)).length = 4 := rfl
   generalize Zl A t s S = r at *
   have hwr : (Qt r.1).length = 4 := by rw [Qz, hml]; rfl
   clear hmade hS hM1 hM2 hM3
   refine Qc Tryd.func41 rfl Tryd.ntmps41 rfl (t := [(0, .ptr 0 g0 0), (1, .agg (Enc.enc t))]) rfl fun E hE => ?_
   (repeat' first | refine Qu rfl ?_ | refine QA rfl ?_ | refine Qm rfl rfl (by first | assumption | rfl) ?_ | refine Qb rfl rfl rfl ?_ | refine ZX rfl rfl hmd rfl (by assumption) (by assumption) (by assumption) (by repeat' first | exact QW | refine QF ?_ ?_ | exact Qx | exact Qw (Enc.clo _) | exact Qw (Qn _)) (Qw (Qn _)) (fun _ _ => ?_) | refine Zk rfl rfl (hfc) rfl (fun _ _ => ?_) | refine Wa rfl rfl (hkey) ?_ | refine Wm rfl rfl ?_ | refine Qi rfl rfl rfl (by first | assumption | rfl) (by first | assumption | rfl) rfl ?_ | refine s_lookup_s0 rfl rfl rfl (by kernel_rfl) hget ?_ | refine s_mapupd_s rfl rfl rfl rfl (by rfl) ?_ | refine Qd rfl rfl ?_ | refine Q4 rfl rfl rfl ?_ | refine Q7 rfl rfl ?_ | refine QH (fun _ _ => ?_) | refine QU rfl rfl (fun _ _ => ?_) | refine Qe ?_ | refine Qs rfl ?_ | refine QZ ?_ | refine WK rfl rfl rfl rfl ?_ | refine Qg ?_ | refine Qa ?_ | (refine Q0 ?_; first | refine Q3 (by rfl) (by kernel_rfl) (by kernel_rfl) ?_ | refine QP (by kernel_rfl) (by kernel_rfl) ?_) | refine Qk ?_ | refine Qo rfl ?_ | refine Qq ?_ | refine qb rfl (by (repeat' first | refine Qu rfl ?_ | refine Qm rfl rfl (by first | assumption | rfl) ?_ | refine Qb rfl rfl rfl ?_ | refine Qd rfl rfl ?_ | refine Q7 rfl rfl ?_ | exact ⟨rfl, rfl⟩)) ?_ | refine ZS ?_)
   exact e_1 (Tryd.results41) (QR (size := 4) rfl rfl (QS hwr) hwr) (Qy (σ := [_, _, _, _]) (r := [_, _, _, _]) ⟨rfl, _, by omega, rfl⟩)
theorem made_num (A : List (Int × Int)) (n m : Int) (s : St) (S : ZW) : BS Tryd.prog G 71 [.agg (Enc.enc (Nd.mk 4 n m []))] A s.vars s.cl S (.agg (Qt (qy n))) s S := fun g0 g1 g2 g3 c2 c3 c4 h2 h3 h4 B b0 b1 b2 b3 => by
 have hw : (Qt (qy n)).length = 4 := by rw [Qz, show (qy n).length = 4 from Z6 n 4]; rfl
 rw [Q9]
 refine Qc Tryd.func71 rfl Tryd.ntmps71 rfl (t := [(0, .ptr 0 g0 0), (1, .agg [.i 4, .i n, .i m, QG []])]) rfl fun E hE => ?_
 (repeat' first | refine QA rfl ?_ | refine Qb rfl rfl rfl ?_ | refine QJ rfl rfl ?_ | refine Wa rfl rfl (number_c _) ?_ | refine Qi rfl rfl rfl (by first | assumption | rfl) (by first | assumption | rfl) rfl ?_ | refine Qd rfl rfl ?_ | refine QH (fun _ _ => ?_) | refine QU rfl rfl (fun _ _ => ?_) | refine Qe ?_ | refine Qs rfl ?_ | refine QZ ?_ | refine Qg ?_ | refine Qa ?_ | refine Qf ?_ | refine QB rfl ?_ | refine Qq ?_)
 exact e_1 (Tryd.results71) (QR (size := 4) rfl rfl (QS hw) hw) (Qy (σ := [_, _, _, _]) (r := [_, _, _]) ⟨rfl, g1, by omega, rfl⟩)
theorem made_tru (A : List (Int × Int)) (n m : Int) (hn : n = 0 \/ n = 1) (s : St) (S : ZW) : BS Tryd.prog G 71 [.agg (Enc.enc (Nd.mk 5 n m []))] A s.vars s.cl S (.agg (Qt [1 * (2 * n - 1), 0, 0, 0])) s S := fun g0 g1 g2 g3 c2 c3 c4 h2 h3 h4 B b0 b1 b2 b3 => by
 rw [Q9]
 refine Qc Tryd.func71 rfl Tryd.ntmps71 rfl (t := [(0, .ptr 0 g0 0), (1, .agg [.i 5, .i n, .i m, QG []])]) rfl fun E hE => ?_
 (repeat' first | refine QA rfl ?_ | refine Qb rfl rfl rfl ?_ | refine QJ rfl rfl ?_ | refine qd rfl rfl (by omega) ?_ | refine s_mul rfl rfl (by omega) ?_ | refine Qi rfl rfl rfl (by first | assumption | rfl) (by first | assumption | rfl) rfl ?_ | refine Qd rfl rfl ?_ | refine s_build_a rfl rfl ?_ | refine QH (fun _ _ => ?_) | refine QU rfl rfl (fun _ _ => ?_) | refine Qe ?_ | refine Qs rfl ?_ | refine QZ ?_ | refine Qg ?_ | refine Qa ?_ | refine Qf ?_ | refine QB rfl ?_ | refine Qo rfl ?_ | refine Qq ?_)
 exact e_1 (Tryd.results71) (QR (size := 4) rfl rfl rfl rfl) (Qy (σ := [_, _, _, _]) (r := [_, _, _]) ⟨rfl, g1, by omega, rfl⟩)
theorem made_var (A : List (Int × Int)) (n m : Int) (ha : 0 <= (W8 A n).getD 0 /\ (W8 A n).getD 0 <= 1099511627776) (s : St) (S : ZW) : BS Tryd.prog G 71 [.agg (Enc.enc (Nd.mk 6 n m []))] A s.vars s.cl S (.agg (Qt (varM ((W8 A n).getD 0) m))) s S := fun g0 g1 g2 g3 c2 c3 c4 h2 h3 h4 B b0 b1 b2 b3 => by
 rw [Q9]
 refine Qc Tryd.func71 rfl Tryd.ntmps71 rfl (t := [(0, .ptr 0 g0 0), (1, .agg [.i 6, .i n, .i m, QG []])]) rfl fun E hE => ?_
 (repeat' first | refine Qu rfl ?_ | refine QA rfl ?_ | refine Qb rfl rfl rfl ?_ | refine QJ rfl rfl ?_ | refine Qd rfl rfl ?_ | refine QH (fun _ _ => ?_) | refine QU rfl rfl (fun _ _ => ?_) | refine Qe ?_ | refine Qs rfl ?_ | refine Qg ?_ | refine Qa ?_ | refine Qf ?_ | refine QB rfl ?_ | refine Qo rfl ?_)
 rename_i gt2 hgt2 gt3 hgt3 gt4 hgt4 gt5 hgt5
 refine Wv (fun (i : Nat) => ⟨[(2, .ptr 4 gt2 0), (3, .ptr 5 gt3 0), (4, .ptr 6 gt4 0), (5, .ptr 7 gt5 0), (29, .i i)], [.row g0 [.sc (.int .i64 s.vars), .ref 1 g1 0 s.cl.length 1, c2, c3, c4, .mp 2 g2, .mp 3 g3], .row g1 (Qt s.cl), .mapb g2 (Wp (Zv A)), .mapb g3 (Zw S), .row gt2 [.ptr 0 g0 0], .row gt3 [.i 6, .i n, .i m, QG ([] : List Nd)], .row gt4 [.i 0, .i 0, .i 0, .i 0], .row gt5 (Qt (varTo ((W8 A n).getD 0) i))]⟩) (fun i => i <= 4 /\ (i = 0 \/ m ≠ 1)) (fun i => 4 - i) 0 ?_ ⟨by omega, .inl rfl⟩ ?_
 ·exact zal rfl
 intro i ⟨hi, him⟩
 have hl := qs ((W8 A n).getD 0) i
 have hs1 : varTo ((W8 A n).getD 0) (i + 1) = (varTo ((W8 A n).getD 0) i).set i ((W8 A n).getD 0 + i) := rfl
 (repeat' first | refine QL rfl rfl ?_ | refine Qe ?_ | refine Qs rfl ?_ | refine Qg ?_ | refine Qa ?_)
 refine QE rfl (fun h => ?_) (fun h => ?_)
 ·have hil : i < (varTo ((W8 A n).getD 0) i).length := by omega
  (repeat' first | refine Qu rfl ?_ | refine QA rfl ?_ | refine Qb rfl rfl rfl ?_ | refine QJ rfl rfl ?_ | refine Wk rfl rfl rfl rfl rfl (by first | assumption | omega) rfl ?_ | refine Qd rfl rfl ?_ | refine Qe ?_ | refine Qs rfl ?_ | refine QZ ?_ | refine Qg ?_ | refine Qa ?_ | refine Qf ?_ | (refine Q0 ?_; first | refine Q3 (by rfl) (by kernel_rfl) (by kernel_rfl) ?_ | refine QP (by kernel_rfl) (by kernel_rfl) ?_) | refine Qk ?_ | refine qb rfl (by (repeat' first | refine Qu rfl ?_ | refine Qb rfl rfl rfl ?_ | refine WE rfl rfl rfl (by omega) ?_ | refine Q5 rfl rfl (by omega) ?_ | refine s_lookup_i rfl rfl rfl (by kernel_rfl) ?_ | refine Qd rfl rfl ?_ | refine Q7 rfl rfl ?_ | exact ⟨rfl, rfl⟩)) ?_ | refine ZS ?_)
  refine QE rfl (fun hm => ?_) (fun hm => ?_)
  ·have hi0 : i = 0 := by
    rcases him with h | h
    ·exact h
    ·exact absurd hm h
   subst hi0
   rw [show varM ((W8 A n).getD 0) m = varTo ((W8 A n).getD 0) 1 from if_pos hm]
   have hw : (Qt (varTo ((W8 A n).getD 0) 1)).length = 4 := by rw [Qz, qs]; rfl
   rw [<- hs1]
   (repeat' first | refine Qm rfl rfl (by first | assumption | rfl) ?_ | refine Qi rfl rfl rfl (by first | assumption | rfl) (by first | assumption | rfl) rfl ?_ | refine Qe ?_ | refine Qs rfl ?_ | refine QZ ?_ | refine Qg ?_ | refine Qa ?_ | refine Q2 rfl ?_ | refine Qq ?_)
   exact e_1 (Tryd.results71) (QR (size := 4) rfl rfl (QS hw) hw) (Qy (σ := [_, _, _, _]) (r := [_, _, _, _]) ⟨rfl, g1, by omega, rfl⟩)
  ·(repeat' first | refine Qu rfl ?_ | refine Q5 rfl rfl (by omega) ?_ | refine Qe ?_ | refine Qs rfl ?_ | refine Qa ?_ | refine Qk ?_)
   refine ⟨i + 1, ⟨by omega, .inr hm⟩, by omega, ?_⟩
   rw [hs1]
   exact zal rfl
 ·have hi4 : i = 4 := by omega
  subst hi4
  have hm1 : m ≠ 1 := by
    rcases him with h | h
    ·omega
    ·exact h
  rw [show varM ((W8 A n).getD 0) m = varTo ((W8 A n).getD 0) 4 from if_neg hm1]
  have hw : (Qt (varTo ((W8 A n).getD 0) 4)).length = 4 := by rw [Qz, qs]; rfl
  (repeat' first | refine Qm rfl rfl (by first | assumption | rfl) ?_ | refine Qi rfl rfl rfl (by first | assumption | rfl) (by first | assumption | rfl) rfl ?_ | refine Qe ?_ | refine Qs rfl ?_ | refine QZ ?_ | refine Qg ?_ | refine Qa ?_ | refine Q2 rfl ?_ | refine Qq ?_)
  exact e_1 (Tryd.results71) (QR (size := 4) rfl rfl (QS hw) hw) (Qy (σ := [_, _, _, _]) (r := [_, _, _, _]) ⟨rfl, g1, by omega, rfl⟩)
end Go.Proofs
end
