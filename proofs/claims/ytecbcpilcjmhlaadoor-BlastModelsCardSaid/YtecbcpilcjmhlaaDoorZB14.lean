/-
  Part 14 of the proof: S7 S8 F1 P9 P10.
-/
import Derived.Test.YtecbcpilcjmhlaaDoorZB1
import Derived.Test.YtecbcpilcjmhlaaDoorZB5
import Derived.Test.YtecbcpilcjmhlaaDoorZB9
import Derived.Test.YtecbcpilcjmhlaaDoorZB13
set_option linter.unusedSimpArgs false
set_option linter.unusedVariables false
set_option maxRecDepth 10000
set_option maxHeartbeats 4000000
section
namespace Go.Proofs
open Go.Av
variable {G : Nat -> DV}
attribute [local irreducible] OpSem WE WY W0 ACalls ZE QV RV
open Go.Bl
theorem tnumber_c (b : Bool) : Go.Av.Pure Tryd.prog G 59 [.b b] (.i (if b = true then 1 else 0)) := fun B => by
 refine Qb Tryd.func59 rfl Tryd.ntmps59 rfl (t := [(0, .b b)]) rfl fun E hE => ?_
 cases b
 ·(repeat' first | refine Qt rfl ?_ | refine Qv rfl ?_ | refine Qe ?_ | refine Qp rfl ?_ | refine Qf ?_ | refine Qa ?_ | refine Qj ?_ | refine Qi rfl ?_ | refine Qm ?_ | fail)
  refine e_1 Tryd.results59 (Qh rfl) (Qr ?_)
  rfl
 ·(repeat' first | refine Qt rfl ?_ | refine Qv rfl ?_ | refine Qe ?_ | refine Qp rfl ?_ | refine Qf ?_ | refine Qa ?_ | refine Qs rfl ?_ | refine Qm ?_ | fail)
  refine e_1 Tryd.results59 (Qh rfl) (Qr ?_)
  rfl
theorem tEval_c (hG : G 0 = opsD) {vals : List Int} (hv : Vok vals) {t : Nd} {k : Int} (h : Tt t k) : Go.Av.Pure Tryd.prog G 27 [.agg (Enc.enc t), Qy vals] (.i (evN vals t)) := by
 have hvl := hv.1
 induction h with
 | @num n hn =>
  intro B
  rw [We, show evN vals (.mk 4 n 0 []) = n from rfl]
  refine Qb Tryd.func27 rfl Tryd.ntmps27 rfl (t := [(0, .agg [.i 4, .i n, .i 0, Qy []]), (1, Qy vals)]) rfl fun E hE => ?_
  (repeat' first | refine Qv rfl ?_ | refine Qc rfl rfl rfl ?_ | refine QH rfl rfl ?_ | refine Qd rfl rfl ?_ | refine Q5 rfl rfl (fun _ _ => ?_) | refine Qe ?_ | refine Qp rfl ?_ | refine Qf ?_ | refine Qa ?_ | refine Qg ?_ | refine Qj ?_ | refine Qi rfl ?_ | refine Qm ?_ | fail)
  exact e_1 (Tryd.results27) (Qh rfl) (QC (σ := []) (r := [_]) ⟨rfl, rfl⟩)
 | @tru n hn =>
  intro B
  rw [We, show evN vals (.mk 5 n 0 []) = n from rfl]
  refine Qb Tryd.func27 rfl Tryd.ntmps27 rfl (t := [(0, .agg [.i 5, .i n, .i 0, Qy []]), (1, Qy vals)]) rfl fun E hE => ?_
  (repeat' first | refine Qv rfl ?_ | refine Qc rfl rfl rfl ?_ | refine QH rfl rfl ?_ | refine Qd rfl rfl ?_ | refine Q5 rfl rfl (fun _ _ => ?_) | refine Qe ?_ | refine Qp rfl ?_ | refine Qf ?_ | refine Qa ?_ | refine Qg ?_ | refine Qj ?_ | refine Qi rfl ?_ | refine Qm ?_ | fail)
  exact e_1 (Tryd.results27) (Qh rfl) (QC (σ := []) (r := [_]) ⟨rfl, rfl⟩)
 | @var n m h1 h2 =>
  intro B
  have hb := val_bd hv n
  have hva : WM vals n = if n < vals.length then vals.getD n.toNat 0 else 0 := rfl
  rw [We, show evN vals (.mk 6 n m []) = if m = 1 then (if decide (WM vals n ≠ 0) = true then 1 else 0) else WM vals n from rfl]
  by_cases hlt : n < vals.length
  all_goals by_cases hm : m = 1
  ·rw [if_pos hm]
   have hix : n.toNat < vals.length := by clear hva hb; omega
   have hva : WM vals n = vals[n.toNat] := by rw [hva, if_pos hlt, List.getD_eq_getElem?_getD, List.getElem?_eq_getElem hix]; rfl
   rw [hva]
   rw [hva] at hb
   have hnum := tnumber_c (G := G) (decide (vals[n.toNat] ≠ 0))
   refine Qb Tryd.func27 rfl Tryd.ntmps27 rfl (t := [(0, .agg [.i 6, .i n, .i m, Qy []]), (1, Qy vals)]) rfl fun E hE => ?_
   (repeat' first | refine Qt rfl ?_ | refine Qv rfl ?_ | refine QF rfl ?_ | refine Qc rfl rfl rfl ?_ | refine s_idx_sl rfl rfl (by omega) (by first | assumption | omega | (simp; done) | (simp; omega)) ?_ | refine QG rfl rfl ?_ | refine QH rfl rfl ?_ | refine W6 rfl rfl ?_ | refine Qn rfl ?_ | refine QZ rfl rfl (hnum) ?_ | refine Qd rfl rfl ?_ | refine Q5 rfl rfl (fun _ _ => ?_) | refine Qe ?_ | refine Qp rfl ?_ | refine Qf ?_ | refine Qa ?_ | refine Qg ?_ | refine Qs rfl ?_ | refine Qx rfl (by omega) ?_ | refine Qm ?_ | fail)
   exact e_1 (Tryd.results27) (Qh rfl) (QC (σ := []) (r := [_]) ⟨rfl, rfl⟩)
  ·rw [if_neg hm]
   have hix : n.toNat < vals.length := by clear hva hb; omega
   have hva : WM vals n = vals[n.toNat] := by rw [hva, if_pos hlt, List.getD_eq_getElem?_getD, List.getElem?_eq_getElem hix]; rfl
   rw [hva]
   rw [hva] at hb
   have hwr := (show Go.Av.Pure Tryd.prog G 57 [.i (vals[n.toNat])] (.i (vals[n.toNat])) by have := W2 (G := G) (vals[n.toNat]); rwa [wrapI_self hb] at this)
   refine Qb Tryd.func27 rfl Tryd.ntmps27 rfl (t := [(0, .agg [.i 6, .i n, .i m, Qy []]), (1, Qy vals)]) rfl fun E hE => ?_
   (repeat' first | refine Qt rfl ?_ | refine Qv rfl ?_ | refine QF rfl ?_ | refine Qc rfl rfl rfl ?_ | refine s_idx_sl rfl rfl (by omega) (by first | assumption | omega | (simp; done) | (simp; omega)) ?_ | refine QG rfl rfl ?_ | refine QH rfl rfl ?_ | refine Qn rfl ?_ | refine QZ rfl rfl (hwr) ?_ | refine Qd rfl rfl ?_ | refine Q5 rfl rfl (fun _ _ => ?_) | refine Qe ?_ | refine Qp rfl ?_ | refine Qf ?_ | refine Qa ?_ | refine Qg ?_ | refine Qj ?_ | refine Qs rfl ?_ | refine Qx rfl (by omega) ?_ | refine QD rfl (by omega) ?_ | refine Qm ?_ | fail)
   exact e_1 (Tryd.results27) (Qh rfl) (QC (σ := []) (r := [_]) ⟨rfl, rfl⟩)
  ·rw [if_pos hm]
   rw [if_neg hlt] at hva
   rw [hva]
   rw [hva] at hb
   have hnum := tnumber_c (G := G) (decide (0 ≠ 0))
   refine Qb Tryd.func27 rfl Tryd.ntmps27 rfl (t := [(0, .agg [.i 6, .i n, .i m, Qy []]), (1, Qy vals)]) rfl fun E hE => ?_
   (repeat' first | refine Qt rfl ?_ | refine Qv rfl ?_ | refine Qc rfl rfl rfl ?_ | refine QG rfl rfl ?_ | refine QH rfl rfl ?_ | refine W6 rfl rfl ?_ | refine Qn rfl ?_ | refine QZ rfl rfl (hnum) ?_ | refine Qd rfl rfl ?_ | refine Q5 rfl rfl (fun _ _ => ?_) | refine Qe ?_ | refine Qp rfl ?_ | refine Qf ?_ | refine Qa ?_ | refine Qg ?_ | refine Qj ?_ | refine Qs rfl ?_ | refine Qx rfl (by omega) ?_ | refine QD rfl (by omega) ?_ | refine Qm ?_ | fail)
   exact e_1 (Tryd.results27) (Qh rfl) (QC (σ := []) (r := [_]) ⟨rfl, rfl⟩)
  ·rw [if_neg hm]
   rw [if_neg hlt] at hva
   rw [hva]
   rw [hva] at hb
   have hwr := (show Go.Av.Pure Tryd.prog G 57 [.i (0)] (.i (0)) by have := W2 (G := G) (0); rwa [wrapI_self hb] at this)
   refine Qb Tryd.func27 rfl Tryd.ntmps27 rfl (t := [(0, .agg [.i 6, .i n, .i m, Qy []]), (1, Qy vals)]) rfl fun E hE => ?_
   (repeat' first | refine Qt rfl ?_ | refine Qv rfl ?_ | refine Qc rfl rfl rfl ?_ | refine QG rfl rfl ?_ | refine QH rfl rfl ?_ | refine Qn rfl ?_ | refine QZ rfl rfl (hwr) ?_ | refine Qd rfl rfl ?_ | refine Q5 rfl rfl (fun _ _ => ?_) | refine Qe ?_ | refine Qp rfl ?_ | refine Qf ?_ | refine Qa ?_ | refine Qg ?_ | refine Qj ?_ | refine Qs rfl ?_ | refine QD rfl (by omega) ?_ | refine Qm ?_ | fail)
   exact e_1 (Tryd.results27) (Qh rfl) (QC (σ := []) (r := [_]) ⟨rfl, rfl⟩)
 | @bin n a b hn ha hb iha ihb =>
  intro B
  have hra := ev_ok hv ha
  have hrb := ev_ok hv hb
  have hwa : (Enc.enc a : List DV).length = 4 := Enc.len a
  have hwb : (Enc.enc b : List DV).length = 4 := Enc.len b
  have hop := wOp_c (G := G) hG n (evN vals a) (evN vals b) (by omega)
  rw [We, show evN vals (.mk 9 n 0 [a, b]) = (opM n (evN vals a) (evN vals b)).1 from rfl]
  generalize opM n (evN vals a) (evN vals b) = o at *
  generalize evN vals a = va at *
  generalize evN vals b = vb at *
  refine Qb Tryd.func27 rfl Tryd.ntmps27 rfl (t := [(0, .agg [.i 9, .i n, .i 0, Qy [a, b]]), (1, Qy vals)]) rfl fun E hE => ?_
  (repeat' first | refine Qt rfl ?_ | refine Qv rfl ?_ | refine Qc rfl rfl rfl ?_ | refine QH rfl rfl ?_ | refine Qd rfl rfl ?_ | refine Q5 rfl rfl (fun _ _ => ?_) | refine Qe ?_ | refine Qp rfl ?_ | refine Qf ?_ | refine Qa ?_ | refine Qg ?_ | (refine Wa ?_; first | refine Wj (by rfl) (by kernel_rfl) (by kernel_rfl) ?_ | refine QT (by kernel_rfl) (by kernel_rfl) ?_) | refine Qs rfl ?_ | refine Qi rfl ?_ | refine Qm ?_ | refine x_op rfl (by (repeat' first | refine Qt rfl ?_ | refine Qv rfl ?_ | refine QM rfl ?_ | refine Qc rfl rfl rfl ?_ | refine Qo rfl rfl (by first | assumption | omega | (simp; done) | (simp; omega)) ?_ | refine QZ rfl rfl (iha) ?_ | refine QZ rfl rfl (ihb) ?_ | refine QZ rfl rfl (hop) ?_ | refine Qd rfl rfl ?_ | refine Wh rfl rfl rfl ?_ | exact ⟨rfl, rfl⟩)) ?_ | refine x_nil ?_ | fail)
  exact e_1 (Tryd.results27) (Qh rfl) (QC (σ := []) (r := [_]) ⟨rfl, rfl⟩)
 | @log n a b hn ha hb iha ihb =>
  intro B
  have hra := ev_ok hv ha
  have hrb := ev_ok hv hb
  have hwa : (Enc.enc a : List DV).length = 4 := Enc.len a
  have hwb : (Enc.enc b : List DV).length = 4 := Enc.len b
  have hop := wOp_c (G := G) hG n (evN vals a) (evN vals b) (by omega)
  rw [We, show evN vals (.mk 9 n 0 [a, b]) = (opM n (evN vals a) (evN vals b)).1 from rfl]
  generalize opM n (evN vals a) (evN vals b) = o at *
  generalize evN vals a = va at *
  generalize evN vals b = vb at *
  refine Qb Tryd.func27 rfl Tryd.ntmps27 rfl (t := [(0, .agg [.i 9, .i n, .i 0, Qy [a, b]]), (1, Qy vals)]) rfl fun E hE => ?_
  (repeat' first | refine Qt rfl ?_ | refine Qv rfl ?_ | refine Qc rfl rfl rfl ?_ | refine QH rfl rfl ?_ | refine Qd rfl rfl ?_ | refine Q5 rfl rfl (fun _ _ => ?_) | refine Qe ?_ | refine Qp rfl ?_ | refine Qf ?_ | refine Qa ?_ | refine Qg ?_ | (refine Wa ?_; first | refine Wj (by rfl) (by kernel_rfl) (by kernel_rfl) ?_ | refine QT (by kernel_rfl) (by kernel_rfl) ?_) | refine Qs rfl ?_ | refine Qi rfl ?_ | refine Qm ?_ | refine x_op rfl (by (repeat' first | refine Qt rfl ?_ | refine Qv rfl ?_ | refine QM rfl ?_ | refine Qc rfl rfl rfl ?_ | refine Qo rfl rfl (by first | assumption | omega | (simp; done) | (simp; omega)) ?_ | refine QZ rfl rfl (iha) ?_ | refine QZ rfl rfl (ihb) ?_ | refine QZ rfl rfl (hop) ?_ | refine Qd rfl rfl ?_ | refine Wh rfl rfl rfl ?_ | exact ⟨rfl, rfl⟩)) ?_ | refine x_nil ?_ | fail)
  exact e_1 (Tryd.results27) (Qh rfl) (QC (σ := []) (r := [_]) ⟨rfl, rfl⟩)
 | @not a ha iha =>
  intro B
  have hra := (ev_ok hv ha).2.2 rfl
  have hwa : (Enc.enc a : List DV).length = 4 := Enc.len a
  rw [We, show evN vals (.mk 10 0 0 [a]) = 1 - evN vals a from rfl]
  generalize evN vals a = va at *
  rcases hra with rfl | rfl
  all_goals
   refine Qb Tryd.func27 rfl Tryd.ntmps27 rfl (t := [(0, .agg [.i 10, .i 0, .i 0, Qy [a]]), (1, Qy vals)]) rfl fun E hE => ?_
   (repeat' first | refine Qt rfl ?_ | refine Qv rfl ?_ | refine QM rfl ?_ | refine Qc rfl rfl rfl ?_ | refine Qo rfl rfl (by first | assumption | omega | (simp; done) | (simp; omega)) ?_ | refine QH rfl rfl ?_ | refine Zn rfl rfl (by omega) ?_ | refine QZ rfl rfl (iha) ?_ | refine Qd rfl rfl ?_ | refine Q5 rfl rfl (fun _ _ => ?_) | refine Qe ?_ | refine Qp rfl ?_ | refine Qf ?_ | refine Qa ?_ | refine Qg ?_ | refine Qs rfl ?_ | refine Qi rfl ?_ | refine Qm ?_ | fail)
   exact e_1 (Tryd.results27) (Qh rfl) (QC (σ := []) (r := [_]) ⟨rfl, rfl⟩)
 | @cond c a b k hc ha hb ihc iha ihb =>
  intro B
  have hra := (ev_ok hv hc).2.2 rfl
  have hwa : (Enc.enc a : List DV).length = 4 := Enc.len a
  have hwb : (Enc.enc b : List DV).length = 4 := Enc.len b
  have hwc : (Enc.enc c : List DV).length = 4 := Enc.len c
  rw [We, show evN vals (.mk 29 0 0 [c, a, b]) = if evN vals c = 1 then evN vals a else evN vals b from rfl]
  generalize evN vals a = va at *
  generalize evN vals b = vb at *
  generalize evN vals c = vc at *
  rcases hra with rfl | rfl
  ·rw [if_neg (by decide)]
   refine Qb Tryd.func27 rfl Tryd.ntmps27 rfl (t := [(0, .agg [.i 29, .i 0, .i 0, Qy [c, a, b]]), (1, Qy vals)]) rfl fun E hE => ?_
   (repeat' first | refine Qv rfl ?_ | refine Qc rfl rfl rfl ?_ | refine QH rfl rfl ?_ | refine Qd rfl rfl ?_ | refine Q5 rfl rfl (fun _ _ => ?_) | refine Qe ?_ | refine Qp rfl ?_ | refine Qf ?_ | refine Qa ?_ | refine Qg ?_ | (refine Wa ?_; first | refine Wj (by rfl) (by kernel_rfl) (by kernel_rfl) ?_ | refine QT (by kernel_rfl) (by kernel_rfl) ?_) | refine Qs rfl ?_ | refine Qi rfl ?_ | refine Qm ?_ | refine x_op rfl (by (repeat' first | refine Qt rfl ?_ | refine Qv rfl ?_ | refine QM rfl ?_ | refine Qc rfl rfl rfl ?_ | refine Qo rfl rfl (by first | assumption | omega | (simp; done) | (simp; omega)) ?_ | refine Zn rfl rfl (by omega) ?_ | refine QZ rfl rfl (ihb) ?_ | refine QZ rfl rfl (ihc) ?_ | refine Qd rfl rfl ?_ | exact ⟨rfl, rfl⟩)) ?_ | refine x_nil ?_ | fail)
   exact e_1 (Tryd.results27) (Qh rfl) (QC (σ := []) (r := [_]) ⟨rfl, rfl⟩)
  ·rw [if_pos rfl]
   refine Qb Tryd.func27 rfl Tryd.ntmps27 rfl (t := [(0, .agg [.i 29, .i 0, .i 0, Qy [c, a, b]]), (1, Qy vals)]) rfl fun E hE => ?_
   (repeat' first | refine Qv rfl ?_ | refine Qc rfl rfl rfl ?_ | refine QH rfl rfl ?_ | refine Qd rfl rfl ?_ | refine Q5 rfl rfl (fun _ _ => ?_) | refine Qe ?_ | refine Qp rfl ?_ | refine Qf ?_ | refine Qa ?_ | refine Qg ?_ | (refine Wa ?_; first | refine Wj (by rfl) (by kernel_rfl) (by kernel_rfl) ?_ | refine QT (by kernel_rfl) (by kernel_rfl) ?_) | refine Qs rfl ?_ | refine Qi rfl ?_ | refine Qm ?_ | refine x_op rfl (by (repeat' first | refine Qt rfl ?_ | refine Qv rfl ?_ | refine QM rfl ?_ | refine Qc rfl rfl rfl ?_ | refine Qo rfl rfl (by first | assumption | omega | (simp; done) | (simp; omega)) ?_ | refine Zn rfl rfl (by omega) ?_ | refine QZ rfl rfl (iha) ?_ | refine QZ rfl rfl (ihc) ?_ | refine Qd rfl rfl ?_ | exact ⟨rfl, rfl⟩)) ?_ | refine x_nil ?_ | fail)
   exact e_1 (Tryd.results27) (Qh rfl) (QC (σ := []) (r := [_]) ⟨rfl, rfl⟩)
theorem true_c {vals : List Int} (hv : Vok vals) {ts : List Nd} (hl : ts.length <= 1000) (ht : ∀ t ∈ ts, Tt t 1) : Go.Av.Pure Tryd.prog G 19 [Qy ts, Qy vals] (.b (ts.all fun t => decide (evN vals t = 1))) := fun B => by
 have hi : ∀ t ∈ ts, Go.Av.Pure Tryd.prog G 54 [.agg (Enc.enc t), Qy vals] (.i (evN vals t)) := fun t h => r20Eval_c hv (ht t h)
 refine Qb Tryd.func19 rfl Tryd.ntmps19 rfl (t := [(0, Qy ts), (1, Qy vals)]) rfl fun E hE => ?_
 (repeat' first | refine Qv rfl ?_ | refine Qe ?_ | refine Qp rfl ?_ | refine Qf ?_ | refine Qa ?_ | refine Qg ?_ | fail)
 refine Wi (fun (i : Nat) => ⟨[(0, Qy ts), (1, Qy vals), (5, .i i)], []⟩) (fun i => i <= ts.length /\ (ts.take i).all (fun t => decide (evN vals t = 1)) = true) (fun i => ts.length - i) 0 ?_ ⟨by omega, rfl⟩ ?_
 ·exact zal rfl
 intro i ⟨hi2, hacc⟩
 by_cases hj : i < ts.length
 ·have hit := hi _ (List.getElem_mem hj)
  clear hi ht
  by_cases h1 : evN vals ts[i] = 1
  ·have hacc' : (ts.take (i + 1)).all (fun t => decide (evN vals t = 1)) = true := by
    rw [List.take_succ_eq_append_getElem hj, List.all_append, hacc]
    simp [h1]
   rw [h1] at hit
   (repeat' first | refine Qt rfl ?_ | refine Qv rfl ?_ | refine QM rfl ?_ | refine Qo rfl rfl (by first | assumption | omega | (simp; done) | (simp; omega)) ?_ | refine QG rfl rfl ?_ | refine W6 rfl rfl ?_ | refine QS rfl rfl (by omega) ?_ | refine Qn rfl ?_ | refine QZ rfl rfl (hit) ?_ | refine Qe ?_ | refine Qp rfl ?_ | refine Qf ?_ | refine Qa ?_ | refine Qg ?_ | refine Qj ?_ | refine Qi rfl ?_ | refine Qx rfl (by omega) ?_ | fail)
   refine ⟨i + 1, ⟨by omega, hacc'⟩, by omega, ?_⟩
   exact zal rfl
  ·have hf : (ts.all fun t => decide (evN vals t = 1)) = false := by
    rw [List.all_eq_false]
    exact ⟨_, List.getElem_mem hj, by simp [h1]⟩
   rw [hf]
   generalize evN vals ts[i] = v at *
   (repeat' first | refine Qt rfl ?_ | refine Qv rfl ?_ | refine QM rfl ?_ | refine Qo rfl rfl (by first | assumption | omega | (simp; done) | (simp; omega)) ?_ | refine QG rfl rfl ?_ | refine W6 rfl rfl ?_ | refine Qn rfl ?_ | refine QZ rfl rfl (hit) ?_ | refine Qe ?_ | refine Qp rfl ?_ | refine Qf ?_ | refine Qa ?_ | refine Qg ?_ | refine Qj ?_ | refine Qx rfl (by omega) ?_ | refine Qm ?_ | fail)
   refine e_1 Tryd.results19 (Qh rfl) (Qr ?_)
   rfl
 ·rw [List.take_of_length_le (by omega)] at hacc
  rw [hacc]
  (repeat' first | refine Qt rfl ?_ | refine Qv rfl ?_ | refine QG rfl rfl ?_ | refine Qn rfl ?_ | refine Qe ?_ | refine Qp rfl ?_ | refine Qf ?_ | refine Qa ?_ | refine QD rfl (by omega) ?_ | refine QU rfl ?_ | refine Qm ?_ | fail)
  refine e_1 Tryd.results19 (Qh rfl) (Qr ?_)
  rfl
theorem boolz_eq : ∀ n : Nat, WP [.bool false] n = Qq (List.replicate n false)
 | 0 => rfl
 | n + 1 => by rw [WP, boolz_eq n, List.replicate_succ, WD]; rfl
theorem rep_false (n m : Nat) : (List.replicate n false).getD m false = false := by
 rw [List.getD_eq_getElem?_getD, List.getElem?_replicate]
 split <;> rfl
theorem formed_c {vars : Int} {cl : List (List Int)} {nm ty fi : List Int} {ts : List Nd} (hsz : QW ts <= 99999) (hnm : allTo (WZ ts) 64 = nm) (htm : nm.map (kindL ts) = ty) (hfl : fi.length = nm.length)
  (hv0 : 0 <= vars) (hv1 : vars <= 2000) (hc0 : cl.length <= 16384) (hc1 : cl.length <= 10 + 1100 * QW ts) (hv2 : vars <= 10 + 100 * QW ts)
  (hty1 : ∀ x ∈ ty, x = 0 \/ x = 1) (hr : ∀ i (h : i < fi.length) (h' : i < ty.length), 1 <= fi[i] /\ fi[i] + (4 - 3 * ty[i]) <= vars + 1) (hmono : ∀ i j (h : j < fi.length) (h' : i < ty.length) (hij : i < j), fi[i]'(by omega) + (4 - 3 * ty[i]) <= fi[j])
  (hcl : ∀ c ∈ cl, c.length <= 1048576 /\ ∀ x ∈ c, x ≠ 0 /\ -vars <= x /\ x <= vars) : Go.Av.Pure Tryd.prog G 14 [.agg [.i vars, Qy cl, Qy nm, Qy ty, Qy fi], Qy ts] (.b true) := fun B => by
 have hl := qr (WZ ts) 64
 have hall := all_c (G := G) ts hsz
 have hty := (types21_c (G := G) ts hsz).read
 rw [hnm] at hl hall hty
 rw [htm] at hty
 have htl : ty.length = nm.length := by rw [<- htm, List.length_map]
 have hs1 := sameIntsV_c (G := G) nm nm (by omega) (by omega)
 have hs2 := sameIntsV_c (G := G) ty ty (by omega) (by omega)
 rw [decide_eq_true rfl] at hs1 hs2
 refine Qb Tryd.func14 rfl Tryd.ntmps14 rfl (t := [(0, .agg [.i vars, Qy cl, Qy nm, Qy ty, Qy fi]), (1, Qy ts)]) rfl fun E hE => ?_
 (repeat' first | refine Qt rfl ?_ | refine Qv rfl ?_ | refine Qc rfl rfl rfl ?_ | refine QS rfl rfl (by omega) ?_ | refine QZ rfl rfl (hall) ?_ | refine Qd rfl rfl ?_ | refine s_make rfl rfl rfl (by omega) (by omega) (by omega) (by omega) (fun _ _ => ?_) | refine Q5 rfl rfl (fun _ _ => ?_) | refine Qe ?_ | refine Qp rfl ?_ | refine Qf ?_ | refine Qa ?_ | refine Qg ?_ | (refine Wa ?_; first | refine Wj (by rfl) (by kernel_rfl) (by kernel_rfl) ?_ | refine QT (by kernel_rfl) (by kernel_rfl) ?_) | refine Qj ?_ | refine QD rfl (by omega) ?_ | refine x_op rfl (by (repeat' first | refine Qt rfl ?_ | refine Qc rfl rfl rfl ?_ | refine QG rfl rfl ?_ | refine s_gtr rfl rfl ?_ | refine W6 rfl rfl ?_ | refine QS rfl rfl (by omega) ?_ | refine Z2 rfl rfl (by omega) ?_ | refine Qn rfl ?_ | refine QZ rfl rfl (hty) ?_ | refine QZ rfl rfl (nodesCnt_c ts (by omega)) ?_ | refine QZ rfl rfl (hs1) ?_ | refine QZ rfl rfl (hs2) ?_ | refine Wk rfl rfl ?_ | refine ZQ rfl ?_ | refine Qd rfl rfl ?_ | exact ⟨rfl, rfl⟩)) ?_ | refine x_gy rfl rfl rfl rfl (by (repeat' first | refine Qt rfl ?_ | refine Qc rfl rfl rfl ?_ | refine QG rfl rfl ?_ | refine s_gtr rfl rfl ?_ | refine W6 rfl rfl ?_ | refine QS rfl rfl (by omega) ?_ | refine Z2 rfl rfl (by omega) ?_ | refine Qn rfl ?_ | refine QZ rfl rfl (hty) ?_ | refine QZ rfl rfl (nodesCnt_c ts (by omega)) ?_ | refine QZ rfl rfl (hs1) ?_ | refine QZ rfl rfl (hs2) ?_ | refine Wk rfl rfl ?_ | refine ZQ rfl ?_ | refine Qd rfl rfl ?_ | exact ⟨rfl, rfl⟩)) ?_ | refine x_nil ?_ | refine x_sp_f rfl rfl (by omega) ?_ | fail)
 rename_i g1 hg1 g2 hg2
 rw [show WP [.bool false] (vars + 1).toNat = Qq (List.replicate (vars + 1).toNat false) from boolz_eq _]
 refine Wi (fun (p : Nat × List Bool) => ⟨[(2, .ptr 0 g1 0), (6, .ref 1 g2 0 (vars + 1).toNat 1), (7, .i p.1)], [.row g1 [.i vars, Qy cl, Qy nm, Qy ty, Qy fi], .row g2 (Qq p.2)]⟩) (fun p => p.1 <= fi.length /\ p.2.length = (vars + 1).toNat /\ ∀ j (h : j < fi.length), p.1 <= j -> ∀ m : Nat, fi[j] <= m -> p.2.getD m false = false) (fun p => fi.length - p.1) (0, List.replicate (vars + 1).toNat false) ?_ ⟨by omega, by simp, fun j h _ m _ => rep_false _ _⟩ ?_
 ·exact zal rfl
 rintro ⟨i, U⟩ ⟨hi, hUl, hU⟩
 dsimp only at hi hUl hU ⊢
 by_cases hif : i < fi.length
 ·have hit : i < ty.length := by omega
  have hr1 := hr i hif hit
  have ht1 := hty1 _ (List.getElem_mem hit)
  have hm1 := fun j (h : j < fi.length) (hij : i < j) => hmono i j h hit hij
  have hU1 := hU i hif (Nat.le_refl _)
  clear hU hr hmono hty1 hall hty hs1 hs2 hcl hnm htm
  obtain ⟨p0, hp0⟩ : ∃ p0 : Nat, fi[i] = (p0 : Int) := ⟨fi[i].toNat, by omega⟩
  (repeat' first | refine Qt rfl ?_ | refine Qv rfl ?_ | refine QF rfl ?_ | refine Qc rfl rfl rfl ?_ | refine Qo rfl rfl (by first | assumption | omega | (simp; done) | (simp; omega)) ?_ | refine QG rfl rfl ?_ | refine Zn rfl rfl (by omega) ?_ | refine Z2 rfl rfl (by omega) ?_ | refine Qn rfl ?_ | refine Qd rfl rfl ?_ | refine Qe ?_ | refine Qp rfl ?_ | refine Qf ?_ | refine Qa ?_ | refine Qg ?_ | refine Qj ?_ | refine Qx rfl (by omega) ?_ | fail)
  refine Wi (fun (p : Nat × List Bool) => ⟨[(2, .ptr 0 g1 0), (6, .ref 1 g2 0 (vars + 1).toNat 1), (7, .i i), (8, .i (4 - 3 * ty[i])), (9, .i p.1)], [.row g1 [.i vars, Qy cl, Qy nm, Qy ty, Qy fi], .row g2 (Qq p.2)]⟩) (fun p => p0 <= p.1 /\ (p.1 : Int) <= fi[i] + (4 - 3 * ty[i]) /\ p.2.length = (vars + 1).toNat /\ ∀ m : Nat, p.1 <= m -> p.2.getD m false = false) (fun p => (vars + 2).toNat - p.1) (p0, U) ?_ ⟨Nat.le_refl _, by omega, hUl, fun m hm => hU1 m (by omega)⟩ ?_
  ·dsimp only
   rw [<- hp0]
   exact zal rfl
  rintro ⟨K, V⟩ ⟨hK0, hK, hVl, hV⟩
  dsimp only at hK0 hK hVl hV ⊢
  by_cases hlt : (K : Int) < fi[i] + (4 - 3 * ty[i])
  ·have hKV : K < V.length := by omega
   have hVK : V[K] = false := by
    have := hV K (Nat.le_refl _)
    rwa [List.getD_eq_getElem?_getD, List.getElem?_eq_getElem hKV] at this
   have hV' : ∀ m : Nat, K + 1 <= m -> (V.set K true).getD m false = false := fun m hm => by
    rw [List.getD_eq_getElem?_getD, List.getElem?_set_ne (by omega), <- List.getD_eq_getElem?_getD]
    exact hV m (by omega)
   have hVl' : (V.set K true).length = (vars + 1).toNat := by rw [List.length_set]; exact hVl
   clear hU1 hV hm1
   (repeat' first | refine Qt rfl ?_ | refine QF rfl ?_ | refine Qc rfl rfl rfl ?_ | refine Q9 rfl rfl rfl (by first | assumption | omega) rfl ?_ | refine Qo rfl rfl (by first | assumption | omega | (simp; done) | (simp; omega)) ?_ | refine WK rfl rfl rfl (by omega) ?_ | refine QG rfl rfl ?_ | refine s_gtr rfl rfl ?_ | refine QS rfl rfl (by omega) ?_ | refine Wk rfl rfl ?_ | refine Qd rfl rfl ?_ | refine Qe ?_ | refine Qp rfl ?_ | refine WC rfl rfl rfl rfl ?_ | refine Wn rfl rfl (by omega) ?_ | refine Qf ?_ | refine Qa ?_ | refine Qg ?_ | refine Qj ?_ | refine Qx rfl (by omega) ?_ | refine QD rfl (by omega) ?_ | fail)
   rw [hVK]
   (repeat' first | refine Qt rfl ?_ | refine Qv rfl ?_ | refine WK rfl rfl rfl (by omega) ?_ | refine QS rfl rfl (by omega) ?_ | refine Q2 rfl rfl rfl rfl rfl (by first | assumption | omega) rfl ?_ | refine Qe ?_ | refine Qp rfl ?_ | refine Q0 ?_ | refine Qa ?_ | refine Qj ?_ | refine Qi rfl ?_ | fail)
   refine ⟨(K + 1, V.set K true), ⟨by show p0 <= K + 1; omega, by show ((K + 1 : Nat) : Int) <= _; omega, hVl', hV'⟩, by show (vars + 2).toNat - (K + 1) < (vars + 2).toNat - K; omega, ?_⟩
   exact zal rfl
  ·have hU' : ∀ j (h : j < fi.length), i + 1 <= j -> ∀ m : Nat, fi[j] <= m -> V.getD m false = false := fun j h hij m hm => by
    have := hm1 j h hij
    exact hV m (by omega)
   clear hV hU1 hm1
   (repeat' first | refine Qt rfl ?_ | refine Qv rfl ?_ | refine QF rfl ?_ | refine Qc rfl rfl rfl ?_ | refine Qo rfl rfl (by first | assumption | omega | (simp; done) | (simp; omega)) ?_ | refine QG rfl rfl ?_ | refine QS rfl rfl (by omega) ?_ | refine Qd rfl rfl ?_ | refine Qe ?_ | refine Qp rfl ?_ | refine Qf ?_ | refine Qa ?_ | refine QD rfl (by omega) ?_ | refine QU rfl ?_ | fail)
   refine ⟨(i + 1, V), ⟨by show i + 1 <= fi.length; omega, hVl, hU'⟩, by show fi.length - (i + 1) < fi.length - i; omega, ?_⟩
   exact zal rfl
 ·clear hU hr hmono hty1 hall hty hs1 hs2 hnm htm
  (repeat' first | refine Qt rfl ?_ | refine Qv rfl ?_ | refine Qc rfl rfl rfl ?_ | refine QG rfl rfl ?_ | refine Qn rfl ?_ | refine Qd rfl rfl ?_ | refine Qe ?_ | refine Qp rfl ?_ | refine Qf ?_ | refine Qa ?_ | refine Qg ?_ | refine QD rfl (by omega) ?_ | refine QU rfl ?_ | fail)
  refine Wi (fun (i : Nat) => ⟨[(2, .ptr 0 g1 0), (10, .i i)], [.row g1 [.i vars, Qy cl, Qy nm, Qy ty, Qy fi], .row g2 (Qq U)]⟩) (fun i => i <= cl.length) (fun i => cl.length - i) 0 ?_ (by omega) ?_
  ·exact zal rfl
  intro i hi
  by_cases hic : i < cl.length
  ·obtain ⟨hcl1, hcl2⟩ := hcl _ (List.getElem_mem hic)
   clear hcl
   (repeat' first | refine Qt rfl ?_ | refine Qv rfl ?_ | refine Qc rfl rfl rfl ?_ | refine QG rfl rfl ?_ | refine Qn rfl ?_ | refine Qd rfl rfl ?_ | refine Qe ?_ | refine Qp rfl ?_ | refine Qf ?_ | refine Qa ?_ | refine Qg ?_ | refine Qj ?_ | refine Qx rfl (by omega) ?_ | fail)
   refine Wi (fun (k : Nat) => ⟨[(2, .ptr 0 g1 0), (10, .i i), (11, .i k)], [.row g1 [.i vars, Qy cl, Qy nm, Qy ty, Qy fi], .row g2 (Qq U)]⟩) (fun k => k <= cl[i].length) (fun k => cl[i].length - k) 0 ?_ (by omega) ?_
   ·exact zal rfl
   intro k hk
   by_cases hkc : k < cl[i].length
   ·have hx := hcl2 _ (List.getElem_mem hkc)
    clear hcl2
    (repeat' first | refine Qt rfl ?_ | refine Qv rfl ?_ | refine QF rfl ?_ | refine Qc rfl rfl rfl ?_ | refine Qo rfl rfl (by first | assumption | omega | (simp; done) | (simp; omega)) ?_ | refine QG rfl rfl ?_ | refine s_gtr rfl rfl ?_ | refine QH rfl rfl ?_ | refine QS rfl rfl (by omega) ?_ | refine Qn rfl ?_ | refine Wk rfl rfl ?_ | refine Z1 rfl (by omega) ?_ | refine Qd rfl rfl ?_ | refine Qe ?_ | refine Qp rfl ?_ | refine WC rfl rfl rfl rfl ?_ | refine Wn rfl rfl (by omega) ?_ | refine Qf ?_ | refine Qa ?_ | refine Qg ?_ | refine Qj ?_ | refine Qx rfl (by omega) ?_ | refine QD rfl (by omega) ?_ | fail)
    refine ⟨k + 1, by omega, by omega, ?_⟩
    exact zal rfl
   ·clear hcl2
    (repeat' first | refine Qt rfl ?_ | refine Qv rfl ?_ | refine QF rfl ?_ | refine Qc rfl rfl rfl ?_ | refine Qo rfl rfl (by first | assumption | omega | (simp; done) | (simp; omega)) ?_ | refine QG rfl rfl ?_ | refine QS rfl rfl (by omega) ?_ | refine Qn rfl ?_ | refine Qd rfl rfl ?_ | refine Qe ?_ | refine Qp rfl ?_ | refine Qf ?_ | refine Qa ?_ | refine QD rfl (by omega) ?_ | refine QU rfl ?_ | fail)
    refine ⟨i + 1, by omega, by omega, ?_⟩
    exact zal rfl
  ·clear hcl
   (repeat' first | refine Qt rfl ?_ | refine Qv rfl ?_ | refine Qc rfl rfl rfl ?_ | refine QG rfl rfl ?_ | refine Qn rfl ?_ | refine Qd rfl rfl ?_ | refine Qe ?_ | refine Qp rfl ?_ | refine Qf ?_ | refine Qa ?_ | refine QD rfl (by omega) ?_ | refine QU rfl ?_ | refine Qm ?_ | fail)
   exact e_1 (Tryd.results14) (Qh rfl) (QC (σ := []) (r := [_, _]) ⟨rfl, rfl⟩)
def blastR (ts : List Nd) : DV :=
 if Zy (Wo ts).1 = true then .tup [.agg [.i 0, .nil, .nil, .nil, .nil], .i 4]
 else .tup [.agg [.i (Wo ts).1.vars, Qy (Wo ts).1.cl, Qy (Qw ts).nm, Qy (Qw ts).ty, Qy (Qw ts).fi], .i 0]
theorem fresh_x (v : Int) (hv : 0 <= v /\ v < 1099511627776) : FR Tryd.prog G 38 v (.i (v + 1)) (v + 1) := fun g0 g1 g2 g3 c2 c3 c4 cl m sn h2 h3 h4 hm hsn B b0 b1 b2 b3 => by
 refine Qb Tryd.func38 rfl Tryd.ntmps38 rfl (t := [(0, .ptr 0 g0 0)]) rfl fun E hE => ?_
 (repeat' first | refine Qt rfl ?_ | refine Qv rfl ?_ | refine Qc rfl rfl rfl ?_ | refine QS rfl rfl (by omega) ?_ | refine Wf rfl rfl rfl rfl (by rfl) (by rfl) (by rfl) ?_ | refine Qd rfl rfl ?_ | refine Q3 rfl rfl ?_ | refine Qe ?_ | refine Qp rfl ?_ | refine Q0 ?_ | refine Qf ?_ | refine Qa ?_ | refine Qm ?_)
 exact e_1 (Tryd.results38) (Qh rfl) (Za ⟨rfl, rfl⟩)
theorem blast_c (hG0 : G 0 = opsD) (hG1 : G 1 = pow10T) {F : Int -> Int} {ts : List Nd} (hts : Lot F ts) : Go.Av.Pure Tryd.prog G 12 [Qy ts] (blastR ts) := fun B => by
 have hlen := hts.len
 refine Qb Tryd.func12 rfl Tryd.ntmps12 rfl (t := [(0, Qy ts)]) rfl fun E hE => ?_
 (repeat' first | refine Qt rfl ?_ | refine Qv rfl ?_ | refine Qn rfl ?_ | refine s_mkmap_i (fun _ _ => ?_) | refine QJ (fun _ _ => ?_) | refine Qe ?_ | refine Qp rfl ?_ | refine Qf ?_ | refine Qa ?_ | refine Qg ?_)
 rename_i gR hgR gF hgF
 refine Wi (fun (i : Nat) => ⟨[(0, Qy ts), (2, .ptr 0 gR 0), (3, .i 0), (4, .mp 1 gF), (16, Qy ts), (17, .i ts.length), (18, .i i)], [.row gR [.i 0, .nil, .nil, .nil, .nil], .mapb gF (Wg (Zq (Q6 (ts.take i) []).2))]⟩) (fun i => i <= ts.length) (fun i => ts.length - i) 0 ?_ (by omega) ?_
 ·exact zal rfl
 intro i hi
 have hf0 := found_ok (F := F) (ts := ts.take i) (M := []) (fun t ht => hts.ty t (List.mem_of_mem_take ht)) (fun t ht => hts.con t (List.mem_of_mem_take ht)) (fun n m h => by cases h)
 (repeat' first | refine QG rfl rfl ?_ | refine Qe ?_ | refine Qp rfl ?_ | refine Qf ?_ | refine Qa ?_)
 refine QE rfl (fun h => ?_) (fun h => ?_)
 ·have hi2 : i < ts.length := by omega
  have hti := hts.ty _ (List.getElem_mem hi2)
  have hci := hts.con _ (List.getElem_mem hi2)
  have hva := valid_tt (G := G) hG0 hti hci
  have htm := types_c (G := G) ts[i] hti.fit (Q6 (ts.take i) []).2
  have ht1 := (types_ok hti hci _ hf0.2.1).1
  have hsu := typesL_take hi2 hf0.1
  rw [ht1] at htm
  rw [<- hsu] at htm
  clear hsu ht1 hf0
  (repeat' first | refine Qt rfl ?_ | refine Qv rfl ?_ | refine Qu rfl rfl (by first | assumption | exact Enc.len _ | rfl) ?_ | refine QM rfl ?_ | refine Qo rfl rfl (by first | assumption | omega | (simp; done) | (simp; omega)) ?_ | refine W6 rfl rfl ?_ | refine QS rfl rfl (by omega) ?_ | refine QZ rfl rfl (hva) ?_ | refine s_ctm 1 (htm) rfl rfl rfl ?_ | refine Wk rfl rfl ?_ | refine Ql rfl rfl rfl (by first | assumption | exact Enc.len _ | rfl) (by first | assumption | exact Enc.len _ | rfl) rfl ?_ | refine ZQ rfl ?_ | refine Wh rfl rfl rfl ?_ | refine QJ (fun _ _ => ?_) | refine Qe ?_ | refine Qp rfl ?_ | refine Q0 ?_ | refine WC rfl rfl rfl rfl ?_ | refine Qf ?_ | refine Qa ?_ | refine Qg ?_ | refine Qj ?_ | refine Qi rfl ?_)
  refine ⟨i + 1, by omega, by omega, ?_⟩
  exact zal rfl
 have hi3 : i = ts.length := by omega
 subst hi3
 rw [List.take_length] at hf0 ⊢
 clear h hi
 have hsF := hf0.2.1
 have hV := varsT_ok hsF
 have hfo : (Q6 ts []).2 = WT ts := rfl
 rw [hfo] at hV hsF ⊢
 clear hf0 hfo
 have hfr := fresh_x (G := G) 0 (by omega)
 (repeat' first | refine Qt rfl ?_ | refine Qv rfl ?_ | refine s_call_fr5 (cl := []) rfl rfl hfr rfl (by simp [DV.clo]) (by simp [DV.clo]) (by simp [DV.clo]) ZA ZA QA ?_ | refine s_app_z (xs := ([[1]] : List (List Int))) rfl rfl rfl rfl rfl (by simp) (by simp) (fun _ => rfl) (fun _ _ => ?_) | refine Wf rfl rfl rfl rfl (by rfl) (by rfl) (by rfl) ?_ | refine s_mkmap_i (fun _ _ => ?_) | refine Qd rfl rfl ?_ | refine Zi rfl rfl ?_ | refine Q3 rfl rfl ?_ | refine Q5 rfl rfl (fun _ _ => ?_) | refine Qe ?_ | refine Qp rfl ?_ | refine Qf ?_ | refine Qa ?_ | refine Qg ?_ | (refine Wa ?_; first | (refine r_drawz (fun p => p.1 :: p.2.1 :: p.2.2.1 :: p.2.2.2.1 :: .row gR [p.2.2.2.2.1] :: p.2.2.2.2.2) [100] [] [(0, true)] (by rfl) (by rfl) (by rfl) (by kernel_rfl) (by decide +kernel) (by decide) (by decide +kernel) ⟨(_, _, _, _, _, _), rfl⟩ ?_) | (refine r_drawz (fun p => p.1 :: p.2.1 :: .mapb gA (Wg (Zq (putI q.A (i : Int) (q.v + 1)))) :: p.2.2.1 :: .row g0 [.sc (.int .i64 q.v), .ref 5 gc 0 1 1, .ref 6 gn 0 q.nm.length 1, .ref 7 gt 0 q.ty.length 1, .ref 8 gf 0 q.fi.length 1, .mp 2 gA, .mp 3 gS] :: p.2.2.2) [32, 33, 34, 35, 36, 37, 38, 39, 40, 41, 42, 43, 1, 2] [1, 2] [(0, true), (3, true), (4, true), (5, true), (6, true), (7, true), (8, true), (9, true), (11, true), (12, true), (13, true), (14, true), (15, true), (16, true), (17, true), (19, true), (20, true), (21, true), (22, true), (23, true), (24, true), (25, true), (26, true), (27, true), (28, true), (29, true), (30, true), (10, false), (18, false), (31, false), (32, false), (33, false), (34, false), (35, false), (36, false), (37, false), (38, false), (39, false), (40, false), (41, false), (42, false), (43, false)] (by rfl) (by rfl) (by rfl) (by kernel_rfl) (by decide +kernel) (by decide) (by decide +kernel) ⟨(_, _, _, _), rfl⟩ ?_) | (rename_i gA hgA gS hgS g0 hg0; refine r_ownin 4 1 1 rfl rfl (fun _ => rfl) (fun g1 hg1 => ?_); refine r_drawz (fun p => p.1 :: p.2.1 :: p.2.2.1 :: p.2.2.2.1 :: .row g0 [p.2.2.2.2.1, .ref 5 g1 0 0 1, .nil, .nil, .nil, .mp 2 gA, .mp 3 gS] :: p.2.2.2.2.2) [11, 12, 13, 14] [] [(0, true), (1, true), (2, true), (3, true), (4, true), (5, true), (6, true), (7, false), (8, true), (9, true), (10, false), (11, false), (12, false), (13, false), (14, false)] (by rfl) (by rfl) (by rfl) (by kernel_rfl) (by decide +kernel) (by decide) (by decide +kernel) ⟨(_, _, _, _, _, _), rfl⟩ ?_) | refine Wj (by rfl) (by kernel_rfl) (by kernel_rfl) ?_ | refine QT (by kernel_rfl) (by kernel_rfl) ?_) | refine QU rfl ?_ | refine zp_nil ?_ | refine z_nil ?_ | refine z_st rfl rfl (fun _ => (by (repeat' first | refine Qt rfl ?_ | refine Qc rfl rfl rfl ?_ | refine Wl rfl rfl (by decide) rfl ?_ | refine Qd rfl rfl ?_ | refine Q3 rfl rfl ?_ | exact ⟨rfl, rfl⟩))) ?_ | refine z_lf rfl rfl rfl ?_ | refine z_lf0 rfl rfl ?_ | refine z_ef rfl rfl ?_ | refine And.intro (Exists.intro ((_, _, _, _, _, _)) rfl) ?_)
 rename_i gc hgc
 refine r_ownin 4 2 1 rfl rfl (fun _ => rfl) (fun gn hgn => ?_)
 refine r_ownin 4 3 1 rfl rfl (fun _ => rfl) (fun gt hgt => ?_)
 refine r_ownin 4 4 1 rfl rfl (fun _ => rfl) (fun gf hgf => ?_)
 refine r_loop4 (fun (i : Nat) gn gt gf => ⟨[(0, Qy ts), (2, .ptr 0 gR 0), (3, .i 0), (4, .mp 1 gF), (9, .ptr 4 g0 0), (59, .i i)], [.row gR [.i 0, .nil, .nil, .nil, .nil], .mapb gF (Wg (Zq (WT ts))), .mapb gA (Wg (Zq (WL (WT ts) i).A)), .mapb gS (Zo []), .row g0 [.sc (.int .i64 (WL (WT ts) i).v), .ref 5 gc 0 1 1, .ref 6 gn 0 (WL (WT ts) i).nm.length 1, .ref 7 gt 0 (WL (WT ts) i).ty.length 1, .ref 8 gf 0 (WL (WT ts) i).fi.length 1, .mp 2 gA, .mp 3 gS], .row gc (Qq ([[1]] : List (List Int))), .row gn (Qq (WL (WT ts) i).nm), .row gt (Qq (WL (WT ts) i).ty), .row gf (Qq (WL (WT ts) i).fi)]⟩) (fun i gn gt gf => i <= 64 /\ E.N < gn /\ E.N < gt /\ E.N < gf) (fun i => 64 - i) 0 gn gt gf ?_ ⟨by omega, hgn, hgt, hgf⟩ ?_
 ·exact zal rfl
 intro i gn gt gf ⟨hi, hgn, hgt, hgf⟩
 have hVi := hV i
 have hs1 : WL (WT ts) (i + 1) = stepV (WT ts) (WL (WT ts) i) i := rfl
 (repeat' first | refine QG rfl rfl ?_ | refine Qe ?_ | refine Qp rfl ?_ | refine Qf ?_ | refine Qa ?_)
 refine QE rfl (fun h => ?_) (fun h => ?_)
 ·cases hget : W7 (WT ts) (i : Int) with
  | none =>
   rw [show stepV (WT ts) (WL (WT ts) i) i = WL (WT ts) i by unfold stepV; rw [hget]] at hs1
   generalize WL (WT ts) i = q at *
   (repeat' first | refine Qt rfl ?_ | refine Qv rfl ?_ | refine QS rfl rfl (by omega) ?_ | refine s_lookup_i0 rfl rfl rfl (by kernel_rfl) hget ?_ | refine ZQ rfl ?_ | refine Wh rfl rfl rfl ?_ | refine Qe ?_ | refine Qp rfl ?_ | refine Qf ?_ | refine Qa ?_ | refine Qg ?_ | refine Qj ?_ | refine Qs rfl ?_ | refine QU rfl ?_)
   refine ⟨i + 1, gn, gt, gf, ⟨by omega, by omega, by omega, by omega⟩, by omega, ?_⟩
   rw [hs1]
   exact zal rfl
  | some m =>
   have hwi := width_c (G := G) m
   have hw : 1 <= width m /\ width m <= 4 := by unfold width; split <;> omega
   rw [show stepV (WT ts) (WL (WT ts) i) i = ⟨putI (WL (WT ts) i).A i ((WL (WT ts) i).v + 1), (WL (WT ts) i).nm ++ [(i : Int)], (WL (WT ts) i).ty ++ [m], (WL (WT ts) i).fi ++ [(W7 (putI (WL (WT ts) i).A i ((WL (WT ts) i).v + 1)) i).getD 0], (WL (WT ts) i).v + width m⟩ by unfold stepV; rw [hget]] at hs1
   generalize WL (WT ts) i = q at *
   have v1 := hVi.v1
   have v2 := hVi.v2
   have l1 := hVi.l1
   have l2 := hVi.l2
   have l3 := hVi.l3
   clear hV hVi
   (repeat' first | refine Qt rfl ?_ | refine Qv rfl ?_ | refine QS rfl rfl (by omega) ?_ | refine s_app1 rfl rfl rfl rfl rfl rfl rfl (by first | omega | (simp; omega)) (by first | omega | (simp; omega)) (fun _ => rfl) (fun _ _ => ?_) | refine Wf rfl rfl rfl rfl (by rfl) (by rfl) (by rfl) ?_ | refine s_lookup_i1 rfl rfl rfl (by kernel_rfl) hget ?_ | refine qa rfl rfl rfl rfl (by rfl) ?_ | refine ZQ rfl ?_ | refine Qd rfl rfl ?_ | refine Wh rfl rfl rfl ?_ | refine Q3 rfl rfl ?_ | refine Qe ?_ | refine Qp rfl ?_ | refine Q0 ?_ | refine Qf ?_ | refine Qa ?_ | refine Qg ?_ | (refine Wa ?_; first | (refine r_drawz (fun p => p.1 :: p.2.1 :: p.2.2.1 :: p.2.2.2.1 :: .row gR [p.2.2.2.2.1] :: p.2.2.2.2.2) [100] [] [(0, true)] (by rfl) (by rfl) (by rfl) (by kernel_rfl) (by decide +kernel) (by decide) (by decide +kernel) ⟨(_, _, _, _, _, _), rfl⟩ ?_) | (refine r_drawz (fun p => p.1 :: p.2.1 :: .mapb gA (Wg (Zq (putI q.A (i : Int) (q.v + 1)))) :: p.2.2.1 :: .row g0 [.sc (.int .i64 q.v), .ref 5 gc 0 1 1, .ref 6 gn 0 q.nm.length 1, .ref 7 gt 0 q.ty.length 1, .ref 8 gf 0 q.fi.length 1, .mp 2 gA, .mp 3 gS] :: p.2.2.2) [32, 33, 34, 35, 36, 37, 38, 39, 40, 41, 42, 43, 1, 2] [1, 2] [(0, true), (3, true), (4, true), (5, true), (6, true), (7, true), (8, true), (9, true), (11, true), (12, true), (13, true), (14, true), (15, true), (16, true), (17, true), (19, true), (20, true), (21, true), (22, true), (23, true), (24, true), (25, true), (26, true), (27, true), (28, true), (29, true), (30, true), (10, false), (18, false), (31, false), (32, false), (33, false), (34, false), (35, false), (36, false), (37, false), (38, false), (39, false), (40, false), (41, false), (42, false), (43, false)] (by rfl) (by rfl) (by rfl) (by kernel_rfl) (by decide +kernel) (by decide) (by decide +kernel) ⟨(_, _, _, _), rfl⟩ ?_) | (rename_i gA hgA gS hgS g0 hg0; refine r_ownin 4 1 1 rfl rfl (fun _ => rfl) (fun g1 hg1 => ?_); refine r_drawz (fun p => p.1 :: p.2.1 :: p.2.2.1 :: p.2.2.2.1 :: .row g0 [p.2.2.2.2.1, .ref 5 g1 0 0 1, .nil, .nil, .nil, .mp 2 gA, .mp 3 gS] :: p.2.2.2.2.2) [11, 12, 13, 14] [] [(0, true), (1, true), (2, true), (3, true), (4, true), (5, true), (6, true), (7, false), (8, true), (9, true), (10, false), (11, false), (12, false), (13, false), (14, false)] (by rfl) (by rfl) (by rfl) (by kernel_rfl) (by decide +kernel) (by decide) (by decide +kernel) ⟨(_, _, _, _, _, _), rfl⟩ ?_) | refine Wj (by rfl) (by kernel_rfl) (by kernel_rfl) ?_ | refine QT (by kernel_rfl) (by kernel_rfl) ?_) | refine Qj ?_ | refine Qi rfl ?_ | refine x_op rfl (by (repeat' first | refine Qt rfl ?_ | refine Qc rfl rfl rfl ?_ | refine QS rfl rfl (by omega) ?_ | refine QZ rfl rfl (hwi) ?_ | refine s_lookup_i rfl rfl rfl (by kernel_rfl) ?_ | refine Wl rfl rfl (by decide) rfl ?_ | refine Qd rfl rfl ?_ | refine Q3 rfl rfl ?_ | exact ⟨rfl, rfl⟩)) ?_ | refine x_nil ?_ | refine zp_nil ?_ | refine zp_st rfl (fun _ => (by (repeat' first | refine Qt rfl ?_ | refine Qc rfl rfl rfl ?_ | refine QS rfl rfl (by omega) ?_ | refine QZ rfl rfl (hwi) ?_ | refine s_lookup_i rfl rfl rfl (by kernel_rfl) ?_ | refine Wl rfl rfl (by decide) rfl ?_ | refine Qd rfl rfl ?_ | refine Q3 rfl rfl ?_ | exact ⟨rfl, rfl⟩))) ?_ | refine z_nil ?_ | refine z_st rfl rfl (fun _ => (by (repeat' first | refine Qt rfl ?_ | refine Qc rfl rfl rfl ?_ | refine QS rfl rfl (by omega) ?_ | refine QZ rfl rfl (hwi) ?_ | refine s_lookup_i rfl rfl rfl (by kernel_rfl) ?_ | refine Wl rfl rfl (by decide) rfl ?_ | refine Qd rfl rfl ?_ | refine Q3 rfl rfl ?_ | exact ⟨rfl, rfl⟩))) ?_ | refine z_lf rfl rfl rfl ?_ | refine z_lf0 rfl rfl ?_ | refine z_ef rfl rfl ?_ | refine And.intro (Exists.intro ((_, _, _, _)) rfl) ?_)
   rename_i gn' hgn' gt' hgt' gf' hgf'
   refine ⟨i + 1, gn', gt', gf', ⟨by omega, by omega, by omega, by omega⟩, by omega, ?_⟩
   rw [hs1]
   exact zal rfl
 have hi4 : i = 64 := by omega
 subst hi4
 clear h hs1 hi
 have hbv : WL (WT ts) 64 = Qw ts := rfl
 rw [hbv] at hVi ⊢
 have hb0 : Wo ts = WN (Qw ts).A ⟨(Qw ts).v, [[1]]⟩ ts := rfl
 have hR : blastR ts = if Zy (Wo ts).1 = true then .tup [.agg [.i 0, .nil, .nil, .nil, .nil], .i 4] else .tup [.agg [.i (Wo ts).1.vars, Qy (Wo ts).1.cl, Qy (Qw ts).nm, Qy (Qw ts).ty, Qy (Qw ts).fi], .i 0] := rfl
 rw [hR]
 have hT := termsT_ok (F := F) (ts := ts) (A := (Qw ts).A) (s0 := ⟨(Qw ts).v, [[1]]⟩) ⟨by have := hVi.v1; show 0 <= (Qw ts).v; omega, by have := hVi.v2; show (Qw ts).v <= _; omega, Nat.le_of_ble_eq_true rfl⟩ hts (by have := hVi.v2; show (Qw ts).v <= 1000; omega) (at_ok hts hVi)
 rw [hb0]
 have c2 := Qz (Qw ts).nm
 have c3 := Qz (Qw ts).ty
 have c4 := Qz (Qw ts).fi
 generalize Qw ts = q at *
 clear hV hbv hb0 hVi hR
 refine r_pubin 4 2 rfl rfl rfl c2.symm rfl rfl ?_
 refine r_pubin 4 3 rfl rfl rfl c3.symm rfl rfl ?_
 refine r_pubin 4 4 rfl rfl rfl c4.symm rfl rfl ?_
 have d2 : (Qy q.nm).clo = true := QQ _
 have d3 : (Qy q.ty).clo = true := QQ _
 have d4 : (Qy q.fi).clo = true := QQ _
 (repeat' first | refine Qt rfl ?_ | refine Qn rfl ?_ | refine Qe ?_ | refine Qp rfl ?_ | refine Qf ?_ | refine Qa ?_ | refine Qg ?_ | refine QU rfl ?_)
 refine qb (fun (i gd : Nat) => ⟨[(0, Qy ts), (2, .ptr 0 gR 0), (3, .i 0), (9, .ptr 4 g0 0), (134, Qy ts), (135, .i ts.length), (136, .i i)], [.row gR [.i 0, .nil, .nil, .nil, .nil], .mapb gF (Wg (Zq (WT ts))), .mapb gA (Wg (Zq q.A)), .mapb gS (Zo (WN q.A ⟨q.v, [[1]]⟩ (ts.take i)).2), .row g0 [.sc (.int .i64 (WN q.A ⟨q.v, [[1]]⟩ (ts.take i)).1.vars), .ref 5 gd 0 (WN q.A ⟨q.v, [[1]]⟩ (ts.take i)).1.cl.length 1, Qy q.nm, Qy q.ty, Qy q.fi, .mp 2 gA, .mp 3 gS], .row gd (Qq (WN q.A ⟨q.v, [[1]]⟩ (ts.take i)).1.cl)]⟩) (fun i gd => i <= ts.length /\ E.N < gd) (fun i _ => ts.length - i) 0 gc ?_ ⟨by omega, hgc⟩ ?_
 ·exact zal rfl
 intro i gd ⟨hi, hgd⟩
 obtain ⟨hTo, hTS, hTa, hTv⟩ := hT i
 (repeat' first | refine QG rfl rfl ?_ | refine Qe ?_ | refine Qp rfl ?_ | refine Qf ?_ | refine Qa ?_)
 refine QE rfl (fun h => ?_) (fun h => ?_)
 ·have hi2 : i < ts.length := by omega
  have hti := hts.ty _ (List.getElem_mem hi2)
  have hci := hts.con _ (List.getElem_mem hi2)
  have hsz : QR ts[i] <= 100000 := Nat.le_trans (sizeL_mem (List.getElem_mem hi2)) hts.size
  have hAi := hTa _ (List.getElem_mem hi2)
  have hs1 := termsT_succ q.A ⟨q.v, [[1]]⟩ hi2
  generalize WN q.A ⟨q.v, [[1]]⟩ (ts.take i) = x at *
  have hbi := bits_c (G := G) hG0 hG1 hti hci hsz x.1 x.2 hTo (by omega) hTS hAi
  have hbo := (Z6 hti hci x.1 x.2 hTo (by omega) hTS hAi).2
  generalize QK q.A ts[i] x.1 x.2 = y at *
  have hyl : 0 < y.1.length := by have := hbo.len; omega
  have had := add_c (G := G) y.2.1 hbo.g.ok [y.1.getD 0 0] (by simp)
  clear hT hts hbo hTv hTa hTo hTS
  (repeat' first | refine Qt rfl ?_ | refine Qu rfl rfl (by first | assumption | exact Enc.len _ | rfl) ?_ | refine QM rfl ?_ | refine Qo rfl rfl (by first | assumption | omega | (simp; done) | (simp; omega)) ?_ | refine QS rfl rfl (by omega) ?_ | refine s_call_bs5 rfl rfl hbi rfl (by assumption) (by assumption) (by assumption) (by repeat' first | exact QX | refine QN ?_ ?_ | exact QA | exact QB (Enc.clo _) | exact QB (Qk _)) (QB (Qk _)) (fun _ _ => ?_) | refine s_call_ba5 rfl rfl had rfl (by assumption) (by assumption) (by assumption) ZA qk (by rfl) (by rfl) (by rfl) (by rfl) (by rfl) (by rfl) (fun _ _ => ?_) | refine Ql rfl rfl rfl (by first | assumption | exact Enc.len _ | rfl) (by first | assumption | exact Enc.len _ | rfl) rfl ?_ | refine s_index_e rfl rfl (by decide) (by assumption) ?_ | refine s_bslice_own (cs := [.i (y.1.getD 0 0)]) rfl rfl (by decide) rfl rfl (fun _ _ => ?_) | refine QJ (fun _ _ => ?_) | refine Qe ?_ | refine Qp rfl ?_ | refine Q0 ?_ | refine Qf ?_ | refine Qa ?_ | refine Qg ?_ | refine Qj ?_)
  rename_i ge hge
  refine ⟨i + 1, ge, ⟨by omega, by omega⟩, by omega, ?_⟩
  rw [hs1]
  exact zal rfl
 have hi3 : i = ts.length := by omega
 subst hi3
 rw [List.take_length] at *
 generalize WN q.A ⟨q.v, [[1]]⟩ ts = x at *
 have hfu := full_c (G := G) x.1 hTo
 have c1 := Qz x.1.cl
 clear h hT hTa hTv hTS hi
 cases hf : Zy x.1 with
 | true =>
  rw [hf] at hfu
  rw [if_pos rfl]
  (repeat' first | refine Qt rfl ?_ | refine Qv rfl ?_ | refine s_call_bm5 rfl rfl hfu rfl (by assumption) (by assumption) (by assumption) ZA qk QX QA (fun _ _ => ?_) | refine Ql rfl rfl rfl (by first | assumption | exact Enc.len _ | rfl) (by first | assumption | exact Enc.len _ | rfl) rfl ?_ | refine Zi rfl rfl ?_ | refine Qe ?_ | refine Qp rfl ?_ | refine Q0 ?_ | refine Qf ?_ | refine Qa ?_ | refine Qs rfl ?_ | refine QU rfl ?_ | refine Qm ?_)
  exact e_2 (Tryd.results12) (QY (size := 5) rfl rfl rfl rfl) (Qh rfl) (Qr rfl)
 | false =>
  rw [if_neg (by decide)]
  (repeat' first | refine Qt rfl ?_ | refine s_call_bm5 rfl rfl hfu rfl (by assumption) (by assumption) (by assumption) ZA qk QX QA (fun _ _ => ?_) | refine Qe ?_ | refine Qp rfl ?_ | refine Qf ?_ | refine Qa ?_ | refine QU rfl ?_)
  rw [hf]
  refine r_pubin 4 1 rfl rfl rfl c1.symm rfl rfl ?_
  (repeat' first | refine Qt rfl ?_ | refine Qv rfl ?_ | refine s_load_rowa rfl rfl (by rfl) (by rfl) ?_ | refine Ql rfl rfl rfl (by first | assumption | exact Enc.len _ | rfl) (by first | assumption | exact Enc.len _ | rfl) rfl ?_ | refine Qd rfl rfl ?_ | refine Q3 rfl rfl ?_ | refine Qe ?_ | refine Qp rfl ?_ | refine Q0 ?_ | refine Qf ?_ | refine Qa ?_ | refine Qj ?_ | refine Qi rfl ?_ | refine Qm ?_)
  exact e_2 (Tryd.results12) (QY (size := 5) rfl rfl rfl rfl) (Qh rfl) (Qr rfl)
end Go.Proofs
end
section
namespace Go.Proofs
open Go.Bl Go.Av Go.Fo
/-! The variables' nodes. -/
def ndM : Nd -> Int
 | .mk _ _ m _ => m
mutual
theorem nodesN_vars : ∀ t : Nd, (qp t).map (fun x => (ndN x, ndM x)) = QL t
 | .mk k n m ks => by
  rw [qp, QL, List.map_append, nodesL_vars ks]
  split <;> rfl
theorem nodesL_vars : ∀ ts : List Nd, (WZ ts).map (fun x => (ndN x, ndM x)) = QP ts
 | [] => rfl
 | x :: r => by rw [WZ, QP, List.map_append, nodesN_vars x, nodesL_vars r]
end
theorem any_vars (ts : List Nd) (n : Int) : (WZ ts).any (fun x => decide (ndN x = n)) = (QP ts).any (fun p => decide (p.1 = n)) := by
 rw [<- nodesL_vars, List.any_map]; rfl
theorem any_iff {l : List (Int × Int)} {n : Int} : l.any (fun p => decide (p.1 = n)) = true ↔ ∃ p ∈ l, p.1 = n := by
 rw [List.any_eq_true]
 exact ⟨fun ⟨p, h1, h2⟩ => ⟨p, h1, of_decide_eq_true h2⟩, fun ⟨p, h1, h2⟩ => ⟨p, h1, decide_eq_true h2⟩⟩
theorem allTo_nm {M : List (Int × Int)} {L : List Nd} (h : ∀ n, L.any (fun x => decide (ndN x = n)) = (W7 M n).isSome) : ∀ i, allTo L i = (WL M i).nm
 | 0 => rfl
 | i + 1 => by
  rw [allTo, WL, allTo_nm h i, h]
  unfold stepV
  cases W7 M (i : Int) <;> rfl
theorem mem_nm {M : List (Int × Int)} : ∀ {i : Nat} {n : Int}, n ∈ (WL M i).nm ↔ 0 <= n /\ n < i /\ (W7 M n).isSome = true
 | 0, n => ⟨fun h => (by cases h), fun h => by omega⟩
 | i + 1, n => by
  rw [WL]
  unfold stepV
  cases hg : W7 M (i : Int) with
  | none =>
   show n ∈ (WL M i).nm ↔ _
   rw [mem_nm]
   constructor
   ·rintro ⟨h1, h2, h3⟩; exact ⟨h1, by omega, h3⟩
   ·rintro ⟨h1, h2, h3⟩
    refine ⟨h1, ?_, h3⟩
    by_cases e : n = i
    ·rw [e, hg] at h3; cases h3
    ·omega
  | some m =>
   show n ∈ (WL M i).nm ++ [(i : Int)] ↔ _
   rw [List.mem_append, mem_nm, List.mem_singleton]
   constructor
   ·rintro (⟨h1, h2, h3⟩ | h)
    ·exact ⟨h1, by omega, h3⟩
    ·exact ⟨by omega, by omega, by rw [h, hg]; rfl⟩
   ·rintro ⟨h1, h2, h3⟩
    by_cases e : n = i
    ·exact .inr e
    ·exact .inl ⟨h1, by omega, h3⟩
theorem foundM_ok {F : Int -> Int} {ts : List Nd} (hts : Lot F ts) : SubF (WT ts) F /\ ∀ n, (W7 (WT ts) n).isSome = true ↔ ∃ p ∈ QP ts, p.1 = n := by
 have h := found_ok (F := F) (ts := ts) (M := []) hts.ty hts.con (fun n m h => by cases h)
 refine ⟨h.2.1, fun n => (h.2.2 n).trans ⟨fun h => h.elim (fun h => by cases h) id, .inr⟩⟩
theorem blast_nm {F : Int -> Int} {ts : List Nd} (hts : Lot F ts) : allTo (WZ ts) 64 = (Qw ts).nm := by
 refine allTo_nm (fun n => ?_) 64
 rw [any_vars, Bool.eq_iff_iff, any_iff, (foundM_ok hts).2]
theorem W4 {F : Int -> Int} {ts : List Nd} (hts : Lot F ts) : RB F 64 (Qw ts) := varsT_rb (foundM_ok hts).1 64
theorem mem_varsL {t : Nd} {p : Int × Int} : ∀ {ts : List Nd}, t ∈ ts -> p ∈ QL t -> p ∈ QP ts
 | x :: r, h, hp => by
  rw [QP, List.mem_append]
  rcases List.mem_cons.1 h with rfl | h
  ·exact .inl hp
  ·exact .inr (mem_varsL h hp)
theorem of_varsL {p : Int × Int} : ∀ {ts : List Nd}, p ∈ QP ts -> ∃ t ∈ ts, p ∈ QL t
 | x :: r, h => by
  rw [QP, List.mem_append] at h
  rcases h with h | h
  ·exact ⟨x, by simp, h⟩
  ·obtain ⟨t, h1, h2⟩ := of_varsL h
   exact ⟨t, by simp [h1], h2⟩
theorem varsN_rng {t : Nd} {k : Int} (h : Tt t k) : ∀ p ∈ QL t, (0 <= p.1 /\ p.1 <= 63) /\ (p.2 = 0 \/ p.2 = 1) := by
 induction h with
 | num _ => intro p hp; simp [QL, QP] at hp
 | tru _ => intro p hp; simp [QL, QP] at hp
 | @var n m h1 h2 =>
   intro p hp; have : p = (n, m) := by simpa [QL, QP] using hp
   rw [this]; exact ⟨h1, h2⟩
 | bin _ _ _ h1 h2 => intro p hp; simp [QL, QP] at hp; rcases hp with hp | hp; exact h1 p hp; exact h2 p hp
 | log _ _ _ h1 h2 => intro p hp; simp [QL, QP] at hp; rcases hp with hp | hp; exact h1 p hp; exact h2 p hp
 | not _ h1 => intro p hp; simp [QL, QP] at hp; exact h1 p hp
 | cond _ _ _ h1 h2 h3 => intro p hp; simp [QL, QP] at hp; rcases hp with hp | hp | hp; exact h1 p hp; exact h2 p hp; exact h3 p hp
theorem mem_getD {l : List Int} {x : Int} (h : x ∈ l) : ∃ j, j < l.length /\ l.getD j 0 = x := by
 obtain ⟨j, hj, e⟩ := List.getElem_of_mem h
 exact ⟨j, hj, by rw [List.getD_eq_getElem?_getD, List.getElem?_eq_getElem hj]; exact e⟩
theorem ZB {l : List Int} {j : Nat} (h : j < l.length) : l.getD j 0 = l[j] := by rw [List.getD_eq_getElem?_getD, List.getElem?_eq_getElem h]; rfl
theorem blast_at {F : Int -> Int} {ts : List Nd} (hts : Lot F ts) {t : Nd} (ht : t ∈ ts) : ∀ p ∈ QL t, ∃ j, j < (Qw ts).nm.length /\ (Qw ts).nm.getD j 0 = p.1 := fun p hp => by
 have hr := varsN_rng (hts.ty t ht) p hp
 exact mem_getD (mem_nm.2 ⟨hr.1.1, by omega, ((foundM_ok hts).2 p.1).2 ⟨p, mem_varsL ht hp, rfl⟩⟩)
/-! The types. -/
theorem kindN_ok {F : Int -> Int} (hF : ∀ n, 0 <= F n) (x : Int) (t : Nd) : (∀ p ∈ QL t, p.2 = F p.1) -> kindN t x = if (QL t).any (fun p => decide (p.1 = x)) = true then F x else -1 := by
 induction t using Nd.ind with
 | h k n m ks ih =>
 intro hp
 have hks : (∀ t ∈ ks, ∀ p ∈ QL t, p.2 = F p.1) := fun t ht p hpt => hp p (by rw [QL, List.mem_append]; exact .inr (mem_varsL ht hpt))
 have hl : ∀ ks : List Nd, (∀ t ∈ ks, kindN t x = if (QL t).any (fun p => decide (p.1 = x)) = true then F x else -1) -> kindL ks x = if (QP ks).any (fun p => decide (p.1 = x)) = true then F x else -1 := fun ks => by
  induction ks with
  | nil => intro _; rfl
  | cons y r ihr =>
   intro h
   rw [kindL, QP, List.any_append, ihr fun t ht => h t (by simp [ht]), h y (by simp)]
   cases (QL y).any (fun p => decide (p.1 = x)) with
   | true => rw [if_pos rfl, if_pos (hF x), Bool.true_or, if_pos rfl]
   | false =>
    simp only [Bool.false_eq_true, if_false, Bool.false_or]
    rw [if_neg (by decide)]
 rw [kindN, QL, List.any_append, hl ks fun t ht => ih t ht (hks t ht)]
 by_cases h : k = 6 /\ n = x
 ·rw [if_pos h, if_pos h.1]
  have := hp (n, m) (by rw [QL, if_pos h.1]; simp)
  rw [show m = F n from this, h.2]
  simp
 ·rw [if_neg h]
  by_cases h6 : k = 6
  ·rw [if_pos h6]
   have hn : decide (n = x) = false := decide_eq_false fun e => h ⟨h6, e⟩
   rw [List.any_cons, List.any_nil]
   dsimp only
   rw [hn]; rfl
  ·rw [if_neg h6]; rfl
theorem kindL_ok {F : Int -> Int} (hF : ∀ n, 0 <= F n) {ts : List Nd} (hc : ∀ t ∈ ts, Con F t) {x : Int} (hx : ∃ p ∈ QP ts, p.1 = x) : kindL ts x = F x := by
 have h := kindN_ok hF x (.mk 0 0 0 ts) (fun p hp => by
  rw [QL, if_neg (by decide), List.nil_append] at hp
  obtain ⟨t, h1, h2⟩ := of_varsL hp
  exact hc t h1 p h2)
 rw [kindN, if_neg (fun h => absurd h.1 (by decide)), QL, if_neg (show ¬ (0 : Int) = 6 by decide), List.nil_append, if_pos (any_iff.2 hx)] at h
 exact h
theorem blast_ty {F : Int -> Int} (hF : ∀ n, 0 <= F n) {ts : List Nd} (hts : Lot F ts) : (Qw ts).nm.map (kindL ts) = (Qw ts).ty := by
 have h := W4 hts
 refine List.ext_getElem (by rw [List.length_map, h.l2]) fun j h1 h2 => ?_
 rw [List.length_map] at h1
 rw [List.getElem_map, <- ZB h2, h.ty j h1, ZB h1]
 exact kindL_ok hF hts.con (((foundM_ok hts).2 _).1 (mem_nm.1 (List.getElem_mem h1)).2.2)
/-! The sizes. -/
theorem nodup_le : ∀ {l m : List Int}, l.Nodup -> l ⊆ m -> l.length <= m.length
 | [], m, _, _ => by simp
 | x :: r, m, h, hs => by
  have h := List.nodup_cons.1 h
  have hx : x ∈ m := hs (by simp)
  have h1 := nodup_le (m := m.erase x) h.2 fun y hy => (List.mem_erase_of_ne (fun e => h.1 (by rw [<- e]; exact hy))).2 (hs (by simp [hy]))
  rw [List.length_erase_of_mem hx] at h1
  have := List.length_pos_of_mem hx
  rw [List.length_cons]; omega
theorem nm_len {M : List (Int × Int)} {l : List (Int × Int)} (h : ∀ n, (W7 M n).isSome = true -> ∃ p ∈ l, p.1 = n) (i : Nat) : (WL M i).nm.length <= l.length := by
 have hnd : ∀ i, (WL M i).nm.Nodup := fun i => by
  induction i with
  | zero => exact List.nodup_nil
  | succ i ih =>
   rw [WL]
   unfold stepV
   cases W7 M (i : Int) with
   | none => exact ih
   | some m =>
    show ((WL M i).nm ++ [(i : Int)]).Nodup
    rw [List.nodup_append]
    refine ⟨ih, by simp, fun a ha b hb e => ?_⟩
    rw [List.mem_singleton.1 hb] at e
    subst e
    have := (mem_nm.1 ha).2.1
    omega
 have hs : (WL M i).nm ⊆ l.map Prod.fst := fun n hn => by
  obtain ⟨p, h1, h2⟩ := h n (mem_nm.1 hn).2.2
  exact List.mem_map.2 ⟨p, h1, h2⟩
 have := nodup_le (hnd i) hs
 rwa [List.length_map] at this
theorem terms_le2 {A : List (Int × Int)} {ts : List Nd} (hty : ∀ t ∈ ts, Tt t 1) (s0 : St) : ∀ i, i <= ts.length -> Le2 (1025 * QW (ts.take i)) s0 (WN A s0 (ts.take i)).1
 | 0, _ => .refl s0
 | i + 1, hi => by
  have hti := List.getElem_mem (show i < ts.length by omega)
  rw [termsT_succ A s0 (show i < ts.length by omega), sizeL_take ts i (by omega)]
  have := sizeN_pos ts[i]
  exact (((terms_le2 hty s0 i (by omega)).trans (bits_le2 (hty _ hti) _ _).2).trans (add_le2 _ _)).mono (by omega)
theorem terms_lv {A : List (Int × Int)} {ts : List Nd} (hty : ∀ t ∈ ts, Tt t 1) (s0 : St) : ∀ i, i <= ts.length -> ∃ c, c + 100 * (QP (ts.take i)).length <= 100 * QW (ts.take i) /\ Lv c s0 (WN A s0 (ts.take i)).1
 | 0, _ => ⟨0, by simp [QP, QW], .refl s0⟩
 | i + 1, hi => by
  have hti := List.getElem_mem (show i < ts.length by omega)
  obtain ⟨c, h1, h2⟩ := terms_lv (A := A) hty s0 i (by omega)
  obtain ⟨d, h3, h4⟩ := bits_lv (A := A) (hty _ hti)
  have app : ∀ a b : List Nd, QP (a ++ b) = QP a ++ QP b := fun a b => by
   induction a with
   | nil => rfl
   | cons x r ih => rw [List.cons_append, QP, QP, ih, List.append_assoc]
  refine ⟨c + d, ?_, ?_⟩
  ·rw [sizeL_take ts i (by omega), List.take_succ_eq_append_getElem (by omega), app, List.length_append, QP, QP, List.append_nil]; omega
  ·rw [termsT_succ A s0 (show i < ts.length by omega)]
   have h5 := h2.trans (h4 (WN A s0 (ts.take i)).1 (WN A s0 (ts.take i)).2).2
   unfold Lv at h5 ⊢
   rw [WG]; exact h5
theorem blast_size {F : Int -> Int} {ts : List Nd} (hts : Lot F ts) : ((Wo ts).1.vars <= 1 + 100 * (QW ts : Int)) /\ (Wo ts).1.cl.length <= 1 + 1025 * QW ts /\ (∀ c ∈ (Wo ts).1.cl, c.length <= 9) /\ (Qw ts).v <= (Wo ts).1.vars := by
 have h := W4 hts
 have h2 := terms_le2 (A := (Qw ts).A) hts.ty ⟨(Qw ts).v, [[1]]⟩ ts.length (Nat.le_refl _)
 obtain ⟨c, h3, h4⟩ := terms_lv (A := (Qw ts).A) hts.ty ⟨(Qw ts).v, [[1]]⟩ ts.length (Nat.le_refl _)
 rw [List.take_length] at h2 h3 h4
 have hn : (Qw ts).nm.length <= (QP ts).length := nm_len (fun n => ((foundM_ok hts).2 n).1) 64
 have hv := h.v2
 unfold Lv at h4
 have h4 : (Wo ts).1.vars <= (Qw ts).v + c := h4
 have h5 := h2.hi
 have h5 : (Wo ts).1.cl.length <= 1 + 1025 * QW ts := h5
 exact ⟨by omega, h5, h2.len fun x hx => by rw [List.mem_singleton.1 hx]; decide, h2.le.v⟩
theorem blast_nofull {F : Int -> Int} {ts : List Nd} (hts : Lot F ts) (h : Zy (Wo ts).1 = true) : 14 <= QW ts := by
 obtain ⟨h1, h2, _, _⟩ := blast_size hts
 unfold Zy at h
 rw [Bool.or_eq_true] at h
 rcases h with h | h
 ·have := of_decide_eq_true h; omega
 ·have := of_decide_eq_true h; omega
/-! What follows. -/
theorem blast_sem {F : Int -> Int} {ts : List Nd} (hts : Lot F ts) {vals : List Int} (hv : Vok vals) (hvt : Vtr F vals) (nf : Zy (Wo ts).1 = false) :
  ∃ a, GoodB (fun v => 2 <= v /\ v <= (Qw ts).v) (∀ t ∈ ts, evN vals t = 1) (Wo ts).1.vars a (Wo ts).1 /\ Agree (Qw ts).v (asg vals (Qw ts)) a /\
   ∀ t ∈ ts, evN vals t ≠ 1 -> ∃ x, kept [x] ∈ (Wo ts).1.cl /\ Lt (Wo ts).1.vars x /\ ltv a x = false := by
 have h := W4 hts
 have hs := terms_sem (p := ∀ t ∈ ts, evN vals t = 1) (A := (Qw ts).A) (a0 := asg vals (Qw ts)) (s0 := ⟨(Qw ts).v, [[1]]⟩) hv hts.ty hts.con (fun h => h) (asg_good (vals := vals) h (∀ t ∈ ts, evN vals t = 1)) (fun t ht => asg_var h hvt (hts.con t ht) (blast_at hts ht)) ts.length (Nat.le_refl _)
 rw [List.take_length] at hs
 obtain ⟨a, h1, _, h3⟩ := hs nf
 exact ⟨a, h1.good, h1.ag, h3⟩
theorem nofull_bd {s : St} (nf : Zy s = false) : s.vars <= 2000 /\ s.cl.length <= 16384 := by
 unfold Zy at nf
 rw [Bool.or_eq_false_iff] at nf
 have h1 := of_decide_eq_false nf.1
 have h2 := of_decide_eq_false nf.2
 exact ⟨by omega, by omega⟩
theorem blast_follow {F : Int -> Int} {ts : List Nd} (hts : Lot F ts) {vals : List Int} (hv : Vok vals) (hvt : Vtr F vals) (nf : Zy (Wo ts).1 = false) :
  ∃ a, GoodB (fun v => 2 <= v /\ v <= (Qw ts).v) (∀ t ∈ ts, evN vals t = 1) (Wo ts).1.vars a (Wo ts).1 /\ Agree (Qw ts).v (asg vals (Qw ts)) a /\
   followM (Wo ts).1.cl (litsV vals (Qw ts)) = if (ts.all fun t => decide (evN vals t = 1)) = true then some (alL a (Wo ts).1.vars.toNat) else none := by
 obtain ⟨a, g, ag, hf⟩ := blast_sem hts hv hvt nf
 have h := W4 hts
 have hsz := blast_size hts
 have hb : ∀ v, 1 <= v -> v <= (Wo ts).1.vars -> (2 <= v /\ v <= (Qw ts).v) -> al a v ∈ litsV vals (Qw ts) := fun v _ _ ⟨h1, h2⟩ => by
  have e : al a v = al (asg vals (Qw ts)) v := by unfold al; rw [ag v.toNat (by omega)]
  rw [e]; exact lits_al h h1 h2
 refine ⟨a, g, ag, ?_⟩
 by_cases hall : ∀ t ∈ ts, evN vals t = 1
 ·rw [if_pos (List.all_eq_true.2 fun t ht => decide_eq_true (hall t ht))]
  refine follow_all g hall (nofull_bd nf).1 (fun x hx => ?_) hb
  obtain ⟨q1, q2⟩ := lits_true (vals := vals) h hx
  exact ⟨q1.mono hsz.2.2.2, by rw [Zr ag q1]; exact q2⟩
 ·rw [if_neg fun h => hall fun t ht => of_decide_eq_true (List.all_eq_true.1 h t ht)]
  have hex : ∃ t ∈ ts, evN vals t ≠ 1 := by
   apply Classical.byContradiction
   intro hno
   exact hall fun t ht => Decidable.byContradiction fun hn => hno ⟨t, ht, hn⟩
  obtain ⟨t, ht, hn⟩ := hex
  obtain ⟨x, x1, x2, x3⟩ := hf t ht hn
  exact follow_none g hb x1 x2 x3
end Go.Proofs
end
section
namespace Go.Proofs
open Go.Bl Go.Av
def bm (model : List Bool) (v : Nat) : Bool := model.getD (v - 1) false
def mdl (a : Nat -> Bool) : Nat -> List Bool
 | 0 => []
 | m + 1 => mdl a m ++ [a (m + 1)]
theorem mdl_len (a : Nat -> Bool) : ∀ m, (mdl a m).length = m
 | 0 => rfl
 | m + 1 => by rw [mdl, List.length_append, mdl_len a m]; rfl
theorem mdl_at (a : Nat -> Bool) : ∀ (m : Nat) {i : Nat}, i < m -> (mdl a m).getD i false = a (i + 1)
 | 0, i, h => absurd h (by omega)
 | m + 1, i, h => by
  have hl := mdl_len a m
  rw [mdl, List.getD_eq_getElem?_getD]
  by_cases h1 : i < m
  ·rw [List.getElem?_append_left (by omega), <- List.getD_eq_getElem?_getD]; exact mdl_at a m h1
  ·have : i = m := by omega
   subst this
   rw [List.getElem?_append_right (by omega), hl, Nat.sub_self]; rfl
theorem bm_mdl {a : Nat -> Bool} {m v : Nat} (h1 : 1 <= v) (h2 : v <= m) : bm (mdl a m) v = a v := by
 unfold bm
 rw [mdl_at a m (by omega)]
 congr 1; omega
def backM (q : BV) (model : List Bool) : List Int := Fv.outM q.nm q.ty q.fi model q.nm.length
section
variable {F : Int -> Int} {M : List (Int × Int)} {i : Nat} {q : BV} {model : List Bool}
theorem RB.lt_names (h : RB F i q) {x : Int} (hx : x ∈ q.nm) : 0 <= x /\ x < i := by
 obtain ⟨j, hj, rfl⟩ := mem_getD hx
 exact h.nm j hj
theorem back_len (h : RB F i q) : (backM q model).length <= i /\ ∀ j, j < q.nm.length -> (q.nm.getD j 0).toNat < (backM q model).length := by
 unfold backM
 rw [Fv.outM_len]
 have h1 : Fv.maxM q.nm <= (i : Int) - 1 := by
  unfold Fv.maxM
  have := Fv.max_lt (l := q.nm) (b := (i : Int)) (fun x hx => (h.lt_names hx).2) (m := -1) (by omega)
  omega
 refine ⟨by omega, fun j hj => ?_⟩
 have h2 : q.nm.getD j 0 <= Fv.maxM q.nm := by
  rw [ZB hj]
  exact Fv.le_max (List.getElem_mem hj)
 have := (h.nm j hj).1
 omega
theorem getD_set2 {l : List Int} {i j : Nat} {v : Int} : (l.set i v).getD j 0 = if i = j /\ i < l.length then v else l.getD j 0 := by
 rw [List.getD_eq_getElem?_getD, List.getElem?_set, List.getD_eq_getElem?_getD]
 by_cases e : i = j
 ·subst e
  rw [if_pos rfl]
  by_cases hl : i < l.length
  ·rw [if_pos hl, if_pos ⟨rfl, hl⟩]; rfl
  ·rw [if_neg hl, if_neg fun h => hl h.2, List.getElem?_eq_none (by omega)]
 ·rw [if_neg e, if_neg fun h => e h.1]
theorem out_at (h : RB F i q) (hd : ∀ j k, j < k -> k < q.nm.length -> q.nm.getD j 0 ≠ q.nm.getD k 0) : ∀ m, m <= q.nm.length -> ∀ j, j < m -> (Fv.outM q.nm q.ty q.fi model m).getD (q.nm.getD j 0).toNat 0 = Fv.valM model (q.ty.getD j 0) (q.fi.getD j 0)
 | 0, _, j, hj => absurd hj (by omega)
 | m + 1, hm, j, hj => by
  have hl : (q.nm.getD m 0).toNat < (Fv.outM q.nm q.ty q.fi model m).length := by
   have := (back_len (model := model) h).2 m (by omega)
   unfold backM at this
   rw [Fv.outM_len] at this ⊢
   exact this
  rw [Fv.outM, getD_set2]
  by_cases e : j = m
  ·subst e
   rw [if_pos ⟨rfl, hl⟩]
  ·have hne := hd j m (by omega) (by omega)
   have h1 := h.nm j (by omega)
   have h2 := h.nm m (by omega)
   rw [if_neg fun h => hne (by omega)]
   exact out_at h hd m (by omega) j (by omega)
theorem out_no {x : Nat} (hx : ∀ j, j < q.nm.length -> (q.nm.getD j 0).toNat ≠ x) : ∀ m, m <= q.nm.length -> (Fv.outM q.nm q.ty q.fi model m).getD x 0 = 0
 | 0, _ => by
  rw [Fv.outM, List.getD_eq_getElem?_getD, List.getElem?_replicate]
  split <;> rfl
 | m + 1, hm => by
  rw [Fv.outM, getD_set2, if_neg fun h => hx m (by omega) h.1]
  exact out_no hx m (by omega)
theorem valM_bd (t first : Int) : -8 <= Fv.valM model t first /\ Fv.valM model t first <= 7 /\ (t = 1 -> Fv.valM model t first = 0 \/ Fv.valM model t first = 1) := by
 unfold Fv.valM
 split
 ·have := Fv.nM_lt model (first - 1).toNat 1
  exact ⟨by omega, by omega, fun _ => by omega⟩
 ·rename_i h
  have := Fv.nM_lt model (first - 1).toNat 4
  unfold Fv.wrapM
  split
  ·exact ⟨by omega, by omega, fun e => absurd e h⟩
  ·exact ⟨by omega, by omega, fun e => absurd e h⟩
theorem nM4 (model : List Bool) (a : Nat) : Fv.nM model a 4 = (if Fv.bitM model (a + 0) = true then 1 else 0) + (if Fv.bitM model (a + 1) = true then 2 else 0) + (if Fv.bitM model (a + 2) = true then 4 else 0) + (if Fv.bitM model (a + 3) = true then 8 else 0) := by
 simp only [Fv.nM]
 split <;> split <;> split <;> split <;> rfl
theorem val_bit (t first : Int) (k : Nat) (hk : (k : Int) < widI t) : (bitsV (Fv.valM model t first) t).getD k false = Fv.bitM model ((first - 1).toNat + k) := by
 unfold bitsV Fv.valM
 unfold widI at hk
 by_cases h : t = 1
 ·rw [if_pos h, if_pos h]
  rw [if_pos h] at hk
  have : k = 0 := by omega
  subst this
  show decide (((Fv.nM model (first - 1).toNat 1 : Nat) : Int) = 1) = _
  by_cases hb : Fv.bitM model ((first - 1).toNat + 0) = true
  ·have e : Fv.nM model (first - 1).toNat 1 = 1 := by unfold Fv.nM; rw [if_pos hb]; rfl
   rw [e, hb]; rfl
  ·have e : Fv.nM model (first - 1).toNat 1 = 0 := by unfold Fv.nM; rw [if_neg hb]; rfl
   rw [e, Bool.eq_false_iff.2 hb]; rfl
 ·rw [if_neg h, if_neg h]
  rw [if_neg h] at hk
  have hk4 : k = 0 \/ k = 1 \/ k = 2 \/ k = 3 := by omega
  rw [nM4]
  generalize (first - 1).toNat = a
  cases h0 : Fv.bitM model (a + 0) <;> cases h1 : Fv.bitM model (a + 1) <;> cases h2 : Fv.bitM model (a + 2) <;> cases h3 : Fv.bitM model (a + 3) <;> rcases hk4 with rfl | rfl | rfl | rfl <;> first | (rw [h0]; rfl) | (rw [h1]; rfl) | (rw [h2]; rfl) | (rw [h3]; rfl)
end
section
variable {ts : List Nd} {model : List Bool} {F : Int -> Int}
theorem nm_dist {M : List (Int × Int)} (i : Nat) {F : Int -> Int} (h : RB F i (WL M i)) : ∀ j k, j < k -> k < (WL M i).nm.length -> (WL M i).nm.getD j 0 ≠ (WL M i).nm.getD k 0 := by
 have hnd : ∀ i, ∀ j k, j < k -> k < (WL M i).nm.length -> (WL M i).nm.getD j 0 ≠ (WL M i).nm.getD k 0 := fun i => by
  induction i with
  | zero => intro j k _ hk; exact absurd hk (by show ¬ k < 0; omega)
  | succ i ih =>
   rw [WL]
   unfold stepV
   cases W7 M (i : Int) with
   | none => exact ih
   | some m =>
    show ∀ j k, j < k -> k < ((WL M i).nm ++ [(i : Int)]).length -> ((WL M i).nm ++ [(i : Int)]).getD j 0 ≠ ((WL M i).nm ++ [(i : Int)]).getD k 0
    intro j k hjk hk
    rw [List.length_append, List.length_singleton] at hk
    rw [W9 (show j < (WL M i).nm.length by omega)]
    by_cases hk2 : k < (WL M i).nm.length
    ·rw [W9 hk2]; exact ih j k hjk hk2
    ·rw [ZL (by omega), ZB (show j < (WL M i).nm.length by omega)]
     have := (mem_nm.1 (List.getElem_mem (show j < (WL M i).nm.length by omega))).2.1
     omega
 exact hnd i
theorem back_at (hts : Lot F ts) {j : Nat} (hj : j < (Qw ts).nm.length) : (backM (Qw ts) model).getD ((Qw ts).nm.getD j 0).toNat 0 = Fv.valM model ((Qw ts).ty.getD j 0) ((Qw ts).fi.getD j 0) :=
 out_at (W4 hts) (nm_dist 64 (W4 hts)) _ (Nat.le_refl _) j hj
theorem back_val (hts : Lot F ts) {j : Nat} (hj : j < (Qw ts).nm.length) : WM (backM (Qw ts) model) ((Qw ts).nm.getD j 0) = Fv.valM model ((Qw ts).ty.getD j 0) ((Qw ts).fi.getD j 0) := by
 unfold WM
 have h1 := (W4 hts).nm j hj
 have h2 := (back_len (model := model) (W4 hts)).2 j hj
 rw [if_pos (by omega)]
 exact back_at hts hj
theorem back_vok (hts : Lot F ts) : Vok (backM (Qw ts) model) := by
 have h := W4 hts
 refine ⟨by have := (back_len (model := model) h).1; omega, fun x hx => ?_⟩
 obtain ⟨m, hm, rfl⟩ := mem_getD hx
 by_cases hex : ∃ j, j < (Qw ts).nm.length /\ ((Qw ts).nm.getD j 0).toNat = m
 ·obtain ⟨j, hj, e⟩ := hex
  rw [<- e, back_at hts hj]
  have := valM_bd (model := model) ((Qw ts).ty.getD j 0) ((Qw ts).fi.getD j 0)
  exact ⟨this.1, this.2.1⟩
 ·have : (backM (Qw ts) model).getD m 0 = 0 := out_no (fun j hj e => hex ⟨j, hj, e⟩) _ (Nat.le_refl _)
  rw [this]; exact ⟨by decide, by decide⟩
theorem back_vtr (hts : Lot F ts) (hF : ∀ n, F n = 1 -> 0 <= n) : Vtr F (backM (Qw ts) model) := fun n hn => by
 have h := W4 hts
 by_cases hex : ∃ j, j < (Qw ts).nm.length /\ (Qw ts).nm.getD j 0 = n
 ·obtain ⟨j, hj, rfl⟩ := hex
  rw [back_val hts hj]
  exact (valM_bd _ _).2.2 (by rw [h.ty j hj]; exact hn)
 ·left
  have hn0 := hF n hn
  unfold WM
  split
  ·exact out_no (fun j hj e => hex ⟨j, hj, by have := (h.nm j hj).1; omega⟩) _ (Nat.le_refl _)
  ·rfl
theorem back_bit (hts : Lot F ts) {j k : Nat} (hj : j < (Qw ts).nm.length) (hk : (k : Int) < widI ((Qw ts).ty.getD j 0)) : bitV (backM (Qw ts) model) (Qw ts) j k = bm model ((Qw ts).fi.getD j 0 + (k : Int)).toNat := by
 unfold bitV
 have hr := (W4 hts).rng j hj
 rw [back_val hts hj, val_bit _ _ _ hk]
 unfold Fv.bitM bm
 congr 1; omega
theorem back_asg (hts : Lot F ts) {v : Int} (h1 : 2 <= v) (h2 : v <= (Qw ts).v) : asg (backM (Qw ts) model) (Qw ts) v.toNat = bm model v.toNat := by
 have h := W4 hts
 obtain ⟨j, hj, h3, h4⟩ := h.cov v h1 h2
 have e : v = (Qw ts).fi.getD j 0 + ((v - (Qw ts).fi.getD j 0).toNat : Int) := by omega
 have hk : ((v - (Qw ts).fi.getD j 0).toNat : Int) < widI ((Qw ts).ty.getD j 0) := by omega
 generalize (v - (Qw ts).fi.getD j 0).toNat = k at *
 have hb := asg_bit (vals := backM (Qw ts) model) h hj hk
 rw [back_bit hts hj hk, <- e] at hb
 unfold ltv at hb
 rw [if_pos (by omega)] at hb
 exact hb
def Sat (cl : List (List Int)) (model : List Bool) : Prop := ∀ c ∈ cl, ∃ x ∈ c, ltv (bm model) x = true
theorem one_mem (hts : Lot F ts) : [1] ∈ (Wo ts).1.cl := by
 have h2 := terms_le2 (A := (Qw ts).A) hts.ty ⟨(Qw ts).v, [[1]]⟩ ts.length (Nat.le_refl _)
 rw [List.take_length] at h2
 exact h2.sub [1] (List.mem_singleton.2 rfl)
theorem sat_true (hts : Lot F ts) (hF : ∀ n, F n = 1 -> 0 <= n) (nf : Zy (Wo ts).1 = false) (hs : Sat (Wo ts).1.cl model) : ∀ t ∈ ts, evN (backM (Qw ts) model) t = 1 := fun t ht => by
 obtain ⟨a, g, ag, hf⟩ := blast_sem hts (back_vok (model := model) hts) (back_vtr hts hF) nf
 have h1 : bm model 1 = true := by
  obtain ⟨x, hx, hxt⟩ := hs _ (one_mem hts)
  rw [List.mem_singleton.1 hx] at hxt
  exact hxt
 have hall : ∀ (m : Nat) (v : Int), v <= m -> 1 <= v -> v <= (Wo ts).1.vars -> bm model v.toNat = a v.toNat := fun m => by
  induction m with
  | zero => intro v h1 h2; omega
  | succ m ih =>
   intro v hm hv1 hv2
   rcases g.force v hv1 hv2 with ⟨hb1, hb2⟩ | ⟨c, hc, hmc, ho⟩
   ·rw [<- back_asg hts hb1 hb2, ag v.toNat (by omega)]
   ·obtain ⟨y, hy, hyt⟩ := hs c hc
    rcases ho y hy with e | ⟨hfy, hlo, hhi⟩
    ·rw [e] at hyt
     unfold al at hyt
     cases hav : a v.toNat with
     | true =>
      rw [hav, if_pos rfl] at hyt
      unfold ltv at hyt
      rw [if_pos (by omega)] at hyt
      exact hyt
     | false =>
      rw [hav, if_neg (by decide)] at hyt
      unfold ltv at hyt
      rw [if_neg (by omega), Int.neg_neg] at hyt
      simpa using hyt
    ·exfalso
     have hyl := g.lits c hc y hy
     have e : ltv (bm model) y = ltv a y := by
      unfold ltv
      by_cases hp : 0 < y
      ·rw [if_pos hp, if_pos hp, ih y (by omega) (by omega) (by omega)]
      ·rw [if_neg hp, if_neg hp, ih (-y) (by omega) (by have := hyl.1; omega) (by omega)]
     rw [e, hfy] at hyt
     cases hyt
 apply Decidable.byContradiction
 intro hne
 obtain ⟨x, x1, x2, x3⟩ := hf t ht hne
 obtain ⟨y, hy, hyt⟩ := hs _ x1
 have hyx : y = x := by simpa using (mem_kept.1 hy).1
 subst hyx
 have e : ltv (bm model) y = ltv a y := by
  obtain ⟨q1, q2, q3⟩ := x2
  unfold ltv
  by_cases hp : 0 < y
  ·rw [if_pos hp, if_pos hp, hall y.toNat y (by omega) (by omega) (by omega)]
  ·rw [if_neg hp, if_neg hp, hall (-y).toNat (-y) (by omega) (by omega) (by omega)]
 rw [e, x3] at hyt
 cases hyt
def chkB : Bool := (List.range 16).all fun x => (List.range 16).all fun y => !((ZD x 0 == ZD y 0) && (ZD x 1 == ZD y 1) && (ZD x 2 == ZD y 2) && (ZD x 3 == ZD y 3)) || decide (x = y)
theorem chkB_ok : chkB = true := by kernel_rfl
theorem wbit_inj {u v : Int} (hu : -8 <= u /\ u <= 7) (hv : -8 <= v /\ v <= 7) (h : ∀ k, k < 4 -> ZD (wN u) k = ZD (wN v) k) : u = v := by
 have h0 := h 0 (by omega)
 have h1 := h 1 (by omega)
 have h2 := h 2 (by omega)
 have h3 := h 3 (by omega)
 have hmain : ∀ x y : Nat, x < 16 -> y < 16 -> ZD x 0 = ZD y 0 -> ZD x 1 = ZD y 1 -> ZD x 2 = ZD y 2 -> ZD x 3 = ZD y 3 -> x = y := fun x y hx hy e0 e1 e2 e3 => by
  have h := chkB_ok
  unfold chkB at h
  have h1 := List.all_eq_true.1 h x (List.mem_range.2 hx)
  have h2 := List.all_eq_true.1 h1 y (List.mem_range.2 hy)
  rw [e0, e1, e2, e3] at h2
  simpa using h2
 have := hmain _ _ (wN_lt u) (wN_lt v) h0 h1 h2 h3
 unfold wN at this
 omega
theorem back_same (hts : Lot F ts) {vals : List Int} (hv : Vok vals) (hvt : Vtr F vals) {a : Nat -> Bool} (ag : Agree (Qw ts).v (asg vals (Qw ts)) a) {n : Nat} (hn : (Qw ts).v <= n) {j : Nat} (hj : j < (Qw ts).nm.length) :
  (backM (Qw ts) (mdl a n)).getD ((Qw ts).nm.getD j 0).toNat 0 = WM vals ((Qw ts).nm.getD j 0) := by
 have h := W4 hts
 have hr := h.rng j hj
 have hty := h.ty j hj
 have hbit : ∀ k : Nat, (k : Int) < widI ((Qw ts).ty.getD j 0) -> (bitsV (Fv.valM (mdl a n) ((Qw ts).ty.getD j 0) ((Qw ts).fi.getD j 0)) ((Qw ts).ty.getD j 0)).getD k false = (bitsV (WM vals ((Qw ts).nm.getD j 0)) ((Qw ts).ty.getD j 0)).getD k false := fun k hk => by
  have h1 := back_bit (model := mdl a n) hts hj hk
  have h2 := asg_bit (vals := vals) h hj hk
  rw [bm_mdl (by omega) (by omega), ag _ (by omega)] at h1
  unfold ltv at h2
  rw [if_pos (by omega)] at h2
  rw [h2] at h1
  unfold bitV at h1
  rw [back_val hts hj] at h1
  exact h1
 rw [back_at hts hj]
 have hb := valM_bd (model := mdl a n) ((Qw ts).ty.getD j 0) ((Qw ts).fi.getD j 0)
 have hvb := val_bd hv ((Qw ts).nm.getD j 0)
 generalize Fv.valM (mdl a n) ((Qw ts).ty.getD j 0) ((Qw ts).fi.getD j 0) = w at *
 by_cases h1 : (Qw ts).ty.getD j 0 = 1
 ·have := hbit 0 (by rw [h1]; decide)
  rw [h1] at this
  have this : decide (w = 1) = decide (WM vals ((Qw ts).nm.getD j 0) = 1) := this
  have h2 := hvt ((Qw ts).nm.getD j 0) (by rw [<- hty]; exact h1)
  rcases hb.2.2 h1 with e | e <;> rcases h2 with e' | e' <;> rw [e, e'] at this ⊢ <;> simp at this
 ·refine wbit_inj ⟨hb.1, hb.2.1⟩ hvb fun k hk => ?_
  have hw : (k : Int) < widI ((Qw ts).ty.getD j 0) := by unfold widI; rw [if_neg h1]; omega
  have := hbit k hw
  unfold bitsV at this
  rw [if_neg h1, if_neg h1] at this
  have hk4 : k = 0 \/ k = 1 \/ k = 2 \/ k = 3 := by omega
  rcases hk4 with rfl | rfl | rfl | rfl <;> exact this
theorem mdl_sat {base : Int -> Prop} {p : Prop} {a : Nat -> Bool} {s : St} (g : GoodB base p s.vars a s) (hp : p) : Sat s.cl (mdl a s.vars.toNat) := fun c hc => by
 obtain ⟨y, hy, hyt⟩ := g.sat c hc hp
 obtain ⟨q1, q2, q3⟩ := g.lits c hc y hy
 refine ⟨y, hy, ?_⟩
 rw [<- hyt]
 unfold ltv
 by_cases hp : 0 < y
 ·rw [if_pos hp, if_pos hp, bm_mdl (by omega) (by omega)]
 ·rw [if_neg hp, if_neg hp, bm_mdl (by omega) (by omega)]
end
end Go.Proofs
end
