/-
  Part 6 of the proof: LI CP AvD2 LV AvL5 GB AvB3 GC.
-/
import Derived.Test.YtnppaoeijmgneaaGreatDoorZA1
import Derived.Test.YtnppaoeijmgneaaGreatDoorZA2
import Derived.Test.YtnppaoeijmgneaaGreatDoorZA3
import Derived.Test.YtnppaoeijmgneaaGreatDoorZA4
import Derived.Test.YtnppaoeijmgneaaGreatDoorZA5
set_option linter.unusedSimpArgs false
set_option linter.unusedVariables false
set_option maxRecDepth 10000
set_option maxHeartbeats 4000000
section
namespace Go.Proofs
open Go.Av
variable {G : Nat -> DV}
attribute [local irreducible] OpSem ZA ZV Z8 ACalls AEnd AClose RV
open Go.Bl
def befP (ks : List Nd) : Nat := (ks.map fun x => nlC (Zo x)).sum
theorem befP_take {ks : List Nd} {i : Nat} (h : i < ks.length) : befP (ks.take (i + 1)) = befP (ks.take i) + nlC (Zo ks[i]) := by
 unfold befP
 rw [List.take_succ_eq_append_getElem h, List.map_append, List.sum_append]; simp
theorem befP_le : ∀ (ks : List Nd), okL ks -> QT ks <= 1000000 -> befP ks <= 7000000 * QT ks
 | [], _, _ => by simp [befP]
 | x :: r, h, hs => by
  rw [okL] at h
  rw [QT] at hs ⊢
  have h1 := print_len x h.1 (by omega)
  have h2 := nl_le (Zo x)
  have h3 := befP_le r h.2 (by omega)
  have : befP (x :: r) = nlC (Zo x) + befP r := by unfold befP; rw [List.map_cons, List.sum_cons]
  rw [this, Nat.mul_add]; omega
def stepL (k : Int) (ks : List Nd) (a : Int) : Int :=
 if k = 27 \/ k = 13 then 1 + (befP (ks.take a.toNat) : Nat) else if (k = 17 /\ a = 2) \/ (k = 21 /\ a = 1) then (nlC (Zo (ks.getD (a - 1).toNat (.mk 0 0 0 []))) : Nat) - 1 else 0
def lineGo : List Int -> Nd -> Int -> Int
 | [], _, at_ => at_
 | a :: p, .mk k n m ks, at_ => lineGo p (ks.getD a.toNat (.mk 0 0 0 [])) (at_ + stepL k ks a)
def kindN : Nd -> Int
 | .mk k _ _ _ => k
def lineM (t : Nd) (path : List Int) : Int := if atM path t = none \/ kindN t ≠ 27 \/ Zo t = [] then 0 else lineGo path t 1
theorem okL_at {ks : List Nd} (h : okL ks) {i : Nat} (hi : i < ks.length) : okN ks[i] := Za h (List.getElem_mem hi)
theorem step_bound {k : Int} {n m : Int} {ks : List Nd} {a : Int} (hok : okN (.mk k n m ks)) (hs : QI (.mk k n m ks) <= 1000000) (h0 : 0 <= a) (h1 : a.toNat < ks.length) :
  -1 <= stepL k ks a /\ stepL k ks a + 8000000 * (QI ks[a.toNat] : Int) <= 8000000 * (QI (.mk k n m ks) : Int) := by
 rw [okN] at hok
 rw [QI] at hs ⊢
 have hsm := WK (List.getElem_mem h1)
 unfold stepL
 split
 ·have hb := befP_le (ks.take a.toNat) (okL_take hok.2 _) (by have := WY ks a.toNat; omega)
  have ht := qG ks a.toNat h1
  have hl := WY ks (a.toNat + 1)
  omega
 ·split
  ·rename_i hc
   have h3 : (a - 1).toNat < ks.length := by omega
   have e : ks.getD (a - 1).toNat (.mk 0 0 0 []) = ks[(a - 1).toNat] := by rw [List.getD_eq_getElem?_getD, List.getElem?_eq_getElem h3]; rfl
   rw [e]
   have hp := print_len _ (okL_at hok.2 h3) (by have := WK (List.getElem_mem h3); omega)
   have hn := nl_le (Zo ks[(a - 1).toNat])
   have ht := qG ks (a - 1).toNat h3
   have e2 : a.toNat = (a - 1).toNat + 1 := by omega
   have h4 : (a - 1).toNat + 1 < ks.length := by omega
   have ht2 := qG ks ((a - 1).toNat + 1) h4
   have hl := WY ks ((a - 1).toNat + 1 + 1)
   have hx : QI ks[a.toNat] = QI ks[(a - 1).toNat + 1] := by simp only [e2]
   omega
  ·omega
theorem before_c (hG : G 6 = pow10T) (hG1 : G 1 = spaceT) (k n m : Int) (ks : List Nd) (hok : okL ks) (hs : QT ks <= 1000000) (a : Int) (h0 : 0 <= a) (h1 : a.toNat < ks.length) (at_ : Int) (ha1 : -5000000000000000000 <= at_) (ha2 : at_ <= 9000000000000) (c5 : List DV) (g2 g5 g7 g9 B : Nat) :
  ACalls Tryz.prog G B 68 [.ptr 0 g2 0, .ptr 3 g9 0, .ptr 2 g7 0] [.row g2 [.i k, .i n, .i m, Wi ks], .row g5 c5, .row g7 [.i at_], .row g9 [.i a]] (fun d τ => d = .tup [] /\ τ = [.row g2 [.i k, .i n, .i m, Wi ks], .row g5 c5, .row g7 [.i (at_ + (befP (ks.take a.toNat) : Nat))], .row g9 [.i a]]) := by
 have hln := Zq ks
 refine Qa Tryz.func68 rfl Tryz.ntmps68 rfl (t := [(0, .ptr 0 g2 0), (1, .ptr 3 g9 0), (2, .ptr 2 g7 0)]) rfl fun E hE => ?_
 (repeat' first | (refine Qo ?_; (first | (refine Qj ?_; refine QU rfl ?_) | (refine Ql ?_; refine Qf rfl rfl rfl ?_) | (refine Qk ?_; refine Q6 rfl ?_) | (refine Qb ?_; refine Qg rfl rfl ?_) | (refine Zx ?_; refine s_slice_h rfl rfl (by omega) (by omega) ?_))) | (refine Qv ?_; (first | refine Qu ?_ | refine QY rfl ?_)) | (refine Qs ?_; (first | refine Qw ?_ | refine Qc ?_ | refine Qm ?_)))
 have hsub : ∀ (i : Nat) (h : i < (ks.take a.toNat).length), Go.Av.Pure Tryz.prog G 18 [.agg (Enc.enc (ks.take a.toNat)[i])] (W6 (Zo (ks.take a.toNat)[i])) /\ Go.Av.Pure Tryz.prog G 69 [W6 (Zo (ks.take a.toNat)[i])] (.i (nlC (Zo (ks.take a.toNat)[i]))) := fun i h => by
  have hm : (ks.take a.toNat)[i] ∈ ks := List.mem_of_mem_take (List.getElem_mem h)
  have hsz := WK hm
  have hle := print_len _ (Za hok hm) (by omega)
  exact ⟨print_c hG hG1 _ (Za hok hm) (by omega), lines_c _ (print_asc _) (by omega)⟩
 have hbl := befP_le (ks.take a.toNat) (okL_take hok _) (by have := WY ks a.toNat; omega)
 have hsl := WY ks a.toNat
 have hbm : ∀ i, befP ((ks.take a.toNat).take i) <= 7000000000000 := fun i => by
  have h2 := befP_le ((ks.take a.toNat).take i) (okL_take (okL_take hok _) _) (by have := WY (ks.take a.toNat) i; omega)
  have := WY (ks.take a.toNat) i; omega
 have hll2 : (ks.take a.toNat).length <= 1000000 := by rw [List.length_take]; omega
 generalize hll : ks.take a.toNat = l at *
 refine Z5 (fun (i : Nat) => ⟨[(2, .ptr 2 g7 0), (8, Wi l), (9, .i l.length), (10, .i i)], [.row g2 [.i k, .i n, .i m, Wi ks], .row g5 c5, .row g7 [.i (at_ + (befP (l.take i) : Nat))], .row g9 [.i a]]⟩) (fun i => i <= l.length) (fun i => l.length - i) 0 ?_ (by omega) ?_
 ·rw [show at_ + ((befP (l.take 0) : Nat) : Int) = at_ by simp [befP]]
  exact zal rfl
 intro i hi
 have hb0 := hbm i
 by_cases hil : i < l.length
 ·obtain ⟨hp1, hl1⟩ := hsub i hil
  have hst := befP_take hil
  have hb1 := hbm (i + 1)
  have e : at_ + ((befP (l.take (i + 1)) : Nat) : Int) = at_ + ((befP (l.take i) : Nat) : Int) + ((nlC (Zo l[i]) : Nat) : Int) := by rw [hst]; omega
  clear hsub hbm
  (repeat' first | (refine Qo ?_; (first | (refine Qj ?_; refine QU rfl ?_) | (refine Ql ?_; refine Wj rfl ?_) | (refine QN ?_; refine Q9 rfl rfl (by first | assumption | omega | (simp; done) | (simp; omega)) ?_) | (refine Qh ?_; (first | refine Wh rfl rfl ?_ | refine Zr rfl rfl (by omega) ?_)) | (refine Qx ?_; (first | refine Qe rfl rfl rfl (by first | assumption | exact Enc.len _ | rfl) (by first | assumption | exact Enc.len _ | rfl) rfl ?_ | refine Q8 rfl rfl rfl rfl (by rfl) (by rfl) (by rfl) ?_)) | (refine QG ?_; refine QD (fun _ _ => ?_)))) | (refine Qv ?_; (first | refine Qu ?_ | refine QY rfl ?_ | refine Q1 ?_)) | (refine Qs ?_; (first | refine Qw ?_ | refine Qc ?_ | refine Qm ?_ | (refine WJ ?_; first | refine Ws (by rfl) (by kernel_rfl) (by kernel_rfl) ?_ | refine Wr (by kernel_rfl) (by kernel_rfl) ?_) | refine QR ?_ | refine Qr rfl (by omega) ?_)) | (refine g_lex ?_; (first | refine x_op rfl (by (repeat' first | (refine Qo ?_; (first | (refine Ql ?_; (first | refine Qi rfl rfl (by first | assumption | exact Enc.len _ | rfl) ?_ | refine Qf rfl rfl rfl ?_)) | (refine Qh ?_; refine Zr rfl rfl (by omega) ?_) | (refine Qk ?_; (first | refine W5 rfl rfl (hp1) ?_ | refine W5 rfl rfl (hl1) ?_)))) | exact ⟨rfl, rfl⟩)) ?_ | refine x_nil ?_)))
  refine ⟨i + 1, by omega, by omega, ?_⟩
  rw [e]
  exact zal rfl
 ·have hie : i = l.length := by omega
  subst hie
  rw [List.take_length]
  clear hsub hbm
  (repeat' first | (refine Qo ?_; (refine Qh ?_; refine Wh rfl rfl ?_)) | (refine Qv ?_; (first | refine Qu ?_ | refine QY rfl ?_)) | (refine Qs ?_; (first | refine Qw ?_ | refine Qc ?_ | refine Qn rfl (by omega) ?_ | refine WI rfl ?_)))
  exact e_0 (Tryz.results68) (Zi (σ := [_, _, _, _]) ⟨rfl, rfl⟩)
theorem line_c1 (hG : G 6 = pow10T) (hG1 : G 1 = spaceT) (t : Nd) (hok : okN t) (hs : QI t <= 1000000) (path : List Int) (hpl : path.length <= 4611686018427387904) : Go.Av.Pure Tryz.prog G 26 [.agg (Enc.enc t), Wi path] (.i (lineM t path)) := fun B => by
 have hat := trAt_c (G := G) t hs path hpl
 have hpt := print_c hG hG1 t hok hs
 unfold lineM
 cases ha : atM path t with
 | none =>
  rw [ha] at hat
  have hat : Go.Av.Pure Tryz.prog G 67 [.agg (Enc.enc t), Wi path] (.tup [.agg (Enc.enc (Nd.mk 0 0 0 [])), .b false]) := hat
  rw [if_pos (by simp)]
  refine Qa Tryz.func26 rfl Tryz.ntmps26 rfl (t := [(0, .agg (Enc.enc t)), (1, Wi path)]) rfl fun E hE => ?_
  (repeat' first | (refine Qo ?_; (first | (refine Qj ?_; refine QU rfl ?_) | (refine Qd ?_; refine Q5 rfl ?_) | (refine Ql ?_; refine Qi rfl rfl (by first | assumption | exact Enc.len _ | rfl) ?_) | (refine Qk ?_; refine ZY rfl rfl hat (Zd (WB (W0 (Enc.clo _)) (WB Wy Zh))) ?_) | (refine QJ ?_; refine Ze rfl rfl ?_) | (refine Qx ?_; refine Qe rfl rfl rfl (by first | assumption | exact Enc.len _ | rfl) (by first | assumption | exact Enc.len _ | rfl) rfl ?_) | (refine WQ ?_; refine Zv rfl ?_) | (refine ZK ?_; refine ZI rfl rfl rfl ?_) | (refine QG ?_; refine QD (fun _ _ => ?_)) | (refine Wx ?_; refine Ww rfl rfl (fun _ _ => ?_)))) | (refine Qv ?_; (first | refine Qu ?_ | refine QY rfl ?_ | refine Q1 ?_ | refine Zl rfl rfl rfl rfl ?_)) | (refine Qs ?_; (first | refine Qw ?_ | refine Qc ?_ | refine QB rfl ?_ | refine QM ?_)))
  all_goals exact e_1 (Tryz.results26) (QQ rfl) (Q2 rfl)
 | some x =>
 rw [ha] at hat
 have hat : Go.Av.Pure Tryz.prog G 67 [.agg (Enc.enc t), Wi path] (.tup [.agg (Enc.enc x), .b true]) := hat
 obtain ⟨k, n, m, ks⟩ := t
 rw [Q3 k n m ks] at hat hpt ⊢
 by_cases hk : k = 27
 case neg =>
  rw [if_pos (by simp [kindN, hk])]
  refine Qa Tryz.func26 rfl Tryz.ntmps26 rfl (t := [(0, .agg [.i k, .i n, .i m, Wi ks]), (1, Wi path)]) rfl fun E hE => ?_
  (repeat' first | (refine Qo ?_; (first | (refine Qj ?_; refine QU rfl ?_) | (refine Qd ?_; refine Q5 rfl ?_) | (refine Ql ?_; (first | refine Qi rfl rfl (by first | assumption | exact Enc.len _ | rfl) ?_ | refine Qf rfl rfl rfl ?_)) | (refine Qh ?_; refine s_neq rfl rfl ?_) | (refine Qk ?_; refine ZY rfl rfl hat (Zd (WB (W0 (Enc.clo _)) (WB Wy Zh))) ?_) | (refine QJ ?_; (first | refine Ze rfl rfl ?_ | refine WZ rfl rfl ?_)) | (refine Qx ?_; refine Qe rfl rfl rfl (by first | assumption | exact Enc.len _ | rfl) (by first | assumption | exact Enc.len _ | rfl) rfl ?_) | (refine WQ ?_; refine Zv rfl ?_) | (refine Qb ?_; refine Qg rfl rfl ?_) | (refine ZK ?_; refine ZI rfl rfl rfl ?_) | (refine QG ?_; refine QD (fun _ _ => ?_)) | (refine Wx ?_; refine Ww rfl rfl (fun _ _ => ?_)))) | (refine Qv ?_; (first | refine Qu ?_ | refine QY rfl ?_ | refine Q1 ?_ | refine WX rfl rfl rfl rfl ?_ | refine Zl rfl rfl rfl rfl ?_ | refine Wv rfl rfl (by omega) ?_)) | (refine Qs ?_; (first | refine Qw ?_ | refine Qc ?_ | refine QB rfl ?_ | refine QM ?_)))
  all_goals exact e_1 (Tryz.results26) (QQ rfl) (Q2 rfl)
 by_cases hp0 : Zo (.mk k n m ks) = []
 ·have hd : decide (Zo (.mk k n m ks) = []) = true := decide_eq_true hp0
  rw [if_pos (by simp [hp0])]
  refine Qa Tryz.func26 rfl Tryz.ntmps26 rfl (t := [(0, .agg [.i k, .i n, .i m, Wi ks]), (1, Wi path)]) rfl fun E hE => ?_
  (repeat' first | (refine Qo ?_; (first | (refine Qj ?_; refine QU rfl ?_) | (refine Qd ?_; refine Q5 rfl ?_) | (refine Ql ?_; (first | refine Qi rfl rfl (by first | assumption | exact Enc.len _ | rfl) ?_ | refine Qf rfl rfl rfl ?_)) | (refine Qh ?_; (first | refine WC rfl rfl ?_ | refine s_neq rfl rfl ?_)) | (refine Qk ?_; (first | refine ZY rfl rfl hat (Zd (WB (W0 (Enc.clo _)) (WB Wy Zh))) ?_ | refine W5 rfl rfl (hpt) ?_)) | (refine QJ ?_; refine WZ rfl rfl ?_) | (refine Qx ?_; refine Qe rfl rfl rfl (by first | assumption | exact Enc.len _ | rfl) (by first | assumption | exact Enc.len _ | rfl) rfl ?_) | (refine WQ ?_; refine Zv rfl ?_) | (refine Qb ?_; refine Qg rfl rfl ?_) | (refine ZK ?_; refine ZI rfl rfl rfl ?_) | (refine QG ?_; refine QD (fun _ _ => ?_)) | (refine Wx ?_; refine Ww rfl rfl (fun _ _ => ?_)))) | (refine Qv ?_; (first | refine Qu ?_ | refine QY rfl ?_ | refine Q1 ?_ | refine WX rfl rfl rfl rfl ?_ | refine We rfl rfl (by omega) ?_)) | (refine Qs ?_; (first | refine Qw ?_ | refine Qc ?_ | refine Qr rfl (by omega) ?_ | refine QM ?_)))
  all_goals exact e_1 (Tryz.results26) (QQ rfl) (Q2 rfl)
 have hd : decide (Zo (.mk k n m ks) = []) = false := decide_eq_false hp0
 subst hk
 rw [if_neg (by simp [kindN, hp0])]
 refine Qa Tryz.func26 rfl Tryz.ntmps26 rfl (t := [(0, .agg [.i 27, .i n, .i m, Wi ks]), (1, Wi path)]) rfl fun E hE => ?_
 (repeat' first | (refine Qo ?_; (first | (refine Qj ?_; refine QU rfl ?_) | (refine Qd ?_; refine Q5 rfl ?_) | (refine Ql ?_; (first | refine Qi rfl rfl (by first | assumption | exact Enc.len _ | rfl) ?_ | refine Qf rfl rfl rfl ?_)) | (refine Qh ?_; (first | refine WC rfl rfl ?_ | refine s_neq rfl rfl ?_)) | (refine Qk ?_; (first | refine ZY rfl rfl hat (Zd (WB (W0 (Enc.clo _)) (WB Wy Zh))) ?_ | refine W5 rfl rfl (hpt) ?_ | refine Q6 rfl ?_)) | (refine QJ ?_; refine WZ rfl rfl ?_) | (refine Qx ?_; (first | refine Qe rfl rfl rfl (by first | assumption | exact Enc.len _ | rfl) (by first | assumption | exact Enc.len _ | rfl) rfl ?_ | refine Q8 rfl rfl rfl rfl (by rfl) (by rfl) (by rfl) ?_)) | (refine WQ ?_; refine Zv rfl ?_) | (refine Qb ?_; refine Qg rfl rfl ?_) | (refine ZK ?_; refine ZI rfl rfl rfl ?_) | (refine QG ?_; refine QD (fun _ _ => ?_)) | (refine Wx ?_; refine Ww rfl rfl (fun _ _ => ?_)))) | (refine Qv ?_; (first | refine Qu ?_ | refine QY rfl ?_ | refine Q1 ?_ | refine WX rfl rfl rfl rfl ?_)) | (refine Qs ?_; (first | refine Qw ?_ | refine Qc ?_ | refine Qm ?_ | refine QR ?_ | refine Qn rfl (by omega) ?_)))
 rename_i g2 hg2 g5 hg5 g7 hg7
 clear hpt hat
 rw [<- Q3 27 n m ks]
 generalize hT : Nd.mk 27 n m ks = t at *
 generalize (Enc.enc x : List DV) = c5 at *
 refine r_loop3 (fun (j : Nat) (cur : Nd) (at_ : Int) => ⟨[(2, .ptr 0 g2 0), (7, .ptr 2 g7 0), (29, Wi path), (30, .i path.length), (31, .i j)], [.row g2 (Enc.enc cur), .row g5 c5, .row g7 [.i at_]]⟩) (fun j cur at_ => j <= path.length /\ atM path t = atM (path.drop j) cur /\ lineGo path t 1 = lineGo (path.drop j) cur at_ /\ okN cur /\ QI cur <= 1000000 /\ -(j : Int) <= at_ /\ at_ + 8000000 * (QI cur : Int) <= 1 + 8000000 * (QI t : Int)) (fun j _ _ => path.length - j) 0 t 1 ?_ ⟨by omega, by simp, by simp, hok, hs, by omega, by omega⟩ ?_
 ·exact zal rfl
 intro j cur at_ ⟨hj, he, hgo, hco, hcs, hlo, hhi⟩
 clear hT hok n m ks
 obtain ⟨k, n, m, ks⟩ := cur
 have hpos := QZ (.mk k n m ks)
 have hse : QI (.mk k n m ks) = 1 + QT ks := by rw [QI]
 have hln := Zq ks
 rw [Q3]
 by_cases hjl : j < path.length
 case neg =>
  have hje : j = path.length := by omega
  subst hje
  rw [List.drop_length, lineGo] at hgo
  rw [hgo]
  (repeat' first | (refine Qo ?_; (first | (refine Qd ?_; refine Q5 rfl ?_) | (refine Ql ?_; refine Qf rfl rfl rfl ?_) | (refine Qh ?_; refine Wh rfl rfl ?_))) | (refine Qv ?_; (first | refine Qu ?_ | refine QY rfl ?_)) | (refine Qs ?_; (first | refine Qw ?_ | refine Qc ?_ | refine Qn rfl (by omega) ?_ | refine WI rfl ?_ | refine QM ?_)))
  all_goals exact e_1 (Tryz.results26) (QQ rfl) (Q2 rfl)
 rw [List.drop_eq_getElem_cons hjl] at he hgo
 have hc : 0 <= path[j] /\ path[j].toNat < ks.length := by
  rcases Classical.em (0 <= path[j] /\ path[j].toNat < ks.length) with h | h
  ·exact h
  ·rw [atM_none (by omega), ha] at he; cases he
 rw [atM_cons hc.1 hc.2] at he
 have hgd : ks.getD path[j].toNat (.mk 0 0 0 []) = ks[path[j].toNat] := by rw [List.getD_eq_getElem?_getD, List.getElem?_eq_getElem hc.2]; rfl
 rw [lineGo, hgd] at hgo
 have hsb := step_bound hco hcs hc.1 hc.2
 have hco2 := hco
 rw [okN] at hco2
 have hsm := WK (List.getElem_mem hc.2)
 have hcN : okN ks[path[j].toNat] := okL_at hco2.2 hc.2
 obtain ⟨hc0, hc1⟩ := hc
 unfold stepL at hgo hsb
 by_cases hk1 : k = 27 \/ k = 13
 ·rw [if_pos hk1] at hgo hsb
  have hbef := fun (g2 g5 g9 g7 : Nat) => before_c (G := G) hG hG1 k n m ks hco2.2 (by omega) path[j] hc0 hc1 (at_ + 1) (by omega) (by omega) c5 g2 g5 g7 g9 E.N
  have e3 : at_ + (1 + ((befP (ks.take path[j].toNat) : Nat) : Int)) = at_ + 1 + ((befP (ks.take path[j].toNat) : Nat) : Int) := by omega
  rw [e3] at hgo
  rcases hk1 with hk1 | hk1
  all_goals
   (repeat' first | (refine Qo ?_; (first | (refine Qj ?_; refine QU rfl ?_) | (refine Qd ?_; refine Q5 rfl ?_) | (refine Ql ?_; (first | refine Wl rfl ?_ | refine Wj rfl ?_ | refine Qf rfl rfl rfl ?_)) | (refine QN ?_; (first | refine Q9 rfl rfl (by first | assumption | omega | (simp; done) | (simp; omega)) ?_ | refine s_idx_sl rfl rfl (by omega) (by first | assumption | omega | (simp; done) | (simp; omega)) ?_)) | (refine Qh ?_; (first | refine Wh rfl rfl ?_ | refine Wc rfl rfl ?_ | refine Zr rfl rfl (by omega) ?_)) | (refine Qk ?_; refine qj rfl rfl (hbef _ _ _ _) ?_) | (refine Qx ?_; (first | refine Qe rfl rfl rfl (by first | assumption | exact Enc.len _ | rfl) (by first | assumption | exact Enc.len _ | rfl) rfl ?_ | refine Q8 rfl rfl rfl rfl (by rfl) (by rfl) (by rfl) ?_)) | (refine Qb ?_; refine Qg rfl rfl ?_) | (refine QW ?_; refine QV rfl rfl ?_) | (refine QG ?_; refine QD (fun _ _ => ?_)))) | (refine Qv ?_; (first | refine Qu ?_ | refine QY rfl ?_ | refine Q1 ?_)) | (refine Qs ?_; (first | refine Qw ?_ | refine Qc ?_ | refine Qm ?_ | refine QR ?_ | refine Qr rfl (by omega) ?_ | refine Qn rfl (by omega) ?_)))
   refine ⟨j + 1, ks[path[j].toNat], _, ⟨by omega, he, hgo, hcN, by omega, by omega, by omega⟩, by omega, ?_⟩
   exact zal rfl
 rw [if_neg hk1] at hgo hsb
 have hbef : True := trivial
 by_cases hk2 : (k = 17 /\ path[j] = 2) \/ (k = 21 /\ path[j] = 1)
 ·rw [if_pos hk2] at hgo hsb
  have h3 : (path[j] - 1).toNat < ks.length := by omega
  have h30 : 0 <= path[j] - 1 := by omega
  have e4 : ks.getD (path[j] - 1).toNat (.mk 0 0 0 []) = ks[(path[j] - 1).toNat] := by rw [List.getD_eq_getElem?_getD, List.getElem?_eq_getElem h3]; rfl
  rw [e4] at hgo hsb
  have hsz3 := WK (List.getElem_mem h3)
  have hpl3 := print_len _ (okL_at hco2.2 h3) (by omega)
  have hnl3 := nl_le (Zo ks[(path[j] - 1).toNat])
  have hp1 := print_c (G := G) hG hG1 _ (okL_at hco2.2 h3) (by omega)
  have hl1 := lines_c (G := G) (Zo ks[(path[j] - 1).toNat]) (print_asc _) (by omega)
  rcases hk2 with hk2 | hk2
  all_goals
   (repeat' first | (refine Qo ?_; (first | (refine Qj ?_; refine QU rfl ?_) | (refine Qd ?_; refine Q5 rfl ?_) | (refine Ql ?_; (first | refine Wl rfl ?_ | refine Wj rfl ?_ | refine Qf rfl rfl rfl ?_)) | (refine QN ?_; (first | refine Q9 rfl rfl (by first | assumption | omega | (simp; done) | (simp; omega)) ?_ | refine s_idx_sl rfl rfl (by omega) (by first | assumption | omega | (simp; done) | (simp; omega)) ?_)) | (refine Qh ?_; (first | refine Wh rfl rfl ?_ | refine Wc rfl rfl ?_ | refine Zr rfl rfl (by omega) ?_)) | (refine QJ ?_; (first | refine Ze rfl rfl ?_ | refine WZ rfl rfl ?_)) | (refine Qx ?_; (first | refine Qe rfl rfl rfl (by first | assumption | exact Enc.len _ | rfl) (by first | assumption | exact Enc.len _ | rfl) rfl ?_ | refine Q8 rfl rfl rfl rfl (by rfl) (by rfl) (by rfl) ?_)) | (refine Qb ?_; refine Qg rfl rfl ?_) | (refine QW ?_; refine QV rfl rfl ?_) | (refine QG ?_; refine QD (fun _ _ => ?_)))) | (refine Qv ?_; (first | refine Qu ?_ | refine QY rfl ?_ | refine Q1 ?_ | refine WX rfl rfl rfl rfl ?_ | refine Zl rfl rfl rfl rfl ?_ | refine Wv rfl rfl (by omega) ?_ | refine We rfl rfl (by omega) ?_)) | (refine Qs ?_; (first | refine Qw ?_ | refine Qc ?_ | refine Qm ?_ | (refine WJ ?_; first | refine Ws (by rfl) (by kernel_rfl) (by kernel_rfl) ?_ | refine Wr (by kernel_rfl) (by kernel_rfl) ?_) | refine QR ?_ | refine QH rfl ?_ | refine Qr rfl (by omega) ?_ | refine Qn rfl (by omega) ?_)) | (refine g_lex ?_; (first | refine x_op rfl (by (repeat' first | (refine Qo ?_; (first | (refine Ql ?_; (first | refine Wj rfl ?_ | refine Qf rfl rfl rfl ?_)) | (refine QN ?_; refine s_idx_sl rfl rfl (by omega) (by first | assumption | omega | (simp; done) | (simp; omega)) ?_) | (refine Qh ?_; (first | refine Zr rfl rfl (by omega) ?_ | refine W1 rfl rfl (by omega) ?_)) | (refine Qk ?_; (first | refine W5 rfl rfl (hp1) ?_ | refine W5 rfl rfl (hl1) ?_)) | (refine Qb ?_; refine Qg rfl rfl ?_))) | exact ⟨rfl, rfl⟩)) ?_ | refine x_nil ?_)))
   refine ⟨j + 1, ks[path[j].toNat], _, ⟨by omega, he, hgo, hcN, by omega, by omega, by omega⟩, by omega, ?_⟩
   exact zal rfl
 ·rw [if_neg hk2] at hgo hsb
  rw [Int.add_zero] at hgo
  (repeat' first | (refine Qo ?_; (first | (refine Qj ?_; refine QU rfl ?_) | (refine Qd ?_; refine Q5 rfl ?_) | (refine Ql ?_; (first | refine Wl rfl ?_ | refine Wj rfl ?_ | refine Qf rfl rfl rfl ?_)) | (refine QN ?_; (first | refine Q9 rfl rfl (by first | assumption | omega | (simp; done) | (simp; omega)) ?_ | refine s_idx_sl rfl rfl (by omega) (by first | assumption | omega | (simp; done) | (simp; omega)) ?_)) | (refine Qh ?_; (first | refine Wh rfl rfl ?_ | refine Wc rfl rfl ?_ | refine Zr rfl rfl (by omega) ?_)) | (refine QJ ?_; (first | refine Ze rfl rfl ?_ | refine WZ rfl rfl ?_)) | (refine Qx ?_; (first | refine Qe rfl rfl rfl (by first | assumption | exact Enc.len _ | rfl) (by first | assumption | exact Enc.len _ | rfl) rfl ?_ | refine Q8 rfl rfl rfl rfl (by rfl) (by rfl) (by rfl) ?_)) | (refine Qb ?_; refine Qg rfl rfl ?_) | (refine QW ?_; refine QV rfl rfl ?_) | (refine QG ?_; refine QD (fun _ _ => ?_)))) | (refine Qv ?_; (first | refine Qu ?_ | refine QY rfl ?_ | refine Q1 ?_ | refine WX rfl rfl rfl rfl ?_ | refine Zl rfl rfl rfl rfl ?_ | refine We rfl rfl (by omega) ?_ | refine qW rfl rfl (fun _ => ?_) (fun _ => ?_))) | (refine Qs ?_; (first | refine Qw ?_ | refine Qc ?_ | refine Qm ?_ | refine QR ?_ | refine QH rfl ?_ | refine Qr rfl (by omega) ?_ | refine Qn rfl (by omega) ?_)))
  all_goals
   refine ⟨j + 1, ks[path[j].toNat], _, ⟨by omega, he, hgo, hcN, by omega, by omega, by omega⟩, by omega, ?_⟩
   exact zal rfl
theorem nan_c (a : Int) : Go.Av.Pure Tryz.prog G 124 [.i a] (.b false) := fun B => by
 refine Qa Tryz.func124 rfl Tryz.ntmps124 rfl (t := [(0, .i a)]) rfl fun E hE => ?_
 (repeat' first | (refine Qo ?_; (first | (refine Qj ?_; refine QU rfl ?_) | (refine Qd ?_; refine Q5 rfl ?_) | (refine Qh ?_; refine s_neq rfl rfl ?_))) | (refine Qv ?_; (first | refine Qu ?_ | refine QY rfl ?_)) | (refine Qs ?_; (first | refine Qw ?_ | refine Qc ?_ | refine QM ?_)))
 refine e_1 Tryz.results124 (QQ rfl) (Q2 ?_)
 simp
theorem cmpI_c (a : Int) : Go.Av.Pure Tryz.prog G 77 [.i a, .i a] (.i 0) := fun B => by
 refine Qa Tryz.func77 rfl Tryz.ntmps77 rfl (t := [(0, .i a), (1, .i a)]) rfl fun E hE => ?_
 (repeat' first | (refine Qo ?_; (first | (refine Qj ?_; refine QU rfl ?_) | (refine Qd ?_; refine Q5 rfl ?_) | (refine Qh ?_; (first | refine Wh rfl rfl ?_ | refine ZM rfl rfl ?_)) | (refine Qk ?_; refine W5 rfl rfl (nan_c _) ?_))) | (refine Qv ?_; (first | refine Qu ?_ | refine QY rfl ?_)) | (refine Qs ?_; (first | refine Qw ?_ | refine Qc ?_ | refine QR ?_ | refine QH rfl ?_ | refine Qn rfl (by omega) ?_ | refine QM ?_)))
 refine e_1 Tryz.results77 (QQ rfl) (Q2 ?_)
 rfl
theorem or_c (l : List Int) (hl : l.length <= 4) (h : ∀ x ∈ l, x = 0) : Go.Av.Pure Tryz.prog G 76 [Wi l] (.i 0) := fun B => by
 refine Qa Tryz.func76 rfl Tryz.ntmps76 rfl (t := [(0, Wi l)]) rfl fun E hE => ?_
 (repeat' first | (refine Qo ?_; (first | (refine Qj ?_; refine QU rfl ?_) | (refine Qd ?_; refine Q5 rfl ?_) | (refine Qk ?_; refine Q6 rfl ?_))) | (refine Qv ?_; (first | refine Qu ?_ | refine QY rfl ?_)) | (refine Qs ?_; (first | refine Qw ?_ | refine Qc ?_ | refine Qm ?_)))
 refine Z5 (fun (i : Nat) => ⟨[(3, .i 0), (6, Wi l), (7, .i l.length), (8, .i i)], []⟩) (fun i => i <= l.length) (fun i => l.length - i) 0 ?_ (by omega) ?_
 ·exact zal rfl
 intro i hi
 by_cases hil : i < l.length
 ·have h0 := h _ (List.getElem_mem hil)
  (repeat' first | (refine Qo ?_; (first | (refine Qj ?_; refine QU rfl ?_) | (refine Qd ?_; refine Q5 rfl ?_) | (refine Ql ?_; refine Wl rfl ?_) | (refine QN ?_; refine Q9 rfl rfl (by first | assumption | omega | (simp; done) | (simp; omega)) ?_) | (refine Qh ?_; (first | refine Wh rfl rfl ?_ | refine s_neq rfl rfl ?_ | refine Zr rfl rfl (by omega) ?_)))) | (refine Qv ?_; (first | refine Qu ?_ | refine QY rfl ?_)) | (refine Qs ?_; (first | refine Qw ?_ | refine Qc ?_ | refine Qm ?_ | refine QR ?_ | refine Qr rfl (by omega) ?_ | refine Qn rfl (by omega) ?_)))
  refine ⟨i + 1, by omega, by omega, ?_⟩
  exact zal rfl
 ·(repeat' first | (refine Qo ?_; (first | (refine Qj ?_; refine QU rfl ?_) | (refine Qd ?_; refine Q5 rfl ?_) | (refine Qh ?_; refine Wh rfl rfl ?_))) | (refine Qv ?_; (first | refine Qu ?_ | refine QY rfl ?_)) | (refine Qs ?_; (first | refine Qw ?_ | refine Qc ?_ | refine Qn rfl (by omega) ?_ | refine WI rfl ?_ | refine QM ?_)))
  refine e_1 Tryz.results76 (QQ rfl) (Q2 ?_)
  rfl
theorem cmpF_c (l : List Nd) (hl : l.length <= 1000000) (h : ∀ x ∈ l, Go.Av.Pure Tryz.prog G 32 [.agg (Enc.enc x), .agg (Enc.enc x)] (.i 0)) : Go.Av.Pure Tryz.prog G 78 [Wi l, Wi l, .fn (.func 32) [] []] (.i 0) := fun B => by
 refine Qa Tryz.func78 rfl Tryz.ntmps78 rfl (t := [(0, Wi l), (1, Wi l), (2, .fn (.func 32) [] [])]) rfl fun E hE => ?_
 (repeat' first | (refine Qo ?_; (first | (refine Qj ?_; refine QU rfl ?_) | (refine Qd ?_; refine Q5 rfl ?_) | (refine Qk ?_; refine Q6 rfl ?_))) | (refine Qv ?_; (first | refine Qu ?_ | refine QY rfl ?_)) | (refine Qs ?_; (first | refine Qw ?_ | refine Qc ?_ | refine Qm ?_)))
 refine Z5 (fun (i : Nat) => ⟨[(0, Wi l), (1, Wi l), (2, .fn (.func 32) [] []), (11, Wi l), (12, .i l.length), (13, .i i)], []⟩) (fun i => i <= l.length) (fun i => l.length - i) 0 ?_ (by omega) ?_
 ·exact zal rfl
 intro i hi
 by_cases hil : i < l.length
 ·have hfi := h _ (List.getElem_mem hil)
  clear h
  (repeat' first | (refine Qo ?_; (first | (refine Qj ?_; refine QU rfl ?_) | (refine Qd ?_; refine Q5 rfl ?_) | (refine Ql ?_; (first | refine Qi rfl rfl (by first | assumption | exact Enc.len _ | rfl) ?_ | refine Wj rfl ?_)) | (refine QN ?_; refine Q9 rfl rfl (by first | assumption | omega | (simp; done) | (simp; omega)) ?_) | (refine Qh ?_; (first | refine Wh rfl rfl ?_ | refine Zu rfl rfl ?_ | refine s_neq rfl rfl ?_ | refine Zr rfl rfl (by omega) ?_)) | (refine Qk ?_; (first | refine Q6 rfl ?_ | refine qt rfl (hfi) (by repeat' first | exact Wy | exact WP _ | exact WN (Q7 _) | exact Q7 _ | refine Z2 ?_ ?_ | refine ZQ ?_ | refine Zd ?_ | refine W0 ?_ | exact Zh | refine WB ?_ ?_ | refine WN ?_) ?_)) | (refine Qx ?_; refine Qe rfl rfl rfl (by first | assumption | exact Enc.len _ | rfl) (by first | assumption | exact Enc.len _ | rfl) rfl ?_) | (refine QG ?_; refine QD (fun _ _ => ?_)))) | (refine Qv ?_; (first | refine Qu ?_ | refine QY rfl ?_ | refine Q1 ?_)) | (refine Qs ?_; (first | refine Qw ?_ | refine Qc ?_ | refine Qm ?_ | refine QR ?_ | refine QH rfl ?_ | refine Qr rfl (by omega) ?_ | refine Qn rfl (by omega) ?_)))
  refine ⟨i + 1, by omega, by omega, ?_⟩
  exact zal rfl
 ·clear h
  (repeat' first | (refine Qo ?_; (first | (refine Qj ?_; refine QU rfl ?_) | (refine Qd ?_; refine Q5 rfl ?_) | (refine Qh ?_; refine Wh rfl rfl ?_) | (refine Qk ?_; refine Q6 rfl ?_))) | (refine Qv ?_; (first | refine Qu ?_ | refine QY rfl ?_)) | (refine Qs ?_; (first | refine Qw ?_ | refine Qc ?_ | refine QR ?_ | refine Qn rfl (by omega) ?_ | refine WI rfl ?_ | refine QM ?_)))
  refine e_1 Tryz.results78 (QQ rfl) (Q2 ?_)
  rfl
theorem trCompare_c (t : Nd) : QI t <= 1000000 -> Go.Av.Pure Tryz.prog G 32 [.agg (Enc.enc t), .agg (Enc.enc t)] (.i 0) := by
 induction t using Nd.ind with
 | h k n m ks ih =>
 intro hsz B
 have hse : QI (.mk k n m ks) = 1 + QT ks := by rw [QI]
 rw [hse] at hsz
 have hln := Zq ks
 have hcf := cmpF_c (G := G) ks (by omega) fun x hx => ih x hx (by have := WK hx; omega)
 have h4 : ∀ x ∈ [(0 : Int), 0, 0, 0], x = 0 := by decide
 clear ih
 rw [Q3]
 refine Qa Tryz.func32 rfl Tryz.ntmps32 rfl (t := [(0, .agg [.i k, .i n, .i m, Wi ks]), (1, .agg [.i k, .i n, .i m, Wi ks])]) rfl fun E hE => ?_
 (repeat' first | (refine Qo ?_; (first | (refine Qd ?_; refine Q5 rfl ?_) | (refine Wx ?_; refine Ww rfl rfl (fun _ _ => ?_)))) | (refine Qv ?_; (first | refine Qu ?_ | refine QY rfl ?_)) | (refine Qs ?_; (first | refine Qw ?_ | refine Qc ?_ | (refine WJ ?_; first | refine Ws (by rfl) (by kernel_rfl) (by kernel_rfl) ?_ | refine Wr (by kernel_rfl) (by kernel_rfl) ?_) | refine QM ?_)) | (refine g_lex ?_; (first | refine x_op rfl (by (repeat' first | (refine Qo ?_; (first | (refine Qd ?_; refine Q5 rfl ?_) | (refine Ql ?_; refine Qf rfl rfl rfl ?_) | (refine Qk ?_; (first | refine W5 rfl rfl (cmpI_c _) ?_ | refine W5 rfl rfl (or_c _ (by decide) h4) ?_ | refine W5 rfl rfl (hcf) ?_)) | (refine QK ?_; refine Z3 (cs := WH [(0 : Int), 0, 0, 0]) rfl rfl (by decide) rfl ?_) | (refine Qb ?_; refine Qg rfl rfl ?_))) | exact ⟨rfl, rfl⟩)) ?_ | refine x_nil ?_)))
 all_goals exact e_1 (Tryz.results32) (QQ rfl) (Q2 rfl)
theorem sign_c (a : Int) : Go.Av.Pure Tryz.prog G 120 [.i a, .i a] (.i 0) := fun B => by
 refine Qa Tryz.func120 rfl Tryz.ntmps120 rfl (t := [(0, .i a), (1, .i a)]) rfl fun E hE => ?_
 (repeat' first | (refine Qo ?_; (first | (refine Qj ?_; refine QU rfl ?_) | (refine Qd ?_; refine Q5 rfl ?_) | (refine Qh ?_; (first | refine Wh rfl rfl ?_ | refine ZM rfl rfl ?_)))) | (refine Qv ?_; (first | refine Qu ?_ | refine QY rfl ?_)) | (refine Qs ?_; (first | refine Qw ?_ | refine Qc ?_ | refine QR ?_ | refine Qn rfl (by omega) ?_ | refine QM ?_)))
 refine e_1 Tryz.results120 (QQ rfl) (Q2 ?_)
 rfl
theorem r05Compare_c (t : Nd) : QI t <= 1000000 -> Go.Av.Pure Tryz.prog G 66 [.agg (Enc.enc t), .agg (Enc.enc t)] (.i 0) := by
 induction t using Nd.ind with
 | h k n m ks ih =>
 intro hsz B
 have hse : QI (.mk k n m ks) = 1 + QT ks := by rw [QI]
 rw [hse] at hsz
 have hln := Zq ks
 have hx : ∀ x ∈ ks, Go.Av.Pure Tryz.prog G 66 [.agg (Enc.enc x), .agg (Enc.enc x)] (.i 0) := fun x hx => ih x hx (by have := WK hx; omega)
 clear ih
 rw [Q3]
 refine Qa Tryz.func66 rfl Tryz.ntmps66 rfl (t := [(0, .agg [.i k, .i n, .i m, Wi ks]), (1, .agg [.i k, .i n, .i m, Wi ks])]) rfl fun E hE => ?_
 (repeat' first | (refine Qo ?_; (first | (refine Qd ?_; refine Q5 rfl ?_) | (refine Ql ?_; refine Qf rfl rfl rfl ?_) | (refine QK ?_; refine Z3 (cs := WH [(k : Int), n, m]) rfl rfl (by decide) rfl ?_) | (refine Qb ?_; refine Qg rfl rfl ?_) | (refine Wx ?_; refine Ww rfl rfl (fun _ _ => ?_)))) | (refine Qv ?_; (first | refine Qu ?_ | refine QY rfl ?_)) | (refine Qs ?_; (first | refine Qw ?_ | refine Qc ?_ | refine Qm ?_)))
 rename_i g2 hg2 g3 hg3
 generalize hxs : [k, n, m] = xs at *
 have hxl : xs.length = 3 := by rw [<- hxs]; rfl
 refine Z5 (fun (i : Nat) => ⟨[(2, .ptr 0 g2 0), (3, .ptr 1 g3 0), (5, Wi xs), (6, Wi xs), (7, .i i)], [.row g2 [.i k, .i n, .i m, Wi ks], .row g3 [.i k, .i n, .i m, Wi ks]]⟩) (fun i => i <= 3) (fun i => 3 - i) 0 ?_ (by omega) ?_
 ·exact zal rfl
 intro i hi
 by_cases hil : i < 3
 ·have hil2 : i < xs.length := by omega
  (repeat' first | (refine Qo ?_; (first | (refine Qj ?_; refine QU rfl ?_) | (refine Qd ?_; refine Q5 rfl ?_) | (refine Qh ?_; (first | refine Wh rfl rfl ?_ | refine Zr rfl rfl (by omega) ?_)))) | (refine Qv ?_; (first | refine Qu ?_ | refine QY rfl ?_)) | (refine Qs ?_; (first | refine Qw ?_ | refine Qc ?_ | refine Qm ?_ | (refine WJ ?_; first | refine Ws (by rfl) (by kernel_rfl) (by kernel_rfl) ?_ | refine Wr (by kernel_rfl) (by kernel_rfl) ?_) | refine QR ?_ | refine Qr rfl (by omega) ?_ | refine Qn rfl (by omega) ?_)) | (refine g_lex ?_; (first | refine x_op rfl (by (repeat' first | (refine Qo ?_; (first | (refine Qj ?_; refine QU rfl ?_) | (refine Ql ?_; refine Wl rfl ?_) | (refine QN ?_; refine Q9 rfl rfl (by first | assumption | omega | (simp; done) | (simp; omega)) ?_) | (refine Qh ?_; refine s_neq rfl rfl ?_))) | exact ⟨rfl, rfl⟩)) ?_ | refine x_nil ?_)))
  all_goals
   refine ⟨i + 1, by omega, by omega, ?_⟩
   exact zal rfl
 ·(repeat' first | (refine Qo ?_; (first | (refine Qj ?_; refine QU rfl ?_) | (refine Qd ?_; refine Q5 rfl ?_) | (refine Qh ?_; refine Wh rfl rfl ?_))) | (refine Qv ?_; (first | refine Qu ?_ | refine QY rfl ?_)) | (refine Qs ?_; (first | refine Qw ?_ | refine Qc ?_ | refine Qm ?_ | refine Qn rfl (by omega) ?_ | refine WI rfl ?_)))
  refine Z5 (fun (i : Nat) => ⟨[(2, .ptr 0 g2 0), (3, .ptr 1 g3 0), (8, .i i)], [.row g2 [.i k, .i n, .i m, Wi ks], .row g3 [.i k, .i n, .i m, Wi ks]]⟩) (fun i => i <= ks.length) (fun i => ks.length - i) 0 ?_ (by omega) ?_
  ·exact zal rfl
  intro i hi
  by_cases hil : i < ks.length
  ·have hi1 := hx _ (List.getElem_mem hil)
   clear hx
   (repeat' first | (refine Qo ?_; (first | (refine Qj ?_; refine QU rfl ?_) | (refine Qd ?_; refine Q5 rfl ?_) | (refine Ql ?_; refine Qf rfl rfl rfl ?_) | (refine Qh ?_; (first | refine Wh rfl rfl ?_ | refine s_neq rfl rfl ?_ | refine Zr rfl rfl (by omega) ?_)) | (refine Qk ?_; refine Q6 rfl ?_) | (refine QJ ?_; refine Ze rfl rfl ?_) | (refine Qb ?_; refine Qg rfl rfl ?_))) | (refine Qv ?_; (first | refine Qu ?_ | refine QY rfl ?_ | refine WX rfl rfl rfl rfl ?_ | refine Wv rfl rfl (by omega) ?_)) | (refine Qs ?_; (first | refine Qw ?_ | refine Qc ?_ | refine Qm ?_ | (refine WJ ?_; first | refine Ws (by rfl) (by kernel_rfl) (by kernel_rfl) ?_ | refine Wr (by kernel_rfl) (by kernel_rfl) ?_) | refine QR ?_ | refine QH rfl ?_ | refine Qr rfl (by omega) ?_)) | (refine g_lex ?_; (first | refine x_op rfl (by (repeat' first | (refine Qo ?_; (first | (refine Qj ?_; refine QU rfl ?_) | (refine Qd ?_; refine Q5 rfl ?_) | (refine Ql ?_; (first | refine Wj rfl ?_ | refine Qf rfl rfl rfl ?_)) | (refine QN ?_; refine Q9 rfl rfl (by first | assumption | omega | (simp; done) | (simp; omega)) ?_) | (refine Qk ?_; refine W5 rfl rfl (hi1) ?_) | (refine Qb ?_; refine Qg rfl rfl ?_))) | exact ⟨rfl, rfl⟩)) ?_ | refine x_nil ?_)))
   all_goals
    refine ⟨i + 1, by omega, by omega, ?_⟩
    exact zal rfl
  ·clear hx
   (repeat' first | (refine Qo ?_; (first | (refine Qj ?_; refine QU rfl ?_) | (refine Qd ?_; refine Q5 rfl ?_) | (refine Ql ?_; refine Qf rfl rfl rfl ?_) | (refine Qh ?_; refine Wh rfl rfl ?_) | (refine Qk ?_; (first | refine Q6 rfl ?_ | refine W5 rfl rfl (sign_c _) ?_)) | (refine QJ ?_; refine WZ rfl rfl ?_) | (refine Qb ?_; refine Qg rfl rfl ?_))) | (refine Qv ?_; (first | refine Qu ?_ | refine QY rfl ?_ | refine Zl rfl rfl rfl rfl ?_ | refine We rfl rfl (by omega) ?_)) | (refine Qs ?_; (first | refine Qw ?_ | refine Qc ?_ | refine QH rfl ?_ | refine WI rfl ?_ | refine QM ?_)))
   all_goals exact e_1 (Tryz.results66) (QQ rfl) (Q2 rfl)
theorem r05Same_c (t : Nd) (hsz : QI t <= 1000000) : Go.Av.Pure Tryz.prog G 25 [.agg (Enc.enc t), .agg (Enc.enc t)] (.b true) := fun B => by
 have hcc := r05Compare_c (G := G) t hsz
 refine Qa Tryz.func25 rfl Tryz.ntmps25 rfl (t := [(0, .agg (Enc.enc t)), (1, .agg (Enc.enc t))]) rfl fun E hE => ?_
 (repeat' first | (refine Qo ?_; (first | (refine Qd ?_; refine Q5 rfl ?_) | (refine Ql ?_; refine Qi rfl rfl (by first | assumption | exact Enc.len _ | rfl) ?_) | (refine Qh ?_; refine Wc rfl rfl ?_) | (refine Qk ?_; refine W5 rfl rfl (hcc) ?_) | (refine Wx ?_; refine Ww rfl rfl (fun _ _ => ?_)))) | (refine Qv ?_; (first | refine Qu ?_ | refine QY rfl ?_)) | (refine Qs ?_; (first | refine Qw ?_ | refine Qc ?_ | refine QM ?_)))
 all_goals exact e_1 (Tryz.results25) (QQ rfl) (Q2 rfl)
end Go.Proofs
end
section
namespace Go.Av
open Go.Bl
inductive DSub : DV -> DV -> Prop
 | refl (d : DV) : DSub d d
 | nil (es : Nat) : DSub (.sc (.slice none 0 0)) (.sl es [])
 | sl (es : Nat) (cs cs' : List DV) : cs.length = cs'.length -> (∀ (j : Nat) (d d' : DV), cs[j]? = some d -> cs'[j]? = some d' -> DSub d d') -> DSub (.sl es cs) (.sl es cs')
 | agg (cs cs' : List DV) : cs.length = cs'.length -> (∀ (j : Nat) (d d' : DV), cs[j]? = some d -> cs'[j]? = some d' -> DSub d d') -> DSub (.agg cs) (.agg cs')
 | tup (cs cs' : List DV) : cs.length = cs'.length -> (∀ (j : Nat) (d d' : DV), cs[j]? = some d -> cs'[j]? = some d' -> DSub d d') -> DSub (.tup cs) (.tup cs')
theorem DSub.one {d d' : DV} (h : DSub d d') : d.one = true -> d'.one = true := by
 cases h with
 | refl => exact id
 | nil => intro _; rfl
 | sl => intro _; rfl
 | agg => intro h; cases h
 | tup => intro h; cases h
theorem dsub_get {cs cs' : List DV} (hl : cs.length = cs'.length) (j : Nat) (d' : DV) (hj : cs'[j]? = some d') : ∃ d, cs[j]? = some d := ⟨cs[j]'(by rw [hl]; exact (List.getElem?_eq_some_iff.1 hj).1), List.getElem?_eq_getElem _⟩
theorem DSub.rep {L : Lay} {d d' : DV} (h : DSub d d') : ∀ {v : Value}, VRep L d v -> VRep L d' v := by
 induction h with
 | refl => exact id
 | nil es => intro v hv; exact nil_str hv
 | sl es cs cs' hl hs ih =>
  intro v hv
  obtain ⟨a, len, cap, f, rfl, h1, h2, h3, h4, h5⟩ := hv.sl_inv
  refine .sl _ _ _ _ _ f (by rw [h1, hl]) h2 (fun d' hd => ?_) ?_ (fun j d' hj => ?_)
  ·obtain ⟨j, hj⟩ := List.mem_iff_getElem?.1 hd
   obtain ⟨d, hd0⟩ := dsub_get hl j d' hj
   exact (hs j d d' hd0 hj).one (h3 d (List.mem_of_getElem? hd0))
  ·rcases h4 with h4 | ⟨b, o, h6, h7⟩
   ·left
    subst h4
    exact List.eq_nil_of_length_eq_zero hl.symm
   ·right
    exact ⟨b, o, h6, fun j hj => h7 j (by rw [hl]; exact hj)⟩
  ·obtain ⟨d, hd0⟩ := dsub_get hl j d' hj
   exact ih j d d' hd0 hj (h5 j d hd0)
 | agg cs cs' hl hs ih =>
  intro v hv
  cases hv with | agg _ vs h1 h2 h3 =>
  refine .agg _ _ (by rw [h1, hl]) (fun d' hd => ?_) fun j d' hj => ?_
  ·obtain ⟨j, hj⟩ := List.mem_iff_getElem?.1 hd
   obtain ⟨d, hd0⟩ := dsub_get hl j d' hj
   exact (hs j d d' hd0 hj).one (h2 d (List.mem_of_getElem? hd0))
  ·obtain ⟨d, hd0⟩ := dsub_get hl j d' hj
   exact ih j d d' hd0 hj (h3 j d hd0)
 | tup cs cs' hl hs ih =>
  intro v hv
  cases hv with | tup _ vs h1 h3 =>
  refine .tup _ _ (by rw [h1, hl]) fun j d' hj => ?_
  obtain ⟨d, hd0⟩ := dsub_get hl j d' hj
  exact ih j d d' hd0 hj (h3 j d hd0)
theorem dsub_nil : ∀ (j : Nat) (e e' : DV), ([] : List DV)[j]? = some e -> ([] : List DV)[j]? = some e' -> DSub e e' := fun j e e' h => by simp at h
theorem dsub_cons {d d' : DV} {r r' : List DV} (h : DSub d d') (k : ∀ (j : Nat) (e e' : DV), r[j]? = some e -> r'[j]? = some e' -> DSub e e') : ∀ (j : Nat) (e e' : DV), (d :: r)[j]? = some e -> (d' :: r')[j]? = some e' -> DSub e e' := fun j e e' h1 h2 => by
 cases j with
 | zero => simp at h1 h2; subst h1 h2; exact h
 | succ j => exact k j e e' (by simpa using h1) (by simpa using h2)
section
variable {E : AX} {R : DV -> List ABlk -> Prop}
theorem c_sub {d d2 : DV} {σ : List ABlk} (h : DSub d d2) (k : AClose E R d2 σ) : AClose E R d σ := c_conv (fun L v hv => h.rep hv) k
end
end Go.Av
end
section
namespace Go.Proofs
open Go.Av
variable {G : Nat -> DV}
attribute [local irreducible] OpSem ZA ZV Z8 ACalls AEnd AClose RV
open Go.Bl
def exN : Nd := .mk 27 0 0 [.mk 26 1 0 [.mk 0 0 0 [], .mk 13 0 0 [.mk 14 0 0 [.mk 9 0 0 [.mk 6 0 0 [], .mk 4 1 0 []]], .mk 19 0 0 [.mk 6 0 0 []]]]]
def sEx1 : List UInt8 := [112, 114, 111, 103, 114, 97, 109, 32, 48, 10, 102, 117, 110, 32, 49, 32, 40, 105, 110, 116, 41, 32, 123, 10, 32, 32, 118, 48, 32, 61, 32, 40, 118, 48, 32, 43, 32, 49, 41, 10, 32, 32, 114, 101, 116, 117, 114, 110, 32, 118, 48, 10, 125, 10]
def sEx2 : List UInt8 := [112, 114, 111, 103, 114, 97, 109, 32, 48, 32, 102, 117, 110, 32, 49, 32, 40, 105, 110, 116, 41, 32, 123, 32, 114, 101, 116, 117, 114, 110, 32, 40, 118, 48, 41, 32, 125]
theorem ex_par1 : parseM zP sEx1 = (exN, -1) := by kernel_rfl
theorem ex_par2 : (parseM zP sEx2).2 = 34 := by decide +kernel
theorem ex_pr : Zo exN = sEx1 := by decide +kernel
theorem ex_l1 : lineM exN [0, 1, 0, 0] = 3 := by kernel_rfl
theorem ex_l2 : lineM exN [0, 1, 2] = 0 := by kernel_rfl
theorem example_c : Go.Av.Pure Tryz.prog G 57 [] (.agg (Enc.enc exN)) := fun B => by
 refine Qa Tryz.func57 rfl Tryz.ntmps57 rfl (t := []) rfl fun E hE => ?_
 (repeat' first | (refine Qo ?_; (first | (refine Ql ?_; refine Qi rfl rfl (by first | assumption | exact Enc.len _ | rfl) ?_) | (refine Qx ?_; refine Qe rfl rfl rfl (by first | assumption | exact Enc.len _ | rfl) (by first | assumption | exact Enc.len _ | rfl) rfl ?_) | (refine QK ?_; refine Z3 rfl rfl (by decide) rfl ?_) | (refine QS ?_; refine QC rfl rfl ?_) | (refine QG ?_; refine QD (fun _ _ => ?_)))) | (refine Qv ?_; (first | refine Qu ?_ | refine QY rfl ?_ | refine Q1 ?_)) | (refine Qs ?_; (first | refine Qw ?_ | refine Qc ?_ | refine QM ?_)))
 refine e_1 (Tryz.results57) (QA (size := 4) rfl rfl rfl rfl) (c_sub ?_ (Q2 rfl))
 unfold exN
 repeat' first | exact .refl _ | exact .nil _ | exact dsub_nil | refine dsub_cons ?_ ?_ | refine .agg _ _ rfl ?_ | refine .sl _ _ _ rfl ?_
theorem lives_c (hG0 : G 0 = shapesT) (hG1 : G 1 = spaceT) (hG : G 6 = pow10T) : Go.Av.Pure Tryz.prog G 20 [] (.b true) := fun B => by
 have hex := example_c (G := G)
 have hp1 := parse_c hG0 hG1 sEx1 (by decide)
 rw [ex_par1] at hp1
 have hp2 := parse_c hG0 hG1 sEx2 (by decide)
 rw [ex_par2] at hp2
 have hok : okN exN := by unfold exN; simp [okN, okL, i64]
 have hsz : QI exN <= 1000000 := by decide +kernel
 have hpr := print_c hG hG1 exN hok hsz
 rw [ex_pr] at hpr
 have hsm := r05Same_c (G := G) exN hsz
 have hl1 := line_c1 hG hG1 exN hok hsz [0, 1, 0, 0] (by decide)
 rw [ex_l1] at hl1
 have hl2 := line_c1 hG hG1 exN hok hsz [0, 1, 2] (by decide)
 rw [ex_l2] at hl2
 have hd : decide (sEx1 = sEx1) = true := decide_eq_true rfl
 generalize (parseM zP sEx2).1 = x2 at *
 refine Qa Tryz.func20 rfl Tryz.ntmps20 rfl (t := []) rfl fun E hE => ?_
 (repeat' first | (refine Qo ?_; (first | (refine Qj ?_; refine QU rfl ?_) | (refine Qd ?_; refine Q5 rfl ?_) | (refine Ql ?_; refine Qi rfl rfl (by first | assumption | exact Enc.len _ | rfl) ?_) | (refine Qh ?_; (first | refine Wc rfl rfl ?_ | refine WC rfl rfl ?_)) | (refine Qk ?_; (first | refine ZY rfl rfl hex (W0 (Enc.clo _)) ?_ | refine ZY rfl rfl hp1 (Zd (WB (W0 (Enc.clo _)) (WB Wy Zh))) ?_ | refine ZY rfl rfl hp2 (Zd (WB (W0 (Enc.clo _)) (WB Wy Zh))) ?_ | refine W5 rfl rfl (hpr) ?_ | refine W5 rfl rfl (hsm) ?_ | refine W5 rfl rfl (hl1) ?_ | refine W5 rfl rfl (hl2) ?_)) | (refine QJ ?_; refine Ze rfl rfl ?_) | (refine Qx ?_; refine Qe rfl rfl rfl (by first | assumption | exact Enc.len _ | rfl) (by first | assumption | exact Enc.len _ | rfl) rfl ?_) | (refine QK ?_; (first | refine Z3 (cs := WH [(0 : Int), 1, 0, 0]) rfl rfl (by decide) rfl ?_ | refine Z3 (cs := WH [(0 : Int), 1, 2]) rfl rfl (by decide) rfl ?_)) | (refine ZK ?_; refine ZI rfl rfl rfl ?_) | (refine QG ?_; refine QD (fun _ _ => ?_)))) | (refine Qv ?_; (first | refine Qu ?_ | refine QY rfl ?_ | refine Q1 ?_ | refine WX rfl rfl rfl rfl ?_)) | (refine Qs ?_; (first | refine Qw ?_ | refine Qc ?_ | refine QM ?_)))
 all_goals exact e_1 (Tryz.results20) (QQ rfl) (Q2 (by simp))
end Go.Proofs
end
section
namespace Go.Av
theorem r_loop5 {P : Program} {G : Nat -> DV} {E : AX} {n : Nat} {N : ASt -> Prop} {xs : List (Nat × (ASt -> Prop))} {R : ASt -> Prop} {st : ASt} {c : Code} {α β γ δ ε : Type} (I : α -> β -> γ -> δ -> ε -> ASt) (pre : α -> β -> γ -> δ -> ε -> Prop) (μ : α -> β -> γ -> δ -> ε -> Nat) (x0 : α) (y0 : β) (z0 : γ) (u0 : δ) (v0 : ε) (h0 : ALe st (I x0 y0 z0 u0 v0)) (hp0 : pre x0 y0 z0 u0 v0)
  (round : ∀ x y z u v, pre x y z u v -> ZA P G E n c (fun st' => ∃ x' y' z' u' v', pre x' y' z' u' v' /\ μ x' y' z' u' v' < μ x y z u v /\ ALe st' (I x' y' z' u' v')) xs R (I x y z u v)) : ZA P G E n (.loop c) N xs R st :=
 Z5 (fun s : α × β × γ × δ × ε => I s.1 s.2.1 s.2.2.1 s.2.2.2.1 s.2.2.2.2) (fun s => pre s.1 s.2.1 s.2.2.1 s.2.2.2.1 s.2.2.2.2) (fun s => μ s.1 s.2.1 s.2.2.1 s.2.2.2.1 s.2.2.2.2) (x0, y0, z0, u0, v0) h0 hp0 fun s hs a w hr => wp_mono (round s.1 s.2.1 s.2.2.1 s.2.2.2.1 s.2.2.2.2 hs a w hr) fun e a' w' ⟨st', hr', hq⟩ => ⟨st', hr', by
  cases e with
  | normal => obtain ⟨x', y', z', u', v', h1, h2, h3⟩ := hq; exact ⟨(x', y', z', u', v'), h1, h2, h3⟩
  | exit id => exact hq
  | ret => exact hq
  | goto l => exact hq
  | _ => exact hq⟩
end Go.Av
end
section
namespace Go.Proofs
open Go.Av
variable {G : Nat -> DV}
attribute [local irreducible] OpSem ZA ZV Z8 ACalls AEnd AClose RV
open Go.Bl
def preE (a L : Int) : Prop := 0 <= a /\ a + 4 * L <= 1000000000 /\ -100 <= L /\ L <= 500
structure QE (w : Int) (dep : Nat) (c1 c : Int) (v : Nd) (a L a' L' : Int) : Prop where
 fit : WF v w = true
 dep : Wn v <= dep
 size : L' + (QI v : Int) <= L
 low : L - c1 <= L' \/ -c <= L'
 mono : a <= a'
 used : a' + 4 * L' <= a + 4 * L
structure QL (w : Int) (dep : Nat) (n c : Int) (ks : List Nd) (a L a' L' : Int) : Prop where
 fit : ∀ x ∈ ks, WF x w = true
 dep : ∀ x ∈ ks, Wn x <= dep
 size : L' + (QT ks : Int) <= L
 low : L - n <= L' \/ -(c + n - 1) <= L'
 mono : a <= a'
 used : a' + 4 * L' <= a + 4 * L
theorem run_q {E : GenF} {w : Int} {dep : Nat} {c : Int} (hc : 0 <= c /\ c <= 40) (hE : ∀ a L, preE a L -> QE w dep 1 c (E a L).1 a L (E a L).2.1 (E a L).2.2) : ∀ (n : Nat) (a L : Int), n <= 10 -> preE a L -> -50 <= L - n -> QL w dep n c (runM E n a L).1 a L (runM E n a L).2.1 (runM E n a L).2.2
 | 0, a, L, _, h, _ => by
  rw [runM]
  exact ⟨fun x hx => (by cases hx), fun x hx => (by cases hx), by simp [QT], .inl (by simp), by simp, by simp⟩
 | n + 1, a, L, hn, h, h50 => by
  have h1 := hE a L h
  obtain ⟨p1, p2, p3, p4⟩ := h
  have hs := QZ (E a L).1
  have q1 := h1.low
  have q2 := h1.mono
  have q3 := h1.used
  have q4 := h1.size
  have ih := run_q hc hE n (E a L).2.1 (E a L).2.2 (by omega) ⟨by omega, by omega, by omega, by omega⟩ (by omega)
  have r1 := ih.low
  have r2 := ih.mono
  have r3 := ih.used
  have r4 := ih.size
  rw [runM]
  generalize runM E n (E a L).2.1 (E a L).2.2 = R at *
  generalize E a L = e at *
  refine ⟨fun x hx => ?_, fun x hx => ?_, ?_, ?_, ?_, ?_⟩
  ·rcases List.mem_cons.1 hx with rfl | hx
   ·exact h1.fit
   ·exact ih.fit x hx
  ·rcases List.mem_cons.1 hx with rfl | hx
   ·exact h1.dep
   ·exact ih.dep x hx
  ·rw [QT]; dsimp only; omega
  ·dsimp only; omega
  ·dsimp only; omega
  ·dsimp only; omega
theorem chLeaf (l : List Int) (hl : OkI l) (dd a L : Int) (h : preE a L) (hd : dd <= 0 \/ (0 < dd /\ L - 1 <= 0)) (hd2 : -10 <= dd /\ dd <= 10) :
  ∃ t : Nd × Int × Int, QE 4 1 1 0 t.1 a L t.2.1 t.2.2 /\ CE Tryz.prog G 125 (fun p g => [.ptr p g 0, .i dd]) (genC l a L) (.agg (Enc.enc t.1)) (genC l t.2.1 t.2.2) := by
 obtain ⟨p1, p2, p3, p4⟩ := h
 have bx := QX l a (most := 12) (by decide)
 have b16 := QX l (a + 1) (most := 16) (by decide)
 have b2 := QX l (a + 1) (most := 2) (by decide)
 have b6 := QX l (a + 1) (most := 6) (by decide)
 have b3 := QX l (a + 1) (most := 3) (by decide)
 have b14 := QX l (a + 1) (most := 14) (by decide)
 have b32 := QX l (a + 1 + 1) (most := 3) (by decide)
 have b4 := QX l (a + 1 + 1) (most := 4) (by decide)
 have hx : atI l a 12 % 4 = 0 \/ atI l a 12 % 4 = 1 \/ atI l a 12 % 4 = 2 \/ atI l a 12 % 4 = 3 := by omega
 rcases hd with hd | hd
 ·rcases hx with hx | hx | hx | hx
  ·refine ⟨((.mk 4 (atI l (a + 1) 16 - 8) (0) []), a + 1 + 1, L - 1), ?_, fun g B hg => ?_⟩
   ·refine ⟨WT ⟨4, -8, 7, 0, [], 0, 0, 0⟩ rfl (by decide) (by decide) (by dsimp only; omega) (by dsimp only; omega) (by first | (simp; done) | (simp; omega)) (kids0), ?_, ?_, ?_, ?_, ?_⟩
    ·rw [Wn]; (try simp only [Wo, qD, qR]); omega
    ·rw [QI]; (try simp only [QT]); omega
    ·dsimp only; omega
    ·dsimp only; omega
    ·dsimp only; omega
   ·refine Qa Tryz.func125 rfl Tryz.ntmps125 rfl (t := [(0, .ptr 0 g 0), (1, .i dd)]) rfl fun E0 hE0 => ?_
    (repeat' first | (refine Qo ?_; (first | (refine Qj ?_; refine QU rfl ?_) | (refine Qd ?_; refine Q5 rfl ?_) | (refine Ql ?_; refine Qf rfl rfl rfl ?_) | (refine Qh ?_; (first | refine W1 rfl rfl (by omega) ?_ | refine W3 rfl rfl ?_ | refine Wc rfl rfl ?_ | refine qe rfl rfl (by first | omega | exact nn_shr (by omega)) (by omega) ?_)) | (refine Qk ?_; refine Wf 0 (Wm l hl _ _ _ (by omega) (by omega)) rfl rfl rfl rfl ?_) | (refine QJ ?_; refine Ze rfl rfl ?_) | (refine Qx ?_; (first | refine Qe rfl rfl rfl (by first | assumption | exact Enc.len _ | rfl) (by first | assumption | exact Enc.len _ | rfl) rfl ?_ | refine Q8 rfl rfl rfl rfl (by rfl) (by rfl) (by rfl) ?_)) | (refine Qb ?_; refine Qg rfl rfl ?_) | (refine QS ?_; refine QC rfl rfl ?_) | (refine Qy ?_; refine Qt rfl rfl ?_) | (refine QG ?_; refine QD (fun _ _ => ?_)))) | (refine Qv ?_; (first | refine Qu ?_ | refine QY rfl ?_ | refine Q1 ?_ | refine Zl rfl rfl rfl rfl ?_ | refine Wv rfl rfl (by omega) ?_)) | (refine Qs ?_; (first | refine Qw ?_ | refine Qc ?_ | refine Qm ?_ | refine QB rfl ?_ | refine Qr rfl (by omega) ?_ | refine QM ?_)))
    exact e_1 (Tryz.results125) (QA (size := 4) rfl rfl rfl rfl) (W7 (es := 4) (.node rfl rfl rfl) (by show _ = DV.agg (Enc.enc (Nd.mk _ _ _ [])); rw [Q3]; rfl) rfl)
  ·refine ⟨((.mk 5 (atI l (a + 1) 2) (0) []), a + 1 + 1, L - 1), ?_, fun g B hg => ?_⟩
   ·refine ⟨WT ⟨4, 0, 1, 0, [], 0, 0, 0⟩ rfl (by decide) (by decide) (by dsimp only; omega) (by dsimp only; omega) (by first | (simp; done) | (simp; omega)) (kids0), ?_, ?_, ?_, ?_, ?_⟩
    ·rw [Wn]; (try simp only [Wo, qD, qR]); omega
    ·rw [QI]; (try simp only [QT]); omega
    ·dsimp only; omega
    ·dsimp only; omega
    ·dsimp only; omega
   ·refine Qa Tryz.func125 rfl Tryz.ntmps125 rfl (t := [(0, .ptr 0 g 0), (1, .i dd)]) rfl fun E0 hE0 => ?_
    (repeat' first | (refine Qo ?_; (first | (refine Qj ?_; refine QU rfl ?_) | (refine Qd ?_; refine Q5 rfl ?_) | (refine Ql ?_; refine Qf rfl rfl rfl ?_) | (refine Qh ?_; (first | refine W1 rfl rfl (by omega) ?_ | refine W3 rfl rfl ?_ | refine Wc rfl rfl ?_ | refine qe rfl rfl (by first | omega | exact nn_shr (by omega)) (by omega) ?_)) | (refine Qk ?_; refine Wf 0 (Wm l hl _ _ _ (by omega) (by omega)) rfl rfl rfl rfl ?_) | (refine QJ ?_; refine Ze rfl rfl ?_) | (refine Qx ?_; (first | refine Qe rfl rfl rfl (by first | assumption | exact Enc.len _ | rfl) (by first | assumption | exact Enc.len _ | rfl) rfl ?_ | refine Q8 rfl rfl rfl rfl (by rfl) (by rfl) (by rfl) ?_)) | (refine Qb ?_; refine Qg rfl rfl ?_) | (refine QS ?_; refine QC rfl rfl ?_) | (refine Qy ?_; refine Qt rfl rfl ?_) | (refine QG ?_; refine QD (fun _ _ => ?_)))) | (refine Qv ?_; (first | refine Qu ?_ | refine QY rfl ?_ | refine Q1 ?_ | refine Zl rfl rfl rfl rfl ?_ | refine Wv rfl rfl (by omega) ?_)) | (refine Qs ?_; (first | refine Qw ?_ | refine Qc ?_ | refine Qm ?_ | refine QB rfl ?_ | refine Qr rfl (by omega) ?_ | refine Qn rfl (by omega) ?_ | refine QM ?_)))
    exact e_1 (Tryz.results125) (QA (size := 4) rfl rfl rfl rfl) (W7 (es := 4) (.node rfl rfl rfl) (by show _ = DV.agg (Enc.enc (Nd.mk _ _ _ [])); rw [Q3]; rfl) rfl)
  ·refine ⟨((.mk 6 (atI l (a + 1) 6) (0) []), a + 1 + 1, L - 1), ?_, fun g B hg => ?_⟩
   ·refine ⟨WT ⟨4, 0, 5, 0, [], 0, 0, 0⟩ rfl (by decide) (by decide) (by dsimp only; omega) (by dsimp only; omega) (by first | (simp; done) | (simp; omega)) (kids0), ?_, ?_, ?_, ?_, ?_⟩
    ·rw [Wn]; (try simp only [Wo, qD, qR]); omega
    ·rw [QI]; (try simp only [QT]); omega
    ·dsimp only; omega
    ·dsimp only; omega
    ·dsimp only; omega
   ·refine Qa Tryz.func125 rfl Tryz.ntmps125 rfl (t := [(0, .ptr 0 g 0), (1, .i dd)]) rfl fun E0 hE0 => ?_
    (repeat' first | (refine Qo ?_; (first | (refine Qj ?_; refine QU rfl ?_) | (refine Qd ?_; refine Q5 rfl ?_) | (refine Ql ?_; refine Qf rfl rfl rfl ?_) | (refine Qh ?_; (first | refine W1 rfl rfl (by omega) ?_ | refine W3 rfl rfl ?_ | refine Wc rfl rfl ?_ | refine qe rfl rfl (by first | omega | exact nn_shr (by omega)) (by omega) ?_)) | (refine Qk ?_; refine Wf 0 (Wm l hl _ _ _ (by omega) (by omega)) rfl rfl rfl rfl ?_) | (refine QJ ?_; refine Ze rfl rfl ?_) | (refine Qx ?_; (first | refine Qe rfl rfl rfl (by first | assumption | exact Enc.len _ | rfl) (by first | assumption | exact Enc.len _ | rfl) rfl ?_ | refine Q8 rfl rfl rfl rfl (by rfl) (by rfl) (by rfl) ?_)) | (refine Qb ?_; refine Qg rfl rfl ?_) | (refine QS ?_; refine QC rfl rfl ?_) | (refine Qy ?_; refine Qt rfl rfl ?_) | (refine QG ?_; refine QD (fun _ _ => ?_)))) | (refine Qv ?_; (first | refine Qu ?_ | refine QY rfl ?_ | refine Q1 ?_ | refine Zl rfl rfl rfl rfl ?_ | refine Wv rfl rfl (by omega) ?_)) | (refine Qs ?_; (first | refine Qw ?_ | refine Qc ?_ | refine Qm ?_ | refine QB rfl ?_ | refine Qr rfl (by omega) ?_ | refine Qn rfl (by omega) ?_ | refine QM ?_)))
    exact e_1 (Tryz.results125) (QA (size := 4) rfl rfl rfl rfl) (W7 (es := 4) (.node rfl rfl rfl) (by show _ = DV.agg (Enc.enc (Nd.mk _ _ _ [])); rw [Q3]; rfl) rfl)
  ·refine ⟨((.mk 12 (atI l (a + 1) 3) (0) []), a + 1 + 1, L - 1), ?_, fun g B hg => ?_⟩
   ·refine ⟨WT ⟨4, 0, 2, 0, [], 0, 0, 0⟩ rfl (by decide) (by decide) (by dsimp only; omega) (by dsimp only; omega) (by first | (simp; done) | (simp; omega)) (kids0), ?_, ?_, ?_, ?_, ?_⟩
    ·rw [Wn]; (try simp only [Wo, qD, qR]); omega
    ·rw [QI]; (try simp only [QT]); omega
    ·dsimp only; omega
    ·dsimp only; omega
    ·dsimp only; omega
   ·refine Qa Tryz.func125 rfl Tryz.ntmps125 rfl (t := [(0, .ptr 0 g 0), (1, .i dd)]) rfl fun E0 hE0 => ?_
    (repeat' first | (refine Qo ?_; (first | (refine Qj ?_; refine QU rfl ?_) | (refine Qd ?_; refine Q5 rfl ?_) | (refine Ql ?_; refine Qf rfl rfl rfl ?_) | (refine Qh ?_; (first | refine W1 rfl rfl (by omega) ?_ | refine W3 rfl rfl ?_ | refine Wc rfl rfl ?_ | refine qe rfl rfl (by first | omega | exact nn_shr (by omega)) (by omega) ?_)) | (refine Qk ?_; refine Wf 0 (Wm l hl _ _ _ (by omega) (by omega)) rfl rfl rfl rfl ?_) | (refine QJ ?_; refine Ze rfl rfl ?_) | (refine Qx ?_; (first | refine Qe rfl rfl rfl (by first | assumption | exact Enc.len _ | rfl) (by first | assumption | exact Enc.len _ | rfl) rfl ?_ | refine Q8 rfl rfl rfl rfl (by rfl) (by rfl) (by rfl) ?_)) | (refine Qb ?_; refine Qg rfl rfl ?_) | (refine QS ?_; refine QC rfl rfl ?_) | (refine Qy ?_; refine Qt rfl rfl ?_) | (refine QG ?_; refine QD (fun _ _ => ?_)))) | (refine Qv ?_; (first | refine Qu ?_ | refine QY rfl ?_ | refine Q1 ?_ | refine Zl rfl rfl rfl rfl ?_ | refine Wv rfl rfl (by omega) ?_)) | (refine Qs ?_; (first | refine Qw ?_ | refine Qc ?_ | refine Qm ?_ | refine QB rfl ?_ | refine Qr rfl (by omega) ?_ | refine Qn rfl (by omega) ?_ | refine QM ?_)))
    exact e_1 (Tryz.results125) (QA (size := 4) rfl rfl rfl rfl) (W7 (es := 4) (.node rfl rfl rfl) (by show _ = DV.agg (Enc.enc (Nd.mk _ _ _ [])); rw [Q3]; rfl) rfl)
 ·rcases hx with hx | hx | hx | hx
  ·refine ⟨((.mk 4 (atI l (a + 1) 16 - 8) (0) []), a + 1 + 1, L - 1), ?_, fun g B hg => ?_⟩
   ·refine ⟨WT ⟨4, -8, 7, 0, [], 0, 0, 0⟩ rfl (by decide) (by decide) (by dsimp only; omega) (by dsimp only; omega) (by first | (simp; done) | (simp; omega)) (kids0), ?_, ?_, ?_, ?_, ?_⟩
    ·rw [Wn]; (try simp only [Wo, qD, qR]); omega
    ·rw [QI]; (try simp only [QT]); omega
    ·dsimp only; omega
    ·dsimp only; omega
    ·dsimp only; omega
   ·refine Qa Tryz.func125 rfl Tryz.ntmps125 rfl (t := [(0, .ptr 0 g 0), (1, .i dd)]) rfl fun E0 hE0 => ?_
    (repeat' first | (refine Qo ?_; (first | (refine Qj ?_; refine QU rfl ?_) | (refine Qd ?_; refine Q5 rfl ?_) | (refine Ql ?_; refine Qf rfl rfl rfl ?_) | (refine Qh ?_; (first | refine W1 rfl rfl (by omega) ?_ | refine W3 rfl rfl ?_ | refine Wc rfl rfl ?_ | refine qe rfl rfl (by first | omega | exact nn_shr (by omega)) (by omega) ?_)) | (refine Qk ?_; refine Wf 0 (Wm l hl _ _ _ (by omega) (by omega)) rfl rfl rfl rfl ?_) | (refine QJ ?_; refine WZ rfl rfl ?_) | (refine Qx ?_; (first | refine Qe rfl rfl rfl (by first | assumption | exact Enc.len _ | rfl) (by first | assumption | exact Enc.len _ | rfl) rfl ?_ | refine Q8 rfl rfl rfl rfl (by rfl) (by rfl) (by rfl) ?_)) | (refine Qb ?_; refine Qg rfl rfl ?_) | (refine QS ?_; refine QC rfl rfl ?_) | (refine Qy ?_; refine Qt rfl rfl ?_) | (refine QG ?_; refine QD (fun _ _ => ?_)))) | (refine Qv ?_; (first | refine Qu ?_ | refine QY rfl ?_ | refine Q1 ?_ | refine WX rfl rfl rfl rfl ?_ | refine We rfl rfl (by omega) ?_)) | (refine Qs ?_; (first | refine Qw ?_ | refine Qc ?_ | refine Qm ?_ | refine Qr rfl (by omega) ?_ | refine QM ?_)))
    exact e_1 (Tryz.results125) (QA (size := 4) rfl rfl rfl rfl) (W7 (es := 4) (.node rfl rfl rfl) (by show _ = DV.agg (Enc.enc (Nd.mk _ _ _ [])); rw [Q3]; rfl) rfl)
  ·refine ⟨((.mk 5 (atI l (a + 1) 2) (0) []), a + 1 + 1, L - 1), ?_, fun g B hg => ?_⟩
   ·refine ⟨WT ⟨4, 0, 1, 0, [], 0, 0, 0⟩ rfl (by decide) (by decide) (by dsimp only; omega) (by dsimp only; omega) (by first | (simp; done) | (simp; omega)) (kids0), ?_, ?_, ?_, ?_, ?_⟩
    ·rw [Wn]; (try simp only [Wo, qD, qR]); omega
    ·rw [QI]; (try simp only [QT]); omega
    ·dsimp only; omega
    ·dsimp only; omega
    ·dsimp only; omega
   ·refine Qa Tryz.func125 rfl Tryz.ntmps125 rfl (t := [(0, .ptr 0 g 0), (1, .i dd)]) rfl fun E0 hE0 => ?_
    (repeat' first | (refine Qo ?_; (first | (refine Qj ?_; refine QU rfl ?_) | (refine Qd ?_; refine Q5 rfl ?_) | (refine Ql ?_; refine Qf rfl rfl rfl ?_) | (refine Qh ?_; (first | refine W1 rfl rfl (by omega) ?_ | refine W3 rfl rfl ?_ | refine Wc rfl rfl ?_ | refine qe rfl rfl (by first | omega | exact nn_shr (by omega)) (by omega) ?_)) | (refine Qk ?_; refine Wf 0 (Wm l hl _ _ _ (by omega) (by omega)) rfl rfl rfl rfl ?_) | (refine QJ ?_; refine WZ rfl rfl ?_) | (refine Qx ?_; (first | refine Qe rfl rfl rfl (by first | assumption | exact Enc.len _ | rfl) (by first | assumption | exact Enc.len _ | rfl) rfl ?_ | refine Q8 rfl rfl rfl rfl (by rfl) (by rfl) (by rfl) ?_)) | (refine Qb ?_; refine Qg rfl rfl ?_) | (refine QS ?_; refine QC rfl rfl ?_) | (refine Qy ?_; refine Qt rfl rfl ?_) | (refine QG ?_; refine QD (fun _ _ => ?_)))) | (refine Qv ?_; (first | refine Qu ?_ | refine QY rfl ?_ | refine Q1 ?_ | refine WX rfl rfl rfl rfl ?_ | refine We rfl rfl (by omega) ?_)) | (refine Qs ?_; (first | refine Qw ?_ | refine Qc ?_ | refine Qm ?_ | refine Qr rfl (by omega) ?_ | refine Qn rfl (by omega) ?_ | refine QM ?_)))
    exact e_1 (Tryz.results125) (QA (size := 4) rfl rfl rfl rfl) (W7 (es := 4) (.node rfl rfl rfl) (by show _ = DV.agg (Enc.enc (Nd.mk _ _ _ [])); rw [Q3]; rfl) rfl)
  ·refine ⟨((.mk 6 (atI l (a + 1) 6) (0) []), a + 1 + 1, L - 1), ?_, fun g B hg => ?_⟩
   ·refine ⟨WT ⟨4, 0, 5, 0, [], 0, 0, 0⟩ rfl (by decide) (by decide) (by dsimp only; omega) (by dsimp only; omega) (by first | (simp; done) | (simp; omega)) (kids0), ?_, ?_, ?_, ?_, ?_⟩
    ·rw [Wn]; (try simp only [Wo, qD, qR]); omega
    ·rw [QI]; (try simp only [QT]); omega
    ·dsimp only; omega
    ·dsimp only; omega
    ·dsimp only; omega
   ·refine Qa Tryz.func125 rfl Tryz.ntmps125 rfl (t := [(0, .ptr 0 g 0), (1, .i dd)]) rfl fun E0 hE0 => ?_
    (repeat' first | (refine Qo ?_; (first | (refine Qj ?_; refine QU rfl ?_) | (refine Qd ?_; refine Q5 rfl ?_) | (refine Ql ?_; refine Qf rfl rfl rfl ?_) | (refine Qh ?_; (first | refine W1 rfl rfl (by omega) ?_ | refine W3 rfl rfl ?_ | refine Wc rfl rfl ?_ | refine qe rfl rfl (by first | omega | exact nn_shr (by omega)) (by omega) ?_)) | (refine Qk ?_; refine Wf 0 (Wm l hl _ _ _ (by omega) (by omega)) rfl rfl rfl rfl ?_) | (refine QJ ?_; refine WZ rfl rfl ?_) | (refine Qx ?_; (first | refine Qe rfl rfl rfl (by first | assumption | exact Enc.len _ | rfl) (by first | assumption | exact Enc.len _ | rfl) rfl ?_ | refine Q8 rfl rfl rfl rfl (by rfl) (by rfl) (by rfl) ?_)) | (refine Qb ?_; refine Qg rfl rfl ?_) | (refine QS ?_; refine QC rfl rfl ?_) | (refine Qy ?_; refine Qt rfl rfl ?_) | (refine QG ?_; refine QD (fun _ _ => ?_)))) | (refine Qv ?_; (first | refine Qu ?_ | refine QY rfl ?_ | refine Q1 ?_ | refine WX rfl rfl rfl rfl ?_ | refine We rfl rfl (by omega) ?_)) | (refine Qs ?_; (first | refine Qw ?_ | refine Qc ?_ | refine Qm ?_ | refine Qr rfl (by omega) ?_ | refine Qn rfl (by omega) ?_ | refine QM ?_)))
    exact e_1 (Tryz.results125) (QA (size := 4) rfl rfl rfl rfl) (W7 (es := 4) (.node rfl rfl rfl) (by show _ = DV.agg (Enc.enc (Nd.mk _ _ _ [])); rw [Q3]; rfl) rfl)
  ·refine ⟨((.mk 12 (atI l (a + 1) 3) (0) []), a + 1 + 1, L - 1), ?_, fun g B hg => ?_⟩
   ·refine ⟨WT ⟨4, 0, 2, 0, [], 0, 0, 0⟩ rfl (by decide) (by decide) (by dsimp only; omega) (by dsimp only; omega) (by first | (simp; done) | (simp; omega)) (kids0), ?_, ?_, ?_, ?_, ?_⟩
    ·rw [Wn]; (try simp only [Wo, qD, qR]); omega
    ·rw [QI]; (try simp only [QT]); omega
    ·dsimp only; omega
    ·dsimp only; omega
    ·dsimp only; omega
   ·refine Qa Tryz.func125 rfl Tryz.ntmps125 rfl (t := [(0, .ptr 0 g 0), (1, .i dd)]) rfl fun E0 hE0 => ?_
    (repeat' first | (refine Qo ?_; (first | (refine Qj ?_; refine QU rfl ?_) | (refine Qd ?_; refine Q5 rfl ?_) | (refine Ql ?_; refine Qf rfl rfl rfl ?_) | (refine Qh ?_; (first | refine W1 rfl rfl (by omega) ?_ | refine W3 rfl rfl ?_ | refine Wc rfl rfl ?_ | refine qe rfl rfl (by first | omega | exact nn_shr (by omega)) (by omega) ?_)) | (refine Qk ?_; refine Wf 0 (Wm l hl _ _ _ (by omega) (by omega)) rfl rfl rfl rfl ?_) | (refine QJ ?_; refine WZ rfl rfl ?_) | (refine Qx ?_; (first | refine Qe rfl rfl rfl (by first | assumption | exact Enc.len _ | rfl) (by first | assumption | exact Enc.len _ | rfl) rfl ?_ | refine Q8 rfl rfl rfl rfl (by rfl) (by rfl) (by rfl) ?_)) | (refine Qb ?_; refine Qg rfl rfl ?_) | (refine QS ?_; refine QC rfl rfl ?_) | (refine Qy ?_; refine Qt rfl rfl ?_) | (refine QG ?_; refine QD (fun _ _ => ?_)))) | (refine Qv ?_; (first | refine Qu ?_ | refine QY rfl ?_ | refine Q1 ?_ | refine WX rfl rfl rfl rfl ?_ | refine We rfl rfl (by omega) ?_)) | (refine Qs ?_; (first | refine Qw ?_ | refine Qc ?_ | refine Qm ?_ | refine Qr rfl (by omega) ?_ | refine Qn rfl (by omega) ?_ | refine QM ?_)))
    exact e_1 (Tryz.results125) (QA (size := 4) rfl rfl rfl rfl) (W7 (es := 4) (.node rfl rfl rfl) (by show _ = DV.agg (Enc.enc (Nd.mk _ _ _ [])); rw [Q3]; rfl) rfl)
theorem chSome (l : List Int) (hl : OkI l) (d : Nat) (hd : d <= 10) (E : GenF) (hE : ∀ a L, preE a L -> QE 4 (d + 1) 1 (2 * d) (E a L).1 a L (E a L).2.1 (E a L).2.2 /\ CE Tryz.prog G 125 (fun p g => [.ptr p g 0, .i d]) (genC l a L) (.agg (Enc.enc (E a L).1)) (genC l (E a L).2.1 (E a L).2.2)) (a L : Int) (h : preE (a + 1) L) (ha : 0 <= a) (h50 : -40 <= L) :
  CE Tryz.prog G 126 (fun p g => [.ptr p g 0, .i 3, .i ((d : Int) + 1)]) (genC l a L) (Wi (runM E (atI l a 4).toNat (a + 1) L).1) (genC l (runM E (atI l a 4).toNat (a + 1) L).2.1 (runM E (atI l a 4).toNat (a + 1) L).2.2) := fun g B hg => by
 have b4 := QX l a (most := 4) (by decide)
 obtain ⟨p1, p2, p3, p4⟩ := h
 obtain ⟨N, hN⟩ : ∃ N : Nat, atI l a 4 = (N : Int) := ⟨(atI l a 4).toNat, by omega⟩
 have hnum := Wm (G := G) l hl a L 4 (by omega) (by omega)
 rw [hN] at hnum b4 ⊢
 rw [show ((N : Int)).toNat = N by omega]
 generalize hT : runM E N (a + 1) L = T at *
 refine Qa Tryz.func126 rfl Tryz.ntmps126 rfl (t := [(0, .ptr 0 g 0), (1, .i 3), (2, .i ((d : Int) + 1))]) rfl fun E0 hE1 => ?_
 (repeat' first | (refine Qo ?_; (first | (refine Qj ?_; refine QU rfl ?_) | (refine Qd ?_; refine Q5 rfl ?_) | (refine Qh ?_; refine Zr rfl rfl (by omega) ?_) | (refine Qk ?_; refine Wf 0 (hnum) rfl rfl rfl rfl ?_))) | (refine Qv ?_; (first | refine Qu ?_ | refine QY rfl ?_)) | (refine Qs ?_; (first | refine Qw ?_ | refine Qc ?_ | refine Qm ?_)))
 refine r_own 7 4 rfl fun gk hgk => ?_
 refine r_loop5 (fun (i : Nat) (o : List Nd) (b M : Int) (gg : Nat) => ⟨[(0, .ptr 0 g 0), (2, .i ((d : Int) + 1)), (7, .ref 1 gg 0 o.length 4), (8, .i N), (9, .i i)], [.row g (genC l b M), .row gg (WH o)]⟩) (fun i o b M gg => i <= N /\ o.length = i /\ E0.N < gg /\ o ++ (runM E (N - i) b M).1 = T.1 /\ (runM E (N - i) b M).2 = T.2 /\ preE b M /\ -50 <= M - ((N : Int) - i)) (fun i _ _ _ _ => N - i) 0 [] (a + 1) L gk ?_ ⟨by omega, rfl, hgk, by rw [Nat.sub_zero, hT]; rfl, by rw [Nat.sub_zero, hT], ⟨p1, p2, p3, p4⟩, by omega⟩ ?_
 ·exact zal rfl
 intro i o b M gg ⟨hi, hol, hgg, h1, h2, hp, h50⟩
 by_cases hiN : i < N
 ·obtain ⟨hq, hE1⟩ := hE b M hp
  rw [show N - i = (N - (i + 1)) + 1 by omega, runM] at h1 h2
  have q1 := hq.low
  have q2 := hq.mono
  have q3 := hq.used
  have q4 := hq.size
  obtain ⟨p1, p2, p3, p4⟩ := hp
  have hd1 : (d : Int) + 1 - 1 = (d : Int) := by omega
  generalize E b M = e at *
  obtain ⟨v1, b1, M1⟩ := e
  dsimp only at *
  have hs := QZ v1
  clear hE
  (repeat' first | (refine Qo ?_; (first | (refine Qj ?_; refine QU rfl ?_) | (refine Qd ?_; refine Q5 rfl ?_) | (refine Qh ?_; (first | refine s_sub_as2 rfl rfl hd1 ⟨by omega, by omega⟩ ?_ | refine Wh rfl rfl ?_ | refine Zr rfl rfl (by omega) ?_)) | (refine Qk ?_; (first | refine qk (z := v1) rfl rfl rfl rfl rfl rfl rfl (by first | omega | (simp; omega)) (by first | omega | (simp; omega)) (fun _ => rfl) (fun _ _ => ?_) | refine Wf 0 (hE1) rfl rfl rfl rfl ?_)) | (refine QK ?_; refine Q0 (z := v1) rfl rfl (by decide) ?_))) | (refine Qv ?_; (first | refine Qu ?_ | refine QY rfl ?_)) | (refine Qs ?_; (first | refine Qw ?_ | refine Qc ?_ | refine Qm ?_ | refine QR ?_ | refine Qr rfl (by omega) ?_)))
  refine ⟨i + 1, o ++ [v1], b1, M1, _, ⟨by omega, by simp [hol], by assumption, by rw [List.append_assoc]; exact h1, h2, ⟨by omega, by omega, by omega, by omega⟩, by omega⟩, by omega, ?_⟩
  exact zal rfl
 ·have hie : N - i = 0 := by omega
  rw [hie, runM] at h1 h2
  dsimp only at h1 h2
  rw [List.append_nil] at h1
  rw [<- h1, <- h2]
  clear hE
  (repeat' first | (refine Qo ?_; (first | (refine Qj ?_; refine QU rfl ?_) | (refine Qd ?_; refine Q5 rfl ?_) | (refine Qh ?_; refine Wh rfl rfl ?_))) | (refine Qv ?_; (first | refine Qu ?_ | refine QY rfl ?_)) | (refine Qs ?_; (first | refine Qw ?_ | refine Qc ?_ | refine Qn rfl (by omega) ?_ | refine WI rfl ?_ | refine QM ?_)))
  exact e_1 (Tryz.results126) (QQ rfl) (ZF (D := fun d => d) (k := 0) .id rfl (by rw [Wu]; rfl) rfl rfl)
theorem chExpr (l : List Int) (hl : OkI l) : ∀ (d : Nat), d <= 10 -> ∃ E : GenF, ∀ a L, preE a L -> QE 4 (d + 1) 1 (2 * d) (E a L).1 a L (E a L).2.1 (E a L).2.2 /\ CE Tryz.prog G 125 (fun p g => [.ptr p g 0, .i d]) (genC l a L) (.agg (Enc.enc (E a L).1)) (genC l (E a L).2.1 (E a L).2.2) := by
 intro d
 induction d with
 | zero =>
  intro _
  refine gen_skolem (pre := preE) (R := fun a L t => QE 4 (0 + 1) 1 (2 * (0 : Nat)) t.1 a L t.2.1 t.2.2 /\ CE Tryz.prog G 125 (fun p g => [.ptr p g 0, .i (0 : Nat)]) (genC l a L) (.agg (Enc.enc t.1)) (genC l t.2.1 t.2.2)) fun a L h => ?_
  obtain ⟨t, hq, hc⟩ := chLeaf (G := G) l hl 0 a L h (.inl (by decide)) (by decide)
  exact ⟨t, hq, hc⟩
 | succ d ih =>
 intro hd10
 obtain ⟨E, hE⟩ := ih (by omega)
 refine gen_skolem (pre := preE) (R := fun a L t => QE 4 (d + 1 + 1) 1 (2 * (d + 1 : Nat)) t.1 a L t.2.1 t.2.2 /\ CE Tryz.prog G 125 (fun p g => [.ptr p g 0, .i (d + 1 : Nat)]) (genC l a L) (.agg (Enc.enc t.1)) (genC l t.2.1 t.2.2)) fun a L h => ?_
 by_cases hlf : L - 1 <= 0
 ·obtain ⟨t, hq, hc⟩ := chLeaf (G := G) l hl ((d + 1 : Nat) : Int) a L h (.inr ⟨by omega, hlf⟩) (by omega)
  have q1 := hq.low
  have q2 := hq.dep
  exact ⟨t, ⟨hq.fit, by omega, hq.size, by omega, hq.mono, hq.used⟩, hc⟩
 obtain ⟨p1, p2, p3, p4⟩ := h
 have hd1 : ((d + 1 : Nat) : Int) - 1 = (d : Int) := by omega
 have hsm := chSome (G := G) l hl d (by omega) E hE
 have hrq := run_q (E := E) (w := 4) (dep := d + 1) (c := 2 * d) (by omega) fun a L h => (hE a L h).1
 have bx := QX l a (most := 12) (by decide)
 have b16 := QX l (a + 1) (most := 16) (by decide)
 have b2 := QX l (a + 1) (most := 2) (by decide)
 have b6 := QX l (a + 1) (most := 6) (by decide)
 have b3 := QX l (a + 1) (most := 3) (by decide)
 have b14 := QX l (a + 1) (most := 14) (by decide)
 have b32 := QX l (a + 1 + 1) (most := 3) (by decide)
 have b4 := QX l (a + 1 + 1) (most := 4) (by decide)
 generalize hdd : ((d + 1 : Nat) : Int) = dd at *
 have hx : atI l a 12 = 0 \/ atI l a 12 = 1 \/ atI l a 12 = 2 \/ atI l a 12 = 3 \/ atI l a 12 = 4 \/ atI l a 12 = 5 \/ atI l a 12 = 6 \/ atI l a 12 = 7 \/ 8 <= atI l a 12 := by omega
 rcases hx with hx | hx | hx | hx | hx | hx | hx | hx | hx
 ·clear hE hrq hsm
  refine ⟨((.mk 4 (atI l (a + 1) 16 - 8) (0) []), a + 1 + 1, L - 1), ?_, fun g B hg => ?_⟩
  ·refine ⟨WT ⟨4, -8, 7, 0, [], 0, 0, 0⟩ rfl (by decide) (by decide) (by dsimp only; omega) (by dsimp only; omega) (by first | (simp; done) | (simp; omega)) (kids0), ?_, ?_, ?_, ?_, ?_⟩
   ·rw [Wn]; (try simp only [Wo, qD, qR]); omega
   ·rw [QI]; (try simp only [QT]); omega
   ·dsimp only; omega
   ·dsimp only; omega
   ·dsimp only; omega
  ·refine Qa Tryz.func125 rfl Tryz.ntmps125 rfl (t := [(0, .ptr 0 g 0), (1, .i dd)]) rfl fun E0 hE0 => ?_
   (repeat' first | (refine Qo ?_; (first | (refine Qj ?_; refine QU rfl ?_) | (refine Qd ?_; refine Q5 rfl ?_) | (refine Ql ?_; refine Qf rfl rfl rfl ?_) | (refine Qh ?_; (first | refine W1 rfl rfl (by omega) ?_ | refine W3 rfl rfl ?_ | refine Wc rfl rfl ?_)) | (refine Qk ?_; refine Wf 0 (Wm l hl _ _ _ (by omega) (by omega)) rfl rfl rfl rfl ?_) | (refine QJ ?_; refine WZ rfl rfl ?_) | (refine Qx ?_; (first | refine Qe rfl rfl rfl (by first | assumption | exact Enc.len _ | rfl) (by first | assumption | exact Enc.len _ | rfl) rfl ?_ | refine Q8 rfl rfl rfl rfl (by rfl) (by rfl) (by rfl) ?_)) | (refine Qb ?_; refine Qg rfl rfl ?_) | (refine QS ?_; refine QC rfl rfl ?_) | (refine Qy ?_; refine Qt rfl rfl ?_) | (refine QG ?_; refine QD (fun _ _ => ?_)))) | (refine Qv ?_; (first | refine Qu ?_ | refine QY rfl ?_ | refine Q1 ?_ | refine WX rfl rfl rfl rfl ?_ | refine We rfl rfl (by omega) ?_)) | (refine Qs ?_; (first | refine Qw ?_ | refine Qc ?_ | refine Qm ?_ | refine QR ?_ | refine Qr rfl (by omega) ?_ | refine Qn rfl (by omega) ?_ | refine QM ?_)))
   exact e_1 (Tryz.results125) (QA (size := 4) rfl rfl rfl rfl) (W7 (es := 4) (.node rfl rfl rfl) (by show _ = DV.agg (Enc.enc (Nd.mk _ _ _ [])); rw [Q3]; rfl) rfl)
 ·clear hE hrq hsm
  refine ⟨((.mk 5 (atI l (a + 1) 2) (0) []), a + 1 + 1, L - 1), ?_, fun g B hg => ?_⟩
  ·refine ⟨WT ⟨4, 0, 1, 0, [], 0, 0, 0⟩ rfl (by decide) (by decide) (by dsimp only; omega) (by dsimp only; omega) (by first | (simp; done) | (simp; omega)) (kids0), ?_, ?_, ?_, ?_, ?_⟩
   ·rw [Wn]; (try simp only [Wo, qD, qR]); omega
   ·rw [QI]; (try simp only [QT]); omega
   ·dsimp only; omega
   ·dsimp only; omega
   ·dsimp only; omega
  ·refine Qa Tryz.func125 rfl Tryz.ntmps125 rfl (t := [(0, .ptr 0 g 0), (1, .i dd)]) rfl fun E0 hE0 => ?_
   (repeat' first | (refine Qo ?_; (first | (refine Qj ?_; refine QU rfl ?_) | (refine Qd ?_; refine Q5 rfl ?_) | (refine Ql ?_; refine Qf rfl rfl rfl ?_) | (refine Qh ?_; (first | refine W1 rfl rfl (by omega) ?_ | refine W3 rfl rfl ?_ | refine Wc rfl rfl ?_)) | (refine Qk ?_; refine Wf 0 (Wm l hl _ _ _ (by omega) (by omega)) rfl rfl rfl rfl ?_) | (refine QJ ?_; refine WZ rfl rfl ?_) | (refine Qx ?_; (first | refine Qe rfl rfl rfl (by first | assumption | exact Enc.len _ | rfl) (by first | assumption | exact Enc.len _ | rfl) rfl ?_ | refine Q8 rfl rfl rfl rfl (by rfl) (by rfl) (by rfl) ?_)) | (refine Qb ?_; refine Qg rfl rfl ?_) | (refine QS ?_; refine QC rfl rfl ?_) | (refine Qy ?_; refine Qt rfl rfl ?_) | (refine QG ?_; refine QD (fun _ _ => ?_)))) | (refine Qv ?_; (first | refine Qu ?_ | refine QY rfl ?_ | refine Q1 ?_ | refine WX rfl rfl rfl rfl ?_ | refine We rfl rfl (by omega) ?_)) | (refine Qs ?_; (first | refine Qw ?_ | refine Qc ?_ | refine Qm ?_ | refine QR ?_ | refine Qr rfl (by omega) ?_ | refine Qn rfl (by omega) ?_ | refine QM ?_)))
   exact e_1 (Tryz.results125) (QA (size := 4) rfl rfl rfl rfl) (W7 (es := 4) (.node rfl rfl rfl) (by show _ = DV.agg (Enc.enc (Nd.mk _ _ _ [])); rw [Q3]; rfl) rfl)
 ·clear hE hrq hsm
  refine ⟨((.mk 6 (atI l (a + 1) 6) (0) []), a + 1 + 1, L - 1), ?_, fun g B hg => ?_⟩
  ·refine ⟨WT ⟨4, 0, 5, 0, [], 0, 0, 0⟩ rfl (by decide) (by decide) (by dsimp only; omega) (by dsimp only; omega) (by first | (simp; done) | (simp; omega)) (kids0), ?_, ?_, ?_, ?_, ?_⟩
   ·rw [Wn]; (try simp only [Wo, qD, qR]); omega
   ·rw [QI]; (try simp only [QT]); omega
   ·dsimp only; omega
   ·dsimp only; omega
   ·dsimp only; omega
  ·refine Qa Tryz.func125 rfl Tryz.ntmps125 rfl (t := [(0, .ptr 0 g 0), (1, .i dd)]) rfl fun E0 hE0 => ?_
   (repeat' first | (refine Qo ?_; (first | (refine Qj ?_; refine QU rfl ?_) | (refine Qd ?_; refine Q5 rfl ?_) | (refine Ql ?_; refine Qf rfl rfl rfl ?_) | (refine Qh ?_; (first | refine W1 rfl rfl (by omega) ?_ | refine W3 rfl rfl ?_ | refine Wc rfl rfl ?_)) | (refine Qk ?_; refine Wf 0 (Wm l hl _ _ _ (by omega) (by omega)) rfl rfl rfl rfl ?_) | (refine QJ ?_; refine WZ rfl rfl ?_) | (refine Qx ?_; (first | refine Qe rfl rfl rfl (by first | assumption | exact Enc.len _ | rfl) (by first | assumption | exact Enc.len _ | rfl) rfl ?_ | refine Q8 rfl rfl rfl rfl (by rfl) (by rfl) (by rfl) ?_)) | (refine Qb ?_; refine Qg rfl rfl ?_) | (refine QS ?_; refine QC rfl rfl ?_) | (refine Qy ?_; refine Qt rfl rfl ?_) | (refine QG ?_; refine QD (fun _ _ => ?_)))) | (refine Qv ?_; (first | refine Qu ?_ | refine QY rfl ?_ | refine Q1 ?_ | refine WX rfl rfl rfl rfl ?_ | refine We rfl rfl (by omega) ?_)) | (refine Qs ?_; (first | refine Qw ?_ | refine Qc ?_ | refine Qm ?_ | refine QR ?_ | refine Qr rfl (by omega) ?_ | refine Qn rfl (by omega) ?_ | refine QM ?_)))
   exact e_1 (Tryz.results125) (QA (size := 4) rfl rfl rfl rfl) (W7 (es := 4) (.node rfl rfl rfl) (by show _ = DV.agg (Enc.enc (Nd.mk _ _ _ [])); rw [Q3]; rfl) rfl)
 ·clear hE hrq hsm
  refine ⟨((.mk 12 (atI l (a + 1) 3) (0) []), a + 1 + 1, L - 1), ?_, fun g B hg => ?_⟩
  ·refine ⟨WT ⟨4, 0, 2, 0, [], 0, 0, 0⟩ rfl (by decide) (by decide) (by dsimp only; omega) (by dsimp only; omega) (by first | (simp; done) | (simp; omega)) (kids0), ?_, ?_, ?_, ?_, ?_⟩
   ·rw [Wn]; (try simp only [Wo, qD, qR]); omega
   ·rw [QI]; (try simp only [QT]); omega
   ·dsimp only; omega
   ·dsimp only; omega
   ·dsimp only; omega
  ·refine Qa Tryz.func125 rfl Tryz.ntmps125 rfl (t := [(0, .ptr 0 g 0), (1, .i dd)]) rfl fun E0 hE0 => ?_
   (repeat' first | (refine Qo ?_; (first | (refine Qj ?_; refine QU rfl ?_) | (refine Qd ?_; refine Q5 rfl ?_) | (refine Ql ?_; refine Qf rfl rfl rfl ?_) | (refine Qh ?_; (first | refine W1 rfl rfl (by omega) ?_ | refine W3 rfl rfl ?_ | refine Wc rfl rfl ?_)) | (refine Qk ?_; refine Wf 0 (Wm l hl _ _ _ (by omega) (by omega)) rfl rfl rfl rfl ?_) | (refine QJ ?_; refine WZ rfl rfl ?_) | (refine Qx ?_; (first | refine Qe rfl rfl rfl (by first | assumption | exact Enc.len _ | rfl) (by first | assumption | exact Enc.len _ | rfl) rfl ?_ | refine Q8 rfl rfl rfl rfl (by rfl) (by rfl) (by rfl) ?_)) | (refine Qb ?_; refine Qg rfl rfl ?_) | (refine QS ?_; refine QC rfl rfl ?_) | (refine Qy ?_; refine Qt rfl rfl ?_) | (refine QG ?_; refine QD (fun _ _ => ?_)))) | (refine Qv ?_; (first | refine Qu ?_ | refine QY rfl ?_ | refine Q1 ?_ | refine WX rfl rfl rfl rfl ?_ | refine We rfl rfl (by omega) ?_)) | (refine Qs ?_; (first | refine Qw ?_ | refine Qc ?_ | refine Qm ?_ | refine QR ?_ | refine Qr rfl (by omega) ?_ | refine Qn rfl (by omega) ?_ | refine QM ?_)))
   exact e_1 (Tryz.results125) (QA (size := 4) rfl rfl rfl rfl) (W7 (es := 4) (.node rfl rfl rfl) (by show _ = DV.agg (Enc.enc (Nd.mk _ _ _ [])); rw [Q3]; rfl) rfl)
 ·clear hrq hsm
  obtain ⟨hq1, hE1⟩ := hE (a + 1 + 1) (L - 1) ⟨by omega, by omega, by omega, by omega⟩
  obtain ⟨f1, d1, s1, w1, m1, u1⟩ := hq1
  generalize E (a + 1 + 1) (L - 1) = e1 at *
  obtain ⟨v1, b1, M1⟩ := e1
  dsimp only at *
  have sp1 := QZ v1
  clear hE
  refine ⟨((.mk 7 (atI l (a + 1) 6) (0) [v1]), b1, M1), ?_, fun g B hg => ?_⟩
  ·refine ⟨WT ⟨4, 0, 5, 0, [4], 0, 0, 0⟩ rfl (by decide) (by decide) (by dsimp only; omega) (by dsimp only; omega) (by first | (simp; done) | (simp; omega)) (kids1 f1), ?_, ?_, ?_, ?_, ?_⟩
   ·rw [Wn]; (try simp only [Wo, qD, qR]); omega
   ·rw [QI]; (try simp only [QT]); omega
   ·dsimp only; omega
   ·dsimp only; omega
   ·dsimp only; omega
  ·refine Qa Tryz.func125 rfl Tryz.ntmps125 rfl (t := [(0, .ptr 0 g 0), (1, .i dd)]) rfl fun E0 hE0 => ?_
   (repeat' first | (refine Qo ?_; (first | (refine Qj ?_; refine QU rfl ?_) | (refine Qd ?_; refine Q5 rfl ?_) | (refine Ql ?_; refine Qf rfl rfl rfl ?_) | (refine Qh ?_; (first | refine s_sub_as2 rfl rfl hd1 ⟨by omega, by omega⟩ ?_ | refine W1 rfl rfl (by omega) ?_ | refine W3 rfl rfl ?_ | refine Wc rfl rfl ?_)) | (refine Qk ?_; (first | refine Wf 0 (Wm l hl _ _ _ (by omega) (by omega)) rfl rfl rfl rfl ?_ | refine Wf 0 (hE1) rfl rfl rfl rfl ?_)) | (refine QJ ?_; refine WZ rfl rfl ?_) | (refine Qx ?_; (first | refine Qe rfl rfl rfl (by first | assumption | exact Enc.len _ | rfl) (by first | assumption | exact Enc.len _ | rfl) rfl ?_ | refine Q8 rfl rfl rfl rfl (by rfl) (by rfl) (by rfl) ?_)) | (refine QK ?_; refine Q0 (z := v1) rfl rfl (by decide) ?_) | (refine Qb ?_; refine Qg rfl rfl ?_) | (refine QS ?_; refine QC rfl rfl ?_) | (refine Qy ?_; refine Qt rfl rfl ?_) | (refine QG ?_; refine QD (fun _ _ => ?_)))) | (refine Qv ?_; (first | refine Qu ?_ | refine QY rfl ?_ | refine Q1 ?_ | refine WX rfl rfl rfl rfl ?_ | refine We rfl rfl (by omega) ?_)) | (refine Qs ?_; (first | refine Qw ?_ | refine Qc ?_ | refine Qm ?_ | refine QR ?_ | refine Qr rfl (by omega) ?_ | refine Qn rfl (by omega) ?_ | refine QM ?_)))
   refine e_1 (Tryz.results125) (QA (size := 4) rfl rfl rfl rfl) ?_
   rw [Q3]
   exact qb (by first | rfl | (simp [Wi, WH]; try rfl)) rfl
 ·clear hE hrq hsm
  refine ⟨((.mk 8 (atI l (a + 1) 6) (atI l (a + 1 + 1) 3) []), a + 1 + 1 + 1, L - 1), ?_, fun g B hg => ?_⟩
  ·refine ⟨WT ⟨4, 0, 5, 2, [], 0, 0, 0⟩ rfl (by decide) (by decide) (by dsimp only; omega) (by dsimp only; omega) (by first | (simp; done) | (simp; omega)) (kids0), ?_, ?_, ?_, ?_, ?_⟩
   ·rw [Wn]; (try simp only [Wo, qD, qR]); omega
   ·rw [QI]; (try simp only [QT]); omega
   ·dsimp only; omega
   ·dsimp only; omega
   ·dsimp only; omega
  ·refine Qa Tryz.func125 rfl Tryz.ntmps125 rfl (t := [(0, .ptr 0 g 0), (1, .i dd)]) rfl fun E0 hE0 => ?_
   (repeat' first | (refine Qo ?_; (first | (refine Qj ?_; refine QU rfl ?_) | (refine Qd ?_; refine Q5 rfl ?_) | (refine Ql ?_; refine Qf rfl rfl rfl ?_) | (refine Qh ?_; (first | refine W1 rfl rfl (by omega) ?_ | refine W3 rfl rfl ?_ | refine Wc rfl rfl ?_)) | (refine Qk ?_; refine Wf 0 (Wm l hl _ _ _ (by omega) (by omega)) rfl rfl rfl rfl ?_) | (refine QJ ?_; refine WZ rfl rfl ?_) | (refine Qx ?_; (first | refine Qe rfl rfl rfl (by first | assumption | exact Enc.len _ | rfl) (by first | assumption | exact Enc.len _ | rfl) rfl ?_ | refine Q8 rfl rfl rfl rfl (by rfl) (by rfl) (by rfl) ?_)) | (refine Qb ?_; refine Qg rfl rfl ?_) | (refine QS ?_; refine QC rfl rfl ?_) | (refine Qy ?_; refine Qt rfl rfl ?_) | (refine QG ?_; refine QD (fun _ _ => ?_)))) | (refine Qv ?_; (first | refine Qu ?_ | refine QY rfl ?_ | refine Q1 ?_ | refine WX rfl rfl rfl rfl ?_ | refine We rfl rfl (by omega) ?_)) | (refine Qs ?_; (first | refine Qw ?_ | refine Qc ?_ | refine Qm ?_ | refine QR ?_ | refine Qr rfl (by omega) ?_ | refine Qn rfl (by omega) ?_ | refine QM ?_)))
   exact e_1 (Tryz.results125) (QA (size := 4) rfl rfl rfl rfl) (W7 (es := 4) (.node rfl rfl rfl) (by show _ = DV.agg (Enc.enc (Nd.mk _ _ _ [])); rw [Q3]; rfl) rfl)
 ·clear hrq hsm
  obtain ⟨hq1, hE1⟩ := hE (a + 1) (L - 1) ⟨by omega, by omega, by omega, by omega⟩
  obtain ⟨f1, d1, s1, w1, m1, u1⟩ := hq1
  generalize E (a + 1) (L - 1) = e1 at *
  obtain ⟨v1, b1, M1⟩ := e1
  dsimp only at *
  have sp1 := QZ v1
  clear hE
  refine ⟨((.mk 10 (0) (0) [v1]), b1, M1), ?_, fun g B hg => ?_⟩
  ·refine ⟨WT ⟨4, 0, 0, 0, [4], 0, 0, 0⟩ rfl (by decide) (by decide) (by dsimp only; omega) (by dsimp only; omega) (by first | (simp; done) | (simp; omega)) (kids1 f1), ?_, ?_, ?_, ?_, ?_⟩
   ·rw [Wn]; (try simp only [Wo, qD, qR]); omega
   ·rw [QI]; (try simp only [QT]); omega
   ·dsimp only; omega
   ·dsimp only; omega
   ·dsimp only; omega
  ·refine Qa Tryz.func125 rfl Tryz.ntmps125 rfl (t := [(0, .ptr 0 g 0), (1, .i dd)]) rfl fun E0 hE0 => ?_
   (repeat' first | (refine Qo ?_; (first | (refine Qj ?_; refine QU rfl ?_) | (refine Qd ?_; refine Q5 rfl ?_) | (refine Ql ?_; refine Qf rfl rfl rfl ?_) | (refine Qh ?_; (first | refine s_sub_as2 rfl rfl hd1 ⟨by omega, by omega⟩ ?_ | refine W1 rfl rfl (by omega) ?_ | refine W3 rfl rfl ?_ | refine Wc rfl rfl ?_)) | (refine Qk ?_; (first | refine Wf 0 (Wm l hl _ _ _ (by omega) (by omega)) rfl rfl rfl rfl ?_ | refine Wf 0 (hE1) rfl rfl rfl rfl ?_)) | (refine QJ ?_; refine WZ rfl rfl ?_) | (refine Qx ?_; (first | refine Qe rfl rfl rfl (by first | assumption | exact Enc.len _ | rfl) (by first | assumption | exact Enc.len _ | rfl) rfl ?_ | refine Q8 rfl rfl rfl rfl (by rfl) (by rfl) (by rfl) ?_)) | (refine QK ?_; refine Q0 (z := v1) rfl rfl (by decide) ?_) | (refine Qb ?_; refine Qg rfl rfl ?_) | (refine QS ?_; refine QC rfl rfl ?_) | (refine Qy ?_; refine Qt rfl rfl ?_) | (refine QG ?_; refine QD (fun _ _ => ?_)))) | (refine Qv ?_; (first | refine Qu ?_ | refine QY rfl ?_ | refine Q1 ?_ | refine WX rfl rfl rfl rfl ?_ | refine We rfl rfl (by omega) ?_)) | (refine Qs ?_; (first | refine Qw ?_ | refine Qc ?_ | refine Qm ?_ | refine QR ?_ | refine Qr rfl (by omega) ?_ | refine Qn rfl (by omega) ?_ | refine QM ?_)))
   refine e_1 (Tryz.results125) (QA (size := 4) rfl rfl rfl rfl) ?_
   rw [Q3]
   exact qb (by first | rfl | (simp [Wi, WH]; try rfl)) rfl
 ·have hS1 := hsm (a + 1 + 1) (L - 1) ⟨by omega, by omega, by omega, by omega⟩ (by omega) (by omega)
  have hb := QX l (a + 1 + 1) (most := 4) (by decide)
  obtain ⟨N, hN⟩ : ∃ N : Nat, atI l (a + 1 + 1) 4 = (N : Int) := ⟨(atI l (a + 1 + 1) 4).toNat, by omega⟩
  rw [hN, show ((N : Int)).toNat = N by omega] at hS1
  have hq := hrq N (a + 1 + 1 + 1) (L - 1) (by omega) ⟨by omega, by omega, by omega, by omega⟩ (by omega)
  have hln := runM_len E N (a + 1 + 1 + 1) (L - 1)
  obtain ⟨f1, d1, s1, w1, m1, u1⟩ := hq
  generalize runM E N (a + 1 + 1 + 1) (L - 1) = T at *
  obtain ⟨ks, b1, M1⟩ := T
  dsimp only at *
  have hdl := qQ d1
  rw [show (d : Int) + 1 = dd by omega] at hS1
  clear hE hrq hsm
  refine ⟨((.mk 11 (atI l (a + 1) 6) (0) ks), b1, M1), ?_, fun g B hg => ?_⟩
  ·refine ⟨WT ⟨4, 0, 5, 0, [], 3, 0, 4⟩ rfl (by decide) (by decide) (by dsimp only; omega) (by dsimp only; omega) (by first | (simp; done) | (simp; omega)) (kidsA rfl f1), ?_, ?_, ?_, ?_, ?_⟩
   ·rw [Wn]; (try simp only [Wo, qD, qR]); omega
   ·rw [QI]; (try simp only [QT]); omega
   ·dsimp only; omega
   ·dsimp only; omega
   ·dsimp only; omega
  ·refine Qa Tryz.func125 rfl Tryz.ntmps125 rfl (t := [(0, .ptr 0 g 0), (1, .i dd)]) rfl fun E0 hE0 => ?_
   (repeat' first | (refine Qo ?_; (first | (refine Qj ?_; refine QU rfl ?_) | (refine Qd ?_; refine Q5 rfl ?_) | (refine Ql ?_; refine Qf rfl rfl rfl ?_) | (refine Qh ?_; (first | refine W1 rfl rfl (by omega) ?_ | refine W3 rfl rfl ?_ | refine Wc rfl rfl ?_)) | (refine Qk ?_; (first | refine Wf 0 (Wm l hl _ _ _ (by omega) (by omega)) rfl rfl rfl rfl ?_ | refine Wf 0 (hS1) rfl rfl rfl rfl ?_)) | (refine QJ ?_; refine WZ rfl rfl ?_) | (refine Qx ?_; (first | refine Qe rfl rfl rfl (by first | assumption | exact Enc.len _ | rfl) (by first | assumption | exact Enc.len _ | rfl) rfl ?_ | refine Q8 rfl rfl rfl rfl (by rfl) (by rfl) (by rfl) ?_)) | (refine Qb ?_; refine Qg rfl rfl ?_) | (refine QS ?_; refine QC rfl rfl ?_) | (refine Qy ?_; refine Qt rfl rfl ?_) | (refine QG ?_; refine QD (fun _ _ => ?_)))) | (refine Qv ?_; (first | refine Qu ?_ | refine QY rfl ?_ | refine Q1 ?_ | refine WX rfl rfl rfl rfl ?_ | refine We rfl rfl (by omega) ?_)) | (refine Qs ?_; (first | refine Qw ?_ | refine Qc ?_ | refine Qm ?_ | refine QR ?_ | refine Qr rfl (by omega) ?_ | refine Qn rfl (by omega) ?_ | refine QM ?_)))
   refine e_1 (Tryz.results125) (QA (size := 4) rfl rfl rfl rfl) ?_
   rw [Q3]
   exact qb (by first | rfl | (simp [Wi, WH]; try rfl)) rfl
 ·clear hrq hsm
  obtain ⟨hq1, hE1⟩ := hE (a + 1 + 1) (L - 1) ⟨by omega, by omega, by omega, by omega⟩
  obtain ⟨f1, d1, s1, w1, m1, u1⟩ := hq1
  generalize E (a + 1 + 1) (L - 1) = e1 at *
  obtain ⟨v1, b1, M1⟩ := e1
  dsimp only at *
  have sp1 := QZ v1
  obtain ⟨hq2, hE2⟩ := hE (b1) (M1) ⟨by omega, by omega, by omega, by omega⟩
  obtain ⟨f2, d2, s2, w2, m2, u2⟩ := hq2
  generalize E (b1) (M1) = e2 at *
  obtain ⟨v2, b2, M2⟩ := e2
  dsimp only at *
  have sp2 := QZ v2
  clear hE
  refine ⟨((.mk 9 (atI l (a + 1) 14) (0) [v1, v2]), b2, M2), ?_, fun g B hg => ?_⟩
  ·refine ⟨WT ⟨4, 0, 13, 0, [4, 4], 0, 0, 0⟩ rfl (by decide) (by decide) (by dsimp only; omega) (by dsimp only; omega) (by first | (simp; done) | (simp; omega)) (kids2 f1 f2), ?_, ?_, ?_, ?_, ?_⟩
   ·rw [Wn]; (try simp only [Wo, qD, qR]); omega
   ·rw [QI]; (try simp only [QT]); omega
   ·dsimp only; omega
   ·dsimp only; omega
   ·dsimp only; omega
  ·refine Qa Tryz.func125 rfl Tryz.ntmps125 rfl (t := [(0, .ptr 0 g 0), (1, .i dd)]) rfl fun E0 hE0 => ?_
   (repeat' first | (refine Qo ?_; (first | (refine Qj ?_; refine QU rfl ?_) | (refine Qd ?_; refine Q5 rfl ?_) | (refine Ql ?_; refine Qf rfl rfl rfl ?_) | (refine Qh ?_; (first | refine s_sub_as2 rfl rfl hd1 ⟨by omega, by omega⟩ ?_ | refine W1 rfl rfl (by omega) ?_ | refine W3 rfl rfl ?_ | refine Wc rfl rfl ?_)) | (refine Qk ?_; (first | refine Wf 0 (Wm l hl _ _ _ (by omega) (by omega)) rfl rfl rfl rfl ?_ | refine Wf 0 (hE1) rfl rfl rfl rfl ?_ | refine Wf 0 (hE2) rfl rfl rfl rfl ?_)) | (refine QJ ?_; refine WZ rfl rfl ?_) | (refine Qx ?_; (first | refine Qe rfl rfl rfl (by first | assumption | exact Enc.len _ | rfl) (by first | assumption | exact Enc.len _ | rfl) rfl ?_ | refine Q8 rfl rfl rfl rfl (by rfl) (by rfl) (by rfl) ?_)) | (refine QK ?_; refine ZJ (y := v1) (z := v2) rfl rfl (by decide) ?_) | (refine Qb ?_; refine Qg rfl rfl ?_) | (refine QS ?_; refine QC rfl rfl ?_) | (refine Qy ?_; refine Qt rfl rfl ?_) | (refine QG ?_; refine QD (fun _ _ => ?_)))) | (refine Qv ?_; (first | refine Qu ?_ | refine QY rfl ?_ | refine Q1 ?_ | refine WX rfl rfl rfl rfl ?_ | refine We rfl rfl (by omega) ?_)) | (refine Qs ?_; (first | refine Qw ?_ | refine Qc ?_ | refine Qm ?_ | refine QR ?_ | refine Qn rfl (by omega) ?_ | refine QM ?_)))
   refine e_1 (Tryz.results125) (QA (size := 4) rfl rfl rfl rfl) ?_
   rw [Q3]
   exact qb (by first | rfl | (simp [Wi, WH]; try rfl)) rfl
end Go.Proofs
end
section
namespace Go.Av
open Classical
theorem spliceD_mid : ∀ (l1 l rest : List DV) (d : DV) (ds : List DV), l.length = (d :: ds).length -> ZB (l1 ++ (l ++ rest)) l1.length (d :: ds) = some (l1 ++ ((d :: ds) ++ rest))
 | [], l, rest, d, ds, h => spliceD_pre l (d :: ds) rest h
 | x :: r, l, rest, d, ds, h => by
  have ih := spliceD_mid r l rest d ds h
  show (match ZB (r ++ (l ++ rest)) r.length (d :: ds) with | some r' => some (x :: r') | none => none) = _
  rw [ih]; rfl
theorem fill_three {zs : List Value} {cs ds es : List DV} {n : Nat} (h1 : zs.length = n) (h2 : cs.length = n) (h3 : ds.length = n) (h4 : es.length = n) (h0 : 0 < n) : fillD (fun i => some (i * n, n)) (Zb zs 3) [(0, .agg cs), (1, .agg ds), (2, .agg es)] = some (cs ++ (ds ++ es)) := by
 have hz : Zb zs 3 = Zb zs 1 ++ (Zb zs 1 ++ Zb zs 1) := by simp [Zb, List.replicate]
 have hz1 : (Zb zs 1).length = n := by rw [qF, h1]; omega
 cases cs with
 | nil => simp at h2; omega
 | cons e r =>
 cases ds with
 | nil => simp at h3; omega
 | cons e2 r2 =>
 cases es with
 | nil => simp at h4; omega
 | cons e3 r3 =>
  have hb : Nat.beq (e :: r).length n = true := by rw [h2]; exact Nat.beq_refl n
  have hb2 : Nat.beq (e2 :: r2).length n = true := by rw [h3]; exact Nat.beq_refl n
  have hb3 : Nat.beq (e3 :: r3).length n = true := by rw [h4]; exact Nat.beq_refl n
  have s1 : ZB (Zb zs 1 ++ (Zb zs 1 ++ Zb zs 1)) 0 (e :: r) = some ((e :: r) ++ (Zb zs 1 ++ Zb zs 1)) := spliceD_pre (Zb zs 1) (e :: r) _ (by rw [hz1, h2])
  have s2 : ZB ((e :: r) ++ (Zb zs 1 ++ Zb zs 1)) n (e2 :: r2) = some ((e :: r) ++ ((e2 :: r2) ++ Zb zs 1)) := by
   have := spliceD_mid (e :: r) (Zb zs 1) (Zb zs 1) e2 r2 (by rw [hz1, h3])
   rwa [h2] at this
  have s3 : ZB ((e :: r) ++ ((e2 :: r2) ++ Zb zs 1)) (2 * n) (e3 :: r3) = some ((e :: r) ++ ((e2 :: r2) ++ (e3 :: r3))) := by
   have := spliceD_at ((e :: r) ++ (e2 :: r2)) (Zb zs 1) e3 r3 (by rw [hz1, h4])
   rw [List.append_assoc, List.append_assoc, List.length_append, h2, h3, show n + n = 2 * n by omega] at this
   exact this
  rw [hz]
  simp only [fillD, dcells, hb, hb2, hb3, Nat.zero_mul, Nat.one_mul, s1, s2, s3]
  exact forceD_same _
theorem s_bslice_three {P : Program} {G : Nat -> DV} {B : Nat} {f : Operand -> DV} {σ : List ABlk} {K : DV -> List ABlk -> Prop} {dst : Option Tmp} {type : TypeId} {pos : String} {after : Array Edge} {gd : Option (Nat × Bool)} {α : Type} [Enc α] {x y z : α} {t e : Nat} {g1 g2 : Bool} {z1 : Nat} {td : TypeDesc} {zs : List Value} {ps : List (Nat × Operand)} [ht : TyI P t (.slice e) g1 z1] [he : TyI P e td g2 (Enc.es α)] [hz : TyZ P e zs] (hzl : zs.length = Enc.es α) (hp : partsD f ps = some [(0, .agg (Enc.enc x)), (1, .agg (Enc.enc y)), (2, .agg (Enc.enc z))]) (hn : 3 * Enc.es α <= 16777216)
  (k : K (Wi [x, y, z]) σ) : OpSem P G B ⟨dst, .buildSlice t 3 ps.toArray, type, pos, after, gd⟩ f σ K := by
 refine Z3 hzl hp hn (fill_three hzl (Enc.len x) (Enc.len y) (Enc.len z) Enc.pos) ?_
 have e1 : Wi [x, y, z] = .sl (Enc.es α) (Enc.enc x ++ (Enc.enc y ++ Enc.enc z)) := by simp [Wi, WH]
 rwa [<- e1]
end Go.Av
end
section
namespace Go.Proofs
open Go.Av
variable {G : Nat -> DV}
attribute [local irreducible] OpSem ZA ZV Z8 ACalls AEnd AClose RV
open Go.Bl
def preS (a L : Int) : Prop := 0 <= a /\ a + 4 * L <= 1000000000 /\ 1 <= L /\ L <= 500
def preB (a L : Int) : Prop := 0 <= a /\ a + 4 * L <= 1000000000 /\ -50 <= L /\ L <= 500
structure QP (dep : Nat) (c : Int) (ks : List Nd) (a L a' L' : Int) : Prop where
 fit : ∀ x ∈ ks, WF x 5 = true
 dep : ∀ x ∈ ks, Wn x <= dep
 size : L' + (QT ks : Int) <= L
 low : L <= L' \/ -c <= L'
 mono : a <= a'
 used : a' + 4 * L' <= a + 4 * L
theorem run_p {S : GenF} {dep : Nat} {c : Int} (hc : 4 <= c /\ c <= 40) (hS : ∀ a L, preS a L -> QE 5 dep 5 c (S a L).1 a L (S a L).2.1 (S a L).2.2) : ∀ (n : Nat) (a L : Int), 0 <= a -> a + 4 * L <= 1000000000 -> L <= 500 -> QP dep c (runP S n a L).1 a L (runP S n a L).2.1 (runP S n a L).2.2
 | 0, a, L, _, _, _ => by
  rw [runP]
  exact ⟨fun x hx => (by cases hx), fun x hx => (by cases hx), by simp [QT], .inl (by simp), by simp, by simp⟩
 | n + 1, a, L, p1, p2, p3 => by
  rw [runP]
  by_cases hL : 0 < L
  ·rw [if_pos hL]
   have h1 := hS a L ⟨p1, p2, by omega, p3⟩
   have hs := QZ (S a L).1
   have q1 := h1.low
   have q2 := h1.mono
   have q3 := h1.used
   have q4 := h1.size
   have ih := run_p hc hS n (S a L).2.1 (S a L).2.2 (by omega) (by omega) (by omega)
   have r1 := ih.low
   have r2 := ih.mono
   have r3 := ih.used
   have r4 := ih.size
   generalize runP S n (S a L).2.1 (S a L).2.2 = R at *
   generalize S a L = e at *
   refine ⟨fun x hx => ?_, fun x hx => ?_, ?_, ?_, ?_, ?_⟩
   ·rcases List.mem_cons.1 hx with rfl | hx
    ·exact h1.fit
    ·exact ih.fit x hx
   ·rcases List.mem_cons.1 hx with rfl | hx
    ·exact h1.dep
    ·exact ih.dep x hx
   ·rw [QT]; dsimp only; omega
   ·dsimp only; omega
   ·dsimp only; omega
   ·dsimp only; omega
  ·rw [if_neg hL]
   exact ⟨fun x hx => (by cases hx), fun x hx => (by cases hx), by simp [QT], .inl (by simp), by simp, by simp⟩
theorem partD_nd0 (v : Nd) : partD (Enc.enc v) 0 4 = some (Enc.enc v) := by cases v; rw [Q3]; rfl
theorem chBlock (l : List Int) (hl : OkI l) (e : Nat) (he : e <= 8) (S : GenF) (hS : ∀ a L, preS a L -> QE 5 (2 * e + 4) 5 (7 + e) (S a L).1 a L (S a L).2.1 (S a L).2.2 /\ CE Tryz.prog G 79 (fun p g => [.ptr p g 0, .i ((e : Int) - 1)]) (genC l a L) (.agg (Enc.enc (S a L).1)) (genC l (S a L).2.1 (S a L).2.2)) :
  ∃ Bk : GenF, ∀ a L, preB a L -> QE 6 (2 * e + 5) 1 (7 + e) (Bk a L).1 a L (Bk a L).2.1 (Bk a L).2.2 /\ CE Tryz.prog G 37 (fun p g => [.ptr p g 0, .i (e : Nat)]) (genC l a L) (.agg (Enc.enc (Bk a L).1)) (genC l (Bk a L).2.1 (Bk a L).2.2) := by
 refine gen_skolem (pre := preB) (R := fun a L t => QE 6 (2 * e + 5) 1 (7 + e) t.1 a L t.2.1 t.2.2 /\ CE Tryz.prog G 37 (fun p g => [.ptr p g 0, .i (e : Nat)]) (genC l a L) (.agg (Enc.enc t.1)) (genC l t.2.1 t.2.2)) fun a L h => ?_
 obtain ⟨p1, p2, p3, p4⟩ := h
 have b4 := QX l a (most := 4) (by decide)
 obtain ⟨N, hN⟩ : ∃ N : Nat, atI l a 4 = (N : Int) := ⟨(atI l a 4).toNat, by omega⟩
 have hq := run_p (S := S) (dep := 2 * e + 4) (c := 7 + e) (by omega) (fun a L h => (hS a L h).1) N (a + 1) (L - 1) (by omega) (by omega) (by omega)
 have hln := runP_len S N (a + 1) (L - 1)
 refine ⟨(.mk 13 0 0 (runP S N (a + 1) (L - 1)).1, (runP S N (a + 1) (L - 1)).2), ?_, fun g B hg => ?_⟩
 ·have q1 := hq.low
  have q2 := hq.mono
  have q3 := hq.used
  have q4 := hq.size
  have q5 := qQ hq.dep
  refine ⟨WT ⟨6, 0, 0, 0, [], 8, 0, 5⟩ rfl (by decide) (by decide) (by decide) (by decide) (by dsimp only; simp; omega) (kidsA rfl hq.fit), ?_, ?_, ?_, ?_, ?_⟩
  ·rw [Wn]; omega
  ·rw [QI]; dsimp only; omega
  ·dsimp only; omega
  ·dsimp only; omega
  ·dsimp only; omega
 clear hq
 have hnum := Wm (G := G) l hl a (L - 1) 4 (by omega) (by omega)
 rw [hN] at hnum b4
 generalize hT : runP S N (a + 1) (L - 1) = T at *
 refine Qa Tryz.func37 rfl Tryz.ntmps37 rfl (t := [(0, .ptr 0 g 0), (1, .i (e : Nat))]) rfl fun E0 hE0 => ?_
 (repeat' first | (refine Qo ?_; (first | (refine Qj ?_; refine QU rfl ?_) | (refine Qd ?_; refine Q5 rfl ?_) | (refine Ql ?_; refine Qf rfl rfl rfl ?_) | (refine Qh ?_; refine W1 rfl rfl (by omega) ?_) | (refine Qk ?_; refine Wf 0 (hnum) rfl rfl rfl rfl ?_) | (refine Qx ?_; (first | refine Qe rfl rfl rfl (by first | assumption | exact Enc.len _ | rfl) (by first | assumption | exact Enc.len _ | rfl) rfl ?_ | refine Q8 rfl rfl rfl rfl (by rfl) (by rfl) (by rfl) ?_)) | (refine Qb ?_; refine Qg rfl rfl ?_) | (refine QS ?_; refine QC rfl rfl ?_) | (refine Qy ?_; refine Qt rfl rfl ?_) | (refine QG ?_; refine QD (fun _ _ => ?_)))) | (refine Qv ?_; (first | refine Qu ?_ | refine QY rfl ?_ | refine Q1 ?_)) | (refine Qs ?_; (first | refine Qw ?_ | refine Qc ?_ | refine Qm ?_)))
 rename_i g4 hg4 g5 hg5
 refine r_ownin 2 3 4 rfl rfl (fun _ => rfl) (fun gk hgk => ?_)
 refine r_loop5 (fun (i : Nat) (o : List Nd) (b M : Int) (gg : Nat) => ⟨[(0, .ptr 0 g 0), (1, .i (e : Nat)), (4, .ptr 1 g4 0), (5, .ptr 2 g5 0), (6, .i N), (7, .i i)], [.row g (genC l b M), .row g4 [.i 0, .i 0, .i 0, .nil], .row g5 [.i 13, .i 0, .i 0, .ref 3 gg 0 o.length 4], .row gg (WH o)]⟩) (fun i o b M gg => i <= N /\ o.length <= i /\ E0.N < gg /\ o ++ (runP S (N - i) b M).1 = T.1 /\ (runP S (N - i) b M).2 = T.2 /\ 0 <= b /\ b + 4 * M <= 1000000000 /\ M <= 500 /\ -100 <= M) (fun i _ _ _ _ => N - i) 0 [] (a + 1) (L - 1) gk ?_ ⟨by omega, by simp, hgk, by rw [Nat.sub_zero, hT]; rfl, by rw [Nat.sub_zero, hT], by omega, by omega, by omega, by omega⟩ ?_
 ·exact zal rfl
 intro i o b M gg ⟨hi, hol, hgg, h1, h2, m1, m2, m3, m4⟩
 by_cases hiN : i < N
 ·rw [show N - i = (N - (i + 1)) + 1 by omega, runP] at h1 h2
  by_cases hM : 0 < M
  ·rw [if_pos hM] at h1 h2
   obtain ⟨hq, hE1⟩ := hS b M ⟨m1, m2, by omega, m3⟩
   have q1 := hq.low
   have q2 := hq.mono
   have q3 := hq.used
   have q4 := hq.size
   have hd1 : ((e : Nat) : Int) - 1 = (e : Int) - 1 := rfl
   generalize S b M = t at *
   obtain ⟨v1, b1, M1⟩ := t
   dsimp only at *
   have hs := QZ v1
   clear hS
   (repeat' first | (refine Qo ?_; (first | (refine Qj ?_; refine QU rfl ?_) | (refine Qd ?_; refine Q5 rfl ?_) | (refine Ql ?_; refine Qf rfl rfl rfl ?_) | (refine Qh ?_; (first | refine Wh rfl rfl ?_ | refine ZM rfl rfl ?_ | refine Zr rfl rfl (by omega) ?_)) | (refine Qk ?_; (first | refine qk (z := v1) rfl rfl rfl rfl rfl rfl rfl (by first | omega | (simp; omega)) (by first | omega | (simp; omega)) (fun _ => rfl) (fun _ _ => ?_) | refine Wf 0 (hE1) rfl rfl rfl rfl ?_)) | (refine QJ ?_; refine Ze rfl rfl ?_) | (refine Qx ?_; refine Q8 rfl rfl rfl rfl (by rfl) (by rfl) (by rfl) ?_) | (refine Qb ?_; refine Qg rfl rfl ?_) | (refine Qy ?_; refine Qt rfl rfl ?_))) | (refine Qv ?_; (first | refine Qu ?_ | refine QY rfl ?_ | refine WX rfl rfl rfl rfl ?_ | refine Wv rfl rfl (by omega) ?_)) | (refine Qs ?_; (first | refine Qw ?_ | refine Qc ?_ | refine Qm ?_ | (refine WJ ?_; first | (rename_i g4 hg4 ge hge; refine Qq (fun p => p :: .row g4 [.i 0, .i 0, .i 0, .nil] :: .row ge (Enc.enc v1) :: []) 6 [(0, true), (1, true), (2, true), (3, false), (4, true), (5, true), (6, false)] (by rfl) (by rfl) (by kernel_rfl) (by decide +kernel) (by decide +kernel) ⟨_, rfl⟩ ?_) | (rename_i g4 hg4 ge hge; refine Qq (fun p => p :: .row g4 [.i 0, .i 0, .i 0, .nil] :: .row ge (Enc.enc v1) :: []) 9 [(0, true), (1, true), (2, true), (4, true), (5, true), (3, false), (6, false), (7, true), (8, true), (9, false)] (by rfl) (by rfl) (by kernel_rfl) (by decide +kernel) (by decide +kernel) ⟨_, rfl⟩ ?_) | (rename_i g4 hg4 ge hge; refine Qq (fun p => p :: .row g4 [.i 0, .i 0, .i 0, .nil] :: .row ge (Enc.enc v1) :: []) 7 [(0, true), (2, true), (4, true), (5, true), (1, false), (3, false), (6, true), (7, false)] (by rfl) (by rfl) (by kernel_rfl) (by decide +kernel) (by decide +kernel) ⟨_, rfl⟩ ?_) | (rename_i g4 hg4 ge hge; refine Qq (fun p => p :: .row g4 [.i 0, .i 0, .i 0, .nil] :: .row ge (Enc.enc v1) :: []) 7 [(0, true), (2, true), (3, true), (1, false), (4, false), (5, true), (6, true), (7, false)] (by rfl) (by rfl) (by kernel_rfl) (by decide +kernel) (by decide +kernel) ⟨_, rfl⟩ ?_) | (rename_i g4 hg4 ge hge; refine Qq (fun p => p :: .row g4 [.i 0, .i 0, .i 0, .nil] :: .row ge (Enc.enc v1) :: []) 5 [(0, true), (2, true), (3, true), (1, false), (4, true), (5, false)] (by rfl) (by rfl) (by kernel_rfl) (by decide +kernel) (by decide +kernel) ⟨_, rfl⟩ ?_) | (refine Qq (fun p => p) 100 [(0, true)] (by rfl) (by rfl) (by kernel_rfl) (by decide +kernel) (by decide +kernel) ⟨_, rfl⟩ ?_) | (refine Qq (fun p => p.1 :: .row g4 [.i 0, .i 0, .i 0, .nil] :: .row g5 [.i 13, .i 0, .i 0, .ref 3 gg 0 o.length 4] :: p.2) 9 [(0, true), (1, true), (2, true), (3, true), (4, true), (5, false), (6, true), (7, false), (8, true), (9, false)] (by rfl) (by rfl) (by kernel_rfl) (by decide +kernel) (by decide +kernel) ⟨(_, _), rfl⟩ ?_) | refine Ws (by rfl) (by kernel_rfl) (by kernel_rfl) ?_ | refine Wr (by kernel_rfl) (by kernel_rfl) ?_) | refine QR ?_ | refine Qr rfl (by omega) ?_)) | (refine W8 ?_; (first | refine ZH ?_ | refine i_z0 ?_ | refine i_st rfl rfl (fun _ => (by (repeat' first | (refine Qo ?_; (first | (refine Qj ?_; refine QU rfl ?_) | (refine Ql ?_; refine Qf rfl rfl rfl ?_) | (refine Qh ?_; refine s_sub_as2 rfl rfl hd1 ⟨by omega, by omega⟩ ?_) | (refine QK ?_; refine Q0 (z := v1) rfl rfl (by decide) ?_) | (refine Qb ?_; refine Qg rfl rfl ?_))) | exact ⟨rfl, rfl⟩))) ?_ | refine i_ef rfl ?_)) | refine And.intro (Exists.intro ((_, _)) rfl) ?_)
   refine ⟨i + 1, o ++ [v1], b1, M1, _, ⟨by omega, by simp; omega, by assumption, by rw [List.append_assoc]; exact h1, h2, by omega, by omega, by omega, by omega⟩, by omega, ?_⟩
   exact zal rfl
  ·rw [if_neg hM] at h1 h2
   dsimp only at h1 h2
   rw [List.append_nil] at h1
   rw [<- h1, <- h2]
   clear hS
   (repeat' first | (refine Qo ?_; (first | (refine Qj ?_; refine QU rfl ?_) | (refine Ql ?_; (first | refine Qi rfl rfl (by first | assumption | exact Enc.len _ | rfl) ?_ | refine Qf rfl rfl rfl ?_)) | (refine Qh ?_; (first | refine Wh rfl rfl ?_ | refine ZM rfl rfl ?_)) | (refine QJ ?_; refine Ze rfl rfl ?_) | (refine Qx ?_; refine Qe rfl rfl rfl (by first | assumption | exact Enc.len _ | rfl) (by first | assumption | exact Enc.len _ | rfl) rfl ?_) | (refine Qb ?_; refine Qg rfl rfl ?_) | (refine Qy ?_; refine Qt rfl rfl ?_))) | (refine Qv ?_; (first | refine Qu ?_ | refine QY rfl ?_ | refine Q1 ?_ | refine WX rfl rfl rfl rfl ?_ | refine Wv rfl rfl (by omega) ?_)) | (refine Qs ?_; (first | refine Qw ?_ | refine Qc ?_ | refine Qn rfl (by omega) ?_ | refine WI rfl ?_ | refine QM ?_)))
   exact e_1 (Tryz.results37) (QA (size := 4) rfl rfl rfl rfl) (ZF (D := fun d => .agg [.i 13, .i 0, .i 0, d]) (k := 2) (.node rfl rfl rfl) rfl (by rw [Wu]; rfl) (by rw [Q3]; rfl) rfl)
 ·have hie : N - i = 0 := by omega
  rw [hie, runP] at h1 h2
  dsimp only at h1 h2
  rw [List.append_nil] at h1
  rw [<- h1, <- h2]
  clear hS
  (repeat' first | (refine Qo ?_; (first | (refine Qj ?_; refine QU rfl ?_) | (refine Ql ?_; refine Qi rfl rfl (by first | assumption | exact Enc.len _ | rfl) ?_) | (refine Qh ?_; refine Wh rfl rfl ?_) | (refine QJ ?_; refine WZ rfl rfl ?_) | (refine Qx ?_; refine Qe rfl rfl rfl (by first | assumption | exact Enc.len _ | rfl) (by first | assumption | exact Enc.len _ | rfl) rfl ?_))) | (refine Qv ?_; (first | refine Qu ?_ | refine QY rfl ?_ | refine Q1 ?_ | refine Zl rfl rfl rfl rfl ?_ | refine We rfl rfl (by omega) ?_)) | (refine Qs ?_; (first | refine Qw ?_ | refine Qc ?_ | refine QH rfl ?_ | refine WI rfl ?_ | refine QM ?_)))
  exact e_1 (Tryz.results37) (QA (size := 4) rfl rfl rfl rfl) (ZF (D := fun d => .agg [.i 13, .i 0, .i 0, d]) (k := 2) (.node rfl rfl rfl) rfl (by rw [Wu]; rfl) (by rw [Q3]; rfl) rfl)
end Go.Proofs
end
