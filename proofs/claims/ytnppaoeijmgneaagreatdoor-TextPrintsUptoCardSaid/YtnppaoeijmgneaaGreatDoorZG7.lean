/-
  Part 7 of the proof: U3 U4 AvT U5 U6 U7 U8 AvB4 XC RT RN.
-/
import Derived.Test.YtnppaoeijmgneaaGreatDoorRows
import Derived.ProofKit
import Derived.LaidMore
import Derived.LaidHandle
import Derived.LaidSub
import Derived.MakeChecks
import Derived.OpenShut
import Derived.Deep.Strs
import Derived.Stop.Joined
import Derived.Test.YtnppaoeijmgneaaGreatDoorZG0
import Derived.Test.YtnppaoeijmgneaaGreatDoorZG1
import Derived.Test.YtnppaoeijmgneaaGreatDoorZG2
import Derived.Test.YtnppaoeijmgneaaGreatDoorZG3
import Derived.Test.YtnppaoeijmgneaaGreatDoorZG4
import Derived.Test.YtnppaoeijmgneaaGreatDoorZG5
import Derived.Test.YtnppaoeijmgneaaGreatDoorZG6
set_option linter.unusedSimpArgs false
set_option linter.unusedVariables false
set_option maxRecDepth 100000
set_option maxHeartbeats 4000000
section
namespace Go.Proofs
open Go.Av
variable {G : Nat -> DV}
attribute [local irreducible] OpSem W7 Zk ZC ACalls qg AClose RV
open Go.Bl
def RxC (G : Nat -> DV) (t : Nd) : Prop := ∃ x, Go.Av.Pure Tryz.prog G 55 [.agg (Enc.enc t)] (.tup [Ww x, .b (Zh t)]) /\ (Zh t = true -> x = exT t)
theorem wkU3 {X W0 W1 W2 : Prop} (w0 : W0 := by exact True.intro) (w1 : W1 := by exact True.intro) (w2 : W2 := by exact True.intro) (s : (Unit -> W0) -> (Unit -> W1) -> (Unit -> W2) -> Unit -> X := by (intro w0 w1 w2 _;(repeat' first|(refine QH ?_;(first|refine Wu rfl ?_|refine WJ rfl ?_|(refine We ?_;(first|refine qj rfl rfl ?_|refine Q6 rfl ?_|refine Qc rfl rfl rfl ?_))|refine QN rfl rfl (by first|assumption|omega|(simp;done)|(simp;omega)) ?_|(refine Qr ?_;(first|refine Zu rfl rfl ?_|refine qL rfl rfl ?_|refine Wg rfl rfl ?_|refine Z4 rfl rfl (by omega) ?_|refine s_ad rfl rfl ?_))|(refine QC ?_;(first|refine Zn (z := Str.mk _) rfl rfl rfl rfl rfl rfl rfl (by first|omega|(simp;omega)) (by first|omega|(simp;omega)) (fun _ => rfl) (fun _ _ => ?_)|refine Q3 rfl ?_|refine WW rfl rfl (hdig) ?_|refine WW rfl rfl (hsm) ?_|refine WW rfl rfl (hbr) ?_|refine WW rfl rfl (hes) ?_|refine WW rfl rfl (hes2) ?_|refine WW rfl rfl (Z9 _ _ _ _ _) ?_|refine WW rfl rfl (hx) ?_))|(refine Wz ?_;(first|refine qb rfl rfl ?_|refine Zf rfl rfl ?_))|refine Zc rfl rfl (by decide) rfl ?_|refine s_not rfl ?_|refine Qd rfl rfl ?_|refine WM rfl rfl rfl ?_|refine Z3 rfl rfl (fun _ _ => ?_)))|(refine QZ ?_;(first|refine QX ?_|refine WT rfl ?_|refine Zx rfl rfl rfl rfl ?_|refine qA rfl rfl rfl rfl ?_|refine WF rfl rfl (by omega) ?_|refine Q0 rfl rfl (by omega) ?_))|(refine QY ?_;(first|refine QW ?_|refine Ql ?_|refine Qu ?_|(refine W8 ?_;first|refine WC (by rfl) (by kernel_rfl) (by kernel_rfl) ?_|refine WB (by kernel_rfl) (by kernel_rfl) ?_)|refine QQ ?_|refine QO rfl ?_|refine Wn rfl ?_|refine Qn rfl (by omega) ?_|refine Qm rfl (by omega) ?_|refine Zq rfl ?_|refine Q2 ?_))|(refine g_lex ?_;(first|refine x_gn rfl rfl rfl rfl ?_|refine x_op rfl (by (repeat' first|(refine QH ?_;(first|refine Wu rfl ?_|refine WJ rfl ?_|(refine We ?_;(first|refine qj rfl rfl ?_|refine Wc rfl ?_|refine Qc rfl rfl rfl ?_))|(refine W4 ?_;(first|refine QN rfl rfl (by first|assumption|omega|(simp;done)|(simp;omega)) ?_|refine qG rfl rfl (by omega) (by first|assumption|omega|(simp;done)|(simp;omega)) ?_))|(refine Qr ?_;(first|refine WI rfl rfl ?_|refine qL rfl rfl ?_|refine Wg rfl rfl ?_|refine s_ad rfl rfl ?_))|(refine QC ?_;(first|refine s_max rfl rfl ?_|refine Q3 rfl ?_|refine s_min rfl rfl ?_|refine WW rfl rfl (hdig) ?_|refine WW rfl rfl (hdig2) ?_|refine WW rfl rfl (hsm) ?_|refine WW rfl rfl (hsm2) ?_|refine WW rfl rfl (hli) ?_|refine WW rfl rfl (hops) ?_|refine WW rfl rfl (Z9 _ _ _ _ _) ?_))|(refine Wz ?_;(first|refine qb rfl rfl ?_|refine Zf rfl rfl ?_))|refine s_bslice_e [Str.mk [102, 97, 108, 115, 101], Str.mk [116, 114, 117, 101]] rfl rfl (by decide) rfl ?_|refine s_neg rfl (by omega) ?_|refine Qd rfl rfl ?_))|exact ⟨rfl, rfl⟩)) ?_|refine x_gy rfl rfl rfl rfl (by (repeat' first|(refine QH ?_;(first|refine Wu rfl ?_|refine WJ rfl ?_|(refine We ?_;(first|refine qj rfl rfl ?_|refine Wc rfl ?_|refine Qc rfl rfl rfl ?_))|(refine W4 ?_;(first|refine QN rfl rfl (by first|assumption|omega|(simp;done)|(simp;omega)) ?_|refine qG rfl rfl (by omega) (by first|assumption|omega|(simp;done)|(simp;omega)) ?_))|(refine Qr ?_;(first|refine WI rfl rfl ?_|refine qL rfl rfl ?_|refine Wg rfl rfl ?_|refine s_ad rfl rfl ?_))|(refine QC ?_;(first|refine s_max rfl rfl ?_|refine Q3 rfl ?_|refine s_min rfl rfl ?_|refine WW rfl rfl (hdig) ?_|refine WW rfl rfl (hdig2) ?_|refine WW rfl rfl (hsm) ?_|refine WW rfl rfl (hsm2) ?_|refine WW rfl rfl (hli) ?_|refine WW rfl rfl (hops) ?_|refine WW rfl rfl (Z9 _ _ _ _ _) ?_))|(refine Wz ?_;(first|refine qb rfl rfl ?_|refine Zf rfl rfl ?_))|refine s_bslice_e [Str.mk [102, 97, 108, 115, 101], Str.mk [116, 114, 117, 101]] rfl rfl (by decide) rfl ?_|refine s_neg rfl (by omega) ?_|refine Qd rfl rfl ?_))|exact ⟨rfl, rfl⟩)) ?_|refine x_nil ?_|refine x_sp_t rfl rfl (by omega) ?_|refine x_sp_f rfl rfl (by omega) ?_|refine x_sp_d rfl rfl (fun _ => ?_) (fun _ => ?_)|refine x_sp rfl rfl (fun _ => ?_) (fun _ => ?_))));(all_goals (repeat (rename_i x;(fail_if_success have : Unit := x);revert x)));(first|done|exact w0 ());(first|done|exact w1 ());(first|done|exact w2 ()))) (u : (W0 \/ True) /\ (W1 \/ True) /\ (W2 \/ True) := by (refine ⟨?_, ?_, ?_⟩ <;> first|exact Or.inl True.intro|exact Or.inr True.intro)) : X := s (fun _ => w0) (fun _ => w1) (fun _ => w2) ()
theorem rexprs_c (ks : List Nd) (hsz : Qo ks <= 1000000) (hi : ∀ x ∈ ks, RxC G x) : Go.Av.Pure Tryz.prog G 98 [Qt ks] (.tup [Qt (if ks.all Zh = true then ks.map (fun x => Str.mk (exT x)) else []), .b (ks.all Zh)]) := fun B => by
 have hl1 := Wm ks
 refine Qa Tryz.func98 rfl Tryz.ntmps98 rfl (t := [(0, Qt ks)]) rfl fun E hE => ?_
 (refine wkU3 ?_;intros)
 refine r_own 4 1 rfl fun gO hgO => ?_
 refine r_loopg (fun (i : Nat) g => ⟨[(0, Qt ks), (4, .ref 0 g 0 ((ks.take i).map fun x => Str.mk (exT x)).length 1), (5, .i i)], [.row g (Q1 ((ks.take i).map fun x => Str.mk (exT x)))]⟩) (fun i => i <= ks.length /\ (ks.take i).all Zh = true) (fun i => ks.length - i) 0 gO hgO ?_ (by simp) ?_
 ·exact zal rfl
 intro i g ⟨hil0, hall⟩ hg
 by_cases hil : i < ks.length
 ·obtain ⟨y, hx, hxe⟩ := hi _ (List.getElem_mem hil)
  by_cases hk : Zh ks[i] = true
  ·have hye := hxe hk
   subst hye
   rw [hk] at hx
   have hb2 : ((ks.take (i + 1)).map fun x => Str.mk (exT x)) = ((ks.take i).map fun x => Str.mk (exT x)) ++ [Str.mk (exT ks[i])] := by rw [List.take_succ_eq_append_getElem hil, List.map_append];rfl
   have hal : ((ks.take i).map fun x => Str.mk (exT x)).length <= 1048576 := by simp;omega
   (refine wkU3 ?_;intros)
   refine ⟨i + 1, _, ⟨by omega, by rw [List.take_succ_eq_append_getElem hil, List.all_append, hall];simp [hk]⟩, by assumption, by omega, ?_⟩
   rw [hb2]
   exact zal rfl
  ·have hk2 : Zh ks[i] = false := by rw [<- Bool.not_eq_true];exact hk
   rw [hk2] at hx
   have hna : ks.all Zh = false := by
    rw [<- Bool.not_eq_true, List.all_eq_true]
    intro h;exact hk (h _ (List.getElem_mem hil))
   (refine wkU3 ?_;intros)
   exact e_2 (Tryz.results98) (Qb rfl) (Qb rfl) (Zr (fun L v h => Zy (fun v hv => Ze (es := 1) hv) h) (Qi (by simp [hna];rfl)))
 ·have hie : i = ks.length := by omega
  subst hie
  rw [List.take_length] at *
  refine r_pub 4 rfl rfl (by rw [Qx];rfl) rfl ?_
  (refine wkU3 ?_;intros)
  exact e_2 (Tryz.results98) (Qb rfl) (Qb rfl) (W3 (σ := []) ⟨by simp [hall];rfl, rfl⟩)
theorem exOk_all (k n m : Int) (ks : List Nd) (h : Zh (.mk k n m ks) = true) : ks.all Zh = true := by
 rw [Zh, WQ] at h
 have h0 : ks.length = 0 -> ks.all Zh = true := fun h => by rw [List.eq_nil_of_length_eq_zero h];rfl
 have hp : QK m ks.length 0 = true -> ks.all Zh = true := fun h => h0 (by unfold QK at h;simp only [Bool.and_eq_true, Bool.or_eq_true, decide_eq_true_eq] at h;omega)
 split at h
 ·simp only [Bool.and_eq_true] at h;exact hp h.1
 split at h
 ·simp only [Bool.and_eq_true] at h;exact hp h.1
 split at h
 ·simp only [Bool.and_eq_true] at h;exact hp h.1
 split at h
 ·simp only [Bool.and_eq_true] at h;exact h.2
 split at h
 ·simp only [Bool.and_eq_true, decide_eq_true_eq] at h;exact h0 h.1.1
 split at h
 ·simp only [Bool.and_eq_true] at h;exact h.2
 split at h
 ·simp only [Bool.and_eq_true] at h;exact h.2
 split at h
 ·simp only [Bool.and_eq_true] at h;exact h.2
 split at h
 ·simp only [Bool.and_eq_true] at h;exact hp h.1
 ·cases h
theorem exOk_small (k n m : Int) (ks : List Nd) (hk : k ≠ 4) (h : Zh (.mk k n m ks) = true) : WH n = true := by
 rw [Zh] at h
 have h5 : decide (n = 0) = true \/ decide (n = 1) = true -> WH n = true := fun h => by simp [WH] at h ⊢;omega
 split at h
 ·exact absurd (by assumption) hk
 split at h
 ·simp only [Bool.and_eq_true, Bool.or_eq_true] at h;exact h5 h.2
 split at h
 ·simp only [Bool.and_eq_true] at h;exact h.2
 split at h
 ·simp only [Bool.and_eq_true] at h;exact h.1.2
 split at h
 ·simp only [Bool.and_eq_true, decide_eq_true_eq] at h;exact h.1.2
 split at h
 ·simp only [Bool.and_eq_true, decide_eq_true_eq] at h;simp [WH];omega
 split at h
 ·simp only [Bool.and_eq_true, Wq, decide_eq_true_eq] at h;simp [WH];omega
 split at h
 ·simp only [Bool.and_eq_true] at h;exact h.1.2
 split at h
 ·simp only [Bool.and_eq_true] at h;exact h.2
 ·cases h
theorem ZI (m : Int) (l : Nat) : QK m l (-1) = decide (m = 0) := by unfold QK;simp
theorem opAt2 {n : Int} (h0 : 0 <= n) (h1 : n < 14) (h : n.toNat < (opTexts.map Str.mk).length) : ((opTexts.map Str.mk)[n.toNat]).l = opTexts.getD n.toNat [] := by
 rw [List.getElem_map, List.getD_eq_getElem?_getD, List.getElem?_eq_getElem (by simpa using h)];rfl
theorem rEx_c (t : Nd) : okN t -> Qe t <= 1000000 -> RxC G t := by
 induction t using Nd.ind with
 | h k n m ks ih =>
 intro hok hsz
 rw [okN] at hok
 rw [Qe] at hsz
 have hl1 := Wm ks
 have hes := rexprs_c ks (by omega) fun x hx => ih x hx (Q4 hok.2 hx) (by have := QJ hx;omega)
 have hcl := ZK exT ks (fun x hx => qT x (Q4 hok.2 hx))
 have hxl : ∀ x ∈ ks, (exT x).length <= 60000000 := fun x hx => by have := qT x (Q4 hok.2 hx);have := QJ hx;omega
 have hsx := exOk_small k n m ks
 have hax := exOk_all k n m ks
 clear ih
 unfold RxC
 rw [Qp]
 by_cases hall : ks.all Zh = true
 ·rw [hall, if_pos rfl] at hes
  have hst : qm (ks.map fun x => Str.mk (exT x)) = ks.map exT := by unfold qm;rw [List.map_map];rfl
  have hli := r_list_c (G := G) (ks.map fun x => Str.mk (exT x)) (by rw [hst];omega) (by simp;omega)
  rw [hst] at hli
  by_cases k4 : k = 4
  ·subst k4
   by_cases hn : n < 0
   ·have hdig : Go.Av.Pure Tryz.prog G 93 [.i (-(max n (-999)))] (Ww (Lib.decDigits (-(max n (-999))).toNat)) := by
     have := qI (G := G) (-(max n (-999))).toNat (by omega)
     rwa [show (((-(max n (-999))).toNat : Nat) : Int) = -(max n (-999)) by omega] at this
    have hdl := digits_len (-(max n (-999))).toNat (by omega)
    have hi := hok.1.2.1.1
    refine ⟨[45] ++ Lib.decDigits (-(max n (-999))).toNat, fun B => ?_, fun h => ?_⟩
    ·by_cases h9 : -999 <= n
     all_goals
      refine Qa Tryz.func55 rfl Tryz.ntmps55 rfl (t := [(0, .agg [.i 4, .i n, .i m, Qt ks])]) rfl fun E hE => ?_
      (refine wkU3 ?_ ?_ <;> first|exact True.intro|intros)
      all_goals exact e_2 (Tryz.results55) (Qb rfl) (Qb rfl) (Qi (by rw [Zh, WQ];simp [Wb, *]))
    ·rw [Zh] at h
     rw [exT, if_pos rfl]
     have h9 : -999 <= n := by simp [hn] at h;omega
     unfold Lib.itoa
     rw [if_pos hn, show (-(max n (-999))).toNat = n.natAbs by omega];rfl
   ·have hn0 : 0 <= n := by omega
    have hdig : Go.Av.Pure Tryz.prog G 93 [.i n] (Ww (Lib.itoa n)) := by
     rw [itoa_nat hn0]
     have := qI (G := G) n.toNat (by have := hok.1.2.1.2;omega)
     rwa [show ((n.toNat : Nat) : Int) = n by omega] at this
    refine ⟨Lib.itoa n, fun B => ?_, fun h => by rw [exT, if_pos rfl]⟩
    by_cases hs : WH n = true
    ·have hsm : Go.Av.Pure Tryz.prog G 92 [.i n] (.b true) := by have := ZH (G := G) n;rwa [hs] at this
     refine Qa Tryz.func55 rfl Tryz.ntmps55 rfl (t := [(0, .agg [.i 4, .i n, .i m, Qt ks])]) rfl fun E hE => ?_
     (refine wkU3 ?_;intros)
     all_goals exact e_2 (Tryz.results55) (Qb rfl) (Qb rfl) (Qi (by rw [Zh, WQ];simp [Wb, *]))
    ·have hs2 : WH n = false := by rw [<- Bool.not_eq_true];exact hs
     have hsm : Go.Av.Pure Tryz.prog G 92 [.i n] (.b false) := by have := ZH (G := G) n;rwa [hs2] at this
     refine Qa Tryz.func55 rfl Tryz.ntmps55 rfl (t := [(0, .agg [.i 4, .i n, .i m, Qt ks])]) rfl fun E hE => ?_
     (refine wkU3 ?_;intros)
     all_goals exact e_2 (Tryz.results55) (Qb rfl) (Qb rfl) (Qi (by rw [Zh, WQ];simp [Wb, *]))
  have hsx := hsx k4
  by_cases hs : WH n = true
  case neg =>
   have hs2 : WH n = false := by rw [<- Bool.not_eq_true];exact hs
   have hsm : Go.Av.Pure Tryz.prog G 92 [.i n] (.b false) := by have := ZH (G := G) n;rwa [hs2] at this
   have hf : Zh (.mk k n m ks) = false := by rw [<- Bool.not_eq_true];exact fun h => hs (hsx h)
   refine ⟨[], fun B => ?_, fun h => by rw [hf] at h;cases h⟩
   refine Qa Tryz.func55 rfl Tryz.ntmps55 rfl (t := [(0, .agg [.i k, .i n, .i m, Qt ks])]) rfl fun E hE => ?_
   (refine wkU3 ?_;intros)
   all_goals exact e_2 (Tryz.results55) (Qb rfl) (Qb rfl) (Qi (by rw [hf]))
  have hsm : Go.Av.Pure Tryz.prog G 92 [.i n] (.b true) := by have := ZH (G := G) n;rwa [hs] at this
  obtain ⟨hn0, hn9⟩ := qK hs
  have hdig : Go.Av.Pure Tryz.prog G 93 [.i n] (Ww (Lib.itoa n)) := by
   rw [itoa_nat hn0]
   have := qI (G := G) n.toNat (by omega)
   rwa [show ((n.toNat : Nat) : Int) = n by omega] at this
  have hil := WZ hok.1.2.1
  by_cases k5 : k = 5
  ·subst k5
   refine ⟨if n = 0 then [102, 97, 108, 115, 101] else [116, 114, 117, 101], fun B => ?_, fun h => ?_⟩
   ·by_cases n0 : n = 0
    ·subst n0
     refine Qa Tryz.func55 rfl Tryz.ntmps55 rfl (t := [(0, .agg [.i 5, .i 0, .i m, Qt ks])]) rfl fun E hE => ?_
     (refine wkU3 ?_;intros)
     all_goals exact e_2 (Tryz.results55) (Qb rfl) (Qb rfl) (Qi (by rw [Zh, WQ];simp [Wb, WX, *]))
    ·have hmin : min n 1 = 1 := by omega
     by_cases n1 : n <= 1
     all_goals
      refine Qa Tryz.func55 rfl Tryz.ntmps55 rfl (t := [(0, .agg [.i 5, .i n, .i m, Qt ks])]) rfl fun E hE => ?_
      (refine wkU3 ?_ ?_ <;> first|exact True.intro|intros)
      all_goals exact e_2 (Tryz.results55) (Qb rfl) (Qb rfl) (Qi (by rw [Zh, WQ];simp [Wb, WX, *] <;> omega))
   ·rw [Zh, WQ] at h
    rw [exT, qS]
    simp at h ⊢
    rcases h.2 with h|h <;> simp [h]
  by_cases k6 : k = 6
  ·subst k6
   refine ⟨[118] ++ Lib.itoa n, fun B => ?_, fun h => ?_⟩
   ·refine Qa Tryz.func55 rfl Tryz.ntmps55 rfl (t := [(0, .agg [.i 6, .i n, .i m, Qt ks])]) rfl fun E hE => ?_
    (refine wkU3 ?_;intros)
    all_goals exact e_2 (Tryz.results55) (Qb rfl) (Qb rfl) (Qi (by rw [Zh, WQ];simp [Wb, WX, *]))
   ·rw [Zh, WQ] at h
    rw [exT, qS]
    simp at h ⊢
  by_cases k7 : k = 7
  ·subst k7
   refine ⟨[118] ++ Lib.itoa n ++ [91] ++ Wv (ks.map exT) ++ [93], fun B => ?_, fun h => ?_⟩
   ·refine Qa Tryz.func55 rfl Tryz.ntmps55 rfl (t := [(0, .agg [.i 7, .i n, .i m, Qt ks])]) rfl fun E hE => ?_
    (refine wkU3 ?_;intros)
    all_goals exact e_2 (Tryz.results55) (Qb rfl) (Qb rfl) (Qi (by rw [Zh, WQ];simp [Wb, WX, *]))
   ·rw [Zh, WQ] at h
    rw [exT, qS]
    simp at h ⊢
  by_cases k8 : k = 8
  ·subst k8
   have hdig2 : Go.Av.Pure Tryz.prog G 93 [.i (max m 0)] (Ww (Lib.decDigits m.toNat)) := by
    rw [show max m 0 = (m.toNat : Int) by omega];exact qI _ (by have := hok.1.2.2.2;omega)
   have hdl := digits_len m.toNat (by have := hok.1.2.2.2;omega)
   have hsm2 := ZH (G := G) m
   refine ⟨[118] ++ Lib.itoa n ++ [46] ++ Lib.decDigits m.toNat, fun B => ?_, fun h => ?_⟩
   ·refine Qa Tryz.func55 rfl Tryz.ntmps55 rfl (t := [(0, .agg [.i 8, .i n, .i m, Qt ks])]) rfl fun E hE => ?_
    (refine wkU3 ?_ ?_ <;> first|exact True.intro|intros)
    all_goals exact e_2 (Tryz.results55) (Qb rfl) (Qb rfl) (Qi (by rw [Zh, WQ];simp [Wb, WX, *]))
   ·rw [Zh, WQ] at h
    rw [exT, qS]
    simp at h ⊢
    rw [itoa_nat (qK h.2).1]
  by_cases k10 : k = 10
  ·subst k10
   refine ⟨[33] ++ Wv (ks.map exT), fun B => ?_, fun h => ?_⟩
   ·refine Qa Tryz.func55 rfl Tryz.ntmps55 rfl (t := [(0, .agg [.i 10, .i n, .i m, Qt ks])]) rfl fun E hE => ?_
    (refine wkU3 ?_ ?_ <;> first|exact True.intro|intros)
    all_goals exact e_2 (Tryz.results55) (Qb rfl) (Qb rfl) (Qi (by rw [Zh, WQ];simp [Wb, WX, *]))
   ·rw [Zh, WQ] at h
    rw [exT, qS]
    simp at h ⊢
  by_cases k11 : k = 11
  ·subst k11
   refine ⟨[102] ++ Lib.itoa n ++ [40] ++ Wv (ks.map exT) ++ [41], fun B => ?_, fun h => ?_⟩
   ·refine Qa Tryz.func55 rfl Tryz.ntmps55 rfl (t := [(0, .agg [.i 11, .i n, .i m, Qt ks])]) rfl fun E hE => ?_
    (refine wkU3 ?_;intros)
    all_goals exact e_2 (Tryz.results55) (Qb rfl) (Qb rfl) (Qi (by rw [Zh, WQ];simp [Wb, WX, ZI, *]))
   ·rw [Zh, WQ] at h
    rw [exT, qS]
    simp at h ⊢
  by_cases k12 : k = 12
  ·subst k12
   refine ⟨[114, 101, 99, 118, 32, 99] ++ Lib.itoa n, fun B => ?_, fun h => ?_⟩
   ·refine Qa Tryz.func55 rfl Tryz.ntmps55 rfl (t := [(0, .agg [.i 12, .i n, .i m, Qt ks])]) rfl fun E hE => ?_
    (refine wkU3 ?_;intros)
    all_goals exact e_2 (Tryz.results55) (Qb rfl) (Qb rfl) (Qi (by rw [Zh, WQ];simp [Wb, WX, *]))
   ·rw [Zh, WQ] at h
    rw [exT, qS]
    simp at h ⊢
  by_cases k9 : k = 9
  ·subst k9
   have hops := r_ops_c (G := G)
   by_cases hc : n < 14 /\ bareR m ks.length 2 = true
   ·obtain ⟨hn14, hbr2⟩ := hc
    have h2 : ks.length = 2 := by simp [bareR] at hbr2;omega
    match ks, h2 with
    | [a, b], _ =>
     have hal := hxl a (by simp)
     have hbl := hxl b (by simp)
     have hlt : n.toNat < (opTexts.map Str.mk).length := by show n.toNat < 14;omega
     have hoa := opAt2 hn0 hn14 hlt
     have hol' : ((opTexts.map Str.mk)[n.toNat]).l.length <= 2 := by rw [hoa];exact opTexts_len n.toNat
     have hbr : Go.Av.Pure Tryz.prog G 97 [.agg [.i 9, .i n, .i m, Qt [a, b]], .i 2] (.b true) := by have := Z9 (G := G) 9 n m [a, b] 2;rwa [hbr2] at this
     obtain ⟨ls, hls⟩ : ∃ ls, ls = [Str.mk (exT a), Str.mk (exT b)] := ⟨_, rfl⟩
     have hes2 : Go.Av.Pure Tryz.prog G 98 [Qt [a, b]] (.tup [Qt ls, .b true]) := by rw [hls];exact hes
     have hll : ls.length = 2 := by rw [hls];rfl
     have hz0 : 0 < ls.length := by omega
     have hz1 : 1 < ls.length := by omega
     have ha0 : ls[0].l = exT a := by subst hls;rfl
     have hb0 : ls[1].l = exT b := by subst hls;rfl
     have hla : ls[0].l.length <= 60000000 := by rw [ha0];exact hal
     have hlb : ls[1].l.length <= 60000000 := by rw [hb0];exact hbl
     clear hls hes hcl hxl hst hli hax hsx
     refine ⟨[40] ++ exT a ++ [32] ++ ((opTexts.map Str.mk)[n.toNat]).l ++ [32] ++ exT b ++ [41], fun B => ?_, fun h => ?_⟩
     ·refine Qa Tryz.func55 rfl Tryz.ntmps55 rfl (t := [(0, .agg [.i 9, .i n, .i m, Qt [a, b]])]) rfl fun E hE => ?_
      (refine wkU3 ?_;intros)
      have hbr3 : bareR m 2 2 = true := hbr2
      all_goals exact e_2 (Tryz.results55) (Qb rfl) (Qb rfl) (Qi (by rw [Zh, WQ];simp [Wb, WX, *]))
     ·have hbr3 : bareR m 2 2 = true := hbr2
      rw [exT, qS, hoa]
      simp [Wb, hbr3, hn0, hn14]
   ·refine ⟨[], fun B => ?_, fun h => by rw [Zh] at h;simp [Wb] at h;exact absurd ⟨h.1.2.2, h.1.1⟩ hc⟩
    by_cases hn14 : n < 14
    ·have hbr2 : bareR m ks.length 2 = false := by rw [<- Bool.not_eq_true];exact fun h => hc ⟨hn14, h⟩
     have hbr : Go.Av.Pure Tryz.prog G 97 [.agg [.i 9, .i n, .i m, Qt ks], .i 2] (.b false) := by have := Z9 (G := G) 9 n m ks 2;rwa [hbr2] at this
     refine Qa Tryz.func55 rfl Tryz.ntmps55 rfl (t := [(0, .agg [.i 9, .i n, .i m, Qt ks])]) rfl fun E hE => ?_
     (refine wkU3 ?_;intros)
     all_goals exact e_2 (Tryz.results55) (Qb rfl) (Qb rfl) (Qi (by rw [Zh, WQ];simp [Wb, WX, *]))
    ·refine Qa Tryz.func55 rfl Tryz.ntmps55 rfl (t := [(0, .agg [.i 9, .i n, .i m, Qt ks])]) rfl fun E hE => ?_
     (refine wkU3 ?_;intros)
     all_goals exact e_2 (Tryz.results55) (Qb rfl) (Qb rfl) (Qi (by rw [Zh, WQ];simp [Wb, WX, *]))
  refine ⟨[], fun B => ?_, fun h => by rw [Zh] at h;simp [*] at h⟩
  refine Qa Tryz.func55 rfl Tryz.ntmps55 rfl (t := [(0, .agg [.i k, .i n, .i m, Qt ks])]) rfl fun E hE => ?_
  (refine wkU3 ?_;intros)
  all_goals exact e_2 (Tryz.results55) (Qb rfl) (Qb rfl) (Qi (by rw [Zh, WQ];simp [Wb, WX, *]))
 ·have hall2 : ks.all Zh = false := by rw [<- Bool.not_eq_true];exact hall
  rw [hall2] at hes
  have hf : Zh (.mk k n m ks) = false := by rw [<- Bool.not_eq_true];exact fun h => hall (hax h)
  refine ⟨[], fun B => ?_, fun h => by rw [hf] at h;cases h⟩
  refine Qa Tryz.func55 rfl Tryz.ntmps55 rfl (t := [(0, .agg [.i k, .i n, .i m, Qt ks])]) rfl fun E hE => ?_
  (refine wkU3 ?_;intros)
  exact e_2 (Tryz.results55) (Qb rfl) (Qb rfl) (Qi (by rw [hf]))
theorem simOk_all (k n m : Int) (ks : List Nd) (h : Zp (.mk k n m ks) = true) : ks.all Zh = true := by
 rw [Zp] at h
 have h0 : ks.length = 0 -> ks.all Zh = true := fun h => by rw [List.eq_nil_of_length_eq_zero h];rfl
 have hb : Wq n m ks.length 0 = true -> ks.all Zh = true := fun h => h0 (by unfold Wq QK at h;simp only [Bool.and_eq_true, Bool.or_eq_true, decide_eq_true_eq] at h;omega)
 repeat' split at h
 all_goals first|exact hb h|(simp only [Bool.and_eq_true] at h;exact h.2)|cases h
theorem simOk_small (k n m : Int) (ks : List Nd) (h : Zp (.mk k n m ks) = true) : WH n = true := by
 rw [Zp] at h
 have h0 : ∀ c : Int, Wq n m ks.length c = true -> WH n = true := fun c h => by unfold Wq at h;simp only [Bool.and_eq_true, decide_eq_true_eq] at h;simp [WH, h.1]
 repeat' split at h
 all_goals first|exact h0 _ h|(simp only [Bool.and_eq_true] at h;first|exact h.1.2|exact h.1.1.2|exact h0 _ h.1)|cases h
theorem ZU (a : List UInt8) : Wv [a] = a := Lib.join_one _ _
theorem wkU4 {X W0 W1 W2 : Prop} (w0 : W0 := by exact True.intro) (w1 : W1 := by exact True.intro) (w2 : W2 := by exact True.intro) (s : (Unit -> W0) -> (Unit -> W1) -> (Unit -> W2) -> Unit -> X := by (intro w0 w1 w2 _;(repeat' first|(refine QH ?_;(first|refine Wu rfl ?_|refine WJ rfl ?_|(refine We ?_;(first|refine qj rfl rfl ?_|refine Wc rfl ?_|refine Qc rfl rfl rfl ?_))|refine QN rfl rfl (by first|assumption|omega|(simp;done)|(simp;omega)) ?_|(refine Qr ?_;(first|refine Wg rfl rfl ?_|refine s_ad rfl rfl ?_))|(refine QC ?_;(first|refine WW rfl rfl (hdig) ?_|refine WW rfl rfl (hsm) ?_|refine WW rfl rfl (hbr) ?_|refine WW rfl rfl (hbr1) ?_|refine WW rfl rfl (hes) ?_|refine WW rfl rfl (hes2) ?_|refine WW rfl rfl (Z9 _ _ _ _ _) ?_))|(refine Wz ?_;(first|refine qb rfl rfl ?_|refine Zf rfl rfl ?_))|refine s_not rfl ?_|refine Qd rfl rfl ?_|refine WM rfl rfl rfl ?_|refine Z3 rfl rfl (fun _ _ => ?_)))|(refine QZ ?_;(first|refine QX ?_|refine WT rfl ?_|refine Zx rfl rfl rfl rfl ?_|refine qA rfl rfl rfl rfl ?_|refine WF rfl rfl (by omega) ?_|refine Q0 rfl rfl (by omega) ?_))|(refine QY ?_;(first|refine QW ?_|refine Ql ?_|refine Qu ?_|(refine W8 ?_;first|refine WC (by rfl) (by kernel_rfl) (by kernel_rfl) ?_|refine WB (by kernel_rfl) (by kernel_rfl) ?_)|refine QQ ?_|refine QO rfl ?_|refine Wn rfl ?_|refine Qm rfl (by omega) ?_|refine Q2 ?_))|(refine g_lex ?_;(first|refine x_gn rfl rfl rfl rfl ?_|refine x_op rfl (by (repeat' first|(refine QH ?_;(first|refine Wu rfl ?_|refine WJ rfl ?_|(refine We ?_;(first|refine Wc rfl ?_|refine Qc rfl rfl rfl ?_))|refine QN rfl rfl (by first|assumption|omega|(simp;done)|(simp;omega)) ?_|(refine Qr ?_;(first|refine Wg rfl rfl ?_|refine s_ad rfl rfl ?_))|(refine QC ?_;(first|refine s_max rfl rfl ?_|refine Q3 rfl ?_|refine WW rfl rfl (hdig2) ?_|refine WW rfl rfl (hsm2) ?_|refine WW rfl rfl (hli) ?_))|(refine Wz ?_;(first|refine qb rfl rfl ?_|refine Zf rfl rfl ?_))|refine Qd rfl rfl ?_))|exact ⟨rfl, rfl⟩)) ?_|refine x_gy rfl rfl rfl rfl (by (repeat' first|(refine QH ?_;(first|refine Wu rfl ?_|refine WJ rfl ?_|(refine We ?_;(first|refine Wc rfl ?_|refine Qc rfl rfl rfl ?_))|refine QN rfl rfl (by first|assumption|omega|(simp;done)|(simp;omega)) ?_|(refine Qr ?_;(first|refine Wg rfl rfl ?_|refine s_ad rfl rfl ?_))|(refine QC ?_;(first|refine s_max rfl rfl ?_|refine Q3 rfl ?_|refine WW rfl rfl (hdig2) ?_|refine WW rfl rfl (hsm2) ?_|refine WW rfl rfl (hli) ?_))|(refine Wz ?_;(first|refine qb rfl rfl ?_|refine Zf rfl rfl ?_))|refine Qd rfl rfl ?_))|exact ⟨rfl, rfl⟩)) ?_|refine x_nil ?_)));(all_goals (repeat (rename_i x;(fail_if_success have : Unit := x);revert x)));(first|done|exact w0 ());(first|done|exact w1 ());(first|done|exact w2 ()))) (u : (W0 \/ True) /\ (W1 \/ True) /\ (W2 \/ True) := by (refine ⟨?_, ?_, ?_⟩ <;> first|exact Or.inl True.intro|exact Or.inr True.intro)) : X := s (fun _ => w0) (fun _ => w1) (fun _ => w2) ()
theorem rSim_c (t : Nd) (hok : okN t) (hsz : Qe t <= 1000000) : ∃ x, Go.Av.Pure Tryz.prog G 101 [.agg (Enc.enc t)] (.tup [Ww x, .b (Zp t)]) /\ (Zp t = true -> x = simT t) := by
 obtain ⟨k, n, m, ks⟩ := t
 rw [okN] at hok
 rw [Qe] at hsz
 have hl1 := Wm ks
 have hes := rexprs_c (G := G) ks (by omega) fun x hx => rEx_c x (Q4 hok.2 hx) (by have := QJ hx;omega)
 have hcl := ZK exT ks (fun x hx => qT x (Q4 hok.2 hx))
 have hxl : ∀ x ∈ ks, (exT x).length <= 60000000 := fun x hx => by have := qT x (Q4 hok.2 hx);have := QJ hx;omega
 have hsx := simOk_small k n m ks
 have hax := simOk_all k n m ks
 rw [Qp]
 by_cases hall : ks.all Zh = true
 case neg =>
  have hall2 : ks.all Zh = false := by rw [<- Bool.not_eq_true];exact hall
  rw [hall2] at hes
  have hf : Zp (.mk k n m ks) = false := by rw [<- Bool.not_eq_true];exact fun h => hall (hax h)
  refine ⟨[], fun B => ?_, fun h => by rw [hf] at h;cases h⟩
  refine Qa Tryz.func101 rfl Tryz.ntmps101 rfl (t := [(0, .agg [.i k, .i n, .i m, Qt ks])]) rfl fun E hE => ?_
  (refine wkU4 ?_;intros)
  all_goals exact e_2 (Tryz.results101) (Qb rfl) (Qb rfl) (Qi (by rw [hf]))
 rw [hall, if_pos rfl] at hes
 by_cases hs : WH n = true
 case neg =>
  have hs2 : WH n = false := by rw [<- Bool.not_eq_true];exact hs
  have hsm : Go.Av.Pure Tryz.prog G 92 [.i n] (.b false) := by have := ZH (G := G) n;rwa [hs2] at this
  have hf : Zp (.mk k n m ks) = false := by rw [<- Bool.not_eq_true];exact fun h => hs (hsx h)
  refine ⟨[], fun B => ?_, fun h => by rw [hf] at h;cases h⟩
  refine Qa Tryz.func101 rfl Tryz.ntmps101 rfl (t := [(0, .agg [.i k, .i n, .i m, Qt ks])]) rfl fun E hE => ?_
  (refine wkU4 ?_;intros)
  all_goals exact e_2 (Tryz.results101) (Qb rfl) (Qb rfl) (Qi (by rw [hf]))
 have hsm : Go.Av.Pure Tryz.prog G 92 [.i n] (.b true) := by have := ZH (G := G) n;rwa [hs] at this
 obtain ⟨hn0, hn9⟩ := qK hs
 have hdig : Go.Av.Pure Tryz.prog G 93 [.i n] (Ww (Lib.itoa n)) := by
  rw [itoa_nat hn0]
  have := qI (G := G) n.toNat (by omega)
  rwa [show ((n.toNat : Nat) : Int) = n by omega] at this
 have hil := WZ hok.1.2.1
 have hst : qm (ks.map fun x => Str.mk (exT x)) = ks.map exT := by unfold qm;rw [List.map_map];rfl
 have hli := r_list_c (G := G) (ks.map fun x => Str.mk (exT x)) (by rw [hst];omega) (by simp;omega)
 rw [hst] at hli
 clear hsx hax
 by_cases k16 : k = 16
 ·subst k16
  have hdig2 : Go.Av.Pure Tryz.prog G 93 [.i (max m 0)] (Ww (Lib.decDigits m.toNat)) := by
   rw [show max m 0 = (m.toNat : Int) by omega];exact qI _ (by have := hok.1.2.2.2;omega)
  have hdl := digits_len m.toNat (by have := hok.1.2.2.2;omega)
  have hsm2 := ZH (G := G) m
  refine ⟨[118] ++ Lib.itoa n ++ [46] ++ Lib.decDigits m.toNat ++ [32, 61, 32] ++ Wv (ks.map exT), fun B => ?_, fun h => ?_⟩
  ·by_cases hm : WH m = true
   ·rw [hm] at hsm2
    refine Qa Tryz.func101 rfl Tryz.ntmps101 rfl (t := [(0, .agg [.i 16, .i n, .i m, Qt ks])]) rfl fun E hE => ?_
    (refine wkU4 ?_;intros)
    all_goals exact e_2 (Tryz.results101) (Qb rfl) (Qb rfl) (Qi (by rw [Zp];simp [Wb, WX, ZI, hall, hs, ZU, hm, *] <;> omega))
   ·have hm2 : WH m = false := by rw [<- Bool.not_eq_true];exact hm
    rw [hm2] at hsm2
    refine Qa Tryz.func101 rfl Tryz.ntmps101 rfl (t := [(0, .agg [.i 16, .i n, .i m, Qt ks])]) rfl fun E hE => ?_
    (refine wkU4 ?_;intros)
    all_goals exact e_2 (Tryz.results101) (Qb rfl) (Qb rfl) (Qi (by rw [Zp];simp [Wb, WX, ZI, hall, hs, ZU, hm2, *]))
  ·rw [Zp] at h
   rw [simT]
   simp at h ⊢
   rw [itoa_nat (qK h.1.2).1, if_pos h.1.1.1]
 by_cases k23 : k = 23
 ·subst k23
  refine ⟨[115, 112, 97, 119, 110, 32, 102] ++ Lib.itoa n ++ [40] ++ Wv (ks.map exT) ++ [41], fun B => ?_, fun h => ?_⟩
  ·refine Qa Tryz.func101 rfl Tryz.ntmps101 rfl (t := [(0, .agg [.i 23, .i n, .i m, Qt ks])]) rfl fun E hE => ?_
   (refine wkU4 ?_;intros)
   all_goals exact e_2 (Tryz.results101) (Qb rfl) (Qb rfl) (Qi (by rw [Zp];simp [Wb, WX, ZI, hall, hs, ZU, *]))
  ·rw [Zp] at h
   rw [simT]
   simp [ZI] at h ⊢
   exact h.1.1
 by_cases k25 : k = 25
 ·subst k25
  refine ⟨[115, 107, 105, 112], fun B => ?_, fun h => ?_⟩
  ·by_cases hn : n = 0
   all_goals
    refine Qa Tryz.func101 rfl Tryz.ntmps101 rfl (t := [(0, .agg [.i 25, .i n, .i m, Qt ks])]) rfl fun E hE => ?_
    (refine wkU4 ?_ ?_ <;> first|exact True.intro|intros)
    all_goals exact e_2 (Tryz.results101) (Qb rfl) (Qb rfl) (Qi (by rw [Zp];simp [Wb, WX, ZI, hall, hs, ZU, *]))
  ·rw [Zp] at h
   rw [simT]
   simp at h ⊢
   exact h
 by_cases k15 : k = 15
 ·subst k15
  by_cases hbp : bareR m ks.length 2 = true
  ·have hbr : Go.Av.Pure Tryz.prog G 97 [.agg [.i 15, .i n, .i m, Qt ks], .i 2] (.b true) := by have := Z9 (G := G) 15 n m ks 2;rwa [hbp] at this
   have h2 : ks.length = 2 := by simp [bareR] at hbp;omega
   match ks, h2 with
   | [a, b], _ =>
    have hal := hxl a (by simp)
    have hbl := hxl b (by simp)
    obtain ⟨ls, hls⟩ : ∃ ls, ls = [Str.mk (exT a), Str.mk (exT b)] := ⟨_, rfl⟩
    have hes2 : Go.Av.Pure Tryz.prog G 98 [Qt [a, b]] (.tup [Qt ls, .b true]) := by rw [hls];exact hes
    have hll : ls.length = 2 := by rw [hls];rfl
    have hz0 : 0 < ls.length := by omega
    have hz1 : 1 < ls.length := by omega
    have ha0 : ls[0].l = exT a := by subst hls;rfl
    have hb0 : ls[1].l = exT b := by subst hls;rfl
    have hla : ls[0].l.length <= 60000000 := by rw [ha0];exact hal
    have hlb : ls[1].l.length <= 60000000 := by rw [hb0];exact hbl
    have hbp3 : bareR m 2 2 = true := hbp
    clear hls hes hcl hxl hst hli
    refine ⟨[118] ++ Lib.itoa n ++ [91] ++ exT a ++ [93, 32, 61, 32] ++ exT b, fun B => ?_, fun h => ?_⟩
    ·refine Qa Tryz.func101 rfl Tryz.ntmps101 rfl (t := [(0, .agg [.i 15, .i n, .i m, Qt [a, b]])]) rfl fun E hE => ?_
     (refine wkU4 ?_;intros)
     all_goals exact e_2 (Tryz.results101) (Qb rfl) (Qb rfl) (Qi (by rw [Zp];have hall2 := hall;simp at hall2;simp [Wb, hs, *]))
    ·rw [simT]
     simp [Wb, hbp3]
  ·have hbp2 : bareR m ks.length 2 = false := by rw [<- Bool.not_eq_true];exact hbp
   have hbr : Go.Av.Pure Tryz.prog G 97 [.agg [.i 15, .i n, .i m, Qt ks], .i 2] (.b false) := by have := Z9 (G := G) 15 n m ks 2;rwa [hbp2] at this
   refine ⟨[], fun B => ?_, fun h => by rw [Zp] at h;simp [Wb, hbp2] at h⟩
   refine Qa Tryz.func101 rfl Tryz.ntmps101 rfl (t := [(0, .agg [.i 15, .i n, .i m, Qt ks])]) rfl fun E hE => ?_
   (refine wkU4 ?_;intros)
   all_goals exact e_2 (Tryz.results101) (Qb rfl) (Qb rfl) (Qi (by rw [Zp];simp [Wb, WX, ZI, hall, hs, ZU, *]))
 by_cases hbp : bareR m ks.length 1 = true
 case neg =>
  have hbp2 : bareR m ks.length 1 = false := by rw [<- Bool.not_eq_true];exact hbp
  have hbr : Go.Av.Pure Tryz.prog G 97 [.agg [.i k, .i n, .i m, Qt ks], .i 1] (.b false) := by have := Z9 (G := G) k n m ks 1;rwa [hbp2] at this
  have hf : Zp (.mk k n m ks) = false := by rw [Zp];simp [Wb, WX, *]
  refine ⟨[], fun B => ?_, fun h => by rw [hf] at h;cases h⟩
  refine Qa Tryz.func101 rfl Tryz.ntmps101 rfl (t := [(0, .agg [.i k, .i n, .i m, Qt ks])]) rfl fun E hE => ?_
  (refine wkU4 ?_;intros)
  all_goals exact e_2 (Tryz.results101) (Qb rfl) (Qb rfl) (Qi (by rw [hf]))
 have hbr : ∀ k, Go.Av.Pure Tryz.prog G 97 [.agg [.i k, .i n, .i m, Qt ks], .i 1] (.b true) := fun k => by have := Z9 (G := G) k n m ks 1;rwa [hbp] at this
 have h1 : ks.length = 1 := by simp [bareR] at hbp;omega
 match ks, h1 with
 | [a], _ =>
 have hal := hxl a (by simp)
 obtain ⟨ls, hls⟩ : ∃ ls, ls = [Str.mk (exT a)] := ⟨_, rfl⟩
 have hes2 : Go.Av.Pure Tryz.prog G 98 [Qt [a]] (.tup [Qt ls, .b true]) := by rw [hls];exact hes
 have hll : ls.length = 1 := by rw [hls];rfl
 have hz0 : 0 < ls.length := by omega
 have ha0 : ls[0].l = exT a := by subst hls;rfl
 have hla : ls[0].l.length <= 60000000 := by rw [ha0];exact hal
 have hall2 : Zh a = true := by simpa using hall
 have hbp3 : bareR m 1 1 = true := hbp
 have hbp4 : ∀ c, QK m [a].length c = decide (c < 0 \/ c = 1) := fun c => by
  have hm : m = 0 := by simp [bareR] at hbp3;exact hbp3
  unfold QK;subst hm;simp [eq_comm]
 have hp11 : QK m 1 1 = true := by have := hbp4 1;simpa using this
 clear hls hes hcl hxl hst hli hall hbp
 by_cases k14 : k = 14
 ·subst k14
  refine ⟨[118] ++ Lib.itoa n ++ [32, 61, 32] ++ exT a, fun B => ?_, fun h => ?_⟩
  ·have hbr1 := hbr 14
   refine Qa Tryz.func101 rfl Tryz.ntmps101 rfl (t := [(0, .agg [.i 14, .i n, .i m, Qt [a]])]) rfl fun E hE => ?_
   (refine wkU4 ?_;intros)
   all_goals exact e_2 (Tryz.results101) (Qb rfl) (Qb rfl) (Qi (by rw [Zp];simp [Wq, hp11, *]))
  ·rw [Zp] at h
   rw [simT]
   simp [Wq, hbp4, ZU] at h ⊢
   try simp [h]
 by_cases k22 : k = 22
 ·subst k22
  refine ⟨[115, 101, 110, 100, 32, 99] ++ Lib.itoa n ++ [32] ++ exT a, fun B => ?_, fun h => ?_⟩
  ·have hbr1 := hbr 22
   refine Qa Tryz.func101 rfl Tryz.ntmps101 rfl (t := [(0, .agg [.i 22, .i n, .i m, Qt [a]])]) rfl fun E hE => ?_
   (refine wkU4 ?_;intros)
   all_goals exact e_2 (Tryz.results101) (Qb rfl) (Qb rfl) (Qi (by rw [Zp];simp [Wq, hp11, *]))
  ·rw [Zp] at h
   rw [simT]
   simp [Wq, hbp4, ZU] at h ⊢
   try simp [h]
 by_cases k19 : k = 19
 ·subst k19
  refine ⟨[114, 101, 116, 117, 114, 110, 32] ++ exT a, fun B => ?_, fun h => ?_⟩
  ·have hbr1 := hbr 19
   refine Qa Tryz.func101 rfl Tryz.ntmps101 rfl (t := [(0, .agg [.i 19, .i n, .i m, Qt [a]])]) rfl fun E hE => ?_
   (refine wkU4 ?_;intros)
   all_goals exact e_2 (Tryz.results101) (Qb rfl) (Qb rfl) (Qi (by rw [Zp];simp [Wq, hp11, *]))
  ·rw [Zp] at h
   rw [simT]
   simp [Wq, hbp4, ZU] at h ⊢
   try simp [h]
 by_cases k20 : k = 20
 ·subst k20
  refine ⟨[116, 104, 114, 111, 119, 32] ++ exT a, fun B => ?_, fun h => ?_⟩
  ·have hbr1 := hbr 20
   refine Qa Tryz.func101 rfl Tryz.ntmps101 rfl (t := [(0, .agg [.i 20, .i n, .i m, Qt [a]])]) rfl fun E hE => ?_
   (refine wkU4 ?_;intros)
   all_goals exact e_2 (Tryz.results101) (Qb rfl) (Qb rfl) (Qi (by rw [Zp];simp [Wq, hp11, *]))
  ·rw [Zp] at h
   rw [simT]
   simp [Wq, hbp4, ZU] at h ⊢
   try simp [h]
 by_cases k24 : k = 24
 ·subst k24
  refine ⟨[111, 117, 116, 32] ++ exT a, fun B => ?_, fun h => ?_⟩
  ·have hbr1 := hbr 24
   refine Qa Tryz.func101 rfl Tryz.ntmps101 rfl (t := [(0, .agg [.i 24, .i n, .i m, Qt [a]])]) rfl fun E hE => ?_
   (refine wkU4 ?_;intros)
   all_goals exact e_2 (Tryz.results101) (Qb rfl) (Qb rfl) (Qi (by rw [Zp];simp [Wq, hp11, *]))
  ·rw [Zp] at h
   rw [simT]
   simp [Wq, hbp4, ZU] at h ⊢
   try simp [h]
 refine ⟨[], fun B => ?_, fun h => by rw [Zp] at h;simp [*] at h⟩
 have hbr1 := hbr k
 have hk16 : ¬ k = 16 := k16
 refine Qa Tryz.func101 rfl Tryz.ntmps101 rfl (t := [(0, .agg [.i k, .i n, .i m, Qt [a]])]) rfl fun E hE => ?_
 (refine wkU4 ?_;intros)
 all_goals exact e_2 (Tryz.results101) (Qb rfl) (Qb rfl) (Qi (by rw [Zp];simp [*]))
end Go.Proofs
end
section
namespace Go.Av
open Classical
section
variable {P : Program} {G : Nat -> DV}
theorem Own.view {f : FuncId} {args args' : List DV} {len es : Nat} {cs : List DV} (h : Own P G f args' len es cs) (hc : ∀ d ∈ cs, d.flat = true) {B : Nat} {σ : List ABlk} (hvw : View σ args args') : ACalls P G B f args σ (fun d' σ' => ∃ g, B < g /\ d' = .ref σ.length g 0 len es /\ σ' = σ ++ [.row g cs]) := fun X vs hS hσ hB hG hv => by
 subst hσ
 obtain ⟨k1, k2⟩ := hvw.get hS
 refine (h X.N (X.aside True) vs (hS.aside _) rfl (Nat.le_refl _) (fun g => ⟨(hG g).1, (hG g).2.mono (aside_le _)⟩) ⟨by rw [hv.1, k1], fun j e hj => (by
  have hlt : j < args.length := by rw [k1];exact (List.getElem?_eq_some_iff.1 hj).1
  exact k2 j _ e _ (List.getElem?_eq_getElem hlt) hj (hv.2 j _ (List.getElem?_eq_getElem hlt)))⟩).mono ?_
 rintro e w' ⟨v, he, Y, hw, hY, hE, d', hr, g, hg, rfl, hσ'⟩
 subst hw
 have hback := hS.back hE
 have hEb := WExt.back hS hE
 have hY0 : Y.σ[0]? = some (.row g cs) := by rw [hσ'];rfl
 have hlY : Y.live 0 g := Wp hY0
 have hgN : g <= Y.N := hY.gen 0 g hlY
 have hnew : ∀ b n, Y.ρ 0 = some (b, n) -> X.w.heap.size <= b := fun b n hb => by
  rcases Nat.lt_or_ge b X.w.heap.size with hlt|hge
  ·exact absurd ⟨0, g, n, hlY, hb⟩ (hE.old b hlt Z7).2
  ·exact hge
 let Z : AX := { w := Y.w, ρ := fun i => if i = X.σ.length then Y.ρ 0 else X.ρ i, σ := X.σ ++ [.row g cs], N := Y.N, hid := X.hid }
 have hlive : ∀ k g', Z.live k g' ↔ (k < X.σ.length /\ X.live k g') \/ (k = X.σ.length /\ g' = g) := fun k g' => by
  have := AX.push_live (X := X) (w' := Y.w) (ob := Y.ρ 0) (B := .row g cs) (k := k) (g := g')
  simp only [ABlk.gen?, Option.some.injEq] at this
  rw [show Z.live k g' ↔ (X.push Y.w (Y.ρ 0) (.row g cs)).live k g' from Iff.rfl, this]
  constructor <;> (rintro (h|⟨h1, h2⟩);exact .inl h;exact .inr ⟨h1, h2.symm⟩)
 have hρ1 : ∀ k, k < X.σ.length -> Z.ρ k = X.ρ k := fun k hk => by simp only [Z];rw [if_neg (by omega)]
 have hρ2 : Z.ρ X.σ.length = Y.ρ 0 := by simp only [Z, if_true]
 have hmut : ∀ b, Z.mut b -> X.mut b \/ X.w.heap.size <= b := fun b ⟨k, g', n, hl, hr⟩ => by
  rcases (hlive k g').1 hl with ⟨h1, h2⟩|⟨h1, _⟩
  ·rw [hρ1 k h1] at hr;exact .inl ⟨k, g', n, h2, hr⟩
  ·rw [h1, hρ2] at hr;exact .inr (hnew b n hr)
 have hEZ : WExt X Z := {
  hid := rfl, top := hE.top, os := hE.os, tape := hE.tape, output := hE.output, size := hE.size
  old := fun b hb hm => ⟨(hE.old b hb Z7).1, fun hz => by rcases hmut b hz with h|h;exact hm h;omega⟩
  rows := fun k g' hg' hl => by
   rcases (hlive k g').1 hl with ⟨h1, h2⟩|⟨h1, h2⟩
   ·exact ⟨h2, hρ1 k h1⟩
   ·omega
  shp := hE.shp }
 have hSZ : Sto Z := {
  inj := fun k k' g1 g1' b n n' hl hl' hr hr' => by
   rcases (hlive k g1).1 hl with ⟨h1, h2⟩|⟨h1, h2⟩ <;> rcases (hlive k' g1').1 hl' with ⟨h1', h2'⟩|⟨h1', h2'⟩
   ·rw [hρ1 k h1] at hr;rw [hρ1 k' h1'] at hr';exact hS.inj k k' g1 g1' b n n' h2 h2' hr hr'
   ·rw [hρ1 k h1] at hr;rw [h1', hρ2] at hr';have := hS.ρ_lt h2 hr;have := hnew b n' hr';omega
   ·rw [hρ1 k' h1'] at hr';rw [h1, hρ2] at hr;have := hS.ρ_lt h2' hr';have := hnew b n hr;omega
   ·rw [h1, h1']
  gen := fun k g' hl => by
   rcases (hlive k g').1 hl with ⟨h1, h2⟩|⟨h1, h2⟩
   ·exact Nat.le_trans (hS.gen k g' h2) hE.top
   ·rw [h2];exact hgN
  hid := fun b ⟨k, g', n, hl, hr⟩ hh => by
   rcases (hlive k g').1 hl with ⟨h1, h2⟩|⟨h1, h2⟩
   ·rw [hρ1 k h1] at hr;exact hS.hid b ⟨k, g', n, h2, hr⟩ hh
   ·rw [h1, hρ2] at hr;have := hnew b n hr;have := hS.hidlt b hh;omega
  hidlt := fun b hb => Nat.lt_of_lt_of_le (hS.hidlt b hb) hE.size
  holds := fun k B' hB' => by
   simp only [Z, List.getElem?_append] at hB'
   split at hB'
   ·rename_i hlt
    rw [hρ1 k hlt]
    cases hg' : B'.gen? with
    | none => cases B' <;> first|trivial|cases hg'
    | some g' => exact (hS.holds k B' hB').mono hEZ.le fun b n hb => (hE.old b (hS.ρ_lt ((AX.live_get hB').2 hg') hb) Z7).1
   ·rename_i hge
    have hkl : k = X.σ.length := by
     rcases Nat.lt_or_ge (k - X.σ.length) 1 with h'|h'
     ·omega
     ·rw [List.getElem?_eq_none (by simpa using h')] at hB';cases hB'
    subst hkl
    simp at hB'
    subst hB'
    rw [hρ2]
    have hh := hY.holds 0 _ hY0
    cases hρ0 : Y.ρ 0 with
    | none => rw [hρ0] at hh;exact hh
    | some x =>
     obtain ⟨b, n⟩ := x
     rw [hρ0] at hh
     obtain ⟨arr, T, fr, q1, q2, q3, q4, q5⟩ := hh
     exact ⟨arr, T, fr, q1, q2, q3, q4, fun j d hj => ⟨(q5 j d hj).1, (q5 j d hj).2.flat (hc d (List.mem_of_getElem? hj))⟩⟩ }
 have hinv := hr.ref_inv hY0
 refine ⟨v, he, Z, rfl, hSZ, hEZ, .ref X.σ.length g 0 len es, ?_, g, by omega, rfl, rfl⟩
 cases hr with|ref _ _ _ _ _ a l c _ _ =>
 refine .ref _ _ _ _ _ _ _ _ hgN fun ob hob => ?_
 rw [AX.row_mk ((hlive _ _).2 (.inr ⟨rfl, rfl⟩)), hρ2] at hob
 rw [<- Option.some.inj hob]
 exact hinv
variable {B : Nat} {f : Operand -> DV} {σ : List ABlk} {K : DV -> List ABlk -> Prop} {dst : Option Tmp} {type : TypeId} {pos : String} {after : Array Edge} {gd : Option (Nat × Bool)}
theorem s_call_vo {args : Array Operand} {ts : Array TypeId} {fid : FuncId} {ds ds' cs : List DV} {len es : Nat} [FnOk P fid] (hx : f (.func fid) = .fn (.func fid) [] []) (hds : reL (args.toList.map f) = some ds) (hv : View σ ds ds') (h : Own P G fid ds' len es cs) (hc : ∀ d ∈ cs, d.flat = true) (k : ∀ g, B < g -> K (.ref σ.length g 0 len es) (σ ++ [.row g cs])) :
  OpSem P G B ⟨dst, .call ⟨.value (.func fid), args, ts⟩, type, pos, after, gd⟩ f σ K := s_call hx hds ((h.view hc hv).mono fun _ _ ⟨g, hg, h1, h2⟩ => by rw [h1, h2];exact k g hg)
end
end Go.Av
end
section
namespace Go.Proofs
open Go.Av
variable {G : Nat -> DV}
attribute [local irreducible] OpSem W7 Zk ZC ACalls qg AClose RV
open Go.Bl
theorem encs_flat_str (l : List Str) : ∀ d ∈ Q1 l, d.flat = true := fun d hd => by
 unfold Q1 at hd
 obtain ⟨x, _, hx⟩ := List.mem_flatMap.1 hd
 rw [List.mem_singleton.1 hx];rfl
theorem wkU5 {X W0 W1 W2 : Prop} (w0 : W0 := by exact True.intro) (w1 : W1 := by exact True.intro) (w2 : W2 := by exact True.intro) (s : (Unit -> W0) -> (Unit -> W1) -> (Unit -> W2) -> Unit -> X := by (intro w0 w1 w2 _;(repeat' first|(refine QH ?_;(first|refine Wu rfl ?_|refine WJ rfl ?_|(refine We ?_;(first|refine qj rfl rfl ?_|refine Wc rfl ?_|refine Q6 rfl ?_|refine Qc rfl rfl rfl ?_))|refine QN rfl rfl (by first|assumption|omega|(simp;done)|(simp;omega)) ?_|(refine Qr ?_;(first|refine Zu rfl rfl ?_|refine s_neq rfl rfl ?_|refine Z4 rfl rfl (by omega) ?_|refine s_ad rfl rfl ?_))|(refine QC ?_;(first|refine s_call_vo rfl rfl (.same (.ref rfl (by rw [Qx];rfl) (QB _) (.same .nil))) (lines_own _ _ _ (by omega)) (encs_flat_str _) (fun _ _ => ?_)|refine WW rfl rfl (hx) ?_|refine s_call_ot rfl rfl (ha) (by repeat' first|exact Enc.clo _|exact WU|refine Q7 ?_ ?_|exact Wa|exact Wy _|exact WL (QB _)|exact QB _|refine qe ?_ ?_|refine Z0 ?_|refine WO ?_|refine Wo ?_) (by first|exact QB _) (fun _ _ => ?_)|refine s_call_ot rfl rfl (hb) (by repeat' first|exact Enc.clo _|exact WU|refine Q7 ?_ ?_|exact Wa|exact Wy _|exact WL (QB _)|exact QB _|refine qe ?_ ?_|refine Z0 ?_|refine WO ?_|refine Wo ?_) (by first|exact QB _) (fun _ _ => ?_)|refine s_app (α := Str) rfl rfl rfl rfl rfl (srcOf_refOf rfl rfl) (by first|omega|(simp;omega)) (by first|omega|(simp;omega)) (fun _ => rfl) (fun _ _ => ?_)|refine Zn (z := Str.mk _) rfl rfl rfl rfl rfl rfl rfl (by first|omega|(simp;omega)) (by first|omega|(simp;omega)) (fun _ => rfl) (fun _ _ => ?_)|refine s_app_r rfl rfl rfl rfl rfl rfl rfl (by first|omega|(simp;omega)) (by first|omega|(simp;omega)) (fun _ => rfl) (fun _ _ => ?_)|refine Q3 rfl ?_))|(refine Wz ?_;(first|refine qb rfl rfl ?_|refine Zf rfl rfl ?_))|(refine Zd ?_;(first|refine qq (cs := Q1 [Str.mk fl]) rfl rfl (by decide) rfl rfl (fun _ _ => ?_)|refine Zc rfl rfl (by decide) rfl ?_))|refine s_not rfl ?_|refine Qd rfl rfl ?_|refine WM rfl rfl rfl ?_|refine Z3 rfl rfl (fun _ _ => ?_)))|(refine QZ ?_;(first|refine QX ?_|refine WT rfl ?_|refine Zx rfl rfl rfl rfl ?_|refine qA rfl rfl rfl rfl ?_|refine WF rfl rfl (by omega) ?_|refine Q0 rfl rfl (by omega) ?_))|(refine QY ?_;(first|refine QW ?_|refine Ql ?_|refine Qu ?_|refine QQ ?_|refine QO rfl ?_|refine Wn rfl ?_|refine Qn rfl (by omega) ?_|refine Qm rfl (by omega) ?_|refine Zq rfl ?_|refine Q2 ?_)));(all_goals (repeat (rename_i x;(fail_if_success have : Unit := x);revert x)));(first|done|exact w0 ());(first|done|exact w1 ());(first|done|exact w2 ()))) (u : (W0 \/ True) /\ (W1 \/ True) /\ (W2 \/ True) := by (refine ⟨?_, ?_, ?_⟩ <;> first|exact Or.inl True.intro|exact Or.inr True.intro)) : X := s (fun _ => w0) (fun _ => w1) (fun _ => w2) ()
theorem lines_own (fl b : List UInt8) (l : List Str) (hl : l.length <= 1000000000) : Own Tryz.prog G 95 [Ww fl, Qt l, Ww b] ([Str.mk fl] ++ l ++ [Str.mk b]).length 1 (Q1 ([Str.mk fl] ++ l ++ [Str.mk b])) := fun B => by
 refine Qa Tryz.func95 rfl Tryz.ntmps95 rfl (t := [(0, Ww fl), (1, Qt l), (2, Ww b)]) rfl fun E hE => ?_
 (refine wkU5 ?_;intros)
 exact e_1 Tryz.results95 (Qb rfl) (c_ownedB hE rfl rfl rfl rfl)
def RsC (G : Nat -> DV) (t : Nd) : Prop := (qi t = true -> Go.Av.Pure Tryz.prog G 56 [.agg (Enc.enc t)] (.tup [Qt (strs (stL t)), .b true])) /\ (qi t = false -> ∃ x : List Str, Go.Av.Pure Tryz.prog G 56 [.agg (Enc.enc t)] (.tup [Qt x, .b false]))
def inLo (t : Nd) : List (List UInt8) := if inOk t = true then inL t else []
def RiC (G : Nat -> DV) (t : Nd) : Prop := OwnT Tryz.prog G 94 [.agg (Enc.enc t)] (inLo t).length 1 (Q1 (strs (inLo t))) (.bool (inOk t))
theorem inside_own (k n m : Int) (ks : List Nd) (hok : okN (.mk k n m ks)) (hsz : Qe (.mk k n m ks) <= 1000000) (hst : ∀ x ∈ ks, RsC G x) : RiC G (.mk k n m ks) := fun B => by
 have hok2 := hok
 rw [okN] at hok
 rw [Qe] at hsz
 have hl1 := Wm ks
 have hln := (stL_len (.mk 13 0 0 ks)).2
 rw [inL, ind_len, Qe] at hln
 rw [Qp]
 unfold inLo
 by_cases hh : k = 13 /\ n = 0 /\ m = 0
 case neg =>
  have hf : inOk (.mk k n m ks) = false := by rw [inOk];simp [Wq, ZI];omega
  rw [hf]
  by_cases k13 : k = 13
  ·by_cases n0 : n = 0
   ·have m0 : ¬ m = 0 := by omega
    refine Qa Tryz.func94 rfl Tryz.ntmps94 rfl (t := [(0, .agg [.i k, .i n, .i m, Qt ks])]) rfl fun E hE => ?_
    (refine wkU5 ?_;intros)
    all_goals exact e_2 (Tryz.results94) (Qb rfl) (Qb rfl) (c_nil_fstB hE rfl rfl rfl rfl)
   ·refine Qa Tryz.func94 rfl Tryz.ntmps94 rfl (t := [(0, .agg [.i k, .i n, .i m, Qt ks])]) rfl fun E hE => ?_
    (refine wkU5 ?_;intros)
    all_goals exact e_2 (Tryz.results94) (Qb rfl) (Qb rfl) (c_nil_fstB hE rfl rfl rfl rfl)
  ·refine Qa Tryz.func94 rfl Tryz.ntmps94 rfl (t := [(0, .agg [.i k, .i n, .i m, Qt ks])]) rfl fun E hE => ?_
   (refine wkU5 ?_;intros)
   all_goals exact e_2 (Tryz.results94) (Qb rfl) (Qb rfl) (c_nil_fstB hE rfl rfl rfl rfl)
 obtain ⟨rfl, rfl, rfl⟩ := hh
 have hin : inOk (.mk 13 0 0 ks) = ks.all qi := by rw [inOk, stOks_eq];simp [Wq, ZI]
 rw [hin]
 have hsts : inL (.mk 13 0 0 ks) = ind (stsL ks) := by rw [inL]
 rw [hsts]
 clear hin hsts
 refine Qa Tryz.func94 rfl Tryz.ntmps94 rfl (t := [(0, .agg [.i 13, .i 0, .i 0, Qt ks])]) rfl fun E hE => ?_
 (refine wkU5 ?_;intros)
 rename_i gb hgb
 refine r_own 4 1 rfl fun gO hgO => ?_
 refine r_loopg (fun (i : Nat) g => ⟨[(1, .ptr 0 gb 0), (4, .ref 1 g 0 (strs (ind (stsL (ks.take i)))).length 1), (5, .i i)], [.row gb [.i 13, .i 0, .i 0, Qt ks], .row g (Q1 (strs (ind (stsL (ks.take i)))))]⟩) (fun i => i <= ks.length /\ (ks.take i).all qi = true) (fun i => ks.length - i) 0 gO hgO ?_ (by simp) ?_
 ·exact zal rfl
 intro i g ⟨hil0, hall⟩ hg
 by_cases hil : i < ks.length
 ·have hmem := List.getElem_mem hil
  obtain ⟨hx1, hx2⟩ := hst _ hmem
  have hsm := QJ hmem
  by_cases hk : qi ks[i] = true
  ·have hx := hx1 hk
   clear hx1 hx2 hst
   have hlx := (stL_line _ (Q4 hok.2 hmem)).1
   have hcx := (stL_len ks[i]).1
   have hle : (stsL (ks.take i)).length + (stL ks[i]).length <= 3000000 := by
    have h1 := stsL_take hil
    have h2 : (stsL ks).length = (stsL (ks.take (i + 1))).length + (stsL (ks.drop (i + 1))).length := by rw [<- List.length_append, <- stsL_app, List.take_append_drop]
    rw [h1, List.length_append] at h2;omega
   have htk := stsL_take hil
   obtain ⟨ls, hls⟩ : ∃ ls, ls = strs (stL ks[i]) := ⟨_, rfl⟩
   rw [<- hls] at hx
   have hll : ls.length = (stL ks[i]).length := by rw [hls, Z8]
   obtain ⟨A, hA⟩ : ∃ A, A = stsL (ks.take i) := ⟨_, rfl⟩
   rw [<- hA] at hle htk ⊢
   have hget : ∀ (j : Nat) (h : j < ls.length), ls[j].l.length <= 100000000 := fun j h => by
    have e : ls[j].l = (stL ks[i])[j]'(by omega) := by subst hls;simp [strs]
    rw [e]
    have := hlx _ (List.getElem_mem (show j < (stL ks[i]).length by omega));omega
   have hnx : ∀ (j : Nat) (h : j < ls.length), strs (ind (A ++ (stL ks[i]).take (j + 1))) = strs (ind (A ++ (stL ks[i]).take j)) ++ [Str.mk ([32, 32] ++ ls[j].l)] := fun j h => by
    have e : ls[j].l = (stL ks[i])[j]'(by omega) := by subst hls;simp [strs]
    rw [e, List.take_succ_eq_append_getElem (show j < (stL ks[i]).length by omega), <- List.append_assoc, ind_app, strs_app];rfl
   have hlen : ∀ j, (strs (ind (A ++ (stL ks[i]).take j))).length <= 3000000 := fun j => by rw [Z8, ind_len, List.length_append, List.length_take];omega
   generalize stL ks[i] = sx at *
   (refine wkU5 ?_;intros)
   refine r_loopg (fun (j : Nat) g => ⟨[(1, .ptr 0 gb 0), (4, .ref 1 g 0 (strs (ind (A ++ sx.take j))).length 1), (5, .i i), (6, Qt ls), (8, .i j)], [.row gb [.i 13, .i 0, .i 0, Qt ks], .row g (Q1 (strs (ind (A ++ sx.take j))))]⟩) (fun j => j <= ls.length) (fun j => ls.length - j) 0 g hg ?_ (by simp) ?_
   ·rw [List.take_zero, List.append_nil]
    exact zal rfl
   intro j g2 hj0 hg2
   by_cases hjl : j < ls.length
   ·have hlj := hget j hjl
    have hlA := hlen j
    (refine wkU5 ?_;intros)
    refine ⟨j + 1, _, by omega, by assumption, by omega, ?_⟩
    rw [hnx j hjl]
    exact zal rfl
   ·have hje : j = sx.length := by omega
    subst hje
    (refine wkU5 ?_;intros)
    refine ⟨i + 1, _, ⟨by omega, by rw [List.take_succ_eq_append_getElem hil, List.all_append, hall];simp [hk]⟩, by assumption, by omega, ?_⟩
    rw [htk, List.take_length]
    exact zal rfl
  ·have hk2 : qi ks[i] = false := by rw [<- Bool.not_eq_true];exact hk
   obtain ⟨x, hx⟩ := hx2 hk2
   have hna : ks.all qi = false := by
    rw [<- Bool.not_eq_true, List.all_eq_true]
    intro h;exact hk (h _ hmem)
   (refine wkU5 ?_;intros)
   exact e_2 (Tryz.results94) (Qb rfl) (Qb rfl) (c_nil_fstB hE (by rw [hna];rfl) (by rw [hna];rfl) rfl (by rw [hna]))
 ·have hie : i = ks.length := by omega
  subst hie
  rw [List.take_length] at *
  (refine wkU5 ?_;intros)
  exact e_2 (Tryz.results94) (Qb rfl) (Qb rfl) (c_own_fstB hE rfl (by rw [hall, if_pos rfl, Z8]) (by rw [hall, if_pos rfl]) rfl (by rw [hall]))
theorem two_c (f m : List UInt8) (a b : Nd) (ha : RiC G a) (hb : RiC G b) (hla : (inLo a).length <= 100000000) (hlb : (inLo b).length <= 100000000) : Go.Av.Pure Tryz.prog G 100 [Ww f, .agg (Enc.enc a), Ww m, .agg (Enc.enc b)] (.tup [Qt (strs (f :: (inLo a ++ m :: (inLo b ++ [sClose])))), .b (inOk a && inOk b)]) := fun B => by
 unfold RiC at ha hb
 have hca : (strs (inLo a)).length <= 100000000 := by rw [Z8];exact hla
 have hcb : (strs (inLo b)).length <= 100000000 := by rw [Z8];exact hlb
 have e1 := Z8 (inLo a)
 have e2 := Z8 (inLo b)
 rw [<- e1] at ha
 rw [<- e2] at hb
 cases hka : inOk a <;> rw [hka] at ha
 all_goals
  refine Qa Tryz.func100 rfl Tryz.ntmps100 rfl (t := [(0, Ww f), (1, .agg (Enc.enc a)), (2, Ww m), (3, .agg (Enc.enc b))]) rfl fun E hE => ?_
  (refine wkU5 ?_ ?_ <;> first|exact True.intro|intros)
  exact e_2 (Tryz.results100) (Qb rfl) (Qb rfl) (c_pub_fst rfl (by rw [Qx]) (Qi (by rw [show strs (f :: (inLo a ++ m :: (inLo b ++ [sClose]))) = [Str.mk f] ++ strs (inLo a) ++ [Str.mk m] ++ (strs (inLo b) ++ [Str.mk sClose]) by simp [strs]];first|rw [Bool.true_and];rfl|rw [Bool.false_and];rfl)))
def RsE (G : Nat -> DV) (t : Nd) : Prop := ∃ x : List Str, Go.Av.Pure Tryz.prog G 56 [.agg (Enc.enc t)] (.tup [Qt x, .b (qi t)]) /\ (qi t = true -> x = strs (stL t))
theorem RsE.to {t : Nd} (h : RsE G t) : RsC G t := by
 obtain ⟨x, h1, h2⟩ := h
 refine ⟨fun hk => ?_, fun hk => ⟨x, by rwa [hk] at h1⟩⟩
 rw [hk, h2 hk] at h1;exact h1
theorem inOk_of {k n m : Int} {ks : List Nd} (h : k = 13) : inOk (.mk k n m ks) = qi (.mk k n m ks) := by rw [inOk, qi, if_pos h];simp [h]
theorem inLo_len (t : Nd) (h : Qe t <= 1000000) : (inLo t).length <= 3000000 := by
 have := (stL_len t).2
 unfold inLo;split
 ·omega
 ·simp
theorem wkU6 {X W0 W1 W2 : Prop} (w0 : W0 := by exact True.intro) (w1 : W1 := by exact True.intro) (w2 : W2 := by exact True.intro) (s : (Unit -> W0) -> (Unit -> W1) -> (Unit -> W2) -> Unit -> X := by (intro w0 w1 w2 _;(repeat' first|(refine QH ?_;(first|refine Wu rfl ?_|refine WJ rfl ?_|(refine We ?_;(first|refine qj rfl rfl ?_|refine Q6 rfl ?_|refine Qc rfl rfl rfl ?_))|refine QN rfl rfl (by first|assumption|omega|(simp;done)|(simp;omega)) ?_|(refine Qr ?_;(first|refine Wg rfl rfl ?_|refine s_neq rfl rfl ?_|refine s_ad rfl rfl ?_))|(refine QC ?_;(first|refine s_call_vo rfl rfl (.same (.ref rfl (by rw [Qx];rfl) (QB _) (.same .nil))) (lines_own _ _ _ (by omega)) (encs_flat_str _) (fun _ _ => ?_)|refine WW rfl rfl (hsm) ?_|refine WW rfl rfl (hbr) ?_|refine WW rfl rfl (hx) ?_|refine WW rfl rfl (hsim) ?_|refine s_call_ot rfl rfl (hins) (by repeat' first|exact Enc.clo _|exact WU|refine Q7 ?_ ?_|exact Wa|exact Wy _|exact WL (QB _)|exact QB _|refine qe ?_ ?_|refine Z0 ?_|refine WO ?_|refine Wo ?_) (by first|exact QB _) (fun _ _ => ?_)|refine Q3 rfl ?_))|(refine Wz ?_;(first|refine qb rfl rfl ?_|refine Zf rfl rfl ?_))|refine s_not rfl ?_|refine Qd rfl rfl ?_|refine WM rfl rfl rfl ?_|refine Zc rfl rfl (by decide) rfl ?_|refine Z3 rfl rfl (fun _ _ => ?_)))|(refine QZ ?_;(first|refine QX ?_|refine WT rfl ?_|refine Zx rfl rfl rfl rfl ?_|refine qA rfl rfl rfl rfl ?_|refine WF rfl rfl (by omega) ?_|refine Q0 rfl rfl (by omega) ?_))|(refine QY ?_;(first|refine QW ?_|refine Ql ?_|(refine W8 ?_;first|refine WC (by rfl) (by kernel_rfl) (by kernel_rfl) ?_|refine WB (by kernel_rfl) (by kernel_rfl) ?_)|refine QQ ?_|refine QO rfl ?_|refine Wn rfl ?_|refine Qn rfl (by omega) ?_|refine Qm rfl (by omega) ?_|refine Q2 ?_))|(refine g_lex ?_;(first|refine x_op rfl (by (repeat' first|(refine QH ?_;(first|refine Wu rfl ?_|refine WJ rfl ?_|(refine We ?_;(first|refine Q6 rfl ?_|refine Qc rfl rfl rfl ?_))|refine QN rfl rfl (by first|assumption|omega|(simp;done)|(simp;omega)) ?_|refine s_ad rfl rfl ?_|(refine QC ?_;(first|refine WW rfl rfl (hdig) ?_|refine WW rfl rfl (htwo) ?_))|refine Qd rfl rfl ?_|refine WM rfl rfl rfl ?_))|exact ⟨rfl, rfl⟩)) ?_|refine x_nil ?_)));(all_goals (repeat (rename_i x;(fail_if_success have : Unit := x);revert x)));(first|done|exact w0 ());(first|done|exact w1 ());(first|done|exact w2 ()))) (u : (W0 \/ True) /\ (W1 \/ True) /\ (W2 \/ True) := by (refine ⟨?_, ?_, ?_⟩ <;> first|exact Or.inl True.intro|exact Or.inr True.intro)) : X := s (fun _ => w0) (fun _ => w1) (fun _ => w2) ()
theorem rSt_c (t : Nd) : okN t -> Qe t <= 1000000 -> RsC G t /\ RiC G t := by
 induction t using Nd.ind with
 | h k n m ks ih =>
 intro hok hsz
 have hok0 := hok
 have hsz0 := hsz
 rw [okN] at hok
 rw [Qe] at hsz
 have hl1 := Wm ks
 have hkid : ∀ x ∈ ks, RsC G x /\ RiC G x := fun x hx => ih x hx (Q4 hok.2 hx) (by have := QJ hx;omega)
 have hins := inside_own (G := G) k n m ks hok0 hsz0 fun x hx => (hkid x hx).1
 refine ⟨RsE.to ?_, hins⟩
 have hil := inLo_len _ hsz0
 have hxl : ∀ x ∈ ks, (exT x).length <= 60000000 := fun x hx => by have := qT x (Q4 hok.2 hx);have := QJ hx;omega
 have hll : ∀ x ∈ ks, (inLo x).length <= 3000000 := fun x hx => inLo_len x (by have := QJ hx;omega)
 clear ih
 unfold RsE
 unfold RiC at hins
 rw [Qp] at hins ⊢
 by_cases k13 : k = 13
 ·subst k13
  rw [inOk_of rfl] at hins
  rw [<- Z8] at hins hil
  refine ⟨[Str.mk sOpen] ++ strs (inLo (.mk 13 n m ks)) ++ [Str.mk sClose], fun B => ?_, fun h => ?_⟩
  ·refine Qa Tryz.func56 rfl Tryz.ntmps56 rfl (t := [(0, .agg [.i 13, .i n, .i m, Qt ks])]) rfl fun E hE => ?_
   (refine wkU6 ?_;intros)
   exact e_2 (Tryz.results56) (Qb rfl) (Qb rfl) (c_pub_fst rfl (by rw [Qx];try rfl) (Qi rfl))
  ·rw [stL]
   unfold inLo
   rw [inOk_of rfl, h, inL]
   simp [strs]
 clear hins hil
 by_cases k17 : k = 17
 ·subst k17
  by_cases h0 : (ks.length : Int) = 0
  ·have h00 : ks.length = 0 := by omega
   have hf : qi (.mk 17 n m ks) = false := by rw [qi];simp [Wq, QK, h00]
   refine ⟨[], fun B => ?_, fun h => by rw [hf] at h;cases h⟩
   refine Qa Tryz.func56 rfl Tryz.ntmps56 rfl (t := [(0, .agg [.i 17, .i n, .i m, Qt ks])]) rfl fun E hE => ?_
   (refine wkU6 ?_;intros)
   all_goals exact e_2 (Tryz.results56) (Qb rfl) (Qb rfl) (Zr (fun L v h => Zy (fun v hv => Ze (es := 1) hv) h) (Qi (by rw [hf];rfl)))
  have hp0 : 0 < ks.length := by omega
  by_cases hn : n = 0
  case neg =>
   have hf : qi (.mk 17 n m ks) = false := by rw [qi];simp [Wq, hn]
   refine ⟨[], fun B => ?_, fun h => by rw [hf] at h;cases h⟩
   refine Qa Tryz.func56 rfl Tryz.ntmps56 rfl (t := [(0, .agg [.i 17, .i n, .i m, Qt ks])]) rfl fun E hE => ?_
   (refine wkU6 ?_;intros)
   all_goals exact e_2 (Tryz.results56) (Qb rfl) (Qb rfl) (Zr (fun L v h => Zy (fun v hv => Ze (es := 1) hv) h) (Qi (by rw [hf];rfl)))
  by_cases hm : m = 0
  case neg =>
   have hf : qi (.mk 17 n m ks) = false := by rw [qi];simp [Wq, QK, hm]
   refine ⟨[], fun B => ?_, fun h => by rw [hf] at h;cases h⟩
   refine Qa Tryz.func56 rfl Tryz.ntmps56 rfl (t := [(0, .agg [.i 17, .i n, .i m, Qt ks])]) rfl fun E hE => ?_
   (refine wkU6 ?_;intros)
   all_goals exact e_2 (Tryz.results56) (Qb rfl) (Qb rfl) (Zr (fun L v h => Zy (fun v hv => Ze (es := 1) hv) h) (Qi (by rw [hf];rfl)))
  subst hn;subst hm
  obtain ⟨tx, hx, htx⟩ := rEx_c (G := G) ks[0] (Q4 hok.2 (List.getElem_mem hp0)) (by have := QJ (List.getElem_mem hp0);omega)
  have hg0 : (ks.map Zh).getD 0 false = Zh ks[0] := by rw [List.getD_eq_getElem?_getD, List.getElem?_map, List.getElem?_eq_getElem hp0];rfl
  by_cases hk0 : Zh ks[0] = true
  case neg =>
   have hk2 : Zh ks[0] = false := by rw [<- Bool.not_eq_true];exact hk0
   have hf : qi (.mk 17 0 0 ks) = false := by rw [qi, hg0];simp [hk2]
   rw [hk2] at hx
   refine ⟨[], fun B => ?_, fun h => by rw [hf] at h;cases h⟩
   refine Qa Tryz.func56 rfl Tryz.ntmps56 rfl (t := [(0, .agg [.i 17, .i 0, .i 0, Qt ks])]) rfl fun E hE => ?_
   (refine wkU6 ?_;intros)
   all_goals exact e_2 (Tryz.results56) (Qb rfl) (Qb rfl) (Zr (fun L v h => Zy (fun v hv => Ze (es := 1) hv) h) (Qi (by rw [hf];rfl)))
  rw [hk0] at hx
  have hxe := htx hk0
  subst hxe
  have hxl0 := hxl _ (List.getElem_mem hp0)
  by_cases h3 : (ks.length : Int) = 3
  case neg =>
   have h30 : ¬ ks.length = 3 := by omega
   have hf : qi (.mk 17 0 0 ks) = false := by rw [qi];simp [Wq, QK, h3, h30]
   refine ⟨[], fun B => ?_, fun h => by rw [hf] at h;cases h⟩
   refine Qa Tryz.func56 rfl Tryz.ntmps56 rfl (t := [(0, .agg [.i 17, .i 0, .i 0, Qt ks])]) rfl fun E hE => ?_
   (refine wkU6 ?_;intros)
   all_goals exact e_2 (Tryz.results56) (Qb rfl) (Qb rfl) (Zr (fun L v h => Zy (fun v hv => Ze (es := 1) hv) h) (Qi (by rw [hf];rfl)))
  have h30 : ks.length = 3 := by omega
  match ks, h30 with
  | [c, a, b], _ =>
   have ha := (hkid a (by simp)).2
   have hb := (hkid b (by simp)).2
   have htwo := two_c (G := G) (sIf ++ exT c ++ sBr) sElse a b ha hb (by have := hll a (by simp);omega) (by have := hll b (by simp);omega)
   have hbb : Wq 0 0 [c, a, b].length 3 = true := rfl
   have hke : Zh c = true := hk0
   have hce : (exT c).length <= 60000000 := hxl0
   have hx2 : Go.Av.Pure Tryz.prog G 55 [.agg (Enc.enc c)] (.tup [Ww (exT c), .b true]) := hx
   refine ⟨strs ((sIf ++ exT c ++ sBr) :: (inLo a ++ sElse :: (inLo b ++ [sClose]))), fun B => ?_, fun h => ?_⟩
   ·refine Qa Tryz.func56 rfl Tryz.ntmps56 rfl (t := [(0, .agg [.i 17, .i 0, .i 0, Qt [c, a, b]])]) rfl fun E hE => ?_
    (refine wkU6 ?_;intros)
    exact e_2 (Tryz.results56) (Qb rfl) (Qb rfl) (Qi (by rw [qi, ql, hbb];simp [hke, Qt]))
   ·rw [qi, ql] at h
    simp [hke] at h
    rw [stL, insL_eq]
    unfold inLo
    simp [h.1.2, h.2]
 by_cases k18 : k = 18
 ·subst k18
  by_cases h0 : (ks.length : Int) = 0
  ·have h00 : ks.length = 0 := by omega
   have hf : qi (.mk 18 n m ks) = false := by rw [qi];simp [Wq, QK, h00]
   refine ⟨[], fun B => ?_, fun h => by rw [hf] at h;cases h⟩
   refine Qa Tryz.func56 rfl Tryz.ntmps56 rfl (t := [(0, .agg [.i 18, .i n, .i m, Qt ks])]) rfl fun E hE => ?_
   (refine wkU6 ?_;intros)
   all_goals exact e_2 (Tryz.results56) (Qb rfl) (Qb rfl) (Zr (fun L v h => Zy (fun v hv => Ze (es := 1) hv) h) (Qi (by rw [hf];rfl)))
  have hp0 : 0 < ks.length := by omega
  by_cases hn : n = 0
  case neg =>
   have hf : qi (.mk 18 n m ks) = false := by rw [qi];simp [Wq, hn]
   refine ⟨[], fun B => ?_, fun h => by rw [hf] at h;cases h⟩
   refine Qa Tryz.func56 rfl Tryz.ntmps56 rfl (t := [(0, .agg [.i 18, .i n, .i m, Qt ks])]) rfl fun E hE => ?_
   (refine wkU6 ?_;intros)
   all_goals exact e_2 (Tryz.results56) (Qb rfl) (Qb rfl) (Zr (fun L v h => Zy (fun v hv => Ze (es := 1) hv) h) (Qi (by rw [hf];rfl)))
  by_cases hm : m = 0
  case neg =>
   have hf : qi (.mk 18 n m ks) = false := by rw [qi];simp [Wq, QK, hm]
   refine ⟨[], fun B => ?_, fun h => by rw [hf] at h;cases h⟩
   refine Qa Tryz.func56 rfl Tryz.ntmps56 rfl (t := [(0, .agg [.i 18, .i n, .i m, Qt ks])]) rfl fun E hE => ?_
   (refine wkU6 ?_;intros)
   all_goals exact e_2 (Tryz.results56) (Qb rfl) (Qb rfl) (Zr (fun L v h => Zy (fun v hv => Ze (es := 1) hv) h) (Qi (by rw [hf];rfl)))
  subst hn;subst hm
  obtain ⟨tx, hx, htx⟩ := rEx_c (G := G) ks[0] (Q4 hok.2 (List.getElem_mem hp0)) (by have := QJ (List.getElem_mem hp0);omega)
  have hg0 : (ks.map Zh).getD 0 false = Zh ks[0] := by rw [List.getD_eq_getElem?_getD, List.getElem?_map, List.getElem?_eq_getElem hp0];rfl
  by_cases hk0 : Zh ks[0] = true
  case neg =>
   have hk2 : Zh ks[0] = false := by rw [<- Bool.not_eq_true];exact hk0
   have hf : qi (.mk 18 0 0 ks) = false := by rw [qi, hg0];simp [hk2]
   rw [hk2] at hx
   refine ⟨[], fun B => ?_, fun h => by rw [hf] at h;cases h⟩
   refine Qa Tryz.func56 rfl Tryz.ntmps56 rfl (t := [(0, .agg [.i 18, .i 0, .i 0, Qt ks])]) rfl fun E hE => ?_
   (refine wkU6 ?_;intros)
   all_goals exact e_2 (Tryz.results56) (Qb rfl) (Qb rfl) (Zr (fun L v h => Zy (fun v hv => Ze (es := 1) hv) h) (Qi (by rw [hf];rfl)))
  rw [hk0] at hx
  have hxe := htx hk0
  subst hxe
  have hxl0 := hxl _ (List.getElem_mem hp0)
  by_cases h2 : (ks.length : Int) = 2
  case neg =>
   have h20 : ¬ ks.length = 2 := by omega
   have hf : qi (.mk 18 0 0 ks) = false := by rw [qi];simp [Wq, QK, h2, h20]
   refine ⟨[], fun B => ?_, fun h => by rw [hf] at h;cases h⟩
   refine Qa Tryz.func56 rfl Tryz.ntmps56 rfl (t := [(0, .agg [.i 18, .i 0, .i 0, Qt ks])]) rfl fun E hE => ?_
   (refine wkU6 ?_;intros)
   all_goals exact e_2 (Tryz.results56) (Qb rfl) (Qb rfl) (Zr (fun L v h => Zy (fun v hv => Ze (es := 1) hv) h) (Qi (by rw [hf];rfl)))
  have h20 : ks.length = 2 := by omega
  match ks, h20 with
  | [c, a], _ =>
   have hins := (hkid a (by simp)).2
   have hil := hll a (by simp)
   unfold RiC at hins
   rw [<- Z8] at hins hil
   have hbb : Wq 0 0 [c, a].length 2 = true := rfl
   have hke : Zh c = true := hk0
   have hce : (exT c).length <= 60000000 := hxl0
   have hx2 : Go.Av.Pure Tryz.prog G 55 [.agg (Enc.enc c)] (.tup [Ww (exT c), .b true]) := hx
   refine ⟨[Str.mk (sWhile ++ exT c ++ sBr)] ++ strs (inLo a) ++ [Str.mk sClose], fun B => ?_, fun h => ?_⟩
   ·refine Qa Tryz.func56 rfl Tryz.ntmps56 rfl (t := [(0, .agg [.i 18, .i 0, .i 0, Qt [c, a]])]) rfl fun E hE => ?_
    (refine wkU6 ?_;intros)
    exact e_2 (Tryz.results56) (Qb rfl) (Qb rfl) (c_pub_fst rfl (by rw [Qx];try rfl) (Qi (by rw [qi, ql, hbb];simp [hke, Qt];try rfl)))
   ·rw [qi, ql] at h
    simp [hke] at h
    rw [stL, insL_eq]
    unfold inLo
    simp [h.2, strs]
 by_cases k21 : k = 21
 ·subst k21
  have hbr := Z9 (G := G) 21 n m ks 2
  have hsm := ZH (G := G) n
  by_cases hb : bareR m ks.length 2 = true
  case neg =>
   have hb2 : bareR m ks.length 2 = false := by rw [<- Bool.not_eq_true];exact hb
   have hf : qi (.mk 21 n m ks) = false := by rw [qi];simp [Wb, hb2]
   rw [hb2] at hbr
   refine ⟨[], fun B => ?_, fun h => by rw [hf] at h;cases h⟩
   refine Qa Tryz.func56 rfl Tryz.ntmps56 rfl (t := [(0, .agg [.i 21, .i n, .i m, Qt ks])]) rfl fun E hE => ?_
   (refine wkU6 ?_;intros)
   all_goals exact e_2 (Tryz.results56) (Qb rfl) (Qb rfl) (Zr (fun L v h => Zy (fun v hv => Ze (es := 1) hv) h) (Qi (by rw [hf];rfl)))
  rw [hb] at hbr
  by_cases hs : WH n = true
  case neg =>
   have hs2 : WH n = false := by rw [<- Bool.not_eq_true];exact hs
   have hf : qi (.mk 21 n m ks) = false := by rw [qi];simp [hs2]
   rw [hs2] at hsm
   refine ⟨[], fun B => ?_, fun h => by rw [hf] at h;cases h⟩
   refine Qa Tryz.func56 rfl Tryz.ntmps56 rfl (t := [(0, .agg [.i 21, .i n, .i m, Qt ks])]) rfl fun E hE => ?_
   (refine wkU6 ?_;intros)
   all_goals exact e_2 (Tryz.results56) (Qb rfl) (Qb rfl) (Zr (fun L v h => Zy (fun v hv => Ze (es := 1) hv) h) (Qi (by rw [hf];rfl)))
  rw [hs] at hsm
  obtain ⟨hn0, hn9⟩ := qK hs
  have hdig : Go.Av.Pure Tryz.prog G 93 [.i n] (Ww (Lib.itoa n)) := by
   rw [itoa_nat hn0]
   have := qI (G := G) n.toNat (by omega)
   rwa [show ((n.toNat : Nat) : Int) = n by omega] at this
  have hdl := WZ hok.1.2.1
  have h20 : ks.length = 2 := by simp [bareR] at hb;omega
  match ks, h20 with
  | [a, b], _ =>
   have ha := (hkid a (by simp)).2
   have hbk := (hkid b (by simp)).2
   have htwo := two_c (G := G) sTry (sCatch ++ Lib.itoa n ++ sBr) a b ha hbk (by have := hll a (by simp);omega) (by have := hll b (by simp);omega)
   have hb3 : bareR m 2 2 = true := hb
   refine ⟨strs (sTry :: (inLo a ++ (sCatch ++ Lib.itoa n ++ sBr) :: (inLo b ++ [sClose]))), fun B => ?_, fun h => ?_⟩
   ·refine Qa Tryz.func56 rfl Tryz.ntmps56 rfl (t := [(0, .agg [.i 21, .i n, .i m, Qt [a, b]])]) rfl fun E hE => ?_
    (refine wkU6 ?_;intros)
    exact e_2 (Tryz.results56) (Qb rfl) (Qb rfl) (Qi (by rw [qi, ql];simp [Wb, hb3, hs, Qt]))
   ·rw [qi, ql] at h
    simp [hs] at h
    rw [stL, insL_eq]
    unfold inLo
    simp [h.1.2, h.2]
 ·obtain ⟨x, hsim, hxe⟩ := rSim_c (G := G) (.mk k n m ks) hok0 hsz0
  rw [Qp] at hsim
  have hso : qi (.mk k n m ks) = Zp (.mk k n m ks) := by rw [qi, if_neg k13, if_neg k17, if_neg k18, if_neg k21]
  rw [hso]
  refine ⟨[Str.mk x], fun B => ?_, fun h => ?_⟩
  ·refine Qa Tryz.func56 rfl Tryz.ntmps56 rfl (t := [(0, .agg [.i k, .i n, .i m, Qt ks])]) rfl fun E hE => ?_
   (refine wkU6 ?_;intros)
   exact e_2 (Tryz.results56) (Qb rfl) (Qb rfl) (Qi rfl)
  ·rw [hxe h, stL, if_neg k13, if_neg k17, if_neg k18, if_neg k21];rfl
theorem line0 (s : List UInt8) : ZO 0 s = s ++ [10] := by simp [ZO, Lib.repeatL]
theorem joinN_take {l : List (List UInt8)} {j : Nat} (h : j < l.length) : ZX 0 (l.take (j + 1)) = ZX 0 (l.take j) ++ (l[j] ++ [10]) := by
 rw [List.take_succ_eq_append_getElem h, Z5]
 show ZX 0 (l.take j) ++ (ZO 0 l[j] ++ []) = _
 rw [line0, List.append_nil]
theorem joinN_take_le (l : List (List UInt8)) (j : Nat) : (ZX 0 (l.take j)).length <= (ZX 0 l).length := by
 have := Z5 0 (l.take j) (l.drop j)
 rw [List.take_append_drop] at this
 rw [this, List.length_append];omega
theorem wkU7 {X W0 W1 W2 : Prop} (w0 : W0 := by exact True.intro) (w1 : W1 := by exact True.intro) (w2 : W2 := by exact True.intro) (s : (Unit -> W0) -> (Unit -> W1) -> (Unit -> W2) -> Unit -> X := by (intro w0 w1 w2 _;(repeat' first|(refine QH ?_;(first|refine Wu rfl ?_|refine WJ rfl ?_|(refine We ?_;(first|refine Wc rfl ?_|refine Q6 rfl ?_|refine Qc rfl rfl rfl ?_))|refine QN rfl rfl (by first|assumption|omega|(simp;done)|(simp;omega)) ?_|(refine Qr ?_;(first|refine Zu rfl rfl ?_|refine Wg rfl rfl ?_|refine s_neq rfl rfl ?_|refine Z4 rfl rfl (by omega) ?_|refine s_ad rfl rfl ?_|refine WE rfl rfl (by omega) ?_))|(refine QC ?_;(first|refine s_call_vo rfl rfl (.same (.ref rfl (by rw [Qx];rfl) (QB _) (.same .nil))) (lines_own _ _ _ (by omega)) (encs_flat_str _) (fun _ _ => ?_)|refine s_call_v rfl rfl (View.ref rfl (by rw [Qx];rfl) (QB _) View.nil) (r_list_c _ hJ hN) rfl ?_|refine WW rfl rfl (hdig) ?_|refine WW rfl rfl (hsm) ?_|refine WW rfl rfl (hx) ?_|refine s_call_ot rfl rfl (hins) (by repeat' first|exact Enc.clo _|exact WU|refine Q7 ?_ ?_|exact Wa|exact Wy _|exact WL (QB _)|exact QB _|refine qe ?_ ?_|refine Z0 ?_|refine WO ?_|refine Wo ?_) (by first|exact QB _) (fun _ _ => ?_)|refine Zn (z := Str.mk _) rfl rfl rfl rfl rfl rfl rfl (by first|omega|(simp;omega)) (by first|omega|(simp;omega)) (fun _ => rfl) (fun _ _ => ?_)|refine Q3 rfl ?_))|(refine Wz ?_;(first|refine qb rfl rfl ?_|refine Zf rfl rfl ?_))|refine s_not rfl ?_|refine Qd rfl rfl ?_|refine WM rfl rfl rfl ?_|refine Zc rfl rfl (by decide) rfl ?_|refine Z3 rfl rfl (fun _ _ => ?_)))|(refine QZ ?_;(first|refine QX ?_|refine WT rfl ?_|refine Zx rfl rfl rfl rfl ?_|refine qA rfl rfl rfl rfl ?_|refine WF rfl rfl (by omega) ?_))|(refine QY ?_;(first|refine QW ?_|refine Ql ?_|refine Qu ?_|refine QQ ?_|refine QO rfl ?_|refine Wn rfl ?_|refine Qn rfl (by omega) ?_|refine Qm rfl (by omega) ?_|refine Zq rfl ?_|refine Q2 ?_)));(all_goals (repeat (rename_i x;(fail_if_success have : Unit := x);revert x)));(first|done|exact w0 ());(first|done|exact w1 ());(first|done|exact w2 ()))) (u : (W0 \/ True) /\ (W1 \/ True) /\ (W2 \/ True) := by (refine ⟨?_, ?_, ?_⟩ <;> first|exact Or.inl True.intro|exact Or.inr True.intro)) : X := s (fun _ => w0) (fun _ => w1) (fun _ => w2) ()
theorem joined_c (l : List (List UInt8)) (hl : (ZX 0 l).length <= 140737480000000) (hn : l.length <= 1000000000) : Go.Av.Pure Tryz.prog G 52 [Qt (strs l)] (Ww (ZX 0 l)) := fun B => by
 obtain ⟨ls, hls⟩ : ∃ ls, ls = strs l := ⟨_, rfl⟩
 rw [<- hls]
 have hll : ls.length = l.length := by rw [hls, Z8]
 refine Qa Tryz.func52 rfl Tryz.ntmps52 rfl (t := [(0, Qt ls)]) rfl fun E hE => ?_
 (refine wkU7 ?_;intros)
 refine ZZ (fun (j : Nat) => ⟨[(0, Qt ls), (3, Ww (ZX 0 (l.take j))), (4, .i j)], []⟩) (fun j => j <= ls.length) (fun j => ls.length - j) 0 ?_ (by omega) ?_
 ·exact zal rfl
 intro j hj
 by_cases hjl : j < ls.length
 ·have hjl2 : j < l.length := by omega
  have e : ls[j].l = l[j] := by subst hls;simp [strs]
  have hle := joinN_take_le l (j + 1)
  have htk := joinN_take hjl2
  rw [<- e] at htk
  rw [htk] at hle
  have hb : (ZX 0 (l.take j)).length + ls[j].l.length + 1 <= 140737480000000 := by simp only [List.length_append, List.length_cons, List.length_nil] at hle;omega
  clear hle e
  (refine wkU7 ?_;intros)
  refine ⟨j + 1, by omega, by omega, ?_⟩
  rw [htk, <- List.append_assoc]
  exact zal rfl
 ·have hje : j = l.length := by omega
  subst hje
  (refine wkU7 ?_;intros)
  refine e_1 Tryz.results52 (Qb rfl) (Qi ?_)
  rw [List.take_length]
abbrev sFun : List UInt8 := [102, 117, 110, 32]
abbrev sPar : List UInt8 := [32, 40]
abbrev sEnd : List UInt8 := [41, 32, 123]
def lastN (ks : List Nd) : Nd := ks.getD (ks.length - 1) (.mk 0 0 0 [])
def funHd (n : Int) (ks : List Nd) : List UInt8 := sFun ++ Lib.itoa n ++ sPar ++ Wv ((ks.take (ks.length - 1)).map qz) ++ sEnd
def funL : Nd -> List (List UInt8)
 | .mk k n m ks => funHd n ks :: (inL (lastN ks) ++ [sClose])
theorem fun_lines (t : Nd) (h : ZB t = true) : funT t = ZX 0 (funL t) := by
 obtain ⟨k, n, m, ks⟩ := t
 rw [ZB] at h
 simp only [Bool.and_eq_true] at h
 rw [funT, if_pos (by simp only [Bool.and_eq_true];exact h.1.1.1), (st_lines _ 0).2 h.2]
 show _ = ZX 0 (funHd n ks :: (inL (lastN ks) ++ [sClose]))
 rw [qs, Z5]
 unfold funHd lastN
 congr 1
 try congr 1
 try simp [ZX]
theorem funL_len (t : Nd) : (funL t).length <= 3 * Qe t := by
 obtain ⟨k, n, m, ks⟩ := t
 rw [funL, List.length_cons, List.length_append, List.length_singleton, Qe]
 rcases Nat.eq_zero_or_pos ks.length with h0|h0
 ·rw [List.eq_nil_of_length_eq_zero h0]
  have : (inL (lastN [])).length = 0 := rfl
  omega
 ·have h1 := (stL_len (lastN ks)).2
  have h2 := QJ (last_mem h0)
  have h3 : Qe (lastN ks) <= Qo ks := h2
  omega
def RfE (G : Nat -> DV) (t : Nd) : Prop := ∃ x : List Str, Go.Av.Pure Tryz.prog G 53 [.agg (Enc.enc t)] (.tup [Qt x, .b (ZB t)]) /\ (ZB t = true -> x = strs (funL t))
theorem rFun_c (t : Nd) (hok : okN t) (hsz : Qe t <= 1000000) : RfE G t := by
 obtain ⟨k, n, m, ks⟩ := t
 rw [okN] at hok
 rw [Qe] at hsz
 have hl1 := Wm ks
 unfold RfE
 rw [Qp]
 have hsm := ZH (G := G) n
 by_cases k26 : k = 26
 case neg =>
  have hf : ZB (.mk k n m ks) = false := by rw [ZB];simp [k26]
  refine ⟨[], fun B => ?_, fun h => by rw [hf] at h;cases h⟩
  refine Qa Tryz.func53 rfl Tryz.ntmps53 rfl (t := [(0, .agg [.i k, .i n, .i m, Qt ks])]) rfl fun E hE => ?_
  (refine wkU7 ?_;intros)
  all_goals exact e_2 (Tryz.results53) (Qb rfl) (Qb rfl) (Zr (fun L v h => Zy (fun v hv => Ze (es := 1) hv) h) (Qi (by rw [hf];rfl)))
 subst k26
 by_cases hm : m = 0
 case neg =>
  have hf : ZB (.mk 26 n m ks) = false := by rw [ZB];simp [ZI, hm]
  refine ⟨[], fun B => ?_, fun h => by rw [hf] at h;cases h⟩
  refine Qa Tryz.func53 rfl Tryz.ntmps53 rfl (t := [(0, .agg [.i 26, .i n, .i m, Qt ks])]) rfl fun E hE => ?_
  (refine wkU7 ?_;intros)
  all_goals exact e_2 (Tryz.results53) (Qb rfl) (Qb rfl) (Zr (fun L v h => Zy (fun v hv => Ze (es := 1) hv) h) (Qi (by rw [hf];rfl)))
 subst hm
 by_cases hs : WH n = true
 case neg =>
  have hs2 : WH n = false := by rw [<- Bool.not_eq_true];exact hs
  have hf : ZB (.mk 26 n 0 ks) = false := by rw [ZB];simp [hs2]
  rw [hs2] at hsm
  refine ⟨[], fun B => ?_, fun h => by rw [hf] at h;cases h⟩
  refine Qa Tryz.func53 rfl Tryz.ntmps53 rfl (t := [(0, .agg [.i 26, .i n, .i 0, Qt ks])]) rfl fun E hE => ?_
  (refine wkU7 ?_;intros)
  all_goals exact e_2 (Tryz.results53) (Qb rfl) (Qb rfl) (Zr (fun L v h => Zy (fun v hv => Ze (es := 1) hv) h) (Qi (by rw [hf];rfl)))
 rw [hs] at hsm
 by_cases h0 : (ks.length : Int) = 0
 ·have h00 : ks.length = 0 := by omega
  have hf : ZB (.mk 26 n 0 ks) = false := by rw [ZB];simp [h00]
  refine ⟨[], fun B => ?_, fun h => by rw [hf] at h;cases h⟩
  refine Qa Tryz.func53 rfl Tryz.ntmps53 rfl (t := [(0, .agg [.i 26, .i n, .i 0, Qt ks])]) rfl fun E hE => ?_
  (refine wkU7 ?_;intros)
  all_goals exact e_2 (Tryz.results53) (Qb rfl) (Qb rfl) (Zr (fun L v h => Zy (fun v hv => Ze (es := 1) hv) h) (Qi (by rw [hf];rfl)))
 have hp0 : 0 < ks.length := by omega
 obtain ⟨hn0, hn9⟩ := qK hs
 have hdig : Go.Av.Pure Tryz.prog G 93 [.i n] (Ww (Lib.itoa n)) := by
  rw [itoa_nat hn0]
  have := qI (G := G) n.toNat (by omega)
  rwa [show ((n.toNat : Nat) : Int) = n by omega] at this
 have hdl := WZ hok.1.2.1
 obtain ⟨c, hc⟩ : ∃ c, c = ks.length - 1 := ⟨_, rfl⟩
 have hcl : c < ks.length := by omega
 have hlast : lastN ks = ks[c] := by
  unfold lastN
  rw [List.getD_eq_getElem?_getD, <- hc, List.getElem?_eq_getElem hcl];rfl
 have hins := (rSt_c (G := G) ks[c] (Q4 hok.2 (List.getElem_mem hcl)) (by have := QJ (List.getElem_mem hcl);omega)).2
 have hil := inLo_len ks[c] (by have := QJ (List.getElem_mem hcl);omega)
 have hio : inLo ks[c] = inLo (lastN ks) := by rw [hlast]
 have hfo : ZB (.mk 26 n 0 ks) = ((ks.take c).all ZD && inOk ks[c]) := by
  rw [ZB]
  simp [hs, hp0, ZI]
  rw [<- hc]
  congr 1
  rw [List.getElem?_eq_getElem hcl];rfl
 have hfl : funL (.mk 26 n 0 ks) = (sFun ++ Lib.itoa n ++ sPar ++ Wv ((ks.take c).map qz) ++ sEnd) :: (inL ks[c] ++ [sClose]) := by
  rw [funL, hlast];unfold funHd;rw [<- hc]
 rw [hfo, hfl]
 unfold RiC at hins
 rw [<- Z8] at hins hil
 have hit : ∀ x ∈ ks, ∃ y, Go.Av.Pure Tryz.prog G 54 [.agg (Enc.enc x)] (.tup [Ww y, .b (ZD x)]) /\ (ZD x = true -> y = qz x) := fun x hx => rTy_c x (Q4 hok.2 hx) (by have := QJ hx;omega)
 have hcm := qx qz (M := 30) ks c fun x hx => typT_len x (Q4 hok.2 hx)
 have hst := Wk ks c
 have hst2 : qm ((ks.take c).map fun x => Str.mk (qz x)) = (ks.take c).map qz := by unfold qm;rw [List.map_map];rfl
 have hJ : (Wv (qm ((ks.take c).map fun x => Str.mk (qz x)))).length <= 140737488355328 := by rw [hst2];omega
 have hJ2 : (Wv (qm ((ks.take c).map fun x => Str.mk (qz x)))).length <= 30000000 := by rw [hst2];omega
 have hN : ((ks.take c).map fun x => Str.mk (qz x)).length <= 1000000000 := by simp;omega
 refine ⟨if (ks.take c).all ZD = true then [Str.mk (sFun ++ Lib.itoa n ++ sPar ++ Wv ((ks.take c).map qz) ++ sEnd)] ++ strs (inLo ks[c]) ++ [Str.mk sClose] else [], fun B => ?_, fun h => ?_⟩
 ·clear hio hfo hfl hlast
  refine Qa Tryz.func53 rfl Tryz.ntmps53 rfl (t := [(0, .agg [.i 26, .i n, .i 0, Qt ks])]) rfl fun E hE => ?_
  (refine wkU7 ?_;intros)
  rename_i gb hgb
  refine r_own 5 1 rfl fun gO hgO => ?_
  refine r_loopg (fun (i : Nat) g => ⟨[(1, .ptr 0 gb 0), (4, .i c), (5, .ref 1 g 0 ((ks.take i).map fun x => Str.mk (qz x)).length 1), (6, .i i)], [.row gb [.i 26, .i n, .i 0, Qt ks], .row g (Q1 ((ks.take i).map fun x => Str.mk (qz x)))]⟩) (fun i => i <= c /\ (ks.take i).all ZD = true) (fun i => c - i) 0 gO hgO ?_ (by simp) ?_
  ·rw [show ((c : Nat) : Int) = (ks.length : Int) - 1 by omega]
   exact zal rfl
  intro i g ⟨hil0, hall⟩ hg
  by_cases hic : i < c
  ·have hil2 : i < ks.length := by omega
   obtain ⟨y, hx, hxe⟩ := hit _ (List.getElem_mem hil2)
   by_cases hk : ZD ks[i] = true
   ·have hye := hxe hk
    subst hye
    rw [hk] at hx
    have hb2 : ((ks.take (i + 1)).map fun x => Str.mk (qz x)) = ((ks.take i).map fun x => Str.mk (qz x)) ++ [Str.mk (qz ks[i])] := by rw [List.take_succ_eq_append_getElem hil2, List.map_append];rfl
    have hal : ((ks.take i).map fun x => Str.mk (qz x)).length <= 1048576 := by simp;omega
    (refine wkU7 ?_;intros)
    refine ⟨i + 1, _, ⟨by omega, by rw [List.take_succ_eq_append_getElem hil2, List.all_append, hall];simp [hk]⟩, by assumption, by omega, ?_⟩
    rw [hb2]
    exact zal rfl
   ·have hk2 : ZD ks[i] = false := by rw [<- Bool.not_eq_true];exact hk
    rw [hk2] at hx
    have hna : (ks.take c).all ZD = false := by
     rw [<- Bool.not_eq_true, List.all_eq_true]
     intro h
     refine hk (h _ ?_)
     exact List.mem_take_iff_getElem.2 ⟨i, by omega, rfl⟩
    (refine wkU7 ?_;intros)
    exact e_2 (Tryz.results53) (Qb rfl) (Qb rfl) (Zr (fun L v h => Zy (fun v hv => Ze (es := 1) hv) h) (Qi (by rw [hna];rfl)))
  ·have hie : i = c := by omega
   subst hie
   (refine wkU7 ?_;intros)
   exact e_2 (Tryz.results53) (Qb rfl) (Qb rfl) (c_pub_fst rfl (by rw [Qx];try rfl) (Qi (by rw [hall, if_pos rfl, hst2, Bool.true_and];rfl)))
 ·simp only [Bool.and_eq_true] at h
  rw [if_pos h.1]
  unfold inLo
  rw [if_pos h.2]
  simp [strs]
def progL : Nd -> List (List UInt8)
 | .mk k n m ks => ([112, 114, 111, 103, 114, 97, 109, 32] ++ Lib.itoa n) :: (ks.map funL).flatten
theorem funs_lines : ∀ (ks : List Nd), ks.all ZB = true -> (ks.map funT).flatten = ZX 0 (ks.map funL).flatten
 | [], _ => by simp [ZX]
 | x :: r, h => by
  simp only [List.all_cons, Bool.and_eq_true] at h
  rw [List.map_cons, List.map_cons, List.flatten_cons, List.flatten_cons, Z5, fun_lines x h.1, funs_lines r h.2]
theorem funsL_len : ∀ (ks : List Nd), ((ks.map funL).flatten).length <= 3 * Qo ks
 | [] => by simp
 | x :: r => by
  have h1 := funL_len x
  have h2 := funsL_len r
  rw [List.map_cons, List.flatten_cons, List.length_append, Qo];omega
theorem wkU8 {X W0 W1 W2 : Prop} (w0 : W0 := by exact True.intro) (w1 : W1 := by exact True.intro) (w2 : W2 := by exact True.intro) (s : (Unit -> W0) -> (Unit -> W1) -> (Unit -> W2) -> Unit -> X := by (intro w0 w1 w2 _;(repeat' first|(refine QH ?_;(first|refine Wu rfl ?_|refine WJ rfl ?_|(refine We ?_;(first|refine qj rfl rfl ?_|refine Q6 rfl ?_|refine Qc rfl rfl rfl ?_))|refine QN rfl rfl (by first|assumption|omega|(simp;done)|(simp;omega)) ?_|(refine Qr ?_;(first|refine Zu rfl rfl ?_|refine Wg rfl rfl ?_|refine s_neq rfl rfl ?_|refine Z4 rfl rfl (by omega) ?_|refine s_ad rfl rfl ?_))|(refine QC ?_;(first|refine Q3 rfl ?_|refine s_app_r rfl rfl rfl rfl rfl rfl rfl (by first|omega|(simp;omega)) (by first|omega|(simp;omega)) (fun _ => rfl) (fun _ _ => ?_)|refine WW rfl rfl (hdig) ?_|refine WW rfl rfl (hsm) ?_|refine WW rfl rfl (hx) ?_|refine WW rfl rfl (hty) ?_|refine WW rfl rfl (hex) ?_|refine WW rfl rfl (hst) ?_|refine WW rfl rfl (hjn) ?_))|(refine Wz ?_;(first|refine qb rfl rfl ?_|refine Zf rfl rfl ?_))|refine qq (cs := Q1 [Str.mk ([112, 114, 111, 103, 114, 97, 109, 32] ++ Lib.itoa n)]) rfl rfl (by decide) rfl rfl (fun _ _ => ?_)|refine s_not rfl ?_|refine Qd rfl rfl ?_|refine WM rfl rfl rfl ?_|refine Z3 rfl rfl (fun _ _ => ?_)))|(refine QZ ?_;(first|refine QX ?_|refine WT rfl ?_|refine Zx rfl rfl rfl rfl ?_|refine qA rfl rfl rfl rfl ?_|refine WF rfl rfl (by omega) ?_))|(refine QY ?_;(first|refine QW ?_|refine Ql ?_|refine Qu ?_|refine QQ ?_|refine QO rfl ?_|refine Wn rfl ?_|refine Qn rfl (by omega) ?_|refine Qm rfl (by omega) ?_|refine Zq rfl ?_|refine Q2 ?_)));(all_goals (repeat (rename_i x;(fail_if_success have : Unit := x);revert x)));(first|done|exact w0 ());(first|done|exact w1 ());(first|done|exact w2 ()))) (u : (W0 \/ True) /\ (W1 \/ True) /\ (W2 \/ True) := by (refine ⟨?_, ?_, ?_⟩ <;> first|exact Or.inl True.intro|exact Or.inr True.intro)) : X := s (fun _ => w0) (fun _ => w1) (fun _ => w2) ()
theorem rProg_c (n m : Int) (ks : List Nd) (hok : okN (.mk 27 n m ks)) (hsz : Qe (.mk 27 n m ks) <= 1000000) : ∃ x : List Str, Go.Av.Pure Tryz.prog G 51 [.agg [.i 27, .i n, .i m, Qt ks]] (.tup [Qt x, .b (prOk (.mk 27 n m ks))]) /\ (prOk (.mk 27 n m ks) = true -> x = strs (progL (.mk 27 n m ks))) := by
 rw [okN] at hok
 rw [Qe] at hsz
 have hl1 := Wm ks
 have hsm := ZH (G := G) n
 have hpo : prOk (.mk 27 n m ks) = (QK m ks.length (-1) && WH n && ks.all ZB) := by rw [prOk, if_pos rfl]
 by_cases hm : m = 0
 case neg =>
  have hf : prOk (.mk 27 n m ks) = false := by rw [hpo, ZI];simp [hm]
  refine ⟨[], fun B => ?_, fun h => by rw [hf] at h;cases h⟩
  refine Qa Tryz.func51 rfl Tryz.ntmps51 rfl (t := [(0, .agg [.i 27, .i n, .i m, Qt ks])]) rfl fun E hE => ?_
  (refine wkU8 ?_;intros)
  all_goals exact e_2 (Tryz.results51) (Qb rfl) (Qb rfl) (Zr (fun L v h => Zy (fun v hv => Ze (es := 1) hv) h) (Qi (by rw [hf];rfl)))
 subst hm
 by_cases hs : WH n = true
 case neg =>
  have hs2 : WH n = false := by rw [<- Bool.not_eq_true];exact hs
  have hf : prOk (.mk 27 n 0 ks) = false := by rw [hpo];simp [hs2]
  rw [hs2] at hsm
  refine ⟨[], fun B => ?_, fun h => by rw [hf] at h;cases h⟩
  refine Qa Tryz.func51 rfl Tryz.ntmps51 rfl (t := [(0, .agg [.i 27, .i n, .i 0, Qt ks])]) rfl fun E hE => ?_
  (refine wkU8 ?_;intros)
  all_goals exact e_2 (Tryz.results51) (Qb rfl) (Qb rfl) (Zr (fun L v h => Zy (fun v hv => Ze (es := 1) hv) h) (Qi (by rw [hf];rfl)))
 rw [hs] at hsm
 obtain ⟨hn0, hn9⟩ := qK hs
 have hdig : Go.Av.Pure Tryz.prog G 93 [.i n] (Ww (Lib.itoa n)) := by
  rw [itoa_nat hn0]
  have := qI (G := G) n.toNat (by omega)
  rwa [show ((n.toNat : Nat) : Int) = n by omega] at this
 have hdl := WZ hok.1.2.1
 rw [show prOk (.mk 27 n 0 ks) = ks.all ZB by rw [hpo, ZI, hs];simp]
 have hpl : progL (.mk 27 n 0 ks) = ([112, 114, 111, 103, 114, 97, 109, 32] ++ Lib.itoa n) :: (ks.map funL).flatten := by rw [progL]
 rw [hpl]
 refine ⟨if ks.all ZB = true then strs (([112, 114, 111, 103, 114, 97, 109, 32] ++ Lib.itoa n) :: (ks.map funL).flatten) else [], fun B => ?_, fun h => by rw [if_pos h]⟩
 have hfk : ∀ x ∈ ks, RfE G x := fun x hx => rFun_c x (Q4 hok.2 hx) (by have := QJ hx;omega)
 refine Qa Tryz.func51 rfl Tryz.ntmps51 rfl (t := [(0, .agg [.i 27, .i n, .i 0, Qt ks])]) rfl fun E hE => ?_
 (refine wkU8 ?_;intros)
 rename_i gb hgb gO hgO
 refine r_loopg (fun (i : Nat) g => ⟨[(1, .ptr 0 gb 0), (4, .ref 1 g 0 (strs (([112, 114, 111, 103, 114, 97, 109, 32] ++ Lib.itoa n) :: ((ks.take i).map funL).flatten)).length 1), (5, .i i)], [.row gb [.i 27, .i n, .i 0, Qt ks], .row g (Q1 (strs (([112, 114, 111, 103, 114, 97, 109, 32] ++ Lib.itoa n) :: ((ks.take i).map funL).flatten)))]⟩) (fun i => i <= ks.length /\ (ks.take i).all ZB = true) (fun i => ks.length - i) 0 gO hgO ?_ (by simp) ?_
 ·exact zal rfl
 intro i g ⟨hil0, hall⟩ hg
 by_cases hil : i < ks.length
 ·obtain ⟨y, hx, hxe⟩ := hfk _ (List.getElem_mem hil)
  by_cases hk : ZB ks[i] = true
  ·have hye := hxe hk
   subst hye
   rw [hk] at hx
   have hb2 : strs (([112, 114, 111, 103, 114, 97, 109, 32] ++ Lib.itoa n) :: ((ks.take (i + 1)).map funL).flatten) = strs (([112, 114, 111, 103, 114, 97, 109, 32] ++ Lib.itoa n) :: ((ks.take i).map funL).flatten) ++ strs (funL ks[i]) := by rw [List.take_succ_eq_append_getElem hil, List.map_append, List.flatten_append, <- strs_app];simp
   have hfl := funsL_len (ks.take i)
   have hstl := Wk ks i
   have hal : (strs (([112, 114, 111, 103, 114, 97, 109, 32] ++ Lib.itoa n) :: ((ks.take i).map funL).flatten)).length <= 4000000 := by rw [Z8, List.length_cons];omega
   have hfx := funL_len ks[i]
   have hfm := QJ (List.getElem_mem hil)
   have hfs : (strs (funL ks[i])).length <= 4000000 := by rw [Z8];omega
   generalize strs (([112, 114, 111, 103, 114, 97, 109, 32] ++ Lib.itoa n) :: ((ks.take i).map funL).flatten) = acc at *
   (refine wkU8 ?_;intros)
   refine ⟨i + 1, _, ⟨by omega, by rw [List.take_succ_eq_append_getElem hil, List.all_append, hall];simp [hk]⟩, by assumption, by omega, ?_⟩
   rw [hb2]
   exact zal rfl
  ·have hk2 : ZB ks[i] = false := by rw [<- Bool.not_eq_true];exact hk
   rw [hk2] at hx
   have hna : ks.all ZB = false := by
    rw [<- Bool.not_eq_true, List.all_eq_true]
    intro h;exact hk (h _ (List.getElem_mem hil))
   (refine wkU8 ?_;intros)
   exact e_2 (Tryz.results51) (Qb rfl) (Qb rfl) (Zr (fun L v h => Zy (fun v hv => Ze (es := 1) hv) h) (Qi (by rw [hna];rfl)))
 ·have hie : i = ks.length := by omega
  subst hie
  rw [List.take_length] at *
  (refine wkU8 ?_;intros)
  exact e_2 (Tryz.results51) (Qb rfl) (Qb rfl) (c_pub_fst rfl (by rw [Qx];try rfl) (Qi (by rw [hall, if_pos rfl];rfl)))
theorem typOk_kind (k n m : Int) (ks : List Nd) (h : ZD (.mk k n m ks) = true) : 0 <= k /\ k <= 3 := by
 rw [ZD] at h
 split at h
 ·omega
 split at h
 ·omega
 split at h
 ·omega
 ·cases h
theorem exOk_kind (k n m : Int) (ks : List Nd) (h : Zh (.mk k n m ks) = true) : 4 <= k /\ k <= 12 := by
 rw [Zh] at h
 repeat' split at h
 all_goals first|omega|cases h
theorem stOk_kind (k n m : Int) (ks : List Nd) (h : qi (.mk k n m ks) = true) : 13 <= k /\ k <= 25 := by
 by_cases hk : 13 <= k /\ k <= 25
 ·exact hk
 ·exfalso
  rw [qi, if_neg (by omega), if_neg (by omega), if_neg (by omega), if_neg (by omega), Zp, if_neg (by omega), if_neg (by omega), if_neg (by omega), if_neg (by omega), if_neg (by omega), if_neg (by omega), if_neg (by omega), if_neg (by omega), if_neg (by omega)] at h
  cases h
theorem r_print_c (t : Nd) (hok : okN t) (hsz : Qe t <= 1000000) : Go.Av.Pure Tryz.prog G 19 [.agg (Enc.enc t)] (Ww (Zv t)) := fun B => by
 obtain ⟨ty, hty, htye⟩ := rTy_c (G := G) t hok hsz
 obtain ⟨ex, hex, hexe⟩ := rEx_c (G := G) t hok hsz
 obtain ⟨⟨hst1, hst2⟩, -⟩ := rSt_c (G := G) t hok hsz
 have hfx := rFun_c (G := G) t hok hsz
 have hstl := (st_lenX hok (i := 0) (by omega)).1
 have hst0 := (st_lines t 0).1
 have hsl := (stL_len t).1
 have hfl := funT_len t hok hsz
 have hfs := fun_lines t
 have hfl2 := funL_len t
 obtain ⟨k, n, m, ks⟩ := t
 unfold RfE at hfx
 rw [Qp] at *
 have hok2 := hok
 rw [okN] at hok2
 have hse : Qe (.mk k n m ks) = 1 + Qo ks := by rw [Qe]
 unfold Zv
 by_cases k27 : k = 27
 ·subst k27
  obtain ⟨x, hx, hxe⟩ := rProg_c (G := G) n m ks hok hsz
  by_cases hp : prOk (.mk 27 n m ks) = true
  ·have hp2 := hxe hp
   subst hp2
   rw [hp] at hx ⊢
   rw [prOk, if_pos rfl] at hp
   simp only [Bool.and_eq_true] at hp
   have ht : prT (.mk 27 n m ks) = ZX 0 (progL (.mk 27 n m ks)) := by
    rw [prT, if_pos rfl, progL, qs, funs_lines ks hp.2]
   have hjl : (ZX 0 (progL (.mk 27 n m ks))).length <= 140737480000000 := by
    rw [<- ht, prT, if_pos rfl, List.length_append, Wx]
    have := funs_len ks hok2.2 (by omega)
    have := WZ hok2.1.2.1
    simp only [List.length_append, List.length_cons, List.length_nil];omega
   have hjn := joined_c (G := G) (progL (.mk 27 n m ks)) hjl (by rw [progL, List.length_cons];have := funsL_len ks;omega)
   rw [if_pos rfl, ht]
   refine Qa Tryz.func19 rfl Tryz.ntmps19 rfl (t := [(0, .agg [.i 27, .i n, .i m, Qt ks])]) rfl fun E hE => ?_
   (refine wkU8 ?_;intros)
   refine e_1 Tryz.results19 (Qb rfl) (Qi ?_)
   all_goals first|rfl|(simp;done)
  ·have hp2 : prOk (.mk 27 n m ks) = false := by rw [<- Bool.not_eq_true];exact hp
   rw [hp2] at hx ⊢
   refine Qa Tryz.func19 rfl Tryz.ntmps19 rfl (t := [(0, .agg [.i 27, .i n, .i m, Qt ks])]) rfl fun E hE => ?_
   (refine wkU8 ?_;intros)
   refine e_1 Tryz.results19 (Qb rfl) (Qi ?_)
   all_goals first|rfl|(simp;done)
 by_cases k26 : k = 26
 ·subst k26
  obtain ⟨x, hx, hxe⟩ := hfx
  rw [prOk, prT, if_neg k27, if_neg k27, if_pos rfl, if_pos rfl]
  by_cases hp : ZB (.mk 26 n m ks) = true
  ·have hp2 := hxe hp
   subst hp2
   rw [hp] at hx ⊢
   have hjn := joined_c (G := G) (funL (.mk 26 n m ks)) (by rw [<- hfs hp];omega) (by omega)
   rw [if_pos rfl, hfs hp]
   refine Qa Tryz.func19 rfl Tryz.ntmps19 rfl (t := [(0, .agg [.i 26, .i n, .i m, Qt ks])]) rfl fun E hE => ?_
   (refine wkU8 ?_;intros)
   refine e_1 Tryz.results19 (Qb rfl) (Qi ?_)
   all_goals first|rfl|(simp;done)
  ·have hp2 : ZB (.mk 26 n m ks) = false := by rw [<- Bool.not_eq_true];exact hp
   rw [hp2] at hx ⊢
   refine Qa Tryz.func19 rfl Tryz.ntmps19 rfl (t := [(0, .agg [.i 26, .i n, .i m, Qt ks])]) rfl fun E hE => ?_
   (refine wkU8 ?_;intros)
   refine e_1 Tryz.results19 (Qb rfl) (Qi ?_)
   all_goals first|rfl|(simp;done)
 have ety := typOk_kind k n m ks
 have eex := exOk_kind k n m ks
 have est := stOk_kind k n m ks
 rw [prOk, prT, if_neg k27, if_neg k27, if_neg k26, if_neg k26]
 by_cases ht : ZD (.mk k n m ks) = true
 ·have := ety ht
  rw [if_pos this, if_pos this, ht, if_pos rfl]
  rw [ht, htye ht] at hty
  refine Qa Tryz.func19 rfl Tryz.ntmps19 rfl (t := [(0, .agg [.i k, .i n, .i m, Qt ks])]) rfl fun E hE => ?_
  (refine wkU8 ?_;intros)
  refine e_1 Tryz.results19 (Qb rfl) (Qi ?_)
  all_goals first|rfl|(simp;done)
 have ht2 : ZD (.mk k n m ks) = false := by rw [<- Bool.not_eq_true];exact ht
 rw [ht2] at hty ⊢
 by_cases he : Zh (.mk k n m ks) = true
 ·have := eex he
  have n1 : ¬ (0 <= k /\ k <= 3) := by omega
  rw [if_neg n1, if_neg n1, if_pos this, if_pos this, he, if_pos rfl]
  rw [he, hexe he] at hex
  refine Qa Tryz.func19 rfl Tryz.ntmps19 rfl (t := [(0, .agg [.i k, .i n, .i m, Qt ks])]) rfl fun E hE => ?_
  (refine wkU8 ?_;intros)
  refine e_1 Tryz.results19 (Qb rfl) (Qi ?_)
  all_goals first|rfl|(simp;done)
 have he2 : Zh (.mk k n m ks) = false := by rw [<- Bool.not_eq_true];exact he
 rw [he2] at hex ⊢
 by_cases hs : qi (.mk k n m ks) = true
 ·have := est hs
  have hst := hst1 hs
  have n1 : ¬ (0 <= k /\ k <= 3) := by omega
  have n2 : ¬ (4 <= k /\ k <= 12) := by omega
  rw [if_neg n1, if_neg n1, if_neg n2, if_neg n2, hs, if_pos rfl, hst0 hs]
  have hjn := joined_c (G := G) (stL (.mk k n m ks)) (by rw [<- hst0 hs];omega) (by omega)
  refine Qa Tryz.func19 rfl Tryz.ntmps19 rfl (t := [(0, .agg [.i k, .i n, .i m, Qt ks])]) rfl fun E hE => ?_
  (refine wkU8 ?_;intros)
  refine e_1 Tryz.results19 (Qb rfl) (Qi ?_)
  all_goals first|rfl|(simp;done)
 ·have hs2 : qi (.mk k n m ks) = false := by rw [<- Bool.not_eq_true];exact hs
  obtain ⟨x, hst⟩ := hst2 hs2
  rw [hs2]
  refine Qa Tryz.func19 rfl Tryz.ntmps19 rfl (t := [(0, .agg [.i k, .i n, .i m, Qt ks])]) rfl fun E hE => ?_
  (refine wkU8 ?_;intros)
  refine e_1 Tryz.results19 (Qb rfl) (Qi ?_)
  all_goals first|rfl|(simp;done)
end Go.Proofs
end
section
namespace Go.Av
open Classical
def partsOf {α : Type} [Enc α] (k : Nat) : List α -> List (Nat × DV)
 | [] => []
 | x :: r => (k, .agg (Enc.enc x)) :: partsOf (k + 1) r
theorem encs_snoc {α : Type} [Enc α] (l : List α) (x : α) : Q1 (l ++ [x]) = Q1 l ++ Enc.enc x := by simp [Q1]
theorem fill_many {α : Type} [Enc α] {zs : List Value} (h1 : zs.length = Enc.es α) : ∀ (rest done : List α), qF (fun i => some (i * Enc.es α, Enc.es α)) (Q1 done ++ WA zs rest.length) (partsOf done.length rest) = some (Q1 done ++ Q1 rest)
 | [], done => by
  show qF _ (Q1 done ++ []) [] = some (Q1 done ++ [])
  rw [List.append_nil]
  exact Z6 _
 | x :: r, done => by
  have ih := fill_many h1 r (done ++ [x])
  have hx := Enc.len x
  have hp := Enc.pos (α := α)
  have hdl := Qx done
  rw [List.length_append, List.length_singleton] at ih
  rw [encs_snoc] at ih
  have hz : WA zs (x :: r).length = zs.map .sc ++ WA zs r.length := rfl
  rw [hz]
  show qF _ _ ((done.length, .agg (Enc.enc x)) :: partsOf (done.length + 1) r) = _
  have he : Q1 (x :: r) = Enc.enc x ++ Q1 r := by simp [Q1]
  rw [he, show Q1 done ++ (Enc.enc x ++ Q1 r) = Q1 done ++ Enc.enc x ++ Q1 r from (List.append_assoc _ _ _).symm, <- ih]
  generalize Enc.enc x = ds at *
  cases ds with
  | nil => simp at hx;omega
  | cons d ds =>
   have hb : Nat.beq (d :: ds).length (Enc.es α) = true := by rw [hx];exact Nat.beq_refl _
   have s1 := spliceD_mid (Q1 done) (zs.map .sc) (WA zs r.length) d ds (by rw [List.length_map, h1, hx])
   rw [hdl] at s1
   simp only [qF, dcells, hb, s1]
   rw [List.append_assoc]
   try exact Z6 _
theorem s_bslice_many {P : Program} {G : Nat -> DV} {B : Nat} {f : Operand -> DV} {σ : List ABlk} {K : DV -> List ABlk -> Prop} {dst : Option Tmp} {type : TypeId} {pos : String} {after : Array Edge} {gd : Option (Nat × Bool)} {α : Type} [Enc α] {L : List α} {t e n : Nat} {g1 g2 : Bool} {z1 : Nat} {td : TypeDesc} {zs : List Value} {ps : List (Nat × Operand)} [ht : TyI P t (.slice e) g1 z1] [he : TyI P e td g2 (Enc.es α)] [hz : TyZ P e zs] (hzl : zs.length = Enc.es α) (hp : qu f ps = some (partsOf 0 L)) (hn : n * Enc.es α <= 16777216) (hL : L.length = n)
  (k : ∀ g, B < g -> K (.ref σ.length g 0 L.length (Enc.es α)) (σ ++ [.row g (Q1 L)])) : OpSem P G B ⟨dst, .buildSlice t n ps.toArray, type, pos, after, gd⟩ f σ K := by
 subst hL
 exact qq hzl hp hn (fill_many hzl L []) (Qx L) k
end Go.Av
end
section
namespace Go.Proofs
open Go.Av
variable {G : Nat -> DV}
attribute [local irreducible] OpSem W7 Zk ZC ACalls qg AClose RV
open Go.Bl
theorem wkXC {X W0 W1 W2 : Prop} (w0 : W0 := by exact True.intro) (w1 : W1 := by exact True.intro) (w2 : W2 := by exact True.intro) (s : (Unit -> W0) -> (Unit -> W1) -> (Unit -> W2) -> Unit -> X := by (intro w0 w1 w2 _;(repeat' first|(refine QH ?_;(first|refine Wu rfl ?_|refine WJ rfl ?_|refine qj rfl rfl ?_|(refine Qr ?_;(first|refine Zu rfl rfl ?_|refine WI rfl rfl ?_|refine Z4 rfl rfl (by omega) ?_))|(refine QC ?_;(first|refine Zn (z := raw) (l := [p0, q0, x0, t0, a0, b0]) rfl rfl rfl rfl rfl rfl rfl (by simp) (by simp) (fun _ => rfl) (fun _ _ => ?_)|refine WR rfl rfl hsm (Wo (Enc.clo _)) ?_|refine WR rfl rfl hpg (Wo (Enc.clo _)) ?_|refine WW rfl rfl (hps) ?_|refine WW rfl rfl (hsz) ?_|refine WW rfl rfl (hlv) ?_|refine Q3 rfl ?_))|refine Zg rfl rfl rfl rfl ?_|(refine Zd ?_;(first|refine s_bslice_many (L := [p0, q0, x0, t0, a0, b0]) rfl rfl (by decide) rfl (fun _ _ => ?_)|refine QM (z := raw) rfl rfl (by decide) ?_))|refine Qw (fun _ _ => ?_)|refine Z3 rfl rfl (fun _ _ => ?_)))|(refine QZ ?_;(first|refine QX ?_|refine WT rfl ?_|refine Wf ?_))|(refine QY ?_;(first|refine QW ?_|refine Ql ?_|refine Qu ?_|(refine W8 ?_;first|(refine Qv ((fun g11 g13 g14 g16 p => .row g11 (Enc.enc raw) :: .row g13 (Enc.enc p0) :: .row g14 (Enc.enc q0) :: .row g16 (Enc.enc x0) :: p) _ _ _ _) 100 [(0, true), (1, true), (2, true), (3, true), (4, true), (5, true), (6, true), (7, true), (8, true), (9, true), (10, true), (11, true), (12, true), (13, true), (14, true), (15, false), (16, true)] (by rfl) (by rfl) (by kernel_rfl) (by decide +kernel) (by decide +kernel) ⟨_, rfl⟩ ?_)|(refine Qv ((fun g11 g13 g14 p => .row g11 (Enc.enc raw) :: .row g13 (Enc.enc p0) :: .row g14 (Enc.enc q0) :: p) _ _ _) 15 [(0, true), (1, true), (2, true), (3, true), (4, true), (5, true), (6, true), (7, true), (8, true), (9, true), (10, true), (11, true), (12, false), (13, false), (14, true)] (by rfl) (by rfl) (by kernel_rfl) (by decide +kernel) (by decide +kernel) ⟨_, rfl⟩ ?_)|(refine Qv (fun p => p) 100 [(0, true)] (by rfl) (by rfl) (by kernel_rfl) (by decide +kernel) (by decide +kernel) ⟨_, rfl⟩ ?_)|refine WC (by rfl) (by kernel_rfl) (by kernel_rfl) ?_|refine WB (by kernel_rfl) (by kernel_rfl) ?_)|refine QQ ?_|refine Wn rfl ?_|refine Qn rfl (by omega) ?_|refine Qm rfl (by omega) ?_|refine Zq rfl ?_|refine Q2 ?_))|(refine g_lex ?_;(first|refine x_op rfl (by (repeat' first|(refine QH ?_;(first|refine Wu rfl ?_|refine WJ rfl ?_|(refine We ?_;(first|refine qj rfl rfl ?_|refine Wc rfl ?_|refine Q6 rfl ?_))|(refine W4 ?_;(first|refine QN (l := Ps) rfl rfl hil ?_|refine QN rfl rfl (by first|assumption|omega|(simp;done)|(simp;omega)) ?_))|refine s_neq_strK rfl rfl hne ?_|(refine QC ?_;(first|refine WR rfl rfl hat (WO (Q7 (Wo (Enc.clo _)) (Q7 Wa WU))) ?_|refine WR rfl rfl htr (Wo (Enc.clo _)) ?_|refine WR rfl rfl hx1 (Wo (Enc.clo _)) ?_|refine WR rfl rfl hx2 (Wo (Enc.clo _)) ?_|refine WW rfl rfl (hpa) ?_|refine WW rfl rfl (hp1) ?_|refine WW rfl rfl (hp2) ?_|refine Q3 rfl ?_))|refine WM rfl rfl rfl ?_))|exact ⟨rfl, rfl⟩)) ?_|refine x_nil ?_))|(refine ZJ ?_;(first|refine qD ?_|refine i_st rfl rfl (fun _ => (by (repeat' first|(refine QH ?_;(first|refine Wu rfl ?_|refine WJ rfl ?_|(refine We ?_;(first|refine qj rfl rfl ?_|refine Wc rfl ?_|refine Q6 rfl ?_))|(refine W4 ?_;(first|refine QN (l := Ps) rfl rfl hil ?_|refine QN rfl rfl (by first|assumption|omega|(simp;done)|(simp;omega)) ?_))|refine s_neq_strK rfl rfl hne ?_|(refine QC ?_;(first|refine WR rfl rfl hat (WO (Q7 (Wo (Enc.clo _)) (Q7 Wa WU))) ?_|refine WR rfl rfl htr (Wo (Enc.clo _)) ?_|refine WR rfl rfl hx1 (Wo (Enc.clo _)) ?_|refine WR rfl rfl hx2 (Wo (Enc.clo _)) ?_|refine WW rfl rfl (hpa) ?_|refine WW rfl rfl (hp1) ?_|refine WW rfl rfl (hp2) ?_|refine Q3 rfl ?_))|refine WM rfl rfl rfl ?_))|exact ⟨rfl, rfl⟩))) ?_|refine i_ef rfl ?_|refine i_ef0 ?_))|refine And.intro (Exists.intro (_) rfl) ?_);(all_goals (repeat (rename_i x;(fail_if_success have : Unit := x);revert x)));(first|done|exact w0 ());(first|done|exact w1 ());(first|done|exact w2 ()))) (u : (W0 \/ True) /\ (W1 \/ True) /\ (W2 \/ True) := by (refine ⟨?_, ?_, ?_⟩ <;> first|exact Or.inl True.intro|exact Or.inr True.intro)) : X := s (fun _ => w0) (fun _ => w1) (fun _ => w2) ()
theorem prints_c (hG0 : G 0 = shapesT) (hG1 : G 1 = spaceT) (hG : G 6 = pow10T) (l m : List Int) (at_ how by_ : Int) (raw : Nd) (hl : OkI l) (hm : OkI m) (h1 : i64 at_) (h2 : i64 how) (h3 : i64 by_) (hro : okN raw) (hrs : Qe raw <= 1048576) :
  Go.Av.Pure Tryz.prog G 3 [Qt l, Qt m, .i at_, .i how, .i by_, .agg (Enc.enc raw)] (.b true) := fun B => by
 obtain ⟨p0, hv, _, hsm⟩ := sample_c (G := G) l hl
 obtain ⟨hok, hszp, _⟩ := valid_ok hv
 obtain ⟨q0, hv2, _, hpg⟩ := program_c (G := G) m hm
 obtain ⟨hok2, hszq, _⟩ := valid_ok hv2
 obtain ⟨t0, hok3, hszt, htr⟩ := tree_c (G := G) m hm
 have hps := (paths_c (G := G) p0 (by omega)).read
 have hpl := pathsN_len p0
 have hsp := Qz p0
 have hpa := qJ (G := G) at_ (WS p0).length h1 (by omega)
 have hpab := ZL at_ (most := (WS p0).length) (by omega)
 obtain ⟨ia, hia⟩ : ∃ ia : Nat, arnd at_ (WS p0).length = (ia : Int) := ⟨(arnd at_ (WS p0).length).toNat, by omega⟩
 rw [hia] at hpa hpab
 have hil : ia < (WS p0).length := by omega
 obtain ⟨hat, hsx⟩ := r05At_c (G := G) _ p0 (List.getElem_mem hil) (by omega)
 have hokx := ok_sub (WS p0)[ia] p0 hok
 generalize subN (WS p0)[ia] p0 = x0 at *
 obtain ⟨a0, hok4, hsz4, hx1⟩ := spoilt_c (G := G) p0 hok (by omega) at_ how by_ h1 h2 h3
 obtain ⟨b0, hok5, hsz5, hx2⟩ := spoilt_c (G := G) x0 hokx (by omega) by_ how at_ h3 h2 h1
 have hsz := r05Size_c (G := G) raw (by omega)
 have hlv := lives_c (G := G) hG0 hG1 hG
 generalize WS p0 = Ps at *
 obtain ⟨L6, hL6⟩ : ∃ L6, L6 = [p0, q0, x0, t0, a0, b0] := ⟨_, rfl⟩
 have hall : ∀ x ∈ L6, okN x /\ Qe x <= 1000000 := fun x hx => by
  rw [hL6] at hx
  simp only [List.mem_cons, List.not_mem_nil, or_false] at hx
  rcases hx with rfl|rfl|rfl|rfl|rfl|rfl
  ·exact ⟨hok, by omega⟩
  ·exact ⟨hok2, by omega⟩
  ·exact ⟨hokx, by omega⟩
  ·exact ⟨hok3, by omega⟩
  ·exact ⟨hok4, by omega⟩
  ·exact ⟨hok5, by omega⟩
 have hl6 : L6.length = 6 := by rw [hL6];rfl
 have hboth : ∀ x : Nd, okN x -> Qe x <= 1000000 -> Go.Av.Pure Tryz.prog G 18 [.agg (Enc.enc x)] (Ww (Zv x)) /\ Go.Av.Pure Tryz.prog G 19 [.agg (Enc.enc x)] (Ww (Zv x)) := fun x hx hs => ⟨print_c (G := G) hG hG1 x hx hs, r_print_c (G := G) x hx hs⟩
 clear hia hok hok2 hok3 hok4 hok5 hokx hv hv2 hszp hszq hszt hsz4 hsz5 hsx
 have hp1 := trivial
 have hp2 := trivial
 have hne := trivial
 refine Qa Tryz.func3 rfl Tryz.ntmps3 rfl (t := [(0, Qt l), (1, Qt m), (2, .i at_), (3, .i how), (4, .i by_), (5, .agg (Enc.enc raw))]) rfl fun E0 hE0 => ?_
 by_cases hr3 : Qe raw <= 300
 ·(refine wkXC ?_;intros)
  rename_i gA hgA gB hgB
  rw [<- hL6]
  refine r_pub 18 rfl rfl (Qx _).symm rfl ?_
  have hall2 : ∀ x ∈ L6 ++ [raw], okN x /\ Qe x <= 1000000 := fun x hx => by
   rcases List.mem_append.1 hx with hx|hx
   ·exact hall x hx
   ·rcases List.mem_cons.1 hx with rfl|hx
    ·exact ⟨hro, by omega⟩
    ·cases hx
  generalize hLL : L6 ++ [raw] = LL at *
  have hLn : LL.length <= 7 := by rw [<- hLL];rw [List.length_append, hl6];simp
  clear hall hsm hpg hat htr hx1 hx2 hps hpa hsz hl6 hL6
  have hsm := trivial
  have hpg := trivial
  have hat := trivial
  have htr := trivial
  have hx1 := trivial
  have hx2 := trivial
  have hps := trivial
  have hpa := trivial
  have hsz := trivial
  have hL6 := trivial
  refine ZZ (fun i : Nat => ⟨[(18, Qt LL), (19, .i i)], []⟩) (fun i => i <= LL.length) (fun i => LL.length - i) 0 ?_ (by omega) ?_
  ·exact zal rfl
  intro i hi
  by_cases hil2 : i < LL.length
  ·obtain ⟨hox, hsx⟩ := hall2 _ (List.getElem_mem hil2)
   obtain ⟨hp1, hp2⟩ := hboth _ hox hsx
   clear hboth hall2
   generalize Zv LL[i] = w at *
   have hne : decide (w ≠ w) = false := by simp
   (refine wkXC ?_;intros)
   refine ⟨i + 1, by omega, by omega, ?_⟩
   exact zal rfl
  ·clear hboth hall2
   (refine wkXC ?_;intros)
   exact e_1 (Tryz.results3) (Qb rfl) (Qi rfl)
 ·(refine wkXC ?_;intros)
  rename_i gA hgA
  rw [<- hL6]
  refine r_pub 18 rfl rfl (Qx _).symm rfl ?_
  have hall2 := hall
  obtain ⟨LL, hLL⟩ : ∃ LL, L6 = LL := ⟨_, rfl⟩
  rw [hLL] at hall2 ⊢
  have hLn : LL.length <= 7 := by rw [<- hLL];omega
  clear hall hsm hpg hat htr hx1 hx2 hps hpa hsz hl6 hL6
  have hsm := trivial
  have hpg := trivial
  have hat := trivial
  have htr := trivial
  have hx1 := trivial
  have hx2 := trivial
  have hps := trivial
  have hpa := trivial
  have hsz := trivial
  have hL6 := trivial
  refine ZZ (fun i : Nat => ⟨[(18, Qt LL), (19, .i i)], []⟩) (fun i => i <= LL.length) (fun i => LL.length - i) 0 ?_ (by omega) ?_
  ·exact zal rfl
  intro i hi
  by_cases hil2 : i < LL.length
  ·obtain ⟨hox, hsx⟩ := hall2 _ (List.getElem_mem hil2)
   obtain ⟨hp1, hp2⟩ := hboth _ hox hsx
   clear hboth hall2
   generalize Zv LL[i] = w at *
   have hne : decide (w ≠ w) = false := by simp
   (refine wkXC ?_;intros)
   refine ⟨i + 1, by omega, by omega, ?_⟩
   exact zal rfl
  ·clear hboth hall2
   (refine wkXC ?_;intros)
   exact e_1 (Tryz.results3) (Qb rfl) (Qi rfl)
end Go.Proofs
end
section
namespace Go.Av
open Classical Go.ChangeShapes Go.WideShapes Go.ChangeAt Go.RowKit
theorem law_callsG {P : Program} {G : Nat -> DV} {f : FuncId} {args : List DV} (h : Pure P G f args (.b true)) {W : World} {vs : Array Value} (hv : ∀ L, Sees W L -> VReps L args vs)
  (hG : ∀ L, Sees W L -> ∀ g, (G g).clo = true /\ VRep L (G g) (.pointer (some ⟨g, 0, none⟩))) (hT : ∀ g cs, G g = .ep cs -> ∃ T, W.shape? g = some (T, cs.length)) :
  Calls P f vs W fun e W' => e = .returned (.bool true) /\ Below W.heap.size W W' := by
 let X : AX := { w := W, ρ := fun _ => none, σ := [], N := 0, hid := fun _ => False }
 have hm : ∀ b, ¬ X.mut b := fun b ⟨k, g, n, hl, _⟩ => by simp [AX.live, X] at hl
 have hS : Sto X := {
  inj := fun k k' g g' b n n' hl => by simp [AX.live, X] at hl
  gen := fun k g hl => by simp [AX.live, X] at hl
  hid := fun b hb => absurd hb (hm b)
  hidlt := fun b hb => hb.elim
  holds := fun k B hB => by simp [X] at hB }
 have hL : Sees W X.lay := fun b o v hc => AX.imm_mk (hm b) (fun h => h) hc
 refine (h 0 X vs hS rfl (Nat.le_refl _) (fun g => ⟨⟨(hG X.lay hL g).1, fun cs hc => hT g cs hc⟩, (hG X.lay hL g).2⟩) (hv X.lay hL)).mono ?_
 rintro e w' ⟨v, rfl, Y, hw, hY, hE, d, hr, rfl, _⟩
 subst hw
 rw [VRep.sc_eq hr]
 exact ⟨rfl, hE.os, hE.tape, hE.output, hE.size, fun k hk => (hE.old k hk (hm k)).1⟩
theorem slice_rep {β : Type} [Enc β] {w : World} {a : Addr} {len cap : Nat} (hlc : len <= cap) (y : Fin len -> β)
  (hy : ∀ i, ∃ ci : List Value, ci.length = Enc.es β /\ (∀ r, r < Enc.es β -> w.cell? ((a.add (i.1 * Enc.es β)).add r) = ci[r]?) /\ ∀ L, Sees w L -> ∀ (j : Nat) d, (Enc.enc (y i) : List DV)[j]? = some d -> VRep L d (ci.getD j undef))
  (L : Lay) (hL : Sees w L) : VRep L (Qt (List.ofFn y)) (.slice (some a) len cap) := by
 have hp := Enc.pos (α := β)
 have hlen : (Q1 (List.ofFn y)).length = len * Enc.es β := by rw [Qx, List.length_ofFn]
 let f : Nat -> Value := fun k => if h : k / Enc.es β < len then (Classical.choose (hy ⟨k / Enc.es β, h⟩)).getD (k % Enc.es β) undef else undef
 refine .sl _ _ _ _ _ f hlen.symm hlc (encs_one _) ?_ (fun k d hk => ?_)
 ·by_cases h0 : len = 0
  ·left
   exact List.eq_nil_of_length_eq_zero (by rw [hlen, h0, Nat.zero_mul])
  ·right
   obtain ⟨b, o, sp⟩ := a
   obtain ⟨c0, hc0, hc1, _⟩ := hy ⟨0, by omega⟩
   have hs := hc1 0 hp
   rw [List.getElem?_eq_getElem (by omega)] at hs
   have hsp : sp = none := by simpa [Addr.add] using spot_of hs
   subst hsp
   refine ⟨b, o, rfl, fun k hk => ?_⟩
   rw [hlen] at hk
   have hkd : k / Enc.es β < len := Nat.div_lt_of_lt_mul (by rw [Nat.mul_comm];exact hk)
   have hfk : f k = (Classical.choose (hy ⟨k / Enc.es β, hkd⟩)).getD (k % Enc.es β) undef := dif_pos hkd
   obtain ⟨h4, h5, _⟩ := Classical.choose_spec (hy ⟨k / Enc.es β, hkd⟩)
   have hm := Nat.mod_lt k hp
   have h6 := h5 (k % Enc.es β) hm
   rw [List.getElem?_eq_getElem (by omega)] at h6
   refine hL b (o + k) (f k) ?_
   rw [hfk, List.getD_eq_getElem?_getD, List.getElem?_eq_getElem (by omega)]
   have hadd : ((⟨b, o, none⟩ : Addr).add (k / Enc.es β * Enc.es β)).add (k % Enc.es β) = ⟨b, o + k, none⟩ := by
    rw [Z1, Z1, Nat.add_assoc, Nat.mul_comm, Nat.div_add_mod]
   rw [hadd] at h6
   exact h6
 ·have hk' := (List.getElem?_eq_some_iff.1 hk).1
  rw [hlen] at hk'
  have hkd : k / Enc.es β < len := Nat.div_lt_of_lt_mul (by rw [Nat.mul_comm];exact hk')
  have hfk : f k = (Classical.choose (hy ⟨k / Enc.es β, hkd⟩)).getD (k % Enc.es β) undef := dif_pos hkd
  obtain ⟨_, _, h7⟩ := Classical.choose_spec (hy ⟨k / Enc.es β, hkd⟩)
  have hm := Nat.mod_lt k hp
  have := encs_at (List.ofFn y) (k / Enc.es β) (by rw [List.length_ofFn];exact hkd) (k % Enc.es β) hm
  rw [Nat.mul_comm, Nat.div_add_mod, hk, List.getElem_ofFn] at this
  rw [hfk]
  exact h7 L hL _ d this.symm
theorem ones {A B : Type} (g : B -> A) : ∀ (l : List B) (L : List A), L.length = l.length -> (∀ i b, l[i]? = some b -> (L.drop i).take 1 = [g b]) -> L = l.map g
 | [], L, hl, _ => List.eq_nil_of_length_eq_zero (by simpa using hl)
 | b :: l, L, hl, h => by
  have h0 := h 0 b rfl
  have hr := ones g l (L.drop 1) (by rw [List.length_drop, hl, List.length_cons];omega) fun i b' hb => by
   have := h (i + 1) b' (by simpa using hb)
   rw [List.drop_drop]
   rwa [show 1 + i = i + 1 by omega]
  rw [List.map_cons, <- hr]
  have : L = L.take 1 ++ L.drop 1 := (List.take_append_drop 1 L).symm
  rw [List.drop_zero] at h0
  rw [h0] at this
  exact this
theorem shape_of_var {P : Program} {W : World} {name : String} {g : Nat} {cs : Array Value} (hg : P.globalNamed name = some g) (hv : W.var? P name = some cs) : ∃ T, W.shape? g = some (T, cs.size) := by
 unfold World.var? at hv
 rw [hg] at hv
 simp only [Option.bind_some] at hv
 split at hv
 ·rename_i h
  cases hv
  exact ⟨_, by unfold World.shape?;rw [h]⟩
 ·cases hv
end Go.Av
namespace Go.Proofs.YtnppaoeijmgneaaGreatDoor
open Go.ChangeShapes Go.WideShapes Go.ChangeAt Go.RowKit Go.Av Go.Proofs
def listD (l : List Int) : DataW Unit := match l with|[] => .nil|_ => .slice (l.map fun z => .lit (.int .i64 z)) []
def shD (s : Sh) : DataW Unit := .agg [.lit (.int .i64 s.is), .lit (.int .i64 s.low), .lit (.int .i64 s.high), .lit (.int .i64 s.last), listD s.kids, .lit (.int .i64 s.more), .lit (.int .i64 s.least), .lit (.int .i64 s.som)]
abbrev tok : TypeId × Value -> Unit := fun _ => ()
theorem cells3 : Tryz.prog.cellsOf 3 = 1 := by kernel_rfl
theorem cells111 : Tryz.prog.cellsOf 111 = 1 := by kernel_rfl
theorem cells128 : Tryz.prog.cellsOf 128 = 1 := by kernel_rfl
theorem cells130 : Tryz.prog.cellsOf 130 = 8 := by kernel_rfl
theorem cells131 : Tryz.prog.cellsOf 131 = 224 := by kernel_rfl
theorem cells5 : Tryz.prog.cellsOf 5 = 1 := by kernel_rfl
theorem cells154 : Tryz.prog.cellsOf 154 = 1 := by kernel_rfl
theorem cells158 : Tryz.prog.cellsOf 158 = 256 := by kernel_rfl
theorem cells194 : Tryz.prog.cellsOf 194 = 20 := by kernel_rfl
theorem gShapes : Tryz.prog.globalNamed "scoria/tree.shapes" = some 0 := by kernel_rfl
theorem tShapes : (Tryz.prog.globals[0]?).map (·.type) = some 131 := by kernel_rfl
theorem gSpace : Tryz.prog.globalNamed "strings.asciiSpace" = some 1 := by kernel_rfl
theorem tSpace : (Tryz.prog.globals[1]?).map (·.type) = some 158 := by kernel_rfl
theorem gPow : Tryz.prog.globalNamed "internal/strconv.uint64pow10" = some 6 := by kernel_rfl
theorem tPow : (Tryz.prog.globals[6]?).map (·.type) = some 194 := by kernel_rfl
theorem shapes_datum : (Rows.laid_scoria_tree_shapes : DataW Unit) = .agg (shapesL.map shD) := rfl
theorem space_datum : (Rows.laid_strings_asciiSpace : DataW Unit) = .agg (Lib.asciiSpaceTab.map fun z => .lit (.int .u8 z)) := rfl
theorem pow_datum : (Rows.laid_internal_strconv_uint64pow10 : DataW Unit) = .agg (Lib.pow10Tab.map fun z => .lit (.int .u64 z)) := rfl
variable {W : World} {l : List (String × DataW Unit)}
theorem kids_of {sp : Nat -> Bool} {b : Nat} {held : Bool} {fuel : Nat} {v : Value} {ks : List Int} {q : List MemPlace} (h : DataW.trod tok Tryz.prog W b sp held fuel 128 [v] = some (listD ks, q)) : ∀ L, Sees W L -> VRep L (Qt ks) v := by
 rcases DataW.trod_slice (inferInstance : TyI Tryz.prog 128 (.slice 111) false 1).u h with ⟨e3, ex⟩|⟨a, len, cap, elems, rest, n, hn, e3, ex, _, hlc, hcap, hel, hget, _⟩
 ·have e3 : v = _ := List.head_eq_of_cons_eq e3
  have : ks = [] := by
   cases ks with
   | nil => rfl
   | cons x r => simp [listD] at ex
  subst this
  intro L hL
  rw [e3]
  exact .sl _ _ _ _ _ (fun _ => undef) (by simp [Q1]) (Nat.le_refl _) (fun d hd => by simp [Q1] at hd) (.inl rfl) (fun j d hj => by simp [Q1] at hj)
 ·have e3 : v = _ := List.head_eq_of_cons_eq e3
  have ex1 : listD ks = .slice (elems.map (·.1)) (rest.map (·.1)) := (Prod.mk.inj ex).1
  have hks : (elems.map (·.1)) = ks.map fun z => DataW.lit (.int .i64 z) := by
   cases ks with
   | nil => simp [listD] at ex1
   | cons x r => simp only [listD, DataW.slice.injEq] at ex1;exact ex1.1.symm
  have hlen : len = ks.length := by
   have := congrArg List.length hks
   rw [List.length_map, List.length_map] at this
   omega
  subst hlen
  intro L hL
  rw [e3]
  have key := slice_rep (w := W) (a := a) (len := ks.length) (cap := cap) hlc (fun i : Fin ks.length => ks[i]) (fun i => by
   have h1 := hget i.1 i.2
   rw [List.getElem?_eq_getElem (by omega), cells111] at h1
   obtain ⟨ci, h2, h3⟩ := Option.bind_eq_some_iff.1 h1
   obtain ⟨_, h4, h5⟩ := World.cells?_some h2
   obtain ⟨k, e1, e2, _⟩ := DataW.trod_int (inferInstance : TyI Tryz.prog 111 (.int .i64) false 1).u h3
   have hk : (elems.map (·.1))[i.1]? = (ks.map fun z => DataW.lit (.int .i64 z))[i.1]? := by rw [hks]
   rw [List.getElem?_map, List.getElem?_map, List.getElem?_eq_getElem (by omega), List.getElem?_eq_getElem i.2, e2] at hk
   have hk : k = ks[i.1] := by simpa using hk
   subst hk
   refine ⟨ci, h4, h5, fun L hL j d hj => ?_⟩
   rw [e1]
   cases j with
   | zero => cases hj;exact .sc _
   | succ j => simp [Enc.enc] at hj) L hL
  have hof : List.ofFn (fun i : Fin ks.length => ks[i]) = ks := List.ofFn_getElem
  rw [hof] at key
  exact key
theorem int_of {t : TypeId} {z : Nat} [ht : TyI Tryz.prog t (.int .i64) false z] {sp : Nat -> Bool} {b : Nat} {held : Bool} {fuel : Nat} {v : Value} {k : Int} {q : List MemPlace} (h : DataW.trod tok Tryz.prog W b sp held fuel t [v] = some (.lit (.int .i64 k), q)) : v = .int .i64 k := by
 obtain ⟨k', e1, e2, _⟩ := DataW.trod_int ht.u h
 have : k = k' := by simpa using (Prod.mk.inj e2).1
 rw [this]
 exact List.head_eq_of_cons_eq e1
theorem sh_of {sp : Nat -> Bool} {b : Nat} {held : Bool} {fuel : Nat} {c : List Value} {s : Sh} {q : List MemPlace} (h : DataW.trod tok Tryz.prog W b sp held fuel 130 c = some (shD s, q)) : c.length = 8 /\ ∀ L, Sees W L -> ∀ (j : Nat) d, (Enc.enc s : List DV)[j]? = some d -> VRep L d (c.getD j undef) := by
 obtain ⟨xs, n, hn, ex, hl, hxl, hf⟩ := DataW.trod_struct Tryz.underlying130 h
 rw [cells130] at hl
 match xs, hxl, c, hl with
 | [y0, y1, y2, y3, y4, y5, y6, y7], _, [v0, v1, v2, v3, v4, v5, v6, v7], _ =>
 have t0 := hf 0 _ rfl
 have t1 := hf 1 _ rfl
 have t2 := hf 2 _ rfl
 have t3 := hf 3 _ rfl
 have t4 := hf 4 _ rfl
 have t5 := hf 5 _ rfl
 have t6 := hf 6 _ rfl
 have t7 := hf 7 _ rfl
 clear hf h
 have t0 : DataW.trod tok Tryz.prog W b sp held n 111 [v0] = some y0 := by
  have e : (([v0, v1, v2, v3, v4, v5, v6, v7] : List Value).drop 0).take (Tryz.prog.cellsOf 111) = [v0] := by rw [cells111];rfl
  rw [<- e];exact t0
 have t1 : DataW.trod tok Tryz.prog W b sp held n 3 [v1] = some y1 := by
  have e : (([v0, v1, v2, v3, v4, v5, v6, v7] : List Value).drop 1).take (Tryz.prog.cellsOf 3) = [v1] := by rw [cells3];rfl
  rw [<- e];exact t1
 have t2 : DataW.trod tok Tryz.prog W b sp held n 3 [v2] = some y2 := by
  have e : (([v0, v1, v2, v3, v4, v5, v6, v7] : List Value).drop 2).take (Tryz.prog.cellsOf 3) = [v2] := by rw [cells3];rfl
  rw [<- e];exact t2
 have t3 : DataW.trod tok Tryz.prog W b sp held n 3 [v3] = some y3 := by
  have e : (([v0, v1, v2, v3, v4, v5, v6, v7] : List Value).drop 3).take (Tryz.prog.cellsOf 3) = [v3] := by rw [cells3];rfl
  rw [<- e];exact t3
 have t4 : DataW.trod tok Tryz.prog W b sp held n 128 [v4] = some y4 := by
  have e : (([v0, v1, v2, v3, v4, v5, v6, v7] : List Value).drop 4).take (Tryz.prog.cellsOf 128) = [v4] := by rw [cells128];rfl
  rw [<- e];exact t4
 have t5 : DataW.trod tok Tryz.prog W b sp held n 3 [v5] = some y5 := by
  have e : (([v0, v1, v2, v3, v4, v5, v6, v7] : List Value).drop 5).take (Tryz.prog.cellsOf 3) = [v5] := by rw [cells3];rfl
  rw [<- e];exact t5
 have t6 : DataW.trod tok Tryz.prog W b sp held n 3 [v6] = some y6 := by
  have e : (([v0, v1, v2, v3, v4, v5, v6, v7] : List Value).drop 6).take (Tryz.prog.cellsOf 3) = [v6] := by rw [cells3];rfl
  rw [<- e];exact t6
 have t7 : DataW.trod tok Tryz.prog W b sp held n 111 [v7] = some y7 := by
  have e : (([v0, v1, v2, v3, v4, v5, v6, v7] : List Value).drop 7).take (Tryz.prog.cellsOf 111) = [v7] := by rw [cells111];rfl
  rw [<- e];exact t7
 have ex1 := (Prod.mk.inj ex).1
 simp only [shD, List.map_cons, List.map_nil, DataW.agg.injEq, List.cons.injEq, and_true] at ex1
 obtain ⟨x0, x1, x2, x3, x4, x5, x6, x7⟩ := ex1
 obtain ⟨y0, p0⟩ := y0
 obtain ⟨y1, p1⟩ := y1
 obtain ⟨y2, p2⟩ := y2
 obtain ⟨y3, p3⟩ := y3
 obtain ⟨y4, p4⟩ := y4
 obtain ⟨y5, p5⟩ := y5
 obtain ⟨y6, p6⟩ := y6
 obtain ⟨y7, p7⟩ := y7
 dsimp only at x0 x1 x2 x3 x4 x5 x6 x7
 subst x0 x1 x2 x3 x4 x5 x6 x7
 have e0 := int_of (t := 111) (v := v0) t0
 have e1 := int_of (t := 3) (v := v1) t1
 have e2 := int_of (t := 3) (v := v2) t2
 have e3 := int_of (t := 3) (v := v3) t3
 have e4 := kids_of (v := v4) t4
 have e5 := int_of (t := 3) (v := v5) t5
 have e6 := int_of (t := 3) (v := v6) t6
 have e7 := int_of (t := 111) (v := v7) t7
 subst e0 e1 e2 e3 e5 e6 e7
 refine ⟨rfl, fun L hL j d hj => ?_⟩
 match j, hj with
 | 0, hj => cases hj;exact .sc _
 | 1, hj => cases hj;exact .sc _
 | 2, hj => cases hj;exact .sc _
 | 3, hj => cases hj;exact .sc _
 | 4, hj => cases hj;exact e4 L hL
 | 5, hj => cases hj;exact .sc _
 | 6, hj => cases hj;exact .sc _
 | 7, hj => cases hj;exact .sc _
 | j + 8, hj => simp [Enc.enc] at hj
theorem one_laid {name : String} {d : DataW Unit} {g t : Nat} (hf : l.filter (fun x => x.1 == name) = [(name, d)]) (hh : d.handleName? = none) (hg : Tryz.prog.globalNamed name = some g) (ht : (Tryz.prog.globals[g]?).map (·.type) = some t) (h : laidMetH Tryz.prog l W) :
  ∃ cs f p, W.var? Tryz.prog name = some cs /\ DataW.trod tok Tryz.prog W 0 (fun _ => true) false f t cs.toList = some (d, p) := by
 have h1 := h.filter fun x => x.1 == name
 rw [hf, MakeChecks.laidMetH_plain _ _ _ (by simp [hh])] at h1
 obtain ⟨ps, ⟨g', t', cs, f, p, q, hg', ht', hv, hd, _⟩, _, _⟩ := h1
 obtain rfl := Option.some.inj (hg.symm.trans hg')
 obtain rfl := Option.some.inj (ht.symm.trans ht')
 exact ⟨cs, f, p, hv, hd⟩
theorem shapes_laid (hf : l.filter (fun x => x.1 == "scoria/tree.shapes") = [("scoria/tree.shapes", Rows.laid_scoria_tree_shapes)]) (h : laidMetH Tryz.prog l W) :
  ∃ cs, W.var? Tryz.prog "scoria/tree.shapes" = some cs /\ cs.toList.length = 224 /\ ∀ L, Sees W L -> ∀ (j : Nat) d, (Q1 shapesL)[j]? = some d -> VRep L d (cs.toList.getD j undef) := by
 obtain ⟨cs, f, p, hv, hd⟩ := one_laid hf rfl gShapes tShapes h
 rw [shapes_datum] at hd
 obtain ⟨xs, m, _, hx, hl, hn, hel⟩ := DataW.trod_array (inferInstance : TyI Tryz.prog 131 (.array 28 130) true 224).u hd
 rw [cells131] at hl
 have hx2 : (shapesL.map shD) = xs.map (·.1) := by simpa only [DataW.agg.injEq] using (Prod.mk.inj hx).1
 refine ⟨cs, hv, hl, fun L hL j d hj => ?_⟩
 have hj' : j < 224 := by
  have := (List.getElem?_eq_some_iff.1 hj).1
  rw [Qx] at this
  exact this
 have hi : j / 8 < 28 := by omega
 have hm : j % 8 < 8 := Nat.mod_lt _ (by decide)
 have h1 := hel (j / 8) hi
 rw [cells130] at h1
 have hxi : (xs.map (·.1))[j / 8]? = (shapesL.map shD)[j / 8]? := by rw [hx2]
 have hsl : shapesL.length = 28 := rfl
 rw [List.getElem?_map, List.getElem?_map, List.getElem?_eq_getElem (show j / 8 < xs.length by omega), List.getElem?_eq_getElem (show j / 8 < shapesL.length by omega)] at hxi
 rw [List.getElem?_eq_getElem (show j / 8 < xs.length by omega)] at h1
 have hxi : (xs[j / 8]'(by omega)).1 = shD (shapesL[j / 8]'(by omega)) := by simpa using hxi
 generalize xs[j / 8]'(by omega) = y at h1 hxi
 obtain ⟨y1, y2⟩ := y
 dsimp only at hxi
 subst hxi
 obtain ⟨hc, hrep⟩ := sh_of h1
 have he := encs_at shapesL (j / 8) (by omega) (j % 8) hm
 have hes : Enc.es Sh = 8 := rfl
 rw [hes, show j / 8 * 8 + j % 8 = j by omega, hj] at he
 have := hrep L hL (j % 8) d he.symm
 rw [List.getD_eq_getElem?_getD, List.getElem?_take, if_pos hm, List.getElem?_drop, show j / 8 * 8 + j % 8 = j by omega, <- List.getD_eq_getElem?_getD] at this
 exact this
theorem ints_laid {name : String} {k : IntKind} {zs : List Int} {g t e : Nat} {N : Nat} [hat : TyI Tryz.prog t (.array N e) true N] [hie : TyI Tryz.prog e (.int k) false 1] (hN : zs.length = N) (hc : Tryz.prog.cellsOf t = N) (hce : Tryz.prog.cellsOf e = 1) (hf : l.filter (fun x => x.1 == name) = [(name, .agg (zs.map fun z => .lit (.int k z)))]) (hg : Tryz.prog.globalNamed name = some g) (ht : (Tryz.prog.globals[g]?).map (·.type) = some t) (h : laidMetH Tryz.prog l W) :
  ∃ cs, W.var? Tryz.prog name = some cs /\ cs.toList = zs.map fun z => .int k z := by
 obtain ⟨cs, f, p, hv, hd⟩ := one_laid hf rfl hg ht h
 obtain ⟨xs, m, _, hx, hl, hn, hel⟩ := DataW.trod_array hat.u hd
 rw [hc] at hl
 have hx2 : (zs.map fun z => DataW.lit (H := Unit) (.int k z)) = xs.map (·.1) := by simpa only [DataW.agg.injEq] using (Prod.mk.inj hx).1
 refine ⟨cs, hv, ones (fun z => .int k z) zs cs.toList (by omega) fun i z hi => ?_⟩
 have hi20 : i < N := by rw [<- hN];exact (List.getElem?_eq_some_iff.1 hi).1
 have h1 := hel i hi20
 rw [hce, Nat.mul_one] at h1
 have hxi : (xs.map (·.1))[i]? = some (.lit (.int k z)) := by rw [<- hx2, List.getElem?_map, hi];rfl
 rw [List.getElem?_map] at hxi
 cases hxs : xs[i]? with
 | none => rw [hxs] at hxi;cases hxi
 | some y =>
  rw [hxs] at hxi h1
  obtain ⟨k', e1, e2, _⟩ := DataW.trod_int hie.u h1
  have hy := Option.some.inj hxi
  rw [e2] at hy
  have hk : k' = z := by simpa using hy
  rw [e1, hk]
def G016 : Nat -> DV := fun g => match g with|0 => shapesT|1 => spaceT|6 => pow10T|_ => .any
theorem ints_rep {name : String} {k : IntKind} {zs : List Int} {g : Nat} {cs : Array Value} (hg : Tryz.prog.globalNamed name = some g) (hv : W.var? Tryz.prog name = some cs) (hcs : cs.toList = zs.map fun z => .int k z) (L : Lay) (hL : Sees W L) : VRep L (.ep (zs.map fun z => .sc (.int k z))) (.pointer (some ⟨g, 0, none⟩)) := by
 refine .ep _ g 0 (fun j => (zs.map fun z => Value.int k z).getD j undef) (fun d hd => ?_) (fun j hj => ?_) (fun j d hd => ?_)
 ·obtain ⟨z, _, rfl⟩ := List.mem_map.1 hd;rfl
 ·refine hL _ _ _ ?_
  rw [World.var?_cell hg hv, Nat.zero_add, <- hcs]
  have hj' : j < cs.toList.length := by rw [hcs];simpa using hj
  rw [List.getD_eq_getElem?_getD, List.getElem?_eq_getElem hj']
  simp
 ·rw [List.getElem?_map] at hd
  cases hz : zs[j]? with
  | none => rw [hz] at hd;cases hd
  | some z =>
   rw [hz] at hd
   cases hd
   rw [List.getD_eq_getElem?_getD, List.getElem?_map, hz]
   exact .sc _
theorem of_laid (hf0 : l.filter (fun x => x.1 == "scoria/tree.shapes") = [("scoria/tree.shapes", Rows.laid_scoria_tree_shapes)]) (hf1 : l.filter (fun x => x.1 == "strings.asciiSpace") = [("strings.asciiSpace", Rows.laid_strings_asciiSpace)])
  (hf6 : l.filter (fun x => x.1 == "internal/strconv.uint64pow10") = [("internal/strconv.uint64pow10", Rows.laid_internal_strconv_uint64pow10)]) (h : laidMetH Tryz.prog l W) :
  (∀ L, Sees W L -> ∀ g, (G016 g).clo = true /\ VRep L (G016 g) (.pointer (some ⟨g, 0, none⟩))) /\ ∀ g cs, G016 g = .ep cs -> ∃ T, W.shape? g = some (T, cs.length) := by
 obtain ⟨c0, v0, n0, r0⟩ := shapes_laid hf0 h
 rw [space_datum] at hf1
 rw [pow_datum] at hf6
 obtain ⟨c1, v1, r1⟩ := ints_laid (t := 158) (e := 5) (N := 256) (by kernel_rfl) cells158 cells5 hf1 gSpace tSpace h
 obtain ⟨c6, v6, r6⟩ := ints_laid (t := 194) (e := 154) (N := 20) (by kernel_rfl) cells194 cells154 hf6 gPow tPow h
 refine ⟨fun L hL g => ?_, fun g cs hg => ?_⟩
 ·match g with
  | 0 =>
   refine ⟨Z0 (QB _), ?_⟩
   show VRep L shapesT _
   unfold shapesT
   refine .ep _ 0 0 (fun j => c0.toList.getD j undef) (encs_one _) (fun j hj => ?_) (r0 L hL)
   refine hL _ _ _ ?_
   rw [World.var?_cell gShapes v0, Nat.zero_add]
   have hj' : j < c0.toList.length := by rw [n0];exact hj
   rw [List.getD_eq_getElem?_getD, List.getElem?_eq_getElem hj']
   simp
  | 1 =>
   refine ⟨?_, ints_rep gSpace v1 r1 L hL⟩
   show spaceT.clo = true
   unfold spaceT
   refine Z0 fun d hd => ?_
   obtain ⟨z, _, rfl⟩ := List.mem_map.1 hd
   exact Wa
  | 6 =>
   refine ⟨?_, ints_rep gPow v6 r6 L hL⟩
   show pow10T.clo = true
   unfold pow10T
   refine Z0 fun d hd => ?_
   obtain ⟨z, _, rfl⟩ := List.mem_map.1 hd
   exact Wa
  | 2 => exact ⟨by simp [G016, DV.clo], .any _⟩
  | 3 => exact ⟨by simp [G016, DV.clo], .any _⟩
  | 4 => exact ⟨by simp [G016, DV.clo], .any _⟩
  | 5 => exact ⟨by simp [G016, DV.clo], .any _⟩
  | g + 7 => exact ⟨by simp [G016, DV.clo], .any _⟩
 ·match g, hg with
  | 0, hg =>
   obtain ⟨T, hT⟩ := shape_of_var gShapes v0
   refine ⟨T, ?_⟩
   have : Q1 shapesL = cs := by simpa [G016, shapesT] using hg
   rw [hT, <- Array.length_toList, n0, <- this];rfl
  | 1, hg =>
   obtain ⟨T, hT⟩ := shape_of_var gSpace v1
   refine ⟨T, ?_⟩
   have : (Lib.asciiSpaceTab.map fun z => DV.sc (.int .u8 z)) = cs := by simpa [G016, spaceT] using hg
   rw [hT, <- Array.length_toList, r1, <- this, List.length_map, List.length_map]
  | 6, hg =>
   obtain ⟨T, hT⟩ := shape_of_var gPow v6
   refine ⟨T, ?_⟩
   have : (Lib.pow10Tab.map fun z => DV.sc (.int .u64 z)) = cs := by simpa [G016, pow10T] using hg
   rw [hT, <- Array.length_toList, r6, <- this, List.length_map, List.length_map]
  | 2, hg => simp [G016] at hg
  | 3, hg => simp [G016] at hg
  | 4, hg => simp [G016] at hg
  | 5, hg => simp [G016] at hg
  | g + 7, hg => simp [G016] at hg
end Go.Proofs.YtnppaoeijmgneaaGreatDoor
end
section
namespace Go.Av
open Classical Go.ChangeShapes Go.WideShapes Go.ChangeAt Go.RowKit Go.Proofs Go.Bl
theorem sizeL_bulk {H : Type} : ∀ {ks : List Nd} {es : List (DataW H)}, ks.length = es.length -> (∀ i (h : i < ks.length) (h' : i < es.length), Qe ks[i] <= YtnppaoeijmgneaaGreatDoor.Rows.uptoBulk es[i]) -> Qo ks <= YtnppaoeijmgneaaGreatDoor.Rows.uptoBulkAll es
 | [], [], _, _ => Nat.zero_le _
 | [], _ :: _, h, _ => by simp at h
 | _ :: _, [], h, _ => by simp at h
 | x :: r, e :: s, h, hs => by
  have h0 := hs 0 (by simp) (by simp)
  have h1 := sizeL_bulk (ks := r) (es := s) (by simpa using h) fun i a b => hs (i + 1) (by simpa using a) (by simpa using b)
  rw [Qo, YtnppaoeijmgneaaGreatDoor.Rows.uptoBulkAll]
  exact Nat.add_le_add h0 h1
theorem i64_of {n : Int} (h : (Lit.int .i64 n).wf = true) : i64 n := by
 simp only [Lit.wf, Bool.and_eq_true, decide_eq_true_eq] at h
 exact ⟨h.1, h.2⟩
theorem rd_nd {H : Type} (enc : TypeId × Value -> H) (w : World) (base : Nat) (spare : Nat -> Bool) (held : Bool) : ∀ (fuel : Nat) (cs : List Value) (x : DataW H × List MemPlace), DataW.trod enc Tryz.prog w base spare held fuel 25 cs = some x ->
  ∃ y : Nd, cs.length = 4 /\ (Qe y <= YtnppaoeijmgneaaGreatDoor.Rows.uptoBulk x.1 /\ okN y) /\ ∀ L, Sees w L -> ∀ (j : Nat) d, (Enc.enc y : List DV)[j]? = some d -> VRep L d (cs.getD j undef) := by
 intro fuel
 induction fuel using Nat.strongRecOn with
 | ind fuel ih =>
 intro cs x h
 have c3 : Tryz.prog.cellsOf 3 = 1 := by kernel_rfl
 have c23 : Tryz.prog.cellsOf 23 = 1 := by kernel_rfl
 have c25 : Tryz.prog.cellsOf 25 = 4 := by kernel_rfl
 obtain ⟨xs, n, hn, rfl, hl, hxl, hf⟩ := DataW.trod_struct Tryz.underlying25 h
 rw [c25] at hl
 match xs, hxl, cs, hl with
 | [y0, y1, y2, y3], _, [v0, v1, v2, v3], _ =>
 have t0 := hf 0 _ rfl
 have t1 := hf 1 _ rfl
 have t2 := hf 2 _ rfl
 have t3 := hf 3 _ rfl
 clear hf h
 have t0 : DataW.trod enc Tryz.prog w base spare held n 3 [v0] = some y0 := by
  have e : (([v0, v1, v2, v3] : List Value).drop 0).take (Tryz.prog.cellsOf 3) = [v0] := by rw [c3];rfl
  rw [<- e];exact t0
 have t1 : DataW.trod enc Tryz.prog w base spare held n 3 [v1] = some y1 := by
  have e : (([v0, v1, v2, v3] : List Value).drop 1).take (Tryz.prog.cellsOf 3) = [v1] := by rw [c3];rfl
  rw [<- e];exact t1
 have t2 : DataW.trod enc Tryz.prog w base spare held n 3 [v2] = some y2 := by
  have e : (([v0, v1, v2, v3] : List Value).drop 2).take (Tryz.prog.cellsOf 3) = [v2] := by rw [c3];rfl
  rw [<- e];exact t2
 have t3 : DataW.trod enc Tryz.prog w base spare held n 23 [v3] = some y3 := by
  have e : (([v0, v1, v2, v3] : List Value).drop 3).take (Tryz.prog.cellsOf 23) = [v3] := by rw [c23];rfl
  rw [<- e];exact t3
 obtain ⟨k0, e0, _, b0⟩ := DataW.trod_int (inferInstance : TyI Tryz.prog 3 (.int .i64) false 1).u t0
 obtain ⟨k1, e1, _, b1⟩ := DataW.trod_int (inferInstance : TyI Tryz.prog 3 (.int .i64) false 1).u t1
 obtain ⟨k2, e2, _, b2⟩ := DataW.trod_int (inferInstance : TyI Tryz.prog 3 (.int .i64) false 1).u t2
 have e0 : v0 = _ := List.head_eq_of_cons_eq e0
 have e1 : v1 = _ := List.head_eq_of_cons_eq e1
 have e2 : v2 = _ := List.head_eq_of_cons_eq e2
 have i0 : i64 k0 := i64_of b0
 have i1 : i64 k1 := i64_of b1
 have i2 : i64 k2 := i64_of b2
 have fin : ∀ (ks : List Nd), Qo ks + 1 <= YtnppaoeijmgneaaGreatDoor.Rows.uptoBulk y3.1 -> okL ks -> (∀ L, Sees w L -> VRep L (Qt ks) v3) -> ∃ y : Nd, ([v0, v1, v2, v3] : List Value).length = 4 /\ (Qe y <= YtnppaoeijmgneaaGreatDoor.Rows.uptoBulk (DataW.agg ([y0, y1, y2, y3].map (·.1))) /\ okN y) /\ ∀ L, Sees w L -> ∀ (j : Nat) d, (Enc.enc y : List DV)[j]? = some d -> VRep L d (([v0, v1, v2, v3] : List Value).getD j undef) := by
  intro ks hs hok hv
  refine ⟨.mk k0 k1 k2 ks, rfl, ⟨?_, by rw [okN];exact ⟨⟨i0, i1, i2⟩, hok⟩⟩, fun L hL j d hj => ?_⟩
  ·simp only [List.map_cons, List.map_nil, YtnppaoeijmgneaaGreatDoor.Rows.uptoBulk, YtnppaoeijmgneaaGreatDoor.Rows.uptoBulkAll]
   rw [Qe]
   omega
  ·rw [Qp] at hj
   match j, hj with
   | 0, hj => cases hj;rw [e0];exact .sc _
   | 1, hj => cases hj;rw [e1];exact .sc _
   | 2, hj => cases hj;rw [e2];exact .sc _
   | 3, hj => cases hj;exact hv L hL
   | j + 4, hj => simp at hj
 rcases DataW.trod_slice (inferInstance : TyI Tryz.prog 23 (.slice 25) false 1).u t3 with ⟨e3, ex⟩|⟨a, len, cap, elems, rest, n', hn', e3, ex, _, hlc, hcap, hel, hget, _⟩
 ·have e3 : v3 = _ := List.head_eq_of_cons_eq e3
  refine fin [] ?_ (by rw [okL];trivial) fun L hL => ?_
  ·rw [ex];simp [Qo, YtnppaoeijmgneaaGreatDoor.Rows.uptoBulk]
  ·rw [e3]
   exact .sl _ _ _ _ _ (fun _ => undef) (by simp [Q1]) (Nat.le_refl _) (fun d hd => by simp [Q1] at hd) (.inl rfl) (fun j d hj => by simp [Q1] at hj)
 ·have e3 : v3 = _ := List.head_eq_of_cons_eq e3
  have each : ∀ i : Fin len, ∃ y : Nd, (Qe y <= YtnppaoeijmgneaaGreatDoor.Rows.uptoBulk (elems[i.1]'(by omega)).1 /\ okN y) /\ ∃ ci : List Value, ci.length = Enc.es Nd /\ (∀ r, r < Enc.es Nd -> w.cell? ((a.add (i.1 * Enc.es Nd)).add r) = ci[r]?) /\ ∀ L, Sees w L -> ∀ (j : Nat) d, (Enc.enc y : List DV)[j]? = some d -> VRep L d (ci.getD j undef) := fun i => by
   have h1 := hget i.1 i.2
   rw [List.getElem?_eq_getElem (by omega), c25] at h1
   obtain ⟨ci, h2, h3⟩ := Option.bind_eq_some_iff.1 h1
   obtain ⟨_, h4, h5⟩ := World.cells?_some h2
   obtain ⟨y, h6, h7, h8⟩ := ih n' (by omega) ci _ h3
   exact ⟨y, h7, ci, h4, h5, h8⟩
  let y : Fin len -> Nd := fun i => Classical.choose (each i)
  have hy := fun i => Classical.choose_spec (each i)
  refine fin (List.ofFn y) ?_ (okL_of fun x hx => by
   obtain ⟨i, hi, rfl⟩ := List.getElem_of_mem hx
   rw [List.getElem_ofFn]
   exact (hy _).1.2) fun L hL => ?_
  ·rw [ex]
   have hb := sizeL_bulk (ks := List.ofFn y) (es := elems.map (·.1)) (by rw [List.length_ofFn, List.length_map, hel]) fun i h h' => by
    rw [List.getElem_ofFn, List.getElem_map]
    exact (hy ⟨i, by rw [List.length_ofFn] at h;exact h⟩).1.1
   simp only [YtnppaoeijmgneaaGreatDoor.Rows.uptoBulk]
   omega
  ·rw [e3]
   exact slice_rep hlc y (fun i => (hy i).2) L hL
end Go.Av
end
