/-
  Part 3 of the proof: U4 TL AvV AvT U5 U6 U7 T6 T7 T9.
-/
import Derived.Test.YtnppaoeijmgneaaGreatDoorZE0
import Derived.Test.YtnppaoeijmgneaaGreatDoorZE1
import Derived.Test.YtnppaoeijmgneaaGreatDoorZE2
set_option linter.unusedSimpArgs false
set_option linter.unusedVariables false
set_option maxRecDepth 10000
set_option maxHeartbeats 4000000
section
namespace Go.Proofs
open Go.Av
variable {G : Nat -> DV}
attribute [local irreducible] OpSem Zd Zx ZL ACalls qt AClose RV
open Go.Bl
theorem simOk_all (k n m : Int) (ks : List Nd) (h : Zt (.mk k n m ks) = true) : ks.all Zn = true := by
 rw [Zt] at h
 have h0 : ks.length = 0 -> ks.all Zn = true := fun h => by rw [List.eq_nil_of_length_eq_zero h];rfl
 have hb : Wz n m ks.length 0 = true -> ks.all Zn = true := fun h => h0 (by unfold Wz Q0 at h;simp only [Bool.and_eq_true, Bool.or_eq_true, decide_eq_true_eq] at h;omega)
 repeat' split at h
 all_goals first|exact hb h|(simp only [Bool.and_eq_true] at h;exact h.2)|cases h
theorem simOk_small (k n m : Int) (ks : List Nd) (h : Zt (.mk k n m ks) = true) : WT n = true := by
 rw [Zt] at h
 have h0 : ∀ c : Int, Wz n m ks.length c = true -> WT n = true := fun c h => by unfold Wz at h;simp only [Bool.and_eq_true, decide_eq_true_eq] at h;simp [WT, h.1]
 repeat' split at h
 all_goals first|exact h0 _ h|(simp only [Bool.and_eq_true] at h;first|exact h.1.2|exact h.1.1.2|exact h0 _ h.1)|cases h
theorem Z4 (a : List UInt8) : WJ [a] = a := Lib.join_one _ _
theorem rSim_c (t : Nd) (hok : okN t) (hsz : Qu t <= 1000000) : ∃ x, Go.Av.Pure Tryz.prog G 101 [.agg (Enc.enc t)] (.tup [WQ x, .b (Zt t)]) /\ (Zt t = true -> x = simT t) := by
 obtain ⟨k, n, m, ks⟩ := t
 rw [okN] at hok
 rw [Qu] at hsz
 have hl1 := WC ks
 have hes := rexprs_c (G := G) ks (by omega) fun x hx => rEx_c x (Wj hok.2 hx) (by have := QY hx;omega)
 have hcl := ZR exT ks (fun x hx => qY x (Wj hok.2 hx))
 have hxl : ∀ x ∈ ks, (exT x).length <= 60000000 := fun x hx => by have := qY x (Wj hok.2 hx);have := QY hx;omega
 have hsx := simOk_small k n m ks
 have hax := simOk_all k n m ks
 rw [QW]
 by_cases hall : ks.all Zn = true
 case neg =>
  have hall2 : ks.all Zn = false := by rw [<- Bool.not_eq_true];exact hall
  rw [hall2] at hes
  have hf : Zt (.mk k n m ks) = false := by rw [<- Bool.not_eq_true];exact fun h => hall (hax h)
  refine ⟨[], fun B => ?_, fun h => by rw [hf] at h;cases h⟩
  refine Qa Tryz.func101 rfl Tryz.ntmps101 rfl (t := [(0, .agg [.i k, .i n, .i m, QR ks])]) rfl fun E hE => ?_
  (repeat' first|(refine Qe ?_;(first|refine QG rfl ?_|refine QJ rfl ?_|refine Qb rfl rfl rfl ?_|refine QZ rfl rfl (hes) ?_|refine WO rfl rfl ?_|refine Wn rfl ?_|refine Qd rfl rfl ?_|refine QI rfl rfl rfl ?_|refine QU rfl rfl (fun _ _ => ?_)))|(refine Qk ?_;(first|refine Qi ?_|refine QN rfl ?_|refine W2 rfl rfl rfl rfl ?_))|(refine Qj ?_;(first|refine Qn ?_|refine Qc ?_|refine Qh rfl ?_|refine Qs ?_)))
  all_goals exact e_2 (Tryz.results101) (Qg rfl) (Qg rfl) (Qw (by rw [hf]))
 rw [hall, if_pos rfl] at hes
 by_cases hs : WT n = true
 case neg =>
  have hs2 : WT n = false := by rw [<- Bool.not_eq_true];exact hs
  have hsm : Go.Av.Pure Tryz.prog G 92 [.i n] (.b false) := by have := ZP (G := G) n;rwa [hs2] at this
  have hf : Zt (.mk k n m ks) = false := by rw [<- Bool.not_eq_true];exact fun h => hs (hsx h)
  refine ⟨[], fun B => ?_, fun h => by rw [hf] at h;cases h⟩
  refine Qa Tryz.func101 rfl Tryz.ntmps101 rfl (t := [(0, .agg [.i k, .i n, .i m, QR ks])]) rfl fun E hE => ?_
  (repeat' first|(refine Qe ?_;(first|refine QG rfl ?_|refine QJ rfl ?_|refine Qb rfl rfl rfl ?_|(refine Qq ?_;(first|refine QZ rfl rfl (hsm) ?_|refine QZ rfl rfl (hes) ?_))|refine Wr rfl rfl ?_|refine Wn rfl ?_|refine Qd rfl rfl ?_|refine QI rfl rfl rfl ?_|refine QU rfl rfl (fun _ _ => ?_)))|(refine Qk ?_;(first|refine Qi ?_|refine QN rfl ?_|refine WD rfl rfl rfl rfl ?_))|(refine Qj ?_;(first|refine Qn ?_|refine Qc ?_|refine Qh rfl ?_|refine Qs ?_)))
  all_goals exact e_2 (Tryz.results101) (Qg rfl) (Qg rfl) (Qw (by rw [hf]))
 have hsm : Go.Av.Pure Tryz.prog G 92 [.i n] (.b true) := by have := ZP (G := G) n;rwa [hs] at this
 obtain ⟨hn0, hn9⟩ := qQ hs
 have hdig : Go.Av.Pure Tryz.prog G 93 [.i n] (WQ (Lib.itoa n)) := by
  rw [itoa_nat hn0]
  have := qP (G := G) n.toNat (by omega)
  rwa [show ((n.toNat : Nat) : Int) = n by omega] at this
 have hil := Zb hok.1.2.1
 have hst : qq (ks.map fun x => Str.mk (exT x)) = ks.map exT := by unfold qq;rw [List.map_map];rfl
 have hli := r_list_c (G := G) (ks.map fun x => Str.mk (exT x)) (by rw [hst];omega) (by simp;omega)
 rw [hst] at hli
 clear hsx hax
 by_cases k16 : k = 16
 ·subst k16
  have hdig2 : Go.Av.Pure Tryz.prog G 93 [.i (max m 0)] (WQ (Lib.decDigits m.toNat)) := by
   rw [show max m 0 = (m.toNat : Int) by omega];exact qP _ (by have := hok.1.2.2.2;omega)
  have hdl := digits_len m.toNat (by have := hok.1.2.2.2;omega)
  have hsm2 := ZP (G := G) m
  refine ⟨[118] ++ Lib.itoa n ++ [46] ++ Lib.decDigits m.toNat ++ [32, 61, 32] ++ WJ (ks.map exT), fun B => ?_, fun h => ?_⟩
  ·by_cases hm : WT m = true
   ·rw [hm] at hsm2
    refine Qa Tryz.func101 rfl Tryz.ntmps101 rfl (t := [(0, .agg [.i 16, .i n, .i m, QR ks])]) rfl fun E hE => ?_
    (repeat' first|(refine Qe ?_;(first|refine QG rfl ?_|refine QJ rfl ?_|refine Qb rfl rfl rfl ?_|refine QS rfl rfl ?_|(refine Qq ?_;(first|refine QZ rfl rfl (hdig) ?_|refine QZ rfl rfl (hsm) ?_|refine QZ rfl rfl (hes) ?_))|refine Wr rfl rfl ?_|refine Wn rfl ?_|refine Qd rfl rfl ?_|refine QI rfl rfl rfl ?_|refine QU rfl rfl (fun _ _ => ?_)))|(refine Qk ?_;(first|refine Qi ?_|refine QN rfl ?_|refine WD rfl rfl rfl rfl ?_))|(refine Qj ?_;(first|refine Qn ?_|refine Qc ?_|(refine Wg ?_;first|refine Q3 (by rfl) (by kernel_rfl) (by kernel_rfl) ?_|refine Q2 (by kernel_rfl) (by kernel_rfl) ?_)|refine Qx ?_|refine Qh rfl ?_|refine Ql rfl ?_|refine Qs ?_))|(refine Zw ?_;(first|refine x_op rfl (by (repeat' first|(refine Qe ?_;(first|refine QG rfl ?_|refine QJ rfl ?_|refine Qb rfl rfl rfl ?_|(refine Qo ?_;(first|refine QS rfl rfl ?_|refine qD rfl rfl ?_))|(refine Qq ?_;(first|refine s_max rfl rfl ?_|refine Qt rfl ?_|refine QZ rfl rfl (hdig2) ?_|refine QZ rfl rfl (hsm2) ?_|refine QZ rfl rfl (hli) ?_))|refine WO rfl rfl ?_|refine Qd rfl rfl ?_))|exact ⟨rfl, rfl⟩)) ?_|refine x_gy rfl rfl rfl rfl (by (repeat' first|(refine Qe ?_;(first|refine QG rfl ?_|refine QJ rfl ?_|refine Qb rfl rfl rfl ?_|(refine Qo ?_;(first|refine QS rfl rfl ?_|refine qD rfl rfl ?_))|(refine Qq ?_;(first|refine s_max rfl rfl ?_|refine Qt rfl ?_|refine QZ rfl rfl (hdig2) ?_|refine QZ rfl rfl (hsm2) ?_|refine QZ rfl rfl (hli) ?_))|refine WO rfl rfl ?_|refine Qd rfl rfl ?_))|exact ⟨rfl, rfl⟩)) ?_|refine Zr ?_)))
    all_goals exact e_2 (Tryz.results101) (Qg rfl) (Qg rfl) (Qw (by rw [Zt];simp [Wo, W8, ZQ, hall, hs, Z4, hm, *] <;> omega))
   ·have hm2 : WT m = false := by rw [<- Bool.not_eq_true];exact hm
    rw [hm2] at hsm2
    refine Qa Tryz.func101 rfl Tryz.ntmps101 rfl (t := [(0, .agg [.i 16, .i n, .i m, QR ks])]) rfl fun E hE => ?_
    (repeat' first|(refine Qe ?_;(first|refine QG rfl ?_|refine QJ rfl ?_|refine Qb rfl rfl rfl ?_|refine QS rfl rfl ?_|(refine Qq ?_;(first|refine QZ rfl rfl (hdig) ?_|refine QZ rfl rfl (hsm) ?_|refine QZ rfl rfl (hes) ?_))|refine Wr rfl rfl ?_|refine Wn rfl ?_|refine Qd rfl rfl ?_|refine QI rfl rfl rfl ?_|refine QU rfl rfl (fun _ _ => ?_)))|(refine Qk ?_;(first|refine Qi ?_|refine QN rfl ?_|refine WD rfl rfl rfl rfl ?_))|(refine Qj ?_;(first|refine Qn ?_|refine Qc ?_|(refine Wg ?_;first|refine Q3 (by rfl) (by kernel_rfl) (by kernel_rfl) ?_|refine Q2 (by kernel_rfl) (by kernel_rfl) ?_)|refine Qx ?_|refine Qh rfl ?_|refine Ql rfl ?_|refine Qs ?_))|(refine Zw ?_;(first|refine x_gn rfl rfl rfl rfl ?_|refine x_op rfl (by (repeat' first|(refine Qe ?_;(first|refine QG rfl ?_|refine QJ rfl ?_|refine Qb rfl rfl rfl ?_|refine qD rfl rfl ?_|(refine Qq ?_;(first|refine s_max rfl rfl ?_|refine QZ rfl rfl (hdig2) ?_|refine QZ rfl rfl (hsm2) ?_|refine QZ rfl rfl (hli) ?_))|refine Wr rfl rfl ?_|refine Qd rfl rfl ?_))|exact ⟨rfl, rfl⟩)) ?_|refine Zr ?_)))
    all_goals exact e_2 (Tryz.results101) (Qg rfl) (Qg rfl) (Qw (by rw [Zt];simp [Wo, W8, ZQ, hall, hs, Z4, hm2, *]))
  ·rw [Zt] at h
   rw [simT]
   simp at h ⊢
   rw [itoa_nat (qQ h.1.2).1, if_pos h.1.1.1]
 by_cases k23 : k = 23
 ·subst k23
  refine ⟨[115, 112, 97, 119, 110, 32, 102] ++ Lib.itoa n ++ [40] ++ WJ (ks.map exT) ++ [41], fun B => ?_, fun h => ?_⟩
  ·refine Qa Tryz.func101 rfl Tryz.ntmps101 rfl (t := [(0, .agg [.i 23, .i n, .i m, QR ks])]) rfl fun E hE => ?_
   (repeat' first|(refine Qe ?_;(first|refine QG rfl ?_|refine QJ rfl ?_|refine Qb rfl rfl rfl ?_|refine QS rfl rfl ?_|(refine Qq ?_;(first|refine QZ rfl rfl (hdig) ?_|refine QZ rfl rfl (hsm) ?_|refine QZ rfl rfl (hes) ?_))|refine Wr rfl rfl ?_|refine Wn rfl ?_|refine Qd rfl rfl ?_|refine QI rfl rfl rfl ?_|refine QU rfl rfl (fun _ _ => ?_)))|(refine Qk ?_;(first|refine Qi ?_|refine QN rfl ?_|refine WD rfl rfl rfl rfl ?_))|(refine Qj ?_;(first|refine Qn ?_|refine Qc ?_|(refine Wg ?_;first|refine Q3 (by rfl) (by kernel_rfl) (by kernel_rfl) ?_|refine Q2 (by kernel_rfl) (by kernel_rfl) ?_)|refine Qx ?_|refine Qh rfl ?_|refine Ql rfl ?_|refine Qs ?_))|(refine Zw ?_;(first|refine x_op rfl (by (repeat' first|(refine Qe ?_;(first|refine QG rfl ?_|refine QJ rfl ?_|refine Qb rfl rfl rfl ?_|(refine Qo ?_;(first|refine QS rfl rfl ?_|refine qD rfl rfl ?_))|refine QZ rfl rfl (hli) ?_|refine Qd rfl rfl ?_))|exact ⟨rfl, rfl⟩)) ?_|refine Zr ?_)))
   all_goals exact e_2 (Tryz.results101) (Qg rfl) (Qg rfl) (Qw (by rw [Zt];simp [Wo, W8, ZQ, hall, hs, Z4, *]))
  ·rw [Zt] at h
   rw [simT]
   simp [ZQ] at h ⊢
   exact h.1.1
 by_cases k25 : k = 25
 ·subst k25
  refine ⟨[115, 107, 105, 112], fun B => ?_, fun h => ?_⟩
  ·by_cases hn : n = 0
   all_goals
    refine Qa Tryz.func101 rfl Tryz.ntmps101 rfl (t := [(0, .agg [.i 25, .i n, .i m, QR ks])]) rfl fun E hE => ?_
    (repeat' first|(refine Qe ?_;(first|refine QG rfl ?_|refine QJ rfl ?_|(refine Qz ?_;(first|refine WF rfl rfl ?_|refine Qb rfl rfl rfl ?_))|refine QS rfl rfl ?_|(refine Qq ?_;(first|refine QZ rfl rfl (hdig) ?_|refine QZ rfl rfl (hsm) ?_|refine QZ rfl rfl (hes) ?_|refine QZ rfl rfl (WX _ _ _ _ _) ?_))|(refine Q4 ?_;(first|refine WO rfl rfl ?_|refine Wr rfl rfl ?_))|refine Wn rfl ?_|refine Qd rfl rfl ?_|refine QI rfl rfl rfl ?_|refine QU rfl rfl (fun _ _ => ?_)))|(refine Qk ?_;(first|refine Qi ?_|refine QN rfl ?_|refine WD rfl rfl rfl rfl ?_|refine W2 rfl rfl rfl rfl ?_|refine We rfl rfl (by omega) ?_|refine Q6 rfl rfl (by omega) ?_))|(refine Qj ?_;(first|refine Qn ?_|refine Qc ?_|refine Qx ?_|refine Qh rfl ?_|refine Ql rfl ?_|refine Qs ?_)))
    all_goals exact e_2 (Tryz.results101) (Qg rfl) (Qg rfl) (Qw (by rw [Zt];simp [Wo, W8, ZQ, hall, hs, Z4, *]))
  ·rw [Zt] at h
   rw [simT]
   simp at h ⊢
   exact h
 by_cases k15 : k = 15
 ·subst k15
  by_cases hbp : bareR m ks.length 2 = true
  ·have hbr : Go.Av.Pure Tryz.prog G 97 [.agg [.i 15, .i n, .i m, QR ks], .i 2] (.b true) := by have := WX (G := G) 15 n m ks 2;rwa [hbp] at this
   have h2 : ks.length = 2 := by simp [bareR] at hbp;omega
   match ks, h2 with
   | [a, b], _ =>
    have hal := hxl a (by simp)
    have hbl := hxl b (by simp)
    obtain ⟨ls, hls⟩ : ∃ ls, ls = [Str.mk (exT a), Str.mk (exT b)] := ⟨_, rfl⟩
    have hes2 : Go.Av.Pure Tryz.prog G 98 [QR [a, b]] (.tup [QR ls, .b true]) := by rw [hls];exact hes
    have hll : ls.length = 2 := by rw [hls];rfl
    have hz0 : 0 < ls.length := by omega
    have hz1 : 1 < ls.length := by omega
    have ha0 : ls[0].l = exT a := by subst hls;rfl
    have hb0 : ls[1].l = exT b := by subst hls;rfl
    have hla : ls[0].l.length <= 60000000 := by rw [ha0];exact hal
    have hlb : ls[1].l.length <= 60000000 := by rw [hb0];exact hbl
    have hbp3 : bareR m 2 2 = true := hbp
    clear hls hes hcl hxl hst hli
    refine ⟨[118] ++ Lib.itoa n ++ [91] ++ exT a ++ [93, 32, 61, 32] ++ exT b, fun B => ?_, fun h => ?_⟩
    ·refine Qa Tryz.func101 rfl Tryz.ntmps101 rfl (t := [(0, .agg [.i 15, .i n, .i m, QR [a, b]])]) rfl fun E hE => ?_
     (repeat' first|(refine Qe ?_;(first|refine QG rfl ?_|refine QJ rfl ?_|(refine Qz ?_;(first|refine WF rfl rfl ?_|refine Qb rfl rfl rfl ?_))|refine QS rfl rfl ?_|(refine Qq ?_;(first|refine QZ rfl rfl (hdig) ?_|refine QZ rfl rfl (hsm) ?_|refine QZ rfl rfl (hbr) ?_|refine QZ rfl rfl (hes2) ?_))|refine Wr rfl rfl ?_|refine Wn rfl ?_|refine Qd rfl rfl ?_|refine QI rfl rfl rfl ?_|refine QU rfl rfl (fun _ _ => ?_)))|(refine Qk ?_;(first|refine Qi ?_|refine QN rfl ?_|refine WD rfl rfl rfl rfl ?_))|(refine Qj ?_;(first|refine Qn ?_|refine Qc ?_|(refine Wg ?_;first|refine Q3 (by rfl) (by kernel_rfl) (by kernel_rfl) ?_|refine Q2 (by kernel_rfl) (by kernel_rfl) ?_)|refine Qx ?_|refine Qh rfl ?_|refine Ql rfl ?_|refine Qs ?_))|(refine Zw ?_;(first|refine x_op rfl (by (repeat' first|(refine Qe ?_;(first|refine QG rfl ?_|refine QJ rfl ?_|refine QM rfl ?_|refine Qv rfl rfl (by first|assumption|omega|(simp;done)|(simp;omega)) ?_|refine qD rfl rfl ?_))|exact ⟨rfl, rfl⟩)) ?_|refine Zr ?_)))
     all_goals exact e_2 (Tryz.results101) (Qg rfl) (Qg rfl) (Qw (by rw [Zt];have hall2 := hall;simp at hall2;simp [Wo, hs, *]))
    ·rw [simT]
     simp [Wo, hbp3]
  ·have hbp2 : bareR m ks.length 2 = false := by rw [<- Bool.not_eq_true];exact hbp
   have hbr : Go.Av.Pure Tryz.prog G 97 [.agg [.i 15, .i n, .i m, QR ks], .i 2] (.b false) := by have := WX (G := G) 15 n m ks 2;rwa [hbp2] at this
   refine ⟨[], fun B => ?_, fun h => by rw [Zt] at h;simp [Wo, hbp2] at h⟩
   refine Qa Tryz.func101 rfl Tryz.ntmps101 rfl (t := [(0, .agg [.i 15, .i n, .i m, QR ks])]) rfl fun E hE => ?_
   (repeat' first|(refine Qe ?_;(first|refine QG rfl ?_|refine QJ rfl ?_|(refine Qz ?_;(first|refine WF rfl rfl ?_|refine Qb rfl rfl rfl ?_))|refine QS rfl rfl ?_|(refine Qq ?_;(first|refine QZ rfl rfl (hdig) ?_|refine QZ rfl rfl (hsm) ?_|refine QZ rfl rfl (hbr) ?_|refine QZ rfl rfl (hes) ?_))|refine Wr rfl rfl ?_|refine Wn rfl ?_|refine Qd rfl rfl ?_|refine QI rfl rfl rfl ?_|refine QU rfl rfl (fun _ _ => ?_)))|(refine Qk ?_;(first|refine Qi ?_|refine QN rfl ?_|refine WD rfl rfl rfl rfl ?_))|(refine Qj ?_;(first|refine Qn ?_|refine Qc ?_|refine Qx ?_|refine Qh rfl ?_|refine Ql rfl ?_|refine Qs ?_)))
   all_goals exact e_2 (Tryz.results101) (Qg rfl) (Qg rfl) (Qw (by rw [Zt];simp [Wo, W8, ZQ, hall, hs, Z4, *]))
 by_cases hbp : bareR m ks.length 1 = true
 case neg =>
  have hbp2 : bareR m ks.length 1 = false := by rw [<- Bool.not_eq_true];exact hbp
  have hbr : Go.Av.Pure Tryz.prog G 97 [.agg [.i k, .i n, .i m, QR ks], .i 1] (.b false) := by have := WX (G := G) k n m ks 1;rwa [hbp2] at this
  have hf : Zt (.mk k n m ks) = false := by rw [Zt];simp [Wo, W8, *]
  refine ⟨[], fun B => ?_, fun h => by rw [hf] at h;cases h⟩
  refine Qa Tryz.func101 rfl Tryz.ntmps101 rfl (t := [(0, .agg [.i k, .i n, .i m, QR ks])]) rfl fun E hE => ?_
  (repeat' first|(refine Qe ?_;(first|refine QG rfl ?_|refine QJ rfl ?_|(refine Qz ?_;(first|refine WF rfl rfl ?_|refine Qb rfl rfl rfl ?_))|refine QS rfl rfl ?_|(refine Qq ?_;(first|refine QZ rfl rfl (hdig) ?_|refine QZ rfl rfl (hsm) ?_|refine QZ rfl rfl (hbr) ?_|refine QZ rfl rfl (hes) ?_))|refine Wr rfl rfl ?_|refine Wn rfl ?_|refine Qd rfl rfl ?_|refine QI rfl rfl rfl ?_|refine QU rfl rfl (fun _ _ => ?_)))|(refine Qk ?_;(first|refine Qi ?_|refine QN rfl ?_|refine WD rfl rfl rfl rfl ?_))|(refine Qj ?_;(first|refine Qn ?_|refine Qc ?_|refine Qx ?_|refine Qh rfl ?_|refine Ql rfl ?_|refine Qm rfl (by omega) ?_|refine Qs ?_)))
  all_goals exact e_2 (Tryz.results101) (Qg rfl) (Qg rfl) (Qw (by rw [hf]))
 have hbr : ∀ k, Go.Av.Pure Tryz.prog G 97 [.agg [.i k, .i n, .i m, QR ks], .i 1] (.b true) := fun k => by have := WX (G := G) k n m ks 1;rwa [hbp] at this
 have h1 : ks.length = 1 := by simp [bareR] at hbp;omega
 match ks, h1 with
 | [a], _ =>
 have hal := hxl a (by simp)
 obtain ⟨ls, hls⟩ : ∃ ls, ls = [Str.mk (exT a)] := ⟨_, rfl⟩
 have hes2 : Go.Av.Pure Tryz.prog G 98 [QR [a]] (.tup [QR ls, .b true]) := by rw [hls];exact hes
 have hll : ls.length = 1 := by rw [hls];rfl
 have hz0 : 0 < ls.length := by omega
 have ha0 : ls[0].l = exT a := by subst hls;rfl
 have hla : ls[0].l.length <= 60000000 := by rw [ha0];exact hal
 have hall2 : Zn a = true := by simpa using hall
 have hbp3 : bareR m 1 1 = true := hbp
 have hbp4 : ∀ c, Q0 m [a].length c = decide (c < 0 \/ c = 1) := fun c => by
  have hm : m = 0 := by simp [bareR] at hbp3;exact hbp3
  unfold Q0;subst hm;simp [eq_comm]
 have hp11 : Q0 m 1 1 = true := by have := hbp4 1;simpa using this
 clear hls hes hcl hxl hst hli hall hbp
 by_cases k14 : k = 14
 ·subst k14
  refine ⟨[118] ++ Lib.itoa n ++ [32, 61, 32] ++ exT a, fun B => ?_, fun h => ?_⟩
  ·have hbr1 := hbr 14
   refine Qa Tryz.func101 rfl Tryz.ntmps101 rfl (t := [(0, .agg [.i 14, .i n, .i m, QR [a]])]) rfl fun E hE => ?_
   (repeat' first|(refine Qe ?_;(first|refine QG rfl ?_|refine QJ rfl ?_|(refine Qz ?_;(first|refine WF rfl rfl ?_|refine QM rfl ?_|refine Qb rfl rfl rfl ?_))|refine Qv rfl rfl (by first|assumption|omega|(simp;done)|(simp;omega)) ?_|(refine Qo ?_;(first|refine QS rfl rfl ?_|refine qD rfl rfl ?_))|(refine Qq ?_;(first|refine QZ rfl rfl (hdig) ?_|refine QZ rfl rfl (hsm) ?_|refine QZ rfl rfl (hbr1) ?_|refine QZ rfl rfl (hes2) ?_))|refine Wr rfl rfl ?_|refine Wn rfl ?_|refine Qd rfl rfl ?_|refine QI rfl rfl rfl ?_|refine QU rfl rfl (fun _ _ => ?_)))|(refine Qk ?_;(first|refine Qi ?_|refine QN rfl ?_|refine WD rfl rfl rfl rfl ?_))|(refine Qj ?_;(first|refine Qn ?_|refine Qc ?_|refine Qf ?_|refine Qx ?_|refine Qh rfl ?_|refine Ql rfl ?_|refine Qs ?_)))
   all_goals exact e_2 (Tryz.results101) (Qg rfl) (Qg rfl) (Qw (by rw [Zt];simp [Wz, hp11, *]))
  ·rw [Zt] at h
   rw [simT]
   simp [Wz, hbp4, Z4] at h ⊢
   try simp [h]
 by_cases k22 : k = 22
 ·subst k22
  refine ⟨[115, 101, 110, 100, 32, 99] ++ Lib.itoa n ++ [32] ++ exT a, fun B => ?_, fun h => ?_⟩
  ·have hbr1 := hbr 22
   refine Qa Tryz.func101 rfl Tryz.ntmps101 rfl (t := [(0, .agg [.i 22, .i n, .i m, QR [a]])]) rfl fun E hE => ?_
   (repeat' first|(refine Qe ?_;(first|refine QG rfl ?_|refine QJ rfl ?_|(refine Qz ?_;(first|refine WF rfl rfl ?_|refine QM rfl ?_|refine Qb rfl rfl rfl ?_))|refine Qv rfl rfl (by first|assumption|omega|(simp;done)|(simp;omega)) ?_|(refine Qo ?_;(first|refine QS rfl rfl ?_|refine qD rfl rfl ?_))|(refine Qq ?_;(first|refine QZ rfl rfl (hdig) ?_|refine QZ rfl rfl (hsm) ?_|refine QZ rfl rfl (hbr1) ?_|refine QZ rfl rfl (hes2) ?_))|refine Wr rfl rfl ?_|refine Wn rfl ?_|refine Qd rfl rfl ?_|refine QI rfl rfl rfl ?_|refine QU rfl rfl (fun _ _ => ?_)))|(refine Qk ?_;(first|refine Qi ?_|refine QN rfl ?_|refine WD rfl rfl rfl rfl ?_))|(refine Qj ?_;(first|refine Qn ?_|refine Qc ?_|refine Qf ?_|refine Qx ?_|refine Qh rfl ?_|refine Ql rfl ?_|refine Qs ?_)))
   all_goals exact e_2 (Tryz.results101) (Qg rfl) (Qg rfl) (Qw (by rw [Zt];simp [Wz, hp11, *]))
  ·rw [Zt] at h
   rw [simT]
   simp [Wz, hbp4, Z4] at h ⊢
   try simp [h]
 by_cases k19 : k = 19
 ·subst k19
  refine ⟨[114, 101, 116, 117, 114, 110, 32] ++ exT a, fun B => ?_, fun h => ?_⟩
  ·have hbr1 := hbr 19
   refine Qa Tryz.func101 rfl Tryz.ntmps101 rfl (t := [(0, .agg [.i 19, .i n, .i m, QR [a]])]) rfl fun E hE => ?_
   (repeat' first|(refine Qe ?_;(first|refine QG rfl ?_|refine QJ rfl ?_|(refine Qz ?_;(first|refine WF rfl rfl ?_|refine Qb rfl rfl rfl ?_))|refine QS rfl rfl ?_|(refine Qq ?_;(first|refine QZ rfl rfl (hdig) ?_|refine QZ rfl rfl (hsm) ?_|refine QZ rfl rfl (hbr1) ?_|refine QZ rfl rfl (hes2) ?_))|refine Wr rfl rfl ?_|refine Wn rfl ?_|refine Qd rfl rfl ?_|refine QI rfl rfl rfl ?_|refine QU rfl rfl (fun _ _ => ?_)))|(refine Qk ?_;(first|refine Qi ?_|refine QN rfl ?_|refine WD rfl rfl rfl rfl ?_))|(refine Qj ?_;(first|refine Qn ?_|refine Qc ?_|refine Qf ?_|(refine Wg ?_;first|refine Q3 (by rfl) (by kernel_rfl) (by kernel_rfl) ?_|refine Q2 (by kernel_rfl) (by kernel_rfl) ?_)|refine Qx ?_|refine Qh rfl ?_|refine Ql rfl ?_|refine Qs ?_))|(refine Zw ?_;(first|refine x_op rfl (by (repeat' first|(refine Qe ?_;(first|refine QG rfl ?_|refine QJ rfl ?_|(refine Qz ?_;(first|refine QM rfl ?_|refine Qb rfl rfl rfl ?_))|refine Qv rfl rfl (by first|assumption|omega|(simp;done)|(simp;omega)) ?_|(refine Qo ?_;(first|refine QS rfl rfl ?_|refine qD rfl rfl ?_))|refine Qd rfl rfl ?_))|exact ⟨rfl, rfl⟩)) ?_|refine Zr ?_)))
   all_goals exact e_2 (Tryz.results101) (Qg rfl) (Qg rfl) (Qw (by rw [Zt];simp [Wz, hp11, *]))
  ·rw [Zt] at h
   rw [simT]
   simp [Wz, hbp4, Z4] at h ⊢
   try simp [h]
 by_cases k20 : k = 20
 ·subst k20
  refine ⟨[116, 104, 114, 111, 119, 32] ++ exT a, fun B => ?_, fun h => ?_⟩
  ·have hbr1 := hbr 20
   refine Qa Tryz.func101 rfl Tryz.ntmps101 rfl (t := [(0, .agg [.i 20, .i n, .i m, QR [a]])]) rfl fun E hE => ?_
   (repeat' first|(refine Qe ?_;(first|refine QG rfl ?_|refine QJ rfl ?_|(refine Qz ?_;(first|refine WF rfl rfl ?_|refine Qb rfl rfl rfl ?_))|refine QS rfl rfl ?_|(refine Qq ?_;(first|refine QZ rfl rfl (hdig) ?_|refine QZ rfl rfl (hsm) ?_|refine QZ rfl rfl (hbr1) ?_|refine QZ rfl rfl (hes2) ?_))|refine Wr rfl rfl ?_|refine Wn rfl ?_|refine Qd rfl rfl ?_|refine QI rfl rfl rfl ?_|refine QU rfl rfl (fun _ _ => ?_)))|(refine Qk ?_;(first|refine Qi ?_|refine QN rfl ?_|refine WD rfl rfl rfl rfl ?_))|(refine Qj ?_;(first|refine Qn ?_|refine Qc ?_|refine Qf ?_|(refine Wg ?_;first|refine Q3 (by rfl) (by kernel_rfl) (by kernel_rfl) ?_|refine Q2 (by kernel_rfl) (by kernel_rfl) ?_)|refine Qx ?_|refine Qh rfl ?_|refine Ql rfl ?_|refine Qs ?_))|(refine Zw ?_;(first|refine x_op rfl (by (repeat' first|(refine Qe ?_;(first|refine QG rfl ?_|refine QJ rfl ?_|(refine Qz ?_;(first|refine QM rfl ?_|refine Qb rfl rfl rfl ?_))|refine Qv rfl rfl (by first|assumption|omega|(simp;done)|(simp;omega)) ?_|(refine Qo ?_;(first|refine QS rfl rfl ?_|refine qD rfl rfl ?_))|refine Qd rfl rfl ?_))|exact ⟨rfl, rfl⟩)) ?_|refine Zr ?_)))
   all_goals exact e_2 (Tryz.results101) (Qg rfl) (Qg rfl) (Qw (by rw [Zt];simp [Wz, hp11, *]))
  ·rw [Zt] at h
   rw [simT]
   simp [Wz, hbp4, Z4] at h ⊢
   try simp [h]
 by_cases k24 : k = 24
 ·subst k24
  refine ⟨[111, 117, 116, 32] ++ exT a, fun B => ?_, fun h => ?_⟩
  ·have hbr1 := hbr 24
   refine Qa Tryz.func101 rfl Tryz.ntmps101 rfl (t := [(0, .agg [.i 24, .i n, .i m, QR [a]])]) rfl fun E hE => ?_
   (repeat' first|(refine Qe ?_;(first|refine QG rfl ?_|refine QJ rfl ?_|(refine Qz ?_;(first|refine WF rfl rfl ?_|refine Qb rfl rfl rfl ?_))|refine QS rfl rfl ?_|(refine Qq ?_;(first|refine QZ rfl rfl (hdig) ?_|refine QZ rfl rfl (hsm) ?_|refine QZ rfl rfl (hbr1) ?_|refine QZ rfl rfl (hes2) ?_))|refine Wr rfl rfl ?_|refine Wn rfl ?_|refine Qd rfl rfl ?_|refine QI rfl rfl rfl ?_|refine QU rfl rfl (fun _ _ => ?_)))|(refine Qk ?_;(first|refine Qi ?_|refine QN rfl ?_|refine WD rfl rfl rfl rfl ?_))|(refine Qj ?_;(first|refine Qn ?_|refine Qc ?_|refine Qf ?_|(refine Wg ?_;first|refine Q3 (by rfl) (by kernel_rfl) (by kernel_rfl) ?_|refine Q2 (by kernel_rfl) (by kernel_rfl) ?_)|refine Qx ?_|refine Qh rfl ?_|refine Ql rfl ?_|refine Qs ?_))|(refine Zw ?_;(first|refine x_op rfl (by (repeat' first|(refine Qe ?_;(first|refine QG rfl ?_|refine QJ rfl ?_|(refine Qz ?_;(first|refine QM rfl ?_|refine Qb rfl rfl rfl ?_))|refine Qv rfl rfl (by first|assumption|omega|(simp;done)|(simp;omega)) ?_|(refine Qo ?_;(first|refine QS rfl rfl ?_|refine qD rfl rfl ?_))|refine Qd rfl rfl ?_))|exact ⟨rfl, rfl⟩)) ?_|refine Zr ?_)))
   all_goals exact e_2 (Tryz.results101) (Qg rfl) (Qg rfl) (Qw (by rw [Zt];simp [Wz, hp11, *]))
  ·rw [Zt] at h
   rw [simT]
   simp [Wz, hbp4, Z4] at h ⊢
   try simp [h]
 refine ⟨[], fun B => ?_, fun h => by rw [Zt] at h;simp [*] at h⟩
 have hbr1 := hbr k
 have hk16 : ¬ k = 16 := k16
 refine Qa Tryz.func101 rfl Tryz.ntmps101 rfl (t := [(0, .agg [.i k, .i n, .i m, QR [a]])]) rfl fun E hE => ?_
 (repeat' first|(refine Qe ?_;(first|refine QG rfl ?_|refine QJ rfl ?_|(refine Qz ?_;(first|refine WF rfl rfl ?_|refine Qb rfl rfl rfl ?_))|refine QS rfl rfl ?_|(refine Qq ?_;(first|refine QZ rfl rfl (hdig) ?_|refine QZ rfl rfl (hsm) ?_|refine QZ rfl rfl (hbr1) ?_|refine QZ rfl rfl (hes2) ?_))|refine Wr rfl rfl ?_|refine Wn rfl ?_|refine Qd rfl rfl ?_|refine QI rfl rfl rfl ?_|refine QU rfl rfl (fun _ _ => ?_)))|(refine Qk ?_;(first|refine Qi ?_|refine QN rfl ?_|refine WD rfl rfl rfl rfl ?_))|(refine Qj ?_;(first|refine Qn ?_|refine Qc ?_|refine Qf ?_|refine Qx ?_|refine Ql rfl ?_|refine Qm rfl (by omega) ?_|refine Qs ?_)))
 all_goals exact e_2 (Tryz.results101) (Qg rfl) (Qg rfl) (Qw (by rw [Zt];simp [*]))
end Go.Proofs
end
section
namespace Go.Proofs
open Go.Av Go.Bl
def strs (l : List (List UInt8)) : List Str := l.map Str.mk
theorem ZT (l : List (List UInt8)) : (strs l).length = l.length := List.length_map _
theorem strs_app (a b : List (List UInt8)) : strs (a ++ b) = strs a ++ strs b := List.map_append
def ind (l : List (List UInt8)) : List (List UInt8) := l.map fun s => [32, 32] ++ s
mutual
def stL : Nd -> List (List UInt8)
 | .mk k n m ks =>
  if k = 13 then sOpen :: (ind (stsL ks) ++ [sClose]) else
  if k = 17 then (sIf ++ (ks.map exT).getD 0 [] ++ sBr) :: ((insL ks).getD 1 [] ++ sElse :: ((insL ks).getD 2 [] ++ [sClose])) else
  if k = 18 then (sWhile ++ (ks.map exT).getD 0 [] ++ sBr) :: ((insL ks).getD 1 [] ++ [sClose]) else
  if k = 21 then sTry :: ((insL ks).getD 0 [] ++ (sCatch ++ Lib.itoa n ++ sBr) :: ((insL ks).getD 1 [] ++ [sClose])) else [simT (.mk k n m ks)]
def stsL : List Nd -> List (List UInt8)
 | [] => []
 | x :: r => stL x ++ stsL r
def inL : Nd -> List (List UInt8)
 | .mk k n m ks => ind (stsL ks)
def insL : List Nd -> List (List (List UInt8))
 | [] => []
 | x :: r => inL x :: insL r
end
theorem insL_eq : ∀ ks, insL ks = ks.map inL
 | [] => rfl
 | x :: r => by rw [insL, insL_eq r];rfl
theorem stsL_app (a b : List Nd) : stsL (a ++ b) = stsL a ++ stsL b := by
 induction a with
 | nil => simp [stsL]
 | cons x r ih => rw [List.cons_append, stsL, stsL, ih, List.append_assoc]
theorem stsL_take {ks : List Nd} {j : Nat} (h : j < ks.length) : stsL (ks.take (j + 1)) = stsL (ks.take j) ++ stL ks[j] := by
 rw [List.take_succ_eq_append_getElem h, stsL_app, stsL, stsL, List.append_nil]
theorem ind_app (a b : List (List UInt8)) : ind (a ++ b) = ind a ++ ind b := List.map_append
theorem ind_len (a : List (List UInt8)) : (ind a).length = a.length := List.length_map _
theorem getD_sum {ks : List Nd} (f : Nd -> List (List UInt8)) {C : Nat} (h : ∀ x ∈ ks, (f x).length <= C * Qu x) : ((ks.map f).getD 1 []).length + ((ks.map f).getD 2 []).length <= C * QT ks /\ ((ks.map f).getD 0 []).length + ((ks.map f).getD 1 []).length <= C * QT ks := by
 match ks with
 | [] => simp
 | [a] => have := h a (by simp);simp [QT];omega
 | [a, b] => have h1 := h a (by simp);have h2 := h b (by simp);simp [QT, Nat.mul_add];omega
 | a :: b :: c :: r => have h1 := h a (by simp);have h2 := h b (by simp);have h3 := h c (by simp);simp [QT, Nat.mul_add];omega
theorem stL_len (t : Nd) : (stL t).length <= 3 * Qu t /\ (inL t).length <= 3 * (Qu t - 1) := by
 induction t using Nd.ind with
 | h k n m ks ih =>
 have hs : (stsL ks).length <= 3 * QT ks := by
  clear k n m
  induction ks with
  | nil => simp [stsL]
  | cons x r ihr =>
   have h1 := (ih x (by simp)).1
   have h2 := ihr fun y hy => ih y (by simp [hy])
   rw [stsL, QT, List.length_append];omega
 have hg := getD_sum (ks := ks) inL (C := 3) fun x hx => Nat.le_trans (ih x hx).2 (by omega)
 refine ⟨?_, by rw [inL, ind_len, Qu];omega⟩
 rw [stL, Qu, insL_eq]
 repeat' split
 ·simp only [List.length_cons, List.length_append, ind_len, List.length_nil];omega
 ·simp only [List.length_cons, List.length_append, List.length_nil];omega
 ·simp only [List.length_cons, List.length_append, List.length_nil];omega
 ·simp only [List.length_cons, List.length_append, List.length_nil];omega
 ·simp only [List.length_cons, List.length_nil];omega
theorem getD_line {ks : List Nd} (f : Nd -> List (List UInt8)) {C : Nat} (h : ∀ x ∈ ks, ∀ s ∈ f x, s.length <= C * Qu x) (j : Nat) : ∀ s ∈ (ks.map f).getD j [], s.length <= C * QT ks := fun s hs => by
 rw [List.getD_eq_getElem?_getD, List.getElem?_map] at hs
 rcases Nat.lt_or_ge j ks.length with hj|hj
 ·rw [List.getElem?_eq_getElem hj] at hs
  exact Nat.le_trans (h _ (List.getElem_mem hj) s hs) (Nat.mul_le_mul (Nat.le_refl _) (QY (List.getElem_mem hj)))
 ·rw [List.getElem?_eq_none hj] at hs;cases hs
theorem stL_line (t : Nd) : okN t -> (∀ s ∈ stL t, s.length <= 100 * Qu t) /\ (∀ s ∈ inL t, s.length <= 100 * Qu t) := by
 induction t using Nd.ind with
 | h k n m ks ih =>
 intro hok
 have hsim := simT_len (.mk k n m ks) hok
 rw [okN] at hok
 have hn := Zb hok.1.2.1
 have hs : ∀ s ∈ stsL ks, s.length <= 100 * QT ks := by
  have hok2 := hok.2
  clear hok hn hsim k n m
  induction ks with
  | nil => intro s hs;simp [stsL] at hs
  | cons x r ihr =>
   rw [okL] at hok2
   intro s hs
   rw [stsL, List.mem_append] at hs
   rw [QT]
   rcases hs with hs|hs
   ·have := (ih x (by simp) hok2.1).1 s hs;omega
   ·have := ihr (fun y hy => ih y (by simp [hy])) hok2.2 s hs;omega
 have hsi : ∀ s ∈ ind (stsL ks), s.length <= 100 * (1 + QT ks) := fun s h => by
  unfold ind at h
  obtain ⟨u, hu, rfl⟩ := List.mem_map.1 h
  have := hs u hu
  simp;omega
 have hg := fun j => getD_line (ks := ks) inL (C := 100) (fun x hx => (ih x hx (Wj hok.2 hx)).2) j
 have hx : ((ks.map exT).getD 0 []).length <= 60 * QT ks := by
  match ks with
  | [] => simp
  | a :: r =>
   have h1 := qY a (Wj hok.2 (by simp))
   have h2 := QY (show a ∈ a :: r by simp)
   show (exT a).length <= _
   omega
 rw [Qu] at hsim
 refine ⟨?_, by rw [inL, Qu];exact hsi⟩
 have c1 : sOpen.length = 1 := rfl
 have c2 : sClose.length = 1 := rfl
 have c3 : sElse.length = 8 := rfl
 have c4 : sIf.length = 3 := rfl
 have c5 : sWhile.length = 6 := rfl
 have c6 : sTry.length = 5 := rfl
 have c7 : sCatch.length = 9 := rfl
 have c8 : sBr.length = 2 := rfl
 rw [stL, Qu, insL_eq]
 intro s hs
 split at hs
 ·simp only [List.mem_cons, List.mem_append, List.not_mem_nil, or_false] at hs
  rcases hs with rfl|hs|rfl
  ·omega
  ·exact hsi s hs
  ·omega
 split at hs
 ·simp only [List.mem_cons, List.mem_append, List.not_mem_nil, or_false] at hs
  rcases hs with rfl|hs|rfl|hs|rfl
  ·simp only [List.length_append];omega
  ·have := hg 1 s hs;omega
  ·omega
  ·have := hg 2 s hs;omega
  ·omega
 split at hs
 ·simp only [List.mem_cons, List.mem_append, List.not_mem_nil, or_false] at hs
  rcases hs with rfl|hs|rfl
  ·simp only [List.length_append];omega
  ·have := hg 1 s hs;omega
  ·omega
 split at hs
 ·simp only [List.mem_cons, List.mem_append, List.not_mem_nil, or_false] at hs
  rcases hs with rfl|hs|rfl|hs|rfl
  ·omega
  ·have := hg 0 s hs;omega
  ·simp only [List.length_append];omega
  ·have := hg 1 s hs;omega
  ·omega
 ·simp only [List.mem_cons, List.not_mem_nil, or_false] at hs
  subst hs;omega
end Go.Proofs
end
section
namespace Go.Av
open Classical
section
variable {P : Program} {G : Nat -> DV} {E : AX} {R : DV -> List ABlk -> Prop}
def OwnT (P : Program) (G : Nat -> DV) (f : FuncId) (args : List DV) (len es : Nat) (cs : List DV) (u : Value) : Prop := ∀ B, ACalls P G B f args [] (fun d' σ' => ∃ g, B < g /\ d' = .tup [.ref 0 g 0 len es, .sc u] /\ σ' = [.row g cs])
theorem renl_clo1 {q : Nat -> Nat} : ∀ {l : List DV}, (∀ d ∈ l, d.clo = true) -> RenL (RenD q) l l
 | [], _ => .nil
 | d :: r, h => .cons (.s (.clo (h d (by simp)))) (renl_clo1 fun e he => h e (by simp [he]))
theorem OwnT.lift {f : FuncId} {args : List DV} {len es : Nat} {cs : List DV} {u : Value} (h : OwnT P G f args len es cs u) (ha : ∀ d ∈ args, d.clo = true) (hc : ∀ d ∈ cs, d.clo = true) {B : Nat} {σ : List ABlk} : ACalls P G B f args σ (fun d' σ' => ∃ g, B < g /\ d' = .tup [.ref σ.length g 0 len es, .sc u] /\ σ' = σ ++ [.row g cs]) := by
 refine ACalls.sub (ps := []) (τ := []) (R := fun B' d' τ' => ∃ g, B' < g /\ d' = .tup [.ref 0 g 0 len es, .sc u] /\ τ' = [.row g cs]) (renl_clo1 ha) List.nodup_nil rfl (fun i hi => absurd hi (Nat.not_lt_zero _)) (fun B' _ _ => h B') fun B' d' τ' hB ⟨g, hg, e1, e2⟩ => ?_
 subst e1 e2
 refine ⟨.tup [.ref σ.length g 0 len es, .sc u], σ ++ [.row g cs], ⟨.tup (.cons (.ref rfl) (.cons (.clo Wf) .nil)), Nat.zero_le _, by simp, fun j hj _ => by rw [List.getElem?_append_left hj], fun i B' hB' => ?_⟩, g, by omega, rfl, rfl⟩
 cases i with
 | zero =>
  simp at hB';subst hB'
  exact ⟨.row g cs, by show (σ ++ [ABlk.row g cs])[σ.length + (0 - 0)]? = _;simp, .rowc hc⟩
 | succ i => simp at hB'
variable {B : Nat} {f : Operand -> DV} {σ : List ABlk} {K : DV -> List ABlk -> Prop} {dst : Option Tmp} {type : TypeId} {pos : String} {after : Array Edge} {gd : Option (Nat × Bool)}
theorem s_call_ot {args : Array Operand} {ts : Array TypeId} {fid : FuncId} {ds cs : List DV} {len es : Nat} {u : Value} [FnOk P fid] (hx : f (.func fid) = .fn (.func fid) [] []) (hds : reL (args.toList.map f) = some ds) (h : OwnT P G fid ds len es cs u) (ha : ∀ d ∈ ds, d.clo = true) (hc : ∀ d ∈ cs, d.clo = true) (k : ∀ g, B < g -> K (.tup [.ref σ.length g 0 len es, .sc u]) (σ ++ [.row g cs])) :
  OpSem P G B ⟨dst, .call ⟨.value (.func fid), args, ts⟩, type, pos, after, gd⟩ f σ K := s_call hx hds ((h.lift ha hc).mono fun _ _ ⟨g, hg, h1, h2⟩ => by rw [h1, h2];exact k g hg)
theorem c_own_fst {k g len es len' es' : Nat} {cs cs' : List DV} {σ : List ABlk} {u u' : Value} (hk : σ[k]? = some (.row g cs)) (h1 : len' = len) (h2 : cs' = cs) (h3 : es' = es) (h4 : u' = u) : AClose E (fun d' σ' => ∃ g, E.N < g /\ d' = .tup [.ref 0 g 0 len' es', .sc u'] /\ σ' = [.row g cs']) (.tup [.ref k g 0 len es, .sc u]) σ := fun X v hσ hS hE hv => by
 subst h1 h2 h3 h4
 cases hv with|tup _ vs hl hg =>
 have hv0 := hg 0 _ rfl
 have hv1 := hg 1 _ rfl
 obtain ⟨Y, e1, e2, e3, d', e4, e5⟩ := c_own (E := E) (R := fun d' σ' => ∃ g, E.N < g /\ d' = .ref 0 g 0 len' es' /\ σ' = [.row g cs']) (m := 0) (Nat.zero_le _) hk (fun g' hg' => ⟨g', hg', rfl, rfl⟩) X _ hσ hS hE hv0
 obtain ⟨g', k1, k2, k3⟩ := e5
 subst k2
 refine ⟨Y, e1, e2, e3, _, ?_, g', k1, rfl, k3⟩
 refine .tup _ _ hl fun j e hj => ?_
 match j with
 | 0 => simp at hj;subst hj;exact e4
 | 1 =>
  simp at hj;subst hj
  generalize vs.getD 1 undef = w at hv1 ⊢
  cases hv1;exact .sc _
 | j + 2 => simp at hj
theorem c_nil_fst {es len' es' : Nat} {cs' : List DV} {σ : List ABlk} {u u' : Value} (h1 : len' = 0) (h2 : cs' = []) (h3 : es' = es) (h4 : u' = u) : AClose E (fun d' σ' => ∃ g, E.N < g /\ d' = .tup [.ref 0 g 0 len' es', .sc u'] /\ σ' = [.row g cs']) (.tup [.sc (.slice none 0 0), .sc u]) σ := fun X v hσ hS hE hv => by
 subst h1 h2 h3 h4 hσ
 have hob : ∀ b nn, (none : Option (Nat × Nat)) = some (b, nn) -> X.w.heap.size <= b := fun _ _ h => by cases h
 have hEx := WExt.push hS (Keep.refl X.w) (B := .row (X.N + 1) []) rfl hob
 refine c_own_fst (k := X.σ.length) (g := X.N + 1) (len := 0) (es := es') (cs := []) (σ := X.σ ++ [.row (X.N + 1) []]) (by simp) rfl rfl rfl rfl (X.push X.w none (.row (X.N + 1) [])) v rfl (hS.push (Keep.refl X.w) rfl hob rfl) (hE.trans hEx) ?_
 cases hv with|tup _ vs hl hg =>
 have hv0 := hg 0 _ rfl
 have hv1 := hg 1 _ rfl
 refine .tup _ _ hl fun j e hj => ?_
 match j with
 | 0 =>
  simp at hj;subst hj
  rw [VRep.sc_eq hv0]
  refine .ref _ _ _ _ _ _ _ _ (Nat.le_refl _) fun ob hobb => ?_
  rw [AX.row_mk (AX.push_live.2 (.inr ⟨rfl, rfl⟩))] at hobb
  simp only [AX.push, if_true, Option.some.injEq] at hobb
  subst hobb
  exact ⟨rfl, rfl, rfl⟩
 | 1 =>
  simp at hj;subst hj
  generalize vs.getD 1 undef = w at hv1 ⊢
  cases hv1;exact .sc _
 | j + 2 => simp at hj
theorem c_own_fstB {B k g len es len' es' : Nat} {cs cs' : List DV} {σ : List ABlk} {u u' : Value} (hB : B <= E.N) (hk : σ[k]? = some (.row g cs)) (h1 : len' = len) (h2 : cs' = cs) (h3 : es' = es) (h4 : u' = u) : AClose E (fun d' σ' => ∃ g, B < g /\ d' = .tup [.ref 0 g 0 len' es', .sc u'] /\ σ' = [.row g cs']) (.tup [.ref k g 0 len es, .sc u]) σ := fun X v hσ hS hE hv => by
 obtain ⟨Y, e1, e2, e3, d', e4, g', k1, k2⟩ := c_own_fst hk h1 h2 h3 h4 X v hσ hS hE hv
 exact ⟨Y, e1, e2, e3, d', e4, g', by omega, k2⟩
theorem c_nil_fstB {B es len' es' : Nat} {cs' : List DV} {σ : List ABlk} {u u' : Value} (hB : B <= E.N) (h1 : len' = 0) (h2 : cs' = []) (h3 : es' = es) (h4 : u' = u) : AClose E (fun d' σ' => ∃ g, B < g /\ d' = .tup [.ref 0 g 0 len' es', .sc u'] /\ σ' = [.row g cs']) (.tup [.sc (.slice none 0 0), .sc u]) σ := fun X v hσ hS hE hv => by
 obtain ⟨Y, e1, e2, e3, d', e4, g', k1, k2⟩ := c_nil_fst h1 h2 h3 h4 X v hσ hS hE hv
 exact ⟨Y, e1, e2, e3, d', e4, g', by omega, k2⟩
theorem c_pub_fst {k g len es : Nat} {cs : List DV} {σ : List ABlk} {u : Value} (hk : σ[k]? = some (.row g cs)) (hl : len * es = cs.length) (h : AClose E R (.tup [.sl es cs, .sc u]) (σ.set k .gone)) : AClose E R (.tup [.ref k g 0 len es, .sc u]) σ := fun X v hσ hS hE hv => by
 subst hσ
 refine h { X with σ := X.σ.set k .gone } v rfl (sto_gone hS k) (hE.trans (ZU k)) ?_
 cases hv with|tup _ vs hl2 hg =>
 have hv0 := hg 0 _ rfl
 have hv1 := hg 1 _ rfl
 refine .tup _ _ hl2 fun j e hj => ?_
 match j with
 | 0 => simp at hj;subst hj;exact pub_rep hS hk hl hv0
 | 1 =>
  simp at hj;subst hj
  generalize vs.getD 1 undef = w at hv1 ⊢
  cases hv1;exact .sc _
 | j + 2 => simp at hj
end
section
variable {P : Program} {G : Nat -> DV}
theorem Own.view {f : FuncId} {args args' : List DV} {len es : Nat} {cs : List DV} (h : Own P G f args' len es cs) (hc : ∀ d ∈ cs, d.flat = true) {B : Nat} {σ : List ABlk} (hvw : View σ args args') : ACalls P G B f args σ (fun d' σ' => ∃ g, B < g /\ d' = .ref σ.length g 0 len es /\ σ' = σ ++ [.row g cs]) := fun X vs hS hσ hB hG hv => by
 subst hσ
 obtain ⟨k1, k2⟩ := hvw.get hS
 refine (h X.N (X.aside True) vs (hS.aside _) rfl (Nat.le_refl _) (fun g => ⟨(hG g).1, (hG g).2.mono (aside_le _)⟩) ⟨by rw [hv.1, k1], fun j e hj => (by
  have hlt : j < args.length := by rw [k1];exact (List.getElem?_eq_some_iff.1 hj).1
  exact k2 j _ e _ (List.getElem?_eq_getElem hlt) hj (hv.2 j _ (List.getElem?_eq_getElem hlt)))⟩).mono ?_
 rintro e w' ⟨v, he, Y, hw, hY, hE, d', hr, g, hg, rfl, hσ'⟩
 subst hw
 have hback := hS.back hE
 have hEb := WExt.back hS hE
 have hY0 : Y.σ[0]? = some (.row g cs) := by rw [hσ'];rfl
 have hlY : Y.live 0 g := WE hY0
 have hgN : g <= Y.N := hY.gen 0 g hlY
 have hnew : ∀ b n, Y.ρ 0 = some (b, n) -> X.w.heap.size <= b := fun b n hb => by
  rcases Nat.lt_or_ge b X.w.heap.size with hlt|hge
  ·exact absurd ⟨0, g, n, hlY, hb⟩ (hE.old b hlt qe).2
  ·exact hge
 let Z : AX := { w := Y.w, ρ := fun i => if i = X.σ.length then Y.ρ 0 else X.ρ i, σ := X.σ ++ [.row g cs], N := Y.N, hid := X.hid }
 have hlive : ∀ k g', Z.live k g' ↔ (k < X.σ.length /\ X.live k g') \/ (k = X.σ.length /\ g' = g) := fun k g' => by
  have := AX.push_live (X := X) (w' := Y.w) (ob := Y.ρ 0) (B := .row g cs) (k := k) (g := g')
  simp only [ABlk.gen?, Option.some.injEq] at this
  rw [show Z.live k g' ↔ (X.push Y.w (Y.ρ 0) (.row g cs)).live k g' from Iff.rfl, this]
  constructor <;> (rintro (h|⟨h1, h2⟩);exact .inl h;exact .inr ⟨h1, h2.symm⟩)
 have hρ1 : ∀ k, k < X.σ.length -> Z.ρ k = X.ρ k := fun k hk => by simp only [Z];rw [if_neg (by omega)]
 have hρ2 : Z.ρ X.σ.length = Y.ρ 0 := by simp only [Z, if_true]
 have hmut : ∀ b, Z.mut b -> X.mut b \/ X.w.heap.size <= b := fun b ⟨k, g', n, hl, hr⟩ => by
  rcases (hlive k g').1 hl with ⟨h1, h2⟩|⟨h1, _⟩
  ·rw [hρ1 k h1] at hr;exact .inl ⟨k, g', n, h2, hr⟩
  ·rw [h1, hρ2] at hr;exact .inr (hnew b n hr)
 have hEZ : WExt X Z := {
  hid := rfl, top := hE.top, os := hE.os, tape := hE.tape, output := hE.output, size := hE.size
  old := fun b hb hm => ⟨(hE.old b hb qe).1, fun hz => by rcases hmut b hz with h|h;exact hm h;omega⟩
  rows := fun k g' hg' hl => by
   rcases (hlive k g').1 hl with ⟨h1, h2⟩|⟨h1, h2⟩
   ·exact ⟨h2, hρ1 k h1⟩
   ·omega
  shp := hE.shp }
 have hSZ : Sto Z := {
  inj := fun k k' g1 g1' b n n' hl hl' hr hr' => by
   rcases (hlive k g1).1 hl with ⟨h1, h2⟩|⟨h1, h2⟩ <;> rcases (hlive k' g1').1 hl' with ⟨h1', h2'⟩|⟨h1', h2'⟩
   ·rw [hρ1 k h1] at hr;rw [hρ1 k' h1'] at hr';exact hS.inj k k' g1 g1' b n n' h2 h2' hr hr'
   ·rw [hρ1 k h1] at hr;rw [h1', hρ2] at hr';have := hS.ρ_lt h2 hr;have := hnew b n' hr';omega
   ·rw [hρ1 k' h1'] at hr';rw [h1, hρ2] at hr;have := hS.ρ_lt h2' hr';have := hnew b n hr;omega
   ·rw [h1, h1']
  gen := fun k g' hl => by
   rcases (hlive k g').1 hl with ⟨h1, h2⟩|⟨h1, h2⟩
   ·exact Nat.le_trans (hS.gen k g' h2) hE.top
   ·rw [h2];exact hgN
  hid := fun b ⟨k, g', n, hl, hr⟩ hh => by
   rcases (hlive k g').1 hl with ⟨h1, h2⟩|⟨h1, h2⟩
   ·rw [hρ1 k h1] at hr;exact hS.hid b ⟨k, g', n, h2, hr⟩ hh
   ·rw [h1, hρ2] at hr;have := hnew b n hr;have := hS.hidlt b hh;omega
  hidlt := fun b hb => Nat.lt_of_lt_of_le (hS.hidlt b hb) hE.size
  holds := fun k B' hB' => by
   simp only [Z, List.getElem?_append] at hB'
   split at hB'
   ·rename_i hlt
    rw [hρ1 k hlt]
    cases hg' : B'.gen? with
    | none => cases B' <;> first|trivial|cases hg'
    | some g' => exact (hS.holds k B' hB').mono hEZ.le fun b n hb => (hE.old b (hS.ρ_lt ((AX.live_get hB').2 hg') hb) qe).1
   ·rename_i hge
    have hkl : k = X.σ.length := by
     rcases Nat.lt_or_ge (k - X.σ.length) 1 with h'|h'
     ·omega
     ·rw [List.getElem?_eq_none (by simpa using h')] at hB';cases hB'
    subst hkl
    simp at hB'
    subst hB'
    rw [hρ2]
    have hh := hY.holds 0 _ hY0
    cases hρ0 : Y.ρ 0 with
    | none => rw [hρ0] at hh;exact hh
    | some x =>
     obtain ⟨b, n⟩ := x
     rw [hρ0] at hh
     obtain ⟨arr, T, fr, q1, q2, q3, q4, q5⟩ := hh
     exact ⟨arr, T, fr, q1, q2, q3, q4, fun j d hj => ⟨(q5 j d hj).1, (q5 j d hj).2.flat (hc d (List.mem_of_getElem? hj))⟩⟩ }
 have hinv := hr.ref_inv hY0
 refine ⟨v, he, Z, rfl, hSZ, hEZ, .ref X.σ.length g 0 len es, ?_, g, by omega, rfl, rfl⟩
 cases hr with|ref _ _ _ _ _ a l c _ _ =>
 refine .ref _ _ _ _ _ _ _ _ hgN fun ob hob => ?_
 rw [AX.row_mk ((hlive _ _).2 (.inr ⟨rfl, rfl⟩)), hρ2] at hob
 rw [<- Option.some.inj hob]
 exact hinv
variable {B : Nat} {f : Operand -> DV} {σ : List ABlk} {K : DV -> List ABlk -> Prop} {dst : Option Tmp} {type : TypeId} {pos : String} {after : Array Edge} {gd : Option (Nat × Bool)}
theorem s_call_vo {args : Array Operand} {ts : Array TypeId} {fid : FuncId} {ds ds' cs : List DV} {len es : Nat} [FnOk P fid] (hx : f (.func fid) = .fn (.func fid) [] []) (hds : reL (args.toList.map f) = some ds) (hv : View σ ds ds') (h : Own P G fid ds' len es cs) (hc : ∀ d ∈ cs, d.flat = true) (k : ∀ g, B < g -> K (.ref σ.length g 0 len es) (σ ++ [.row g cs])) :
  OpSem P G B ⟨dst, .call ⟨.value (.func fid), args, ts⟩, type, pos, after, gd⟩ f σ K := s_call hx hds ((h.view hc hv).mono fun _ _ ⟨g, hg, h1, h2⟩ => by rw [h1, h2];exact k g hg)
end
end Go.Av
end
section
namespace Go.Proofs
open Go.Av
variable {G : Nat -> DV}
attribute [local irreducible] OpSem Zd Zx ZL ACalls qt AClose RV
open Go.Bl
theorem encs_flat_str (l : List Str) : ∀ d ∈ Ws l, d.flat = true := fun d hd => by
 unfold Ws at hd
 obtain ⟨x, _, hx⟩ := List.mem_flatMap.1 hd
 rw [List.mem_singleton.1 hx];rfl
theorem lines_own (fl b : List UInt8) (l : List Str) (hl : l.length <= 1000000000) : Own Tryz.prog G 95 [WQ fl, QR l, WQ b] ([Str.mk fl] ++ l ++ [Str.mk b]).length 1 (Ws ([Str.mk fl] ++ l ++ [Str.mk b])) := fun B => by
 refine Qa Tryz.func95 rfl Tryz.ntmps95 rfl (t := [(0, WQ fl), (1, QR l), (2, WQ b)]) rfl fun E hE => ?_
 (repeat' first|(refine Qe ?_;(first|refine QG rfl ?_|refine QJ rfl ?_|(refine Qq ?_;(first|refine ZD (z := Str.mk _) rfl rfl rfl rfl rfl rfl rfl (by first|omega|(simp;omega)) (by first|omega|(simp;omega)) (fun _ => rfl) (fun _ _ => ?_)|refine s_app_r rfl rfl rfl rfl rfl rfl rfl (by first|omega|(simp;omega)) (by first|omega|(simp;omega)) (fun _ => rfl) (fun _ _ => ?_)))|(refine qd ?_;(first|refine qR (cs := Ws [Str.mk fl]) rfl rfl (by decide) rfl rfl (fun _ _ => ?_)|refine W1 rfl rfl (by decide) rfl ?_))))|(refine Qk ?_;(first|refine Qi ?_|refine QN rfl ?_))|(refine Qj ?_;(first|refine Qn ?_|refine Qc ?_|refine Qs ?_)))
 exact e_1 Tryz.results95 (Qg rfl) (c_ownedB hE rfl rfl rfl rfl)
def RsC (G : Nat -> DV) (t : Nd) : Prop := (qg t = true -> Go.Av.Pure Tryz.prog G 56 [.agg (Enc.enc t)] (.tup [QR (strs (stL t)), .b true])) /\ (qg t = false -> ∃ x : List Str, Go.Av.Pure Tryz.prog G 56 [.agg (Enc.enc t)] (.tup [QR x, .b false]))
def inLo (t : Nd) : List (List UInt8) := if inOk t = true then inL t else []
def RiC (G : Nat -> DV) (t : Nd) : Prop := OwnT Tryz.prog G 94 [.agg (Enc.enc t)] (inLo t).length 1 (Ws (strs (inLo t))) (.bool (inOk t))
theorem inside_own (k n m : Int) (ks : List Nd) (hok : okN (.mk k n m ks)) (hsz : Qu (.mk k n m ks) <= 1000000) (hst : ∀ x ∈ ks, RsC G x) : RiC G (.mk k n m ks) := fun B => by
 have hok2 := hok
 rw [okN] at hok
 rw [Qu] at hsz
 have hl1 := WC ks
 have hln := (stL_len (.mk 13 0 0 ks)).2
 rw [inL, ind_len, Qu] at hln
 rw [QW]
 unfold inLo
 by_cases hh : k = 13 /\ n = 0 /\ m = 0
 case neg =>
  have hf : inOk (.mk k n m ks) = false := by rw [inOk];simp [Wz, ZQ];omega
  rw [hf]
  by_cases k13 : k = 13
  ·by_cases n0 : n = 0
   ·have m0 : ¬ m = 0 := by omega
    refine Qa Tryz.func94 rfl Tryz.ntmps94 rfl (t := [(0, .agg [.i k, .i n, .i m, QR ks])]) rfl fun E hE => ?_
    (repeat' first|(refine Qe ?_;(first|refine QG rfl ?_|refine QJ rfl ?_|refine Qb rfl rfl rfl ?_|refine ZN rfl rfl ?_|refine Wr rfl rfl ?_|refine Qd rfl rfl ?_|refine QU rfl rfl (fun _ _ => ?_)))|(refine Qk ?_;(first|refine Qi ?_|refine QN rfl ?_|refine WD rfl rfl rfl rfl ?_|refine Q6 rfl rfl (by omega) ?_))|(refine Qj ?_;(first|refine Qn ?_|refine Qc ?_|refine Qp rfl (by omega) ?_|refine Qs ?_)))
    all_goals exact e_2 (Tryz.results94) (Qg rfl) (Qg rfl) (c_nil_fstB hE rfl rfl rfl rfl)
   ·refine Qa Tryz.func94 rfl Tryz.ntmps94 rfl (t := [(0, .agg [.i k, .i n, .i m, QR ks])]) rfl fun E hE => ?_
    (repeat' first|(refine Qe ?_;(first|refine QG rfl ?_|refine QJ rfl ?_|refine Qb rfl rfl rfl ?_|refine ZN rfl rfl ?_|(refine Q4 ?_;(first|refine WO rfl rfl ?_|refine Wr rfl rfl ?_))|refine Qd rfl rfl ?_|refine QU rfl rfl (fun _ _ => ?_)))|(refine Qk ?_;(first|refine Qi ?_|refine QN rfl ?_|refine WD rfl rfl rfl rfl ?_|refine W2 rfl rfl rfl rfl ?_|refine We rfl rfl (by omega) ?_|refine Q6 rfl rfl (by omega) ?_))|(refine Qj ?_;(first|refine Qn ?_|refine Qc ?_|refine Qh rfl ?_|refine Qs ?_)))
    all_goals exact e_2 (Tryz.results94) (Qg rfl) (Qg rfl) (c_nil_fstB hE rfl rfl rfl rfl)
  ·refine Qa Tryz.func94 rfl Tryz.ntmps94 rfl (t := [(0, .agg [.i k, .i n, .i m, QR ks])]) rfl fun E hE => ?_
   (repeat' first|(refine Qe ?_;(first|refine QG rfl ?_|refine QJ rfl ?_|refine Qb rfl rfl rfl ?_|refine ZN rfl rfl ?_|refine WO rfl rfl ?_|refine Qd rfl rfl ?_|refine QU rfl rfl (fun _ _ => ?_)))|(refine Qk ?_;(first|refine Qi ?_|refine QN rfl ?_|refine W2 rfl rfl rfl rfl ?_|refine We rfl rfl (by omega) ?_))|(refine Qj ?_;(first|refine Qn ?_|refine Qc ?_|refine Qh rfl ?_|refine Qs ?_)))
   all_goals exact e_2 (Tryz.results94) (Qg rfl) (Qg rfl) (c_nil_fstB hE rfl rfl rfl rfl)
 obtain ⟨rfl, rfl, rfl⟩ := hh
 have hin : inOk (.mk 13 0 0 ks) = ks.all qg := by rw [inOk, stOks_eq];simp [Wz, ZQ]
 rw [hin]
 have hsts : inL (.mk 13 0 0 ks) = ind (stsL ks) := by rw [inL]
 rw [hsts]
 clear hin hsts
 refine Qa Tryz.func94 rfl Tryz.ntmps94 rfl (t := [(0, .agg [.i 13, .i 0, .i 0, QR ks])]) rfl fun E hE => ?_
 (repeat' first|(refine Qe ?_;(first|refine QG rfl ?_|refine QJ rfl ?_|refine Qb rfl rfl rfl ?_|refine ZN rfl rfl ?_|refine Wr rfl rfl ?_|refine Qd rfl rfl ?_|refine QU rfl rfl (fun _ _ => ?_)))|(refine Qk ?_;(first|refine Qi ?_|refine QN rfl ?_|refine WD rfl rfl rfl rfl ?_))|(refine Qj ?_;(first|refine Qn ?_|refine Qc ?_|refine Qf ?_|refine Qx ?_|refine Ql rfl ?_)))
 rename_i gb hgb
 refine r_own 4 1 rfl fun gO hgO => ?_
 refine r_loopg (fun (i : Nat) g => ⟨[(1, .ptr 0 gb 0), (4, .ref 1 g 0 (strs (ind (stsL (ks.take i)))).length 1), (5, .i i)], [.row gb [.i 13, .i 0, .i 0, QR ks], .row g (Ws (strs (ind (stsL (ks.take i)))))]⟩) (fun i => i <= ks.length /\ (ks.take i).all qg = true) (fun i => ks.length - i) 0 gO hgO ?_ (by simp) ?_
 ·exact zal rfl
 intro i g ⟨hil0, hall⟩ hg
 by_cases hil : i < ks.length
 ·have hmem := List.getElem_mem hil
  obtain ⟨hx1, hx2⟩ := hst _ hmem
  have hsm := QY hmem
  by_cases hk : qg ks[i] = true
  ·have hx := hx1 hk
   clear hx1 hx2 hst
   have hlx := (stL_line _ (Wj hok.2 hmem)).1
   have hcx := (stL_len ks[i]).1
   have hle : (stsL (ks.take i)).length + (stL ks[i]).length <= 3000000 := by
    have h1 := stsL_take hil
    have h2 : (stsL ks).length = (stsL (ks.take (i + 1))).length + (stsL (ks.drop (i + 1))).length := by rw [<- List.length_append, <- stsL_app, List.take_append_drop]
    rw [h1, List.length_append] at h2;omega
   have htk := stsL_take hil
   obtain ⟨ls, hls⟩ : ∃ ls, ls = strs (stL ks[i]) := ⟨_, rfl⟩
   rw [<- hls] at hx
   have hll : ls.length = (stL ks[i]).length := by rw [hls, ZT]
   obtain ⟨A, hA⟩ : ∃ A, A = stsL (ks.take i) := ⟨_, rfl⟩
   rw [<- hA] at hle htk ⊢
   have hget : ∀ (j : Nat) (h : j < ls.length), ls[j].l.length <= 100000000 := fun j h => by
    have e : ls[j].l = (stL ks[i])[j]'(by omega) := by subst hls;simp [strs]
    rw [e]
    have := hlx _ (List.getElem_mem (show j < (stL ks[i]).length by omega));omega
   have hnx : ∀ (j : Nat) (h : j < ls.length), strs (ind (A ++ (stL ks[i]).take (j + 1))) = strs (ind (A ++ (stL ks[i]).take j)) ++ [Str.mk ([32, 32] ++ ls[j].l)] := fun j h => by
    have e : ls[j].l = (stL ks[i])[j]'(by omega) := by subst hls;simp [strs]
    rw [e, List.take_succ_eq_append_getElem (show j < (stL ks[i]).length by omega), <- List.append_assoc, ind_app, strs_app];rfl
   have hlen : ∀ j, (strs (ind (A ++ (stL ks[i]).take j))).length <= 3000000 := fun j => by rw [ZT, ind_len, List.length_append, List.length_take];omega
   generalize stL ks[i] = sx at *
   (repeat' first|(refine Qe ?_;(first|refine QG rfl ?_|refine QJ rfl ?_|(refine Qz ?_;(first|refine QD rfl ?_|refine Qb rfl rfl rfl ?_))|refine Qv rfl rfl (by first|assumption|omega|(simp;done)|(simp;omega)) ?_|refine Q1 rfl rfl ?_|(refine Qq ?_;(first|refine QZ rfl rfl (hx) ?_|refine Qt rfl ?_))|refine Wn rfl ?_|refine Qd rfl rfl ?_|refine QI rfl rfl rfl ?_))|(refine Qk ?_;(first|refine Qi ?_|refine QN rfl ?_))|(refine Qj ?_;(first|refine Qn ?_|refine Qc ?_|refine Qf ?_|refine Qx ?_|refine Ql rfl ?_|refine Qp rfl (by omega) ?_)))
   refine r_loopg (fun (j : Nat) g => ⟨[(1, .ptr 0 gb 0), (4, .ref 1 g 0 (strs (ind (A ++ sx.take j))).length 1), (5, .i i), (6, QR ls), (8, .i j)], [.row gb [.i 13, .i 0, .i 0, QR ks], .row g (Ws (strs (ind (A ++ sx.take j))))]⟩) (fun j => j <= ls.length) (fun j => ls.length - j) 0 g hg ?_ (by simp) ?_
   ·rw [List.take_zero, List.append_nil]
    exact zal rfl
   intro j g2 hj0 hg2
   by_cases hjl : j < ls.length
   ·have hlj := hget j hjl
    have hlA := hlen j
    (repeat' first|(refine Qe ?_;(first|refine QG rfl ?_|refine QJ rfl ?_|refine QM rfl ?_|refine Qv rfl rfl (by first|assumption|omega|(simp;done)|(simp;omega)) ?_|(refine Qo ?_;(first|refine Q1 rfl rfl ?_|refine W3 rfl rfl (by omega) ?_|refine qD rfl rfl ?_))|(refine Qq ?_;(first|refine ZD (z := Str.mk _) rfl rfl rfl rfl rfl rfl rfl (by first|omega|(simp;omega)) (by first|omega|(simp;omega)) (fun _ => rfl) (fun _ _ => ?_)|refine Qt rfl ?_))|refine W1 rfl rfl (by decide) rfl ?_))|(refine Qk ?_;(first|refine Qi ?_|refine QN rfl ?_))|(refine Qj ?_;(first|refine Qn ?_|refine Qc ?_|refine Qf ?_|refine Qx ?_|refine Qp rfl (by omega) ?_)))
    refine ⟨j + 1, _, by omega, by assumption, by omega, ?_⟩
    rw [hnx j hjl]
    exact zal rfl
   ·have hje : j = sx.length := by omega
    subst hje
    (repeat' first|(refine Qe ?_;(first|refine QG rfl ?_|refine QJ rfl ?_|(refine Qo ?_;(first|refine Q1 rfl rfl ?_|refine W3 rfl rfl (by omega) ?_))|refine Qt rfl ?_))|(refine Qk ?_;(first|refine Qi ?_|refine QN rfl ?_))|(refine Qj ?_;(first|refine Qn ?_|refine Qc ?_|refine Qm rfl (by omega) ?_|refine WI rfl ?_)))
    refine ⟨i + 1, _, ⟨by omega, by rw [List.take_succ_eq_append_getElem hil, List.all_append, hall];simp [hk]⟩, by assumption, by omega, ?_⟩
    rw [htk, List.take_length]
    exact zal rfl
  ·have hk2 : qg ks[i] = false := by rw [<- Bool.not_eq_true];exact hk
   obtain ⟨x, hx⟩ := hx2 hk2
   have hna : ks.all qg = false := by
    rw [<- Bool.not_eq_true, List.all_eq_true]
    intro h;exact hk (h _ hmem)
   (repeat' first|(refine Qe ?_;(first|refine QG rfl ?_|refine QJ rfl ?_|(refine Qz ?_;(first|refine QD rfl ?_|refine Qb rfl rfl rfl ?_))|refine Qv rfl rfl (by first|assumption|omega|(simp;done)|(simp;omega)) ?_|refine Q1 rfl rfl ?_|(refine Qq ?_;(first|refine QZ rfl rfl (hx) ?_|refine Qt rfl ?_))|refine Wn rfl ?_|refine Qd rfl rfl ?_|refine QI rfl rfl rfl ?_))|(refine Qk ?_;(first|refine Qi ?_|refine QN rfl ?_))|(refine Qj ?_;(first|refine Qn ?_|refine Qc ?_|refine Qf ?_|refine Qx ?_|refine Qh rfl ?_|refine Qp rfl (by omega) ?_|refine Qs ?_)))
   exact e_2 (Tryz.results94) (Qg rfl) (Qg rfl) (c_nil_fstB hE (by rw [hna];rfl) (by rw [hna];rfl) rfl (by rw [hna]))
 ·have hie : i = ks.length := by omega
  subst hie
  rw [List.take_length] at *
  (repeat' first|(refine Qe ?_;(first|refine QG rfl ?_|refine QJ rfl ?_|refine Qb rfl rfl rfl ?_|refine Q1 rfl rfl ?_|refine Qt rfl ?_|refine Qd rfl rfl ?_))|(refine Qk ?_;(first|refine Qi ?_|refine QN rfl ?_))|(refine Qj ?_;(first|refine Qn ?_|refine Qc ?_|refine Qm rfl (by omega) ?_|refine WI rfl ?_|refine Qs ?_)))
  exact e_2 (Tryz.results94) (Qg rfl) (Qg rfl) (c_own_fstB hE rfl (by rw [hall, if_pos rfl, ZT]) (by rw [hall, if_pos rfl]) rfl (by rw [hall]))
theorem two_c (f m : List UInt8) (a b : Nd) (ha : RiC G a) (hb : RiC G b) (hla : (inLo a).length <= 100000000) (hlb : (inLo b).length <= 100000000) : Go.Av.Pure Tryz.prog G 100 [WQ f, .agg (Enc.enc a), WQ m, .agg (Enc.enc b)] (.tup [QR (strs (f :: (inLo a ++ m :: (inLo b ++ [sClose])))), .b (inOk a && inOk b)]) := fun B => by
 unfold RiC at ha hb
 have hca : (strs (inLo a)).length <= 100000000 := by rw [ZT];exact hla
 have hcb : (strs (inLo b)).length <= 100000000 := by rw [ZT];exact hlb
 have e1 := ZT (inLo a)
 have e2 := ZT (inLo b)
 rw [<- e1] at ha
 rw [<- e2] at hb
 cases hka : inOk a <;> rw [hka] at ha
 all_goals
  refine Qa Tryz.func100 rfl Tryz.ntmps100 rfl (t := [(0, WQ f), (1, .agg (Enc.enc a)), (2, WQ m), (3, .agg (Enc.enc b))]) rfl fun E hE => ?_
  (repeat' first|(refine Qe ?_;(first|refine QG rfl ?_|refine QJ rfl ?_|refine WF rfl rfl ?_|(refine Qq ?_;(first|refine s_call_vo rfl rfl (.same (.ref rfl (by rw [QX];rfl) (QO _) (.same .nil))) (lines_own _ _ _ (by omega)) (encs_flat_str _) (fun _ _ => ?_)|refine s_call_ot rfl rfl (ha) (by repeat' first|exact Enc.clo _|exact WL|refine Q8 ?_ ?_|exact Wf|exact Wu _|exact WB (QO _)|exact QO _|refine ZG ?_ ?_|refine Zq ?_|refine Wv ?_|refine Wp ?_) (by first|exact QO _) (fun _ _ => ?_)|refine s_call_ot rfl rfl (hb) (by repeat' first|exact Enc.clo _|exact WL|refine Q8 ?_ ?_|exact Wf|exact Wu _|exact WB (QO _)|exact QO _|refine ZG ?_ ?_|refine Zq ?_|refine Wv ?_|refine Wp ?_) (by first|exact QO _) (fun _ _ => ?_)|refine s_app (α := Str) rfl rfl rfl rfl rfl (srcOf_refOf rfl rfl) (by first|omega|(simp;omega)) (by first|omega|(simp;omega)) (fun _ => rfl) (fun _ _ => ?_)|refine ZD (z := Str.mk _) rfl rfl rfl rfl rfl rfl rfl (by first|omega|(simp;omega)) (by first|omega|(simp;omega)) (fun _ => rfl) (fun _ _ => ?_)))|(refine Q4 ?_;(first|refine WO rfl rfl ?_|refine Wr rfl rfl ?_))|refine W1 rfl rfl (by decide) rfl ?_|refine QI rfl rfl rfl ?_|refine QU rfl rfl (fun _ _ => ?_)))|(refine Qk ?_;(first|refine Qi ?_|refine QN rfl ?_|refine WD rfl rfl rfl rfl ?_|refine W2 rfl rfl rfl rfl ?_))|(refine Qj ?_;(first|refine Qn ?_|refine Qc ?_|refine Qs ?_)))
  exact e_2 (Tryz.results100) (Qg rfl) (Qg rfl) (c_pub_fst rfl (by rw [QX]) (Qw (by rw [show strs (f :: (inLo a ++ m :: (inLo b ++ [sClose]))) = [Str.mk f] ++ strs (inLo a) ++ [Str.mk m] ++ (strs (inLo b) ++ [Str.mk sClose]) by simp [strs]];first|rw [Bool.true_and];rfl|rw [Bool.false_and];rfl)))
def RsE (G : Nat -> DV) (t : Nd) : Prop := ∃ x : List Str, Go.Av.Pure Tryz.prog G 56 [.agg (Enc.enc t)] (.tup [QR x, .b (qg t)]) /\ (qg t = true -> x = strs (stL t))
theorem RsE.to {t : Nd} (h : RsE G t) : RsC G t := by
 obtain ⟨x, h1, h2⟩ := h
 refine ⟨fun hk => ?_, fun hk => ⟨x, by rwa [hk] at h1⟩⟩
 rw [hk, h2 hk] at h1;exact h1
theorem inOk_of {k n m : Int} {ks : List Nd} (h : k = 13) : inOk (.mk k n m ks) = qg (.mk k n m ks) := by rw [inOk, qg, if_pos h];simp [h]
theorem inLo_len (t : Nd) (h : Qu t <= 1000000) : (inLo t).length <= 3000000 := by
 have := (stL_len t).2
 unfold inLo;split
 ·omega
 ·simp
theorem rSt_c (t : Nd) : okN t -> Qu t <= 1000000 -> RsC G t /\ RiC G t := by
 induction t using Nd.ind with
 | h k n m ks ih =>
 intro hok hsz
 have hok0 := hok
 have hsz0 := hsz
 rw [okN] at hok
 rw [Qu] at hsz
 have hl1 := WC ks
 have hkid : ∀ x ∈ ks, RsC G x /\ RiC G x := fun x hx => ih x hx (Wj hok.2 hx) (by have := QY hx;omega)
 have hins := inside_own (G := G) k n m ks hok0 hsz0 fun x hx => (hkid x hx).1
 refine ⟨RsE.to ?_, hins⟩
 have hil := inLo_len _ hsz0
 have hxl : ∀ x ∈ ks, (exT x).length <= 60000000 := fun x hx => by have := qY x (Wj hok.2 hx);have := QY hx;omega
 have hll : ∀ x ∈ ks, (inLo x).length <= 3000000 := fun x hx => inLo_len x (by have := QY hx;omega)
 clear ih
 unfold RsE
 unfold RiC at hins
 rw [QW] at hins ⊢
 by_cases k13 : k = 13
 ·subst k13
  rw [inOk_of rfl] at hins
  rw [<- ZT] at hins hil
  refine ⟨[Str.mk sOpen] ++ strs (inLo (.mk 13 n m ks)) ++ [Str.mk sClose], fun B => ?_, fun h => ?_⟩
  ·refine Qa Tryz.func56 rfl Tryz.ntmps56 rfl (t := [(0, .agg [.i 13, .i n, .i m, QR ks])]) rfl fun E hE => ?_
   (repeat' first|(refine Qe ?_;(first|refine QG rfl ?_|refine QJ rfl ?_|(refine Qz ?_;(first|refine WF rfl rfl ?_|refine Qb rfl rfl rfl ?_))|refine QS rfl rfl ?_|(refine Qq ?_;(first|refine s_call_vo rfl rfl (.same (.ref rfl (by rw [QX];rfl) (QO _) (.same .nil))) (lines_own _ _ _ (by omega)) (encs_flat_str _) (fun _ _ => ?_)|refine s_call_ot rfl rfl (hins) (by repeat' first|exact Enc.clo _|exact WL|refine Q8 ?_ ?_|exact Wf|exact Wu _|exact WB (QO _)|exact QO _|refine ZG ?_ ?_|refine Zq ?_|refine Wv ?_|refine Wp ?_) (by first|exact QO _) (fun _ _ => ?_)))|refine Qd rfl rfl ?_|refine QI rfl rfl rfl ?_|refine QU rfl rfl (fun _ _ => ?_)))|(refine Qk ?_;(first|refine Qi ?_|refine QN rfl ?_))|(refine Qj ?_;(first|refine Qn ?_|refine Qc ?_|refine Qh rfl ?_|refine Qs ?_)))
   exact e_2 (Tryz.results56) (Qg rfl) (Qg rfl) (c_pub_fst rfl (by rw [QX];try rfl) (Qw rfl))
  ·rw [stL]
   unfold inLo
   rw [inOk_of rfl, h, inL]
   simp [strs]
 clear hins hil
 by_cases k17 : k = 17
 ·subst k17
  by_cases h0 : (ks.length : Int) = 0
  ·have h00 : ks.length = 0 := by omega
   have hf : qg (.mk 17 n m ks) = false := by rw [qg];simp [Wz, Q0, h00]
   refine ⟨[], fun B => ?_, fun h => by rw [hf] at h;cases h⟩
   refine Qa Tryz.func56 rfl Tryz.ntmps56 rfl (t := [(0, .agg [.i 17, .i n, .i m, QR ks])]) rfl fun E hE => ?_
   (repeat' first|(refine Qe ?_;(first|refine QG rfl ?_|refine QJ rfl ?_|refine Qb rfl rfl rfl ?_|refine QS rfl rfl ?_|refine Qt rfl ?_|refine WO rfl rfl ?_|refine Qd rfl rfl ?_|refine QU rfl rfl (fun _ _ => ?_)))|(refine Qk ?_;(first|refine Qi ?_|refine QN rfl ?_|refine W2 rfl rfl rfl rfl ?_|refine We rfl rfl (by omega) ?_))|(refine Qj ?_;(first|refine Qn ?_|refine Qc ?_|refine Qx ?_|refine Qh rfl ?_|refine Ql rfl ?_|refine Qs ?_)))
   all_goals exact e_2 (Tryz.results56) (Qg rfl) (Qg rfl) (ZB (fun L v h => ZH (fun v hv => Zm (es := 1) hv) h) (Qw (by rw [hf];rfl)))
  have hp0 : 0 < ks.length := by omega
  by_cases hn : n = 0
  case neg =>
   have hf : qg (.mk 17 n m ks) = false := by rw [qg];simp [Wz, hn]
   refine ⟨[], fun B => ?_, fun h => by rw [hf] at h;cases h⟩
   refine Qa Tryz.func56 rfl Tryz.ntmps56 rfl (t := [(0, .agg [.i 17, .i n, .i m, QR ks])]) rfl fun E hE => ?_
   (repeat' first|(refine Qe ?_;(first|refine QG rfl ?_|refine QJ rfl ?_|refine Qb rfl rfl rfl ?_|(refine Qo ?_;(first|refine QS rfl rfl ?_|refine ZN rfl rfl ?_))|refine Qt rfl ?_|(refine Q4 ?_;(first|refine WO rfl rfl ?_|refine Wr rfl rfl ?_))|refine Qd rfl rfl ?_|refine QU rfl rfl (fun _ _ => ?_)))|(refine Qk ?_;(first|refine Qi ?_|refine QN rfl ?_|refine WD rfl rfl rfl rfl ?_|refine W2 rfl rfl rfl rfl ?_|refine We rfl rfl (by omega) ?_|refine Q6 rfl rfl (by omega) ?_))|(refine Qj ?_;(first|refine Qn ?_|refine Qc ?_|refine Qx ?_|refine Qh rfl ?_|refine Ql rfl ?_|refine Qs ?_)))
   all_goals exact e_2 (Tryz.results56) (Qg rfl) (Qg rfl) (ZB (fun L v h => ZH (fun v hv => Zm (es := 1) hv) h) (Qw (by rw [hf];rfl)))
  by_cases hm : m = 0
  case neg =>
   have hf : qg (.mk 17 n m ks) = false := by rw [qg];simp [Wz, Q0, hm]
   refine ⟨[], fun B => ?_, fun h => by rw [hf] at h;cases h⟩
   refine Qa Tryz.func56 rfl Tryz.ntmps56 rfl (t := [(0, .agg [.i 17, .i n, .i m, QR ks])]) rfl fun E hE => ?_
   (repeat' first|(refine Qe ?_;(first|refine QG rfl ?_|refine QJ rfl ?_|refine Qb rfl rfl rfl ?_|(refine Qo ?_;(first|refine QS rfl rfl ?_|refine ZN rfl rfl ?_))|refine Qt rfl ?_|(refine Q4 ?_;(first|refine WO rfl rfl ?_|refine Wr rfl rfl ?_))|refine Qd rfl rfl ?_|refine QU rfl rfl (fun _ _ => ?_)))|(refine Qk ?_;(first|refine Qi ?_|refine QN rfl ?_|refine WD rfl rfl rfl rfl ?_|refine W2 rfl rfl rfl rfl ?_|refine Q6 rfl rfl (by omega) ?_))|(refine Qj ?_;(first|refine Qn ?_|refine Qc ?_|refine Qx ?_|refine Qh rfl ?_|refine Ql rfl ?_|refine Qp rfl (by omega) ?_|refine Qs ?_)))
   all_goals exact e_2 (Tryz.results56) (Qg rfl) (Qg rfl) (ZB (fun L v h => ZH (fun v hv => Zm (es := 1) hv) h) (Qw (by rw [hf];rfl)))
  subst hn;subst hm
  obtain ⟨tx, hx, htx⟩ := rEx_c (G := G) ks[0] (Wj hok.2 (List.getElem_mem hp0)) (by have := QY (List.getElem_mem hp0);omega)
  have hg0 : (ks.map Zn).getD 0 false = Zn ks[0] := by rw [List.getD_eq_getElem?_getD, List.getElem?_map, List.getElem?_eq_getElem hp0];rfl
  by_cases hk0 : Zn ks[0] = true
  case neg =>
   have hk2 : Zn ks[0] = false := by rw [<- Bool.not_eq_true];exact hk0
   have hf : qg (.mk 17 0 0 ks) = false := by rw [qg, hg0];simp [hk2]
   rw [hk2] at hx
   refine ⟨[], fun B => ?_, fun h => by rw [hf] at h;cases h⟩
   refine Qa Tryz.func56 rfl Tryz.ntmps56 rfl (t := [(0, .agg [.i 17, .i 0, .i 0, QR ks])]) rfl fun E hE => ?_
   (repeat' first|(refine Qe ?_;(first|refine QG rfl ?_|refine QJ rfl ?_|(refine Qz ?_;(first|refine QD rfl ?_|refine Qb rfl rfl rfl ?_))|refine Qv rfl rfl (by first|assumption|omega|(simp;done)|(simp;omega)) ?_|(refine Qo ?_;(first|refine QS rfl rfl ?_|refine ZN rfl rfl ?_))|(refine Qq ?_;(first|refine QZ rfl rfl (hx) ?_|refine Qt rfl ?_))|(refine Q4 ?_;(first|refine WO rfl rfl ?_|refine Wr rfl rfl ?_))|refine Wn rfl ?_|refine Qd rfl rfl ?_|refine QI rfl rfl rfl ?_|refine QU rfl rfl (fun _ _ => ?_)))|(refine Qk ?_;(first|refine Qi ?_|refine QN rfl ?_|refine WD rfl rfl rfl rfl ?_|refine W2 rfl rfl rfl rfl ?_|refine Q6 rfl rfl (by omega) ?_))|(refine Qj ?_;(first|refine Qn ?_|refine Qc ?_|refine Qx ?_|refine Qh rfl ?_|refine Ql rfl ?_|refine Qs ?_)))
   all_goals exact e_2 (Tryz.results56) (Qg rfl) (Qg rfl) (ZB (fun L v h => ZH (fun v hv => Zm (es := 1) hv) h) (Qw (by rw [hf];rfl)))
  rw [hk0] at hx
  have hxe := htx hk0
  subst hxe
  have hxl0 := hxl _ (List.getElem_mem hp0)
  by_cases h3 : (ks.length : Int) = 3
  case neg =>
   have h30 : ¬ ks.length = 3 := by omega
   have hf : qg (.mk 17 0 0 ks) = false := by rw [qg];simp [Wz, Q0, h3, h30]
   refine ⟨[], fun B => ?_, fun h => by rw [hf] at h;cases h⟩
   refine Qa Tryz.func56 rfl Tryz.ntmps56 rfl (t := [(0, .agg [.i 17, .i 0, .i 0, QR ks])]) rfl fun E hE => ?_
   (repeat' first|(refine Qe ?_;(first|refine QG rfl ?_|refine QJ rfl ?_|(refine Qz ?_;(first|refine QD rfl ?_|refine Qb rfl rfl rfl ?_))|refine Qv rfl rfl (by first|assumption|omega|(simp;done)|(simp;omega)) ?_|(refine Qo ?_;(first|refine QS rfl rfl ?_|refine ZN rfl rfl ?_))|(refine Qq ?_;(first|refine QZ rfl rfl (hx) ?_|refine Qt rfl ?_))|(refine Q4 ?_;(first|refine WO rfl rfl ?_|refine Wr rfl rfl ?_))|refine Wn rfl ?_|refine Qd rfl rfl ?_|refine QI rfl rfl rfl ?_|refine QU rfl rfl (fun _ _ => ?_)))|(refine Qk ?_;(first|refine Qi ?_|refine QN rfl ?_|refine WD rfl rfl rfl rfl ?_|refine W2 rfl rfl rfl rfl ?_|refine Q6 rfl rfl (by omega) ?_))|(refine Qj ?_;(first|refine Qn ?_|refine Qc ?_|refine Qx ?_|refine Qh rfl ?_|refine Ql rfl ?_|refine Qp rfl (by omega) ?_|refine Qs ?_)))
   all_goals exact e_2 (Tryz.results56) (Qg rfl) (Qg rfl) (ZB (fun L v h => ZH (fun v hv => Zm (es := 1) hv) h) (Qw (by rw [hf];rfl)))
  have h30 : ks.length = 3 := by omega
  match ks, h30 with
  | [c, a, b], _ =>
   have ha := (hkid a (by simp)).2
   have hb := (hkid b (by simp)).2
   have htwo := two_c (G := G) (sIf ++ exT c ++ sBr) sElse a b ha hb (by have := hll a (by simp);omega) (by have := hll b (by simp);omega)
   have hbb : Wz 0 0 [c, a, b].length 3 = true := rfl
   have hke : Zn c = true := hk0
   have hce : (exT c).length <= 60000000 := hxl0
   have hx2 : Go.Av.Pure Tryz.prog G 55 [.agg (Enc.enc c)] (.tup [WQ (exT c), .b true]) := hx
   refine ⟨strs ((sIf ++ exT c ++ sBr) :: (inLo a ++ sElse :: (inLo b ++ [sClose]))), fun B => ?_, fun h => ?_⟩
   ·refine Qa Tryz.func56 rfl Tryz.ntmps56 rfl (t := [(0, .agg [.i 17, .i 0, .i 0, QR [c, a, b]])]) rfl fun E hE => ?_
    (repeat' first|(refine Qe ?_;(first|refine QG rfl ?_|refine QJ rfl ?_|(refine Qz ?_;(first|refine QD rfl ?_|refine Qb rfl rfl rfl ?_))|refine Qv rfl rfl (by first|assumption|omega|(simp;done)|(simp;omega)) ?_|(refine Qo ?_;(first|refine QS rfl rfl ?_|refine ZN rfl rfl ?_))|(refine Qq ?_;(first|refine QZ rfl rfl (hx) ?_|refine Qt rfl ?_))|(refine Q4 ?_;(first|refine WO rfl rfl ?_|refine Wr rfl rfl ?_))|refine Wn rfl ?_|refine Qd rfl rfl ?_|refine QI rfl rfl rfl ?_|refine QU rfl rfl (fun _ _ => ?_)))|(refine Qk ?_;(first|refine Qi ?_|refine QN rfl ?_|refine WD rfl rfl rfl rfl ?_|refine W2 rfl rfl rfl rfl ?_))|(refine Qj ?_;(first|refine Qn ?_|refine Qc ?_|(refine Wg ?_;first|refine Q3 (by rfl) (by kernel_rfl) (by kernel_rfl) ?_|refine Q2 (by kernel_rfl) (by kernel_rfl) ?_)|refine Qx ?_|refine Qh rfl ?_|refine Ql rfl ?_|refine Qs ?_))|(refine Zw ?_;(first|refine x_op rfl (by (repeat' first|(refine Qe ?_;(first|refine QG rfl ?_|refine QJ rfl ?_|(refine Qz ?_;(first|refine QD rfl ?_|refine Qb rfl rfl rfl ?_))|refine Qv rfl rfl (by first|assumption|omega|(simp;done)|(simp;omega)) ?_|refine qD rfl rfl ?_|refine QZ rfl rfl (htwo) ?_|refine Qd rfl rfl ?_|refine QI rfl rfl rfl ?_))|exact ⟨rfl, rfl⟩)) ?_|refine Zr ?_)))
    exact e_2 (Tryz.results56) (Qg rfl) (Qg rfl) (Qw (by rw [qg, ZE, hbb];simp [hke, QR]))
   ·rw [qg, ZE] at h
    simp [hke] at h
    rw [stL, insL_eq]
    unfold inLo
    simp [h.1.2, h.2]
 by_cases k18 : k = 18
 ·subst k18
  by_cases h0 : (ks.length : Int) = 0
  ·have h00 : ks.length = 0 := by omega
   have hf : qg (.mk 18 n m ks) = false := by rw [qg];simp [Wz, Q0, h00]
   refine ⟨[], fun B => ?_, fun h => by rw [hf] at h;cases h⟩
   refine Qa Tryz.func56 rfl Tryz.ntmps56 rfl (t := [(0, .agg [.i 18, .i n, .i m, QR ks])]) rfl fun E hE => ?_
   (repeat' first|(refine Qe ?_;(first|refine QG rfl ?_|refine QJ rfl ?_|refine Qb rfl rfl rfl ?_|refine QS rfl rfl ?_|refine Qt rfl ?_|(refine Q4 ?_;(first|refine WO rfl rfl ?_|refine Wr rfl rfl ?_))|refine Qd rfl rfl ?_|refine QU rfl rfl (fun _ _ => ?_)))|(refine Qk ?_;(first|refine Qi ?_|refine QN rfl ?_|refine WD rfl rfl rfl rfl ?_|refine W2 rfl rfl rfl rfl ?_|refine We rfl rfl (by omega) ?_))|(refine Qj ?_;(first|refine Qn ?_|refine Qc ?_|refine Qx ?_|refine Qh rfl ?_|refine Ql rfl ?_|refine Qs ?_)))
   all_goals exact e_2 (Tryz.results56) (Qg rfl) (Qg rfl) (ZB (fun L v h => ZH (fun v hv => Zm (es := 1) hv) h) (Qw (by rw [hf];rfl)))
  have hp0 : 0 < ks.length := by omega
  by_cases hn : n = 0
  case neg =>
   have hf : qg (.mk 18 n m ks) = false := by rw [qg];simp [Wz, hn]
   refine ⟨[], fun B => ?_, fun h => by rw [hf] at h;cases h⟩
   refine Qa Tryz.func56 rfl Tryz.ntmps56 rfl (t := [(0, .agg [.i 18, .i n, .i m, QR ks])]) rfl fun E hE => ?_
   (repeat' first|(refine Qe ?_;(first|refine QG rfl ?_|refine QJ rfl ?_|refine Qb rfl rfl rfl ?_|(refine Qo ?_;(first|refine QS rfl rfl ?_|refine ZN rfl rfl ?_))|refine Qt rfl ?_|(refine Q4 ?_;(first|refine WO rfl rfl ?_|refine Wr rfl rfl ?_))|refine Qd rfl rfl ?_|refine QU rfl rfl (fun _ _ => ?_)))|(refine Qk ?_;(first|refine Qi ?_|refine QN rfl ?_|refine WD rfl rfl rfl rfl ?_|refine W2 rfl rfl rfl rfl ?_|refine We rfl rfl (by omega) ?_|refine Q6 rfl rfl (by omega) ?_))|(refine Qj ?_;(first|refine Qn ?_|refine Qc ?_|refine Qx ?_|refine Qh rfl ?_|refine Ql rfl ?_|refine Qs ?_)))
   all_goals exact e_2 (Tryz.results56) (Qg rfl) (Qg rfl) (ZB (fun L v h => ZH (fun v hv => Zm (es := 1) hv) h) (Qw (by rw [hf];rfl)))
  by_cases hm : m = 0
  case neg =>
   have hf : qg (.mk 18 n m ks) = false := by rw [qg];simp [Wz, Q0, hm]
   refine ⟨[], fun B => ?_, fun h => by rw [hf] at h;cases h⟩
   refine Qa Tryz.func56 rfl Tryz.ntmps56 rfl (t := [(0, .agg [.i 18, .i n, .i m, QR ks])]) rfl fun E hE => ?_
   (repeat' first|(refine Qe ?_;(first|refine QG rfl ?_|refine QJ rfl ?_|refine Qb rfl rfl rfl ?_|(refine Qo ?_;(first|refine QS rfl rfl ?_|refine ZN rfl rfl ?_))|refine Qt rfl ?_|refine Wr rfl rfl ?_|refine Qd rfl rfl ?_|refine QU rfl rfl (fun _ _ => ?_)))|(refine Qk ?_;(first|refine Qi ?_|refine QN rfl ?_|refine WD rfl rfl rfl rfl ?_|refine Q6 rfl rfl (by omega) ?_))|(refine Qj ?_;(first|refine Qn ?_|refine Qc ?_|refine Qx ?_|refine Qh rfl ?_|refine Ql rfl ?_|refine Qp rfl (by omega) ?_|refine Qs ?_)))
   all_goals exact e_2 (Tryz.results56) (Qg rfl) (Qg rfl) (ZB (fun L v h => ZH (fun v hv => Zm (es := 1) hv) h) (Qw (by rw [hf];rfl)))
  subst hn;subst hm
  obtain ⟨tx, hx, htx⟩ := rEx_c (G := G) ks[0] (Wj hok.2 (List.getElem_mem hp0)) (by have := QY (List.getElem_mem hp0);omega)
  have hg0 : (ks.map Zn).getD 0 false = Zn ks[0] := by rw [List.getD_eq_getElem?_getD, List.getElem?_map, List.getElem?_eq_getElem hp0];rfl
  by_cases hk0 : Zn ks[0] = true
  case neg =>
   have hk2 : Zn ks[0] = false := by rw [<- Bool.not_eq_true];exact hk0
   have hf : qg (.mk 18 0 0 ks) = false := by rw [qg, hg0];simp [hk2]
   rw [hk2] at hx
   refine ⟨[], fun B => ?_, fun h => by rw [hf] at h;cases h⟩
   refine Qa Tryz.func56 rfl Tryz.ntmps56 rfl (t := [(0, .agg [.i 18, .i 0, .i 0, QR ks])]) rfl fun E hE => ?_
   (repeat' first|(refine Qe ?_;(first|refine QG rfl ?_|refine QJ rfl ?_|(refine Qz ?_;(first|refine QD rfl ?_|refine Qb rfl rfl rfl ?_))|refine Qv rfl rfl (by first|assumption|omega|(simp;done)|(simp;omega)) ?_|(refine Qo ?_;(first|refine QS rfl rfl ?_|refine ZN rfl rfl ?_))|(refine Qq ?_;(first|refine QZ rfl rfl (hx) ?_|refine Qt rfl ?_))|refine Wr rfl rfl ?_|refine Wn rfl ?_|refine Qd rfl rfl ?_|refine QI rfl rfl rfl ?_|refine QU rfl rfl (fun _ _ => ?_)))|(refine Qk ?_;(first|refine Qi ?_|refine QN rfl ?_|refine WD rfl rfl rfl rfl ?_|refine Q6 rfl rfl (by omega) ?_))|(refine Qj ?_;(first|refine Qn ?_|refine Qc ?_|refine Qx ?_|refine Qh rfl ?_|refine Ql rfl ?_|refine Qs ?_)))
   all_goals exact e_2 (Tryz.results56) (Qg rfl) (Qg rfl) (ZB (fun L v h => ZH (fun v hv => Zm (es := 1) hv) h) (Qw (by rw [hf];rfl)))
  rw [hk0] at hx
  have hxe := htx hk0
  subst hxe
  have hxl0 := hxl _ (List.getElem_mem hp0)
  by_cases h2 : (ks.length : Int) = 2
  case neg =>
   have h20 : ¬ ks.length = 2 := by omega
   have hf : qg (.mk 18 0 0 ks) = false := by rw [qg];simp [Wz, Q0, h2, h20]
   refine ⟨[], fun B => ?_, fun h => by rw [hf] at h;cases h⟩
   refine Qa Tryz.func56 rfl Tryz.ntmps56 rfl (t := [(0, .agg [.i 18, .i 0, .i 0, QR ks])]) rfl fun E hE => ?_
   (repeat' first|(refine Qe ?_;(first|refine QG rfl ?_|refine QJ rfl ?_|(refine Qz ?_;(first|refine QD rfl ?_|refine Qb rfl rfl rfl ?_))|refine Qv rfl rfl (by first|assumption|omega|(simp;done)|(simp;omega)) ?_|(refine Qo ?_;(first|refine QS rfl rfl ?_|refine ZN rfl rfl ?_))|(refine Qq ?_;(first|refine QZ rfl rfl (hx) ?_|refine Qt rfl ?_))|refine Wr rfl rfl ?_|refine Wn rfl ?_|refine Qd rfl rfl ?_|refine QI rfl rfl rfl ?_|refine QU rfl rfl (fun _ _ => ?_)))|(refine Qk ?_;(first|refine Qi ?_|refine QN rfl ?_|refine WD rfl rfl rfl rfl ?_|refine Q6 rfl rfl (by omega) ?_))|(refine Qj ?_;(first|refine Qn ?_|refine Qc ?_|refine Qx ?_|refine Qh rfl ?_|refine Ql rfl ?_|refine Qp rfl (by omega) ?_|refine Qs ?_)))
   all_goals exact e_2 (Tryz.results56) (Qg rfl) (Qg rfl) (ZB (fun L v h => ZH (fun v hv => Zm (es := 1) hv) h) (Qw (by rw [hf];rfl)))
  have h20 : ks.length = 2 := by omega
  match ks, h20 with
  | [c, a], _ =>
   have hins := (hkid a (by simp)).2
   have hil := hll a (by simp)
   unfold RiC at hins
   rw [<- ZT] at hins hil
   have hbb : Wz 0 0 [c, a].length 2 = true := rfl
   have hke : Zn c = true := hk0
   have hce : (exT c).length <= 60000000 := hxl0
   have hx2 : Go.Av.Pure Tryz.prog G 55 [.agg (Enc.enc c)] (.tup [WQ (exT c), .b true]) := hx
   refine ⟨[Str.mk (sWhile ++ exT c ++ sBr)] ++ strs (inLo a) ++ [Str.mk sClose], fun B => ?_, fun h => ?_⟩
   ·refine Qa Tryz.func56 rfl Tryz.ntmps56 rfl (t := [(0, .agg [.i 18, .i 0, .i 0, QR [c, a]])]) rfl fun E hE => ?_
    (repeat' first|(refine Qe ?_;(first|refine QG rfl ?_|refine QJ rfl ?_|(refine Qz ?_;(first|refine QD rfl ?_|refine Qb rfl rfl rfl ?_))|refine Qv rfl rfl (by first|assumption|omega|(simp;done)|(simp;omega)) ?_|(refine Qo ?_;(first|refine QS rfl rfl ?_|refine ZN rfl rfl ?_|refine qD rfl rfl ?_))|(refine Qq ?_;(first|refine s_call_vo rfl rfl (.same (.ref rfl (by rw [QX];rfl) (QO _) (.same .nil))) (lines_own _ _ _ (by omega)) (encs_flat_str _) (fun _ _ => ?_)|refine QZ rfl rfl (hx) ?_|refine s_call_ot rfl rfl (hins) (by repeat' first|exact Enc.clo _|exact WL|refine Q8 ?_ ?_|exact Wf|exact Wu _|exact WB (QO _)|exact QO _|refine ZG ?_ ?_|refine Zq ?_|refine Wv ?_|refine Wp ?_) (by first|exact QO _) (fun _ _ => ?_)|refine Qt rfl ?_))|refine Wr rfl rfl ?_|refine Wn rfl ?_|refine Qd rfl rfl ?_|refine QI rfl rfl rfl ?_|refine QU rfl rfl (fun _ _ => ?_)))|(refine Qk ?_;(first|refine Qi ?_|refine QN rfl ?_|refine WD rfl rfl rfl rfl ?_))|(refine Qj ?_;(first|refine Qn ?_|refine Qc ?_|refine Qx ?_|refine Qh rfl ?_|refine Ql rfl ?_|refine Qs ?_)))
    exact e_2 (Tryz.results56) (Qg rfl) (Qg rfl) (c_pub_fst rfl (by rw [QX];try rfl) (Qw (by rw [qg, ZE, hbb];simp [hke, QR];try rfl)))
   ·rw [qg, ZE] at h
    simp [hke] at h
    rw [stL, insL_eq]
    unfold inLo
    simp [h.2, strs]
 by_cases k21 : k = 21
 ·subst k21
  have hbr := WX (G := G) 21 n m ks 2
  have hsm := ZP (G := G) n
  by_cases hb : bareR m ks.length 2 = true
  case neg =>
   have hb2 : bareR m ks.length 2 = false := by rw [<- Bool.not_eq_true];exact hb
   have hf : qg (.mk 21 n m ks) = false := by rw [qg];simp [Wo, hb2]
   rw [hb2] at hbr
   refine ⟨[], fun B => ?_, fun h => by rw [hf] at h;cases h⟩
   refine Qa Tryz.func56 rfl Tryz.ntmps56 rfl (t := [(0, .agg [.i 21, .i n, .i m, QR ks])]) rfl fun E hE => ?_
   (repeat' first|(refine Qe ?_;(first|refine QG rfl ?_|refine QJ rfl ?_|(refine Qz ?_;(first|refine WF rfl rfl ?_|refine Qb rfl rfl rfl ?_))|refine QS rfl rfl ?_|refine QZ rfl rfl (hbr) ?_|(refine Q4 ?_;(first|refine WO rfl rfl ?_|refine Wr rfl rfl ?_))|refine Wn rfl ?_|refine Qd rfl rfl ?_|refine QU rfl rfl (fun _ _ => ?_)))|(refine Qk ?_;(first|refine Qi ?_|refine QN rfl ?_|refine WD rfl rfl rfl rfl ?_|refine W2 rfl rfl rfl rfl ?_))|(refine Qj ?_;(first|refine Qn ?_|refine Qc ?_|refine Qx ?_|refine Qh rfl ?_|refine Ql rfl ?_|refine Qs ?_)))
   all_goals exact e_2 (Tryz.results56) (Qg rfl) (Qg rfl) (ZB (fun L v h => ZH (fun v hv => Zm (es := 1) hv) h) (Qw (by rw [hf];rfl)))
  rw [hb] at hbr
  by_cases hs : WT n = true
  case neg =>
   have hs2 : WT n = false := by rw [<- Bool.not_eq_true];exact hs
   have hf : qg (.mk 21 n m ks) = false := by rw [qg];simp [hs2]
   rw [hs2] at hsm
   refine ⟨[], fun B => ?_, fun h => by rw [hf] at h;cases h⟩
   refine Qa Tryz.func56 rfl Tryz.ntmps56 rfl (t := [(0, .agg [.i 21, .i n, .i m, QR ks])]) rfl fun E hE => ?_
   (repeat' first|(refine Qe ?_;(first|refine QG rfl ?_|refine QJ rfl ?_|(refine Qz ?_;(first|refine WF rfl rfl ?_|refine Qb rfl rfl rfl ?_))|refine QS rfl rfl ?_|(refine Qq ?_;(first|refine QZ rfl rfl (hsm) ?_|refine QZ rfl rfl (hbr) ?_))|refine Wr rfl rfl ?_|refine Wn rfl ?_|refine Qd rfl rfl ?_|refine QU rfl rfl (fun _ _ => ?_)))|(refine Qk ?_;(first|refine Qi ?_|refine QN rfl ?_|refine WD rfl rfl rfl rfl ?_))|(refine Qj ?_;(first|refine Qn ?_|refine Qc ?_|refine Qx ?_|refine Qh rfl ?_|refine Ql rfl ?_|refine Qs ?_)))
   all_goals exact e_2 (Tryz.results56) (Qg rfl) (Qg rfl) (ZB (fun L v h => ZH (fun v hv => Zm (es := 1) hv) h) (Qw (by rw [hf];rfl)))
  rw [hs] at hsm
  obtain ⟨hn0, hn9⟩ := qQ hs
  have hdig : Go.Av.Pure Tryz.prog G 93 [.i n] (WQ (Lib.itoa n)) := by
   rw [itoa_nat hn0]
   have := qP (G := G) n.toNat (by omega)
   rwa [show ((n.toNat : Nat) : Int) = n by omega] at this
  have hdl := Zb hok.1.2.1
  have h20 : ks.length = 2 := by simp [bareR] at hb;omega
  match ks, h20 with
  | [a, b], _ =>
   have ha := (hkid a (by simp)).2
   have hbk := (hkid b (by simp)).2
   have htwo := two_c (G := G) sTry (sCatch ++ Lib.itoa n ++ sBr) a b ha hbk (by have := hll a (by simp);omega) (by have := hll b (by simp);omega)
   have hb3 : bareR m 2 2 = true := hb
   refine ⟨strs (sTry :: (inLo a ++ (sCatch ++ Lib.itoa n ++ sBr) :: (inLo b ++ [sClose]))), fun B => ?_, fun h => ?_⟩
   ·refine Qa Tryz.func56 rfl Tryz.ntmps56 rfl (t := [(0, .agg [.i 21, .i n, .i m, QR [a, b]])]) rfl fun E hE => ?_
    (repeat' first|(refine Qe ?_;(first|refine QG rfl ?_|refine QJ rfl ?_|(refine Qz ?_;(first|refine WF rfl rfl ?_|refine Qb rfl rfl rfl ?_))|refine QS rfl rfl ?_|(refine Qq ?_;(first|refine QZ rfl rfl (hsm) ?_|refine QZ rfl rfl (hbr) ?_))|refine Wr rfl rfl ?_|refine Wn rfl ?_|refine Qd rfl rfl ?_|refine QU rfl rfl (fun _ _ => ?_)))|(refine Qk ?_;(first|refine Qi ?_|refine QN rfl ?_|refine WD rfl rfl rfl rfl ?_))|(refine Qj ?_;(first|refine Qn ?_|refine Qc ?_|(refine Wg ?_;first|refine Q3 (by rfl) (by kernel_rfl) (by kernel_rfl) ?_|refine Q2 (by kernel_rfl) (by kernel_rfl) ?_)|refine Qx ?_|refine Qh rfl ?_|refine Ql rfl ?_|refine Qs ?_))|(refine Zw ?_;(first|refine x_op rfl (by (repeat' first|(refine Qe ?_;(first|refine QJ rfl ?_|(refine Qz ?_;(first|refine QD rfl ?_|refine Qb rfl rfl rfl ?_))|refine Qv rfl rfl (by first|assumption|omega|(simp;done)|(simp;omega)) ?_|refine qD rfl rfl ?_|(refine Qq ?_;(first|refine QZ rfl rfl (hdig) ?_|refine QZ rfl rfl (htwo) ?_))|refine Qd rfl rfl ?_|refine QI rfl rfl rfl ?_))|exact ⟨rfl, rfl⟩)) ?_|refine Zr ?_)))
    exact e_2 (Tryz.results56) (Qg rfl) (Qg rfl) (Qw (by rw [qg, ZE];simp [Wo, hb3, hs, QR]))
   ·rw [qg, ZE] at h
    simp [hs] at h
    rw [stL, insL_eq]
    unfold inLo
    simp [h.1.2, h.2]
 ·obtain ⟨x, hsim, hxe⟩ := rSim_c (G := G) (.mk k n m ks) hok0 hsz0
  rw [QW] at hsim
  have hso : qg (.mk k n m ks) = Zt (.mk k n m ks) := by rw [qg, if_neg k13, if_neg k17, if_neg k18, if_neg k21]
  rw [hso]
  refine ⟨[Str.mk x], fun B => ?_, fun h => ?_⟩
  ·refine Qa Tryz.func56 rfl Tryz.ntmps56 rfl (t := [(0, .agg [.i k, .i n, .i m, QR ks])]) rfl fun E hE => ?_
   (repeat' first|(refine Qe ?_;(first|refine QG rfl ?_|refine QJ rfl ?_|(refine Qz ?_;(first|refine WF rfl rfl ?_|refine Qb rfl rfl rfl ?_))|refine QS rfl rfl ?_|refine QZ rfl rfl (hsim) ?_|refine Wr rfl rfl ?_|refine Qd rfl rfl ?_|refine QI rfl rfl rfl ?_|refine W1 rfl rfl (by decide) rfl ?_|refine QU rfl rfl (fun _ _ => ?_)))|(refine Qk ?_;(first|refine Qi ?_|refine QN rfl ?_|refine WD rfl rfl rfl rfl ?_|refine Q6 rfl rfl (by omega) ?_))|(refine Qj ?_;(first|refine Qn ?_|refine Qc ?_|refine Qx ?_|refine Qm rfl (by omega) ?_|refine Qs ?_)))
   exact e_2 (Tryz.results56) (Qg rfl) (Qg rfl) (Qw rfl)
  ·rw [hxe h, stL, if_neg k13, if_neg k17, if_neg k18, if_neg k21];rfl
abbrev sFun : List UInt8 := [102, 117, 110, 32]
abbrev sPar : List UInt8 := [32, 40]
abbrev sEnd : List UInt8 := [41, 32, 123]
def lastN (ks : List Nd) : Nd := ks.getD (ks.length - 1) (.mk 0 0 0 [])
def funHd (n : Int) (ks : List Nd) : List UInt8 := sFun ++ Lib.itoa n ++ sPar ++ WJ ((ks.take (ks.length - 1)).map qw) ++ sEnd
def funL : Nd -> List (List UInt8)
 | .mk k n m ks => funHd n ks :: (inL (lastN ks) ++ [sClose])
theorem funL_len (t : Nd) : (funL t).length <= 3 * Qu t := by
 obtain ⟨k, n, m, ks⟩ := t
 rw [funL, List.length_cons, List.length_append, List.length_singleton, Qu]
 rcases Nat.eq_zero_or_pos ks.length with h0|h0
 ·rw [List.eq_nil_of_length_eq_zero h0]
  have : (inL (lastN [])).length = 0 := rfl
  omega
 ·have h1 := (stL_len (lastN ks)).2
  have h2 := QY (last_mem h0)
  have h3 : Qu (lastN ks) <= QT ks := h2
  omega
def RfE (G : Nat -> DV) (t : Nd) : Prop := ∃ x : List Str, Go.Av.Pure Tryz.prog G 53 [.agg (Enc.enc t)] (.tup [QR x, .b (ZF t)]) /\ (ZF t = true -> x = strs (funL t))
theorem rFun_c (t : Nd) (hok : okN t) (hsz : Qu t <= 1000000) : RfE G t := by
 obtain ⟨k, n, m, ks⟩ := t
 rw [okN] at hok
 rw [Qu] at hsz
 have hl1 := WC ks
 unfold RfE
 rw [QW]
 have hsm := ZP (G := G) n
 by_cases k26 : k = 26
 case neg =>
  have hf : ZF (.mk k n m ks) = false := by rw [ZF];simp [k26]
  refine ⟨[], fun B => ?_, fun h => by rw [hf] at h;cases h⟩
  refine Qa Tryz.func53 rfl Tryz.ntmps53 rfl (t := [(0, .agg [.i k, .i n, .i m, QR ks])]) rfl fun E hE => ?_
  (repeat' first|(refine Qe ?_;(first|refine QG rfl ?_|refine QJ rfl ?_|refine Qb rfl rfl rfl ?_|refine ZN rfl rfl ?_|refine WO rfl rfl ?_|refine Qd rfl rfl ?_|refine QU rfl rfl (fun _ _ => ?_)))|(refine Qk ?_;(first|refine Qi ?_|refine QN rfl ?_|refine W2 rfl rfl rfl rfl ?_|refine We rfl rfl (by omega) ?_))|(refine Qj ?_;(first|refine Qn ?_|refine Qc ?_|refine Qh rfl ?_|refine Qs ?_)))
  all_goals exact e_2 (Tryz.results53) (Qg rfl) (Qg rfl) (ZB (fun L v h => ZH (fun v hv => Zm (es := 1) hv) h) (Qw (by rw [hf];rfl)))
 subst k26
 by_cases hm : m = 0
 case neg =>
  have hf : ZF (.mk 26 n m ks) = false := by rw [ZF];simp [ZQ, hm]
  refine ⟨[], fun B => ?_, fun h => by rw [hf] at h;cases h⟩
  refine Qa Tryz.func53 rfl Tryz.ntmps53 rfl (t := [(0, .agg [.i 26, .i n, .i m, QR ks])]) rfl fun E hE => ?_
  (repeat' first|(refine Qe ?_;(first|refine QG rfl ?_|refine QJ rfl ?_|refine Qb rfl rfl rfl ?_|refine ZN rfl rfl ?_|(refine Q4 ?_;(first|refine WO rfl rfl ?_|refine Wr rfl rfl ?_))|refine Qd rfl rfl ?_|refine QU rfl rfl (fun _ _ => ?_)))|(refine Qk ?_;(first|refine Qi ?_|refine QN rfl ?_|refine WD rfl rfl rfl rfl ?_|refine W2 rfl rfl rfl rfl ?_|refine We rfl rfl (by omega) ?_))|(refine Qj ?_;(first|refine Qn ?_|refine Qc ?_|refine Qh rfl ?_|refine Qs ?_)))
  all_goals exact e_2 (Tryz.results53) (Qg rfl) (Qg rfl) (ZB (fun L v h => ZH (fun v hv => Zm (es := 1) hv) h) (Qw (by rw [hf];rfl)))
 subst hm
 by_cases hs : WT n = true
 case neg =>
  have hs2 : WT n = false := by rw [<- Bool.not_eq_true];exact hs
  have hf : ZF (.mk 26 n 0 ks) = false := by rw [ZF];simp [hs2]
  rw [hs2] at hsm
  refine ⟨[], fun B => ?_, fun h => by rw [hf] at h;cases h⟩
  refine Qa Tryz.func53 rfl Tryz.ntmps53 rfl (t := [(0, .agg [.i 26, .i n, .i 0, QR ks])]) rfl fun E hE => ?_
  (repeat' first|(refine Qe ?_;(first|refine QG rfl ?_|refine QJ rfl ?_|refine Qb rfl rfl rfl ?_|refine ZN rfl rfl ?_|refine QZ rfl rfl (hsm) ?_|(refine Q4 ?_;(first|refine WO rfl rfl ?_|refine Wr rfl rfl ?_))|refine Wn rfl ?_|refine Qd rfl rfl ?_|refine QU rfl rfl (fun _ _ => ?_)))|(refine Qk ?_;(first|refine Qi ?_|refine QN rfl ?_|refine WD rfl rfl rfl rfl ?_|refine W2 rfl rfl rfl rfl ?_))|(refine Qj ?_;(first|refine Qn ?_|refine Qc ?_|refine Qh rfl ?_|refine Qs ?_)))
  all_goals exact e_2 (Tryz.results53) (Qg rfl) (Qg rfl) (ZB (fun L v h => ZH (fun v hv => Zm (es := 1) hv) h) (Qw (by rw [hf];rfl)))
 rw [hs] at hsm
 by_cases h0 : (ks.length : Int) = 0
 ·have h00 : ks.length = 0 := by omega
  have hf : ZF (.mk 26 n 0 ks) = false := by rw [ZF];simp [h00]
  refine ⟨[], fun B => ?_, fun h => by rw [hf] at h;cases h⟩
  refine Qa Tryz.func53 rfl Tryz.ntmps53 rfl (t := [(0, .agg [.i 26, .i n, .i 0, QR ks])]) rfl fun E hE => ?_
  (repeat' first|(refine Qe ?_;(first|refine QG rfl ?_|refine QJ rfl ?_|refine Qb rfl rfl rfl ?_|(refine Qo ?_;(first|refine QS rfl rfl ?_|refine ZN rfl rfl ?_))|(refine Qq ?_;(first|refine QZ rfl rfl (hsm) ?_|refine Qt rfl ?_))|refine Wr rfl rfl ?_|refine Wn rfl ?_|refine Qd rfl rfl ?_|refine QU rfl rfl (fun _ _ => ?_)))|(refine Qk ?_;(first|refine Qi ?_|refine QN rfl ?_|refine WD rfl rfl rfl rfl ?_))|(refine Qj ?_;(first|refine Qn ?_|refine Qc ?_|refine Qp rfl (by omega) ?_|refine Qs ?_)))
  all_goals exact e_2 (Tryz.results53) (Qg rfl) (Qg rfl) (ZB (fun L v h => ZH (fun v hv => Zm (es := 1) hv) h) (Qw (by rw [hf];rfl)))
 have hp0 : 0 < ks.length := by omega
 obtain ⟨hn0, hn9⟩ := qQ hs
 have hdig : Go.Av.Pure Tryz.prog G 93 [.i n] (WQ (Lib.itoa n)) := by
  rw [itoa_nat hn0]
  have := qP (G := G) n.toNat (by omega)
  rwa [show ((n.toNat : Nat) : Int) = n by omega] at this
 have hdl := Zb hok.1.2.1
 obtain ⟨c, hc⟩ : ∃ c, c = ks.length - 1 := ⟨_, rfl⟩
 have hcl : c < ks.length := by omega
 have hlast : lastN ks = ks[c] := by
  unfold lastN
  rw [List.getD_eq_getElem?_getD, <- hc, List.getElem?_eq_getElem hcl];rfl
 have hins := (rSt_c (G := G) ks[c] (Wj hok.2 (List.getElem_mem hcl)) (by have := QY (List.getElem_mem hcl);omega)).2
 have hil := inLo_len ks[c] (by have := QY (List.getElem_mem hcl);omega)
 have hio : inLo ks[c] = inLo (lastN ks) := by rw [hlast]
 have hfo : ZF (.mk 26 n 0 ks) = ((ks.take c).all ZJ && inOk ks[c]) := by
  rw [ZF]
  simp [hs, hp0, ZQ]
  rw [<- hc]
  congr 1
  rw [List.getElem?_eq_getElem hcl];rfl
 have hfl : funL (.mk 26 n 0 ks) = (sFun ++ Lib.itoa n ++ sPar ++ WJ ((ks.take c).map qw) ++ sEnd) :: (inL ks[c] ++ [sClose]) := by
  rw [funL, hlast];unfold funHd;rw [<- hc]
 rw [hfo, hfl]
 unfold RiC at hins
 rw [<- ZT] at hins hil
 have hit : ∀ x ∈ ks, ∃ y, Go.Av.Pure Tryz.prog G 54 [.agg (Enc.enc x)] (.tup [WQ y, .b (ZJ x)]) /\ (ZJ x = true -> y = qw x) := fun x hx => rTy_c x (Wj hok.2 hx) (by have := QY hx;omega)
 have hcm := qB qw (M := 30) ks c fun x hx => typT_len x (Wj hok.2 hx)
 have hst := Wm ks c
 have hst2 : qq ((ks.take c).map fun x => Str.mk (qw x)) = (ks.take c).map qw := by unfold qq;rw [List.map_map];rfl
 have hJ : (WJ (qq ((ks.take c).map fun x => Str.mk (qw x)))).length <= 140737488355328 := by rw [hst2];omega
 have hJ2 : (WJ (qq ((ks.take c).map fun x => Str.mk (qw x)))).length <= 30000000 := by rw [hst2];omega
 have hN : ((ks.take c).map fun x => Str.mk (qw x)).length <= 1000000000 := by simp;omega
 refine ⟨if (ks.take c).all ZJ = true then [Str.mk (sFun ++ Lib.itoa n ++ sPar ++ WJ ((ks.take c).map qw) ++ sEnd)] ++ strs (inLo ks[c]) ++ [Str.mk sClose] else [], fun B => ?_, fun h => ?_⟩
 ·clear hio hfo hfl hlast
  refine Qa Tryz.func53 rfl Tryz.ntmps53 rfl (t := [(0, .agg [.i 26, .i n, .i 0, QR ks])]) rfl fun E hE => ?_
  (repeat' first|(refine Qe ?_;(first|refine QG rfl ?_|refine QJ rfl ?_|refine Qb rfl rfl rfl ?_|(refine Qo ?_;(first|refine QS rfl rfl ?_|refine ZN rfl rfl ?_|refine Zz rfl rfl (by omega) ?_))|(refine Qq ?_;(first|refine QZ rfl rfl (hsm) ?_|refine Qt rfl ?_))|refine Wr rfl rfl ?_|refine Wn rfl ?_|refine Qd rfl rfl ?_|refine QU rfl rfl (fun _ _ => ?_)))|(refine Qk ?_;(first|refine Qi ?_|refine QN rfl ?_|refine WD rfl rfl rfl rfl ?_))|(refine Qj ?_;(first|refine Qn ?_|refine Qc ?_|refine Qf ?_|refine Qx ?_|refine Qm rfl (by omega) ?_)))
  rename_i gb hgb
  refine r_own 5 1 rfl fun gO hgO => ?_
  refine r_loopg (fun (i : Nat) g => ⟨[(1, .ptr 0 gb 0), (4, .i c), (5, .ref 1 g 0 ((ks.take i).map fun x => Str.mk (qw x)).length 1), (6, .i i)], [.row gb [.i 26, .i n, .i 0, QR ks], .row g (Ws ((ks.take i).map fun x => Str.mk (qw x)))]⟩) (fun i => i <= c /\ (ks.take i).all ZJ = true) (fun i => c - i) 0 gO hgO ?_ (by simp) ?_
  ·rw [show ((c : Nat) : Int) = (ks.length : Int) - 1 by omega]
   exact zal rfl
  intro i g ⟨hil0, hall⟩ hg
  by_cases hic : i < c
  ·have hil2 : i < ks.length := by omega
   obtain ⟨y, hx, hxe⟩ := hit _ (List.getElem_mem hil2)
   by_cases hk : ZJ ks[i] = true
   ·have hye := hxe hk
    subst hye
    rw [hk] at hx
    have hb2 : ((ks.take (i + 1)).map fun x => Str.mk (qw x)) = ((ks.take i).map fun x => Str.mk (qw x)) ++ [Str.mk (qw ks[i])] := by rw [List.take_succ_eq_append_getElem hil2, List.map_append];rfl
    have hal : ((ks.take i).map fun x => Str.mk (qw x)).length <= 1048576 := by simp;omega
    (repeat' first|(refine Qe ?_;(first|refine QG rfl ?_|refine QJ rfl ?_|(refine Qz ?_;(first|refine QD rfl ?_|refine Qb rfl rfl rfl ?_))|refine Qv rfl rfl (by first|assumption|omega|(simp;done)|(simp;omega)) ?_|(refine Qo ?_;(first|refine Q1 rfl rfl ?_|refine W3 rfl rfl (by omega) ?_))|(refine Qq ?_;(first|refine QZ rfl rfl (hx) ?_|refine ZD (z := Str.mk _) rfl rfl rfl rfl rfl rfl rfl (by first|omega|(simp;omega)) (by first|omega|(simp;omega)) (fun _ => rfl) (fun _ _ => ?_)))|refine Wn rfl ?_|refine Qd rfl rfl ?_|refine QI rfl rfl rfl ?_|refine W1 rfl rfl (by decide) rfl ?_))|(refine Qk ?_;(first|refine Qi ?_|refine QN rfl ?_))|(refine Qj ?_;(first|refine Qn ?_|refine Qc ?_|refine Qf ?_|refine Qx ?_|refine Ql rfl ?_|refine Qp rfl (by omega) ?_)))
    refine ⟨i + 1, _, ⟨by omega, by rw [List.take_succ_eq_append_getElem hil2, List.all_append, hall];simp [hk]⟩, by assumption, by omega, ?_⟩
    rw [hb2]
    exact zal rfl
   ·have hk2 : ZJ ks[i] = false := by rw [<- Bool.not_eq_true];exact hk
    rw [hk2] at hx
    have hna : (ks.take c).all ZJ = false := by
     rw [<- Bool.not_eq_true, List.all_eq_true]
     intro h
     refine hk (h _ ?_)
     exact List.mem_take_iff_getElem.2 ⟨i, by omega, rfl⟩
    (repeat' first|(refine Qe ?_;(first|refine QG rfl ?_|refine QJ rfl ?_|(refine Qz ?_;(first|refine QD rfl ?_|refine Qb rfl rfl rfl ?_))|refine Qv rfl rfl (by first|assumption|omega|(simp;done)|(simp;omega)) ?_|refine Q1 rfl rfl ?_|refine QZ rfl rfl (hx) ?_|refine Wn rfl ?_|refine Qd rfl rfl ?_|refine QI rfl rfl rfl ?_))|(refine Qk ?_;(first|refine Qi ?_|refine QN rfl ?_))|(refine Qj ?_;(first|refine Qn ?_|refine Qc ?_|refine Qf ?_|refine Qx ?_|refine Qh rfl ?_|refine Qp rfl (by omega) ?_|refine Qs ?_)))
    exact e_2 (Tryz.results53) (Qg rfl) (Qg rfl) (ZB (fun L v h => ZH (fun v hv => Zm (es := 1) hv) h) (Qw (by rw [hna];rfl)))
  ·have hie : i = c := by omega
   subst hie
   (repeat' first|(refine Qe ?_;(first|refine QG rfl ?_|refine QJ rfl ?_|(refine Qz ?_;(first|refine QD rfl ?_|refine Qb rfl rfl rfl ?_))|refine Qv rfl rfl (by first|assumption|omega|(simp;done)|(simp;omega)) ?_|(refine Qo ?_;(first|refine Q1 rfl rfl ?_|refine qD rfl rfl ?_))|(refine Qq ?_;(first|refine s_call_vo rfl rfl (.same (.ref rfl (by rw [QX];rfl) (QO _) (.same .nil))) (lines_own _ _ _ (by omega)) (encs_flat_str _) (fun _ _ => ?_)|refine s_call_v rfl rfl (View.ref rfl (by rw [QX];rfl) (QO _) View.nil) (r_list_c _ hJ hN) rfl ?_|refine QZ rfl rfl (hdig) ?_|refine s_call_ot rfl rfl (hins) (by repeat' first|exact Enc.clo _|exact WL|refine Q8 ?_ ?_|exact Wf|exact Wu _|exact WB (QO _)|exact QO _|refine ZG ?_ ?_|refine Zq ?_|refine Wv ?_|refine Wp ?_) (by first|exact QO _) (fun _ _ => ?_)))|refine Qd rfl rfl ?_|refine QI rfl rfl rfl ?_))|(refine Qk ?_;(first|refine Qi ?_|refine QN rfl ?_))|(refine Qj ?_;(first|refine Qn ?_|refine Qc ?_|refine Qm rfl (by omega) ?_|refine WI rfl ?_|refine Qs ?_)))
   exact e_2 (Tryz.results53) (Qg rfl) (Qg rfl) (c_pub_fst rfl (by rw [QX];try rfl) (Qw (by rw [hall, if_pos rfl, hst2, Bool.true_and];rfl)))
 ·simp only [Bool.and_eq_true] at h
  rw [if_pos h.1]
  unfold inLo
  rw [if_pos h.2]
  simp [strs]
end Go.Proofs
end
section
namespace Go.Proofs
open Go.Av
variable {G : Nat -> DV}
attribute [local irreducible] OpSem Zd Zx ZL ACalls qt AClose RV
open Go.Bl
variable {o : List UInt8} {bad : Bool}
theorem fields_ops : Lib.fields [43, 32, 45, 32, 42, 32, 47, 32, 37, 32, 38, 32, 124, 32, 94, 32, 60, 60, 32, 62, 62, 32, 60, 32, 61, 61, 32, 38, 38, 32, 124, 124] = opTexts := by decide +kernel
theorem ops_own (hG1 : G 1 = spaceT) : Own Tryz.prog G 89 [] 14 1 (Ws (opTexts.map Str.mk)) := fun B => by
 refine Qa Tryz.func89 rfl Tryz.ntmps89 rfl (t := []) rfl fun E hE => ?_
 (repeat' first|(refine Qe ?_;(first|refine QJ rfl ?_|refine s_call_o rfl rfl (fields_own hG1 [43, 32, 45, 32, 42, 32, 47, 32, 37, 32, 38, 32, 124, 32, 94, 32, 60, 60, 32, 62, 62, 32, 60, 32, 61, 61, 32, 38, 38, 32, 124, 124] (by decide) (by decide)) (by first|exact QO _) (fun _ _ => ?_)))|(refine Qk ?_;(first|refine Qi ?_|refine QN rfl ?_))|(refine Qj ?_;(first|refine Qn ?_|refine Qc ?_|refine Qs ?_)))
 exact e_1 (Tryz.results89) (Qg rfl) (c_ownedB hE rfl (by rw [fields_ops];rfl) (by rw [fields_ops]) rfl)
theorem ops_c (hG1 : G 1 = spaceT) : Go.Av.Pure Tryz.prog G 89 [] (QR (opTexts.map Str.mk)) := (ops_own hG1).pure (by rw [QX];rfl)
theorem opAt {n : Int} (h0 : 0 <= n) (h1 : n < 14) (h : n.toNat < (opTexts.map Str.mk).length) : ((opTexts.map Str.mk)[n.toNat]).l = opTexts.getD n.toNat [] := by
 rw [List.getElem_map, List.getD_eq_getElem?_getD, List.getElem?_eq_getElem (by simpa using h)];rfl
theorem expr_c (hG : G 6 = pow10T) (hG1 : G 1 = spaceT) (t : Nd) : okN t -> Qu t <= 1000000 -> ∀ bad, PE Tryz.prog G 48 (fun p g => [.ptr p g 0, .agg (Enc.enc t)]) o bad (WQ (exT t)) (bad || !Zn t) := by
 induction t using Nd.ind with
 | h k n m ks ih =>
 intro hok hsz bad g0 g1 B h0 h1
 rw [okN] at hok
 rw [Qu] at hsz
 have hops := ops_c (G := G) hG1
 have hl1 := WC ks
 have hl : ks.length <= 1048576 := by omega
 have hn : -9223372036854775808 <= n /\ n <= 9223372036854775807 := hok.1.2.1
 have hm : -9223372036854775808 <= m /\ m <= 9223372036854775807 := hok.1.2.2
 have hnl := Zb hok.1.2.1
 have hml := Zb hok.1.2.2
 have hol := opTexts_len n.toNat
 have hcl := ZR exT ks fun x hx => qY x (Wj hok.2 hx)
 have hlist : ∀ b, PE Tryz.prog G 84 (fun p g => [QR ks, .fn (.func 48) [.ptr p g 0] []]) o b (WQ (WJ (ks.map exT))) (b || !ks.all Zn) := fun b => list_c _ exT Zn ks b (fun x hx b => ih x hx (Wj hok.2 hx) (by have := QY hx;omega) b) hl (by omega)
 have hx : ∀ x ∈ ks, ∀ b, PE Tryz.prog G 48 (fun p g => [.ptr p g 0, .agg (Enc.enc x)]) o b (WQ (exT x)) (b || !Zn x) := fun x hx b => ih x hx (Wj hok.2 hx) (by have := QY hx;omega) b
 have hxl : ∀ x ∈ ks, (exT x).length <= 60000000 := fun x hx => by have := qY x (Wj hok.2 hx);have := QY hx;omega
 clear ih hok
 rw [exT, Zn, qX, WY, QW]
 by_cases k4 : k = 4
 ·subst k4
  by_cases hn0 : n < 0
  ·refine Qa Tryz.func48 rfl Tryz.ntmps48 rfl (t := [(0, .ptr 0 g0 0), (1, .agg [.i _, .i n, .i m, QR ks])]) rfl fun E hE => ?_
   (repeat' first|(refine Qe ?_;(first|refine QG rfl ?_|refine QJ rfl ?_|(refine Qz ?_;(first|refine WF rfl rfl ?_|refine Qb rfl rfl rfl ?_))|(refine Qo ?_;(first|refine Q1 rfl rfl ?_|refine W0 rfl rfl ?_|refine QS rfl rfl ?_))|(refine Qq ?_;(first|refine Zg 0 1 (Zj _) rfl rfl rfl rfl rfl rfl ?_|refine Zg 0 1 (Zl _ _ _ _ _ (by assumption)) rfl rfl rfl rfl rfl rfl ?_|refine QZ rfl rfl (itoa_c hG _ (by assumption)) ?_))|refine Qd rfl rfl ?_|refine QU rfl rfl (fun _ _ => ?_)))|(refine Qk ?_;(first|refine Qi ?_|refine QN rfl ?_))|(refine Qj ?_;(first|refine Qn ?_|refine Qc ?_|refine Qf ?_|refine Qh rfl ?_|refine Qp rfl (by omega) ?_|refine Qs ?_)))
   exact e_1 Tryz.results48 (Qg rfl) (c_pe (by simp [*]) (by simp [*, Bool.or_assoc]))
  ·refine Qa Tryz.func48 rfl Tryz.ntmps48 rfl (t := [(0, .ptr 0 g0 0), (1, .agg [.i _, .i n, .i m, QR ks])]) rfl fun E hE => ?_
   (repeat' first|(refine Qe ?_;(first|refine QG rfl ?_|refine QJ rfl ?_|(refine Qz ?_;(first|refine WF rfl rfl ?_|refine Qb rfl rfl rfl ?_))|(refine Qo ?_;(first|refine Q1 rfl rfl ?_|refine QS rfl rfl ?_))|(refine Qq ?_;(first|refine Zg 0 1 (Zl _ _ _ _ _ (by assumption)) rfl rfl rfl rfl rfl rfl ?_|refine Zg 0 1 (Zu hG _ (by assumption)) rfl rfl rfl rfl rfl rfl ?_))|refine Qd rfl rfl ?_|refine QU rfl rfl (fun _ _ => ?_)))|(refine Qk ?_;(first|refine Qi ?_|refine QN rfl ?_))|(refine Qj ?_;(first|refine Qn ?_|refine Qc ?_|refine Qf ?_|refine Qx ?_|refine Qh rfl ?_|refine Qm rfl (by omega) ?_|refine Qs ?_)))
   exact e_1 Tryz.results48 (Qg rfl) (c_pe (by simp [*]) (by simp [*, Bool.or_assoc]))
 by_cases k5 : k = 5
 ·subst k5
  by_cases hn0 : n = 0
  ·subst hn0
   refine Qa Tryz.func48 rfl Tryz.ntmps48 rfl (t := [(0, .ptr 0 g0 0), (1, .agg [.i _, .i _, .i m, QR ks])]) rfl fun E hE => ?_
   (repeat' first|(refine Qe ?_;(first|refine QG rfl ?_|refine QJ rfl ?_|(refine Qz ?_;(first|refine WF rfl rfl ?_|refine Qb rfl rfl rfl ?_))|refine QS rfl rfl ?_|(refine Qq ?_;(first|refine Zg 0 1 (Zj _) rfl rfl rfl rfl rfl rfl ?_|refine Zg 0 1 (Zl _ _ _ _ _ (by assumption)) rfl rfl rfl rfl rfl rfl ?_|refine QZ rfl rfl (formatBool_c _) ?_))|refine WO rfl rfl ?_|refine Qd rfl rfl ?_|refine QU rfl rfl (fun _ _ => ?_)))|(refine Qk ?_;(first|refine Qi ?_|refine QN rfl ?_|refine W2 rfl rfl rfl rfl ?_))|(refine Qj ?_;(first|refine Qn ?_|refine Qc ?_|refine Qf ?_|refine Qh rfl ?_|refine Ql rfl ?_|refine Qs ?_)))
   exact e_1 Tryz.results48 (Qg rfl) (c_pe (by simp [*]) (by simp [*, Bool.or_assoc]))
  ·refine Qa Tryz.func48 rfl Tryz.ntmps48 rfl (t := [(0, .ptr 0 g0 0), (1, .agg [.i _, .i n, .i m, QR ks])]) rfl fun E hE => ?_
   (repeat' first|(refine Qe ?_;(first|refine QG rfl ?_|refine QJ rfl ?_|(refine Qz ?_;(first|refine WF rfl rfl ?_|refine Qb rfl rfl rfl ?_))|refine QS rfl rfl ?_|(refine Qq ?_;(first|refine Zg 0 1 (Zj _) rfl rfl rfl rfl rfl rfl ?_|refine Zg 0 1 (Zl _ _ _ _ _ (by assumption)) rfl rfl rfl rfl rfl rfl ?_|refine QZ rfl rfl (formatBool_c _) ?_))|refine Wr rfl rfl ?_|refine Qd rfl rfl ?_|refine QU rfl rfl (fun _ _ => ?_)))|(refine Qk ?_;(first|refine Qi ?_|refine QN rfl ?_|refine WD rfl rfl rfl rfl ?_|refine Q6 rfl rfl (by omega) ?_))|(refine Qj ?_;(first|refine Qn ?_|refine Qc ?_|refine Qf ?_|refine Qh rfl ?_|refine Ql rfl ?_|refine Qs ?_)))
   exact e_1 Tryz.results48 (Qg rfl) (c_pe (by simp [*]) (by simp [*, Bool.or_assoc]))
 by_cases k6 : k = 6
 ·subst k6
  refine Qa Tryz.func48 rfl Tryz.ntmps48 rfl (t := [(0, .ptr 0 g0 0), (1, .agg [.i _, .i n, .i m, QR ks])]) rfl fun E hE => ?_
  (repeat' first|(refine Qe ?_;(first|refine QG rfl ?_|refine QJ rfl ?_|(refine Qz ?_;(first|refine WF rfl rfl ?_|refine Qb rfl rfl rfl ?_))|(refine Qo ?_;(first|refine QS rfl rfl ?_|refine qD rfl rfl ?_))|(refine Qq ?_;(first|refine Zg 0 1 (Zl _ _ _ _ _ (by assumption)) rfl rfl rfl rfl rfl rfl ?_|refine Zg 0 1 (Zu hG _ (by assumption)) rfl rfl rfl rfl rfl rfl ?_))|refine Qd rfl rfl ?_|refine QU rfl rfl (fun _ _ => ?_)))|(refine Qk ?_;(first|refine Qi ?_|refine QN rfl ?_))|(refine Qj ?_;(first|refine Qn ?_|refine Qc ?_|refine Qf ?_|refine Qh rfl ?_|refine Ql rfl ?_|refine Qs ?_)))
  exact e_1 Tryz.results48 (Qg rfl) (c_pe (by simp [*]) (by simp [*, Bool.or_assoc]))
 by_cases k7 : k = 7
 ·subst k7
  refine Qa Tryz.func48 rfl Tryz.ntmps48 rfl (t := [(0, .ptr 0 g0 0), (1, .agg [.i _, .i n, .i m, QR ks])]) rfl fun E hE => ?_
  (repeat' first|(refine Qe ?_;(first|refine QG rfl ?_|refine QJ rfl ?_|(refine Qz ?_;(first|refine WF rfl rfl ?_|refine Qb rfl rfl rfl ?_))|refine QS rfl rfl ?_|(refine Qq ?_;(first|refine Zg 0 1 (Zl _ _ _ _ _ (by assumption)) rfl rfl rfl rfl rfl rfl ?_|refine Zg 0 1 (Zu hG _ (by assumption)) rfl rfl rfl rfl rfl rfl ?_|refine Zg 0 1 (hlist _) rfl rfl rfl rfl rfl rfl ?_))|refine Qd rfl rfl ?_|refine QU rfl rfl (fun _ _ => ?_)))|(refine Qk ?_;(first|refine Qi ?_|refine QN rfl ?_))|(refine Qj ?_;(first|refine Qn ?_|refine Qc ?_|refine Qf ?_|(refine Wg ?_;first|(refine QB (pfx3 _ _) 100 [(0, true), (1, true), (2, true), (3, true), (4, true), (9, true), (10, true), (15, true), (16, true), (17, true), (18, true), (19, true), (5, false), (6, true), (7, true), (8, true), (11, true), (12, true), (13, true), (14, true), (20, false), (21, true), (22, true), (23, true)] (by rfl) (by rfl) (by kernel_rfl) (by decide +kernel) (by decide +kernel) ⟨(_, _, _, _), rfl⟩ ?_)|(refine QB (pfx3 _ _) 100 [(0, true), (1, true), (2, true), (6, true), (7, true), (8, true), (3, false), (4, true), (5, true), (9, false), (10, true), (11, true)] (by rfl) (by rfl) (by kernel_rfl) (by decide +kernel) (by decide +kernel) ⟨(_, _, _, _), rfl⟩ ?_)|(refine QB (pfx3 _ _) 100 [(0, true), (1, true), (2, true), (6, true), (7, true), (8, true), (9, true), (3, false), (4, true), (5, true), (10, false), (11, true), (12, true), (13, true)] (by rfl) (by rfl) (by kernel_rfl) (by decide +kernel) (by decide +kernel) ⟨(_, _, _, _), rfl⟩ ?_)|refine Q3 (by rfl) (by kernel_rfl) (by kernel_rfl) ?_|refine Q2 (by kernel_rfl) (by kernel_rfl) ?_)|refine Qh rfl ?_|refine Ql rfl ?_|refine Qs ?_))|(refine Ze ?_;(first|refine Z1 ?_|refine i_st rfl rfl (fun _ => (by (repeat' first|(refine Qe ?_;(first|refine QG rfl ?_|refine QJ rfl ?_|refine Qb rfl rfl rfl ?_|refine qD rfl rfl ?_|refine Qd rfl rfl ?_|refine QV rfl rfl ?_))|exact ⟨rfl, rfl⟩))) ?_|refine i_ef rfl ?_))|refine And.intro (Exists.intro ((_, _, _, _)) rfl) ?_)
  exact e_1 Tryz.results48 (Qg rfl) (c_pe (by simp [*]) (by simp [*, Bool.or_assoc]))
 by_cases k8 : k = 8
 ·subst k8
  refine Qa Tryz.func48 rfl Tryz.ntmps48 rfl (t := [(0, .ptr 0 g0 0), (1, .agg [.i _, .i n, .i m, QR ks])]) rfl fun E hE => ?_
  (repeat' first|(refine Qe ?_;(first|refine QG rfl ?_|refine QJ rfl ?_|refine Qb rfl rfl rfl ?_|refine QS rfl rfl ?_|(refine Qq ?_;(first|refine Qt rfl ?_|refine Zg 0 1 (Zj _) rfl rfl rfl rfl rfl rfl ?_|refine Zg 0 1 (Zu hG _ (by assumption)) rfl rfl rfl rfl rfl rfl ?_))|refine Qd rfl rfl ?_|refine QU rfl rfl (fun _ _ => ?_)))|(refine Qk ?_;(first|refine Qi ?_|refine QN rfl ?_))|(refine Qj ?_;(first|refine Qn ?_|refine Qc ?_|refine Qf ?_|(refine Wg ?_;first|(refine QB (pfx3 _ _) 100 [(0, true), (1, true), (2, true), (3, true), (4, true), (9, true), (10, true), (15, true), (16, true), (17, true), (18, true), (19, true), (5, false), (6, true), (7, true), (8, true), (11, true), (12, true), (13, true), (14, true), (20, false), (21, true), (22, true), (23, true)] (by rfl) (by rfl) (by kernel_rfl) (by decide +kernel) (by decide +kernel) ⟨(_, _, _, _), rfl⟩ ?_)|(refine QB (pfx3 _ _) 100 [(0, true), (1, true), (2, true), (6, true), (7, true), (8, true), (3, false), (4, true), (5, true), (9, false), (10, true), (11, true)] (by rfl) (by rfl) (by kernel_rfl) (by decide +kernel) (by decide +kernel) ⟨(_, _, _, _), rfl⟩ ?_)|(refine QB (pfx3 _ _) 100 [(0, true), (1, true), (2, true), (6, true), (7, true), (8, true), (9, true), (3, false), (4, true), (5, true), (10, false), (11, true), (12, true), (13, true)] (by rfl) (by rfl) (by kernel_rfl) (by decide +kernel) (by decide +kernel) ⟨(_, _, _, _), rfl⟩ ?_)|refine Q3 (by rfl) (by kernel_rfl) (by kernel_rfl) ?_|refine Q2 (by kernel_rfl) (by kernel_rfl) ?_)|refine Qh rfl ?_|refine Ql rfl ?_|refine Qs ?_))|(refine Ze ?_;(first|refine Z1 ?_|refine i_st rfl rfl (fun _ => (by (repeat' first|(refine Qe ?_;(first|refine QG rfl ?_|refine QJ rfl ?_|refine Qb rfl rfl rfl ?_|refine qD rfl rfl ?_|refine Qd rfl rfl ?_))|exact ⟨rfl, rfl⟩))) ?_|refine i_ef rfl ?_))|refine And.intro (Exists.intro ((_, _, _, _)) rfl) ?_)
  exact e_1 Tryz.results48 (Qg rfl) (c_pe (by simp [*]) (by simp [*, Bool.or_assoc]))
 by_cases k9 : k = 9
 ·subst k9
  by_cases hp : Q0 m ks.length 2 = true
  ·have hpl : ∀ b, PE Tryz.prog G 42 (fun p g => [.ptr p g 0, .agg [.i 9, .i n, .i m, QR ks], .i 2]) o b (.b true) b := fun b => (Zl 9 n m ks 2 hl).conv (by rw [hp]) (by rw [hp];simp)
   by_cases hnb : 0 <= n /\ n < 14
   ·obtain ⟨hn0, hn1⟩ := hnb
    have h2 : ks.length = 2 := by simp [Q0] at hp;omega
    match ks, h2 with
    | [a, b], _ =>
     have ha := hx a (by simp)
     have hb := hx b (by simp)
     have hal := hxl a (by simp)
     have hbl := hxl b (by simp)
     have hlt : n.toNat < (opTexts.map Str.mk).length := by show n.toNat < 14;omega
     have hoa := opAt hn0 hn1 hlt
     have hol' : ((opTexts.map Str.mk)[n.toNat]).l.length <= 2 := by rw [hoa];exact hol
     clear hx hxl hlist hcl
     refine Qa Tryz.func48 rfl Tryz.ntmps48 rfl (t := [(0, .ptr 0 g0 0), (1, .agg [.i _, .i n, .i m, QR [a, b]])]) rfl fun E hE => ?_
     (repeat' first|(refine Qe ?_;(first|refine QG rfl ?_|refine QJ rfl ?_|(refine Qz ?_;(first|refine WF rfl rfl ?_|refine Qb rfl rfl rfl ?_))|(refine Qo ?_;(first|refine Q1 rfl rfl ?_|refine W0 rfl rfl ?_|refine QS rfl rfl ?_))|(refine Qq ?_;(first|refine Zg 0 1 (Zj _) rfl rfl rfl rfl rfl rfl ?_|refine Zg 0 1 (hpl _) rfl rfl rfl rfl rfl rfl ?_|refine Zg 0 1 (ha _) rfl rfl rfl rfl rfl rfl ?_|refine Zg 0 1 (hb _) rfl rfl rfl rfl rfl rfl ?_))|(refine Q4 ?_;(first|refine WO rfl rfl ?_|refine Wr rfl rfl ?_))|(refine g_unOp ?_;(first|refine s_not_d rfl ?_|refine Wn rfl ?_))|refine Qd rfl rfl ?_|refine QU rfl rfl (fun _ _ => ?_)))|(refine Qk ?_;(first|refine Qi ?_|refine QN rfl ?_|refine WD rfl rfl rfl rfl ?_|refine We rfl rfl (by omega) ?_))|(refine Qj ?_;(first|refine Qn ?_|refine Qc ?_|refine Qf ?_|(refine Wg ?_;first|(refine QB (pfx3 _ _) 100 [(0, true), (1, true), (2, true), (3, true), (4, true), (9, true), (10, true), (15, true), (16, true), (17, true), (18, true), (19, true), (5, false), (6, true), (7, true), (8, true), (11, true), (12, true), (13, true), (14, true), (20, false), (21, true), (22, true), (23, true)] (by rfl) (by rfl) (by kernel_rfl) (by decide +kernel) (by decide +kernel) ⟨(_, _, _, _), rfl⟩ ?_)|(refine QB (pfx3 _ _) 100 [(0, true), (1, true), (2, true), (6, true), (7, true), (8, true), (3, false), (4, true), (5, true), (9, false), (10, true), (11, true)] (by rfl) (by rfl) (by kernel_rfl) (by decide +kernel) (by decide +kernel) ⟨(_, _, _, _), rfl⟩ ?_)|(refine QB (pfx3 _ _) 100 [(0, true), (1, true), (2, true), (6, true), (7, true), (8, true), (9, true), (3, false), (4, true), (5, true), (10, false), (11, true), (12, true), (13, true)] (by rfl) (by rfl) (by kernel_rfl) (by decide +kernel) (by decide +kernel) ⟨(_, _, _, _), rfl⟩ ?_)|refine Q3 (by rfl) (by kernel_rfl) (by kernel_rfl) ?_|refine Q2 (by kernel_rfl) (by kernel_rfl) ?_)|refine Qx ?_|refine Qh rfl ?_|refine Ql rfl ?_|refine Qm rfl (by omega) ?_|refine Qs ?_))|(refine Ze ?_;(first|refine Z1 ?_|refine i_st rfl rfl (fun _ => (by (repeat' first|(refine Qe ?_;(first|refine QG rfl ?_|refine QJ rfl ?_|(refine Qz ?_;(first|refine QM rfl ?_|refine QD rfl ?_|refine Qb rfl rfl rfl ?_))|(refine W6 ?_;(first|refine Qv rfl rfl (by first|assumption|omega|(simp;done)|(simp;omega)) ?_|refine qh rfl rfl (by omega) (by first|assumption|omega|(simp;done)|(simp;omega)) ?_))|refine qD rfl rfl ?_|refine QZ rfl rfl (hops) ?_|refine Qd rfl rfl ?_))|exact ⟨rfl, rfl⟩))) ?_|refine i_ef rfl ?_))|refine And.intro (Exists.intro ((_, _, _, _)) rfl) ?_)
     have hp2 : Q0 m 2 2 = true := hp
     refine e_1 Tryz.results48 (Qg rfl) (c_pe ?_ ?_)
     ·rw [hoa];simp [hp2, hn0, hn1]
     ·simp [hp2, hn0, hn1, Bool.or_assoc]
   ·by_cases hn0 : 0 <= n
    ·have h14 : 14 <= n := by omega
     have h15 : ¬ n < 14 := by omega
     refine Qa Tryz.func48 rfl Tryz.ntmps48 rfl (t := [(0, .ptr 0 g0 0), (1, .agg [.i _, .i n, .i m, QR ks])]) rfl fun E hE => ?_
     (repeat' first|(refine Qe ?_;(first|refine QG rfl ?_|refine QJ rfl ?_|(refine Qz ?_;(first|refine WF rfl rfl ?_|refine Qb rfl rfl rfl ?_))|(refine Qo ?_;(first|refine Q1 rfl rfl ?_|refine W0 rfl rfl ?_|refine QS rfl rfl ?_))|(refine Qq ?_;(first|refine Zg 0 1 (Zj _) rfl rfl rfl rfl rfl rfl ?_|refine Zg 0 1 (hpl _) rfl rfl rfl rfl rfl rfl ?_))|(refine Q4 ?_;(first|refine WO rfl rfl ?_|refine Wr rfl rfl ?_))|(refine g_unOp ?_;(first|refine s_not_d rfl ?_|refine Wn rfl ?_))|refine Qd rfl rfl ?_|refine QU rfl rfl (fun _ _ => ?_)))|(refine Qk ?_;(first|refine Qi ?_|refine QN rfl ?_|refine WD rfl rfl rfl rfl ?_|refine We rfl rfl (by omega) ?_))|(refine Qj ?_;(first|refine Qn ?_|refine Qc ?_|refine Qf ?_|refine Qh rfl ?_|refine Ql rfl ?_|refine Qp rfl (by omega) ?_|refine Qs ?_)))
     exact e_1 Tryz.results48 (Qg rfl) (c_pe (by simp [*]) (by simp [*, Bool.or_assoc]))
    ·refine Qa Tryz.func48 rfl Tryz.ntmps48 rfl (t := [(0, .ptr 0 g0 0), (1, .agg [.i _, .i n, .i m, QR ks])]) rfl fun E hE => ?_
     (repeat' first|(refine Qe ?_;(first|refine QG rfl ?_|refine QJ rfl ?_|(refine Qz ?_;(first|refine WF rfl rfl ?_|refine Qb rfl rfl rfl ?_))|(refine Qo ?_;(first|refine W0 rfl rfl ?_|refine QS rfl rfl ?_))|(refine Qq ?_;(first|refine Zg 0 1 (Zj _) rfl rfl rfl rfl rfl rfl ?_|refine Zg 0 1 (hpl _) rfl rfl rfl rfl rfl rfl ?_))|refine Wr rfl rfl ?_|refine Wn rfl ?_|refine Qd rfl rfl ?_|refine QU rfl rfl (fun _ _ => ?_)))|(refine Qk ?_;(first|refine Qi ?_|refine QN rfl ?_|refine WD rfl rfl rfl rfl ?_|refine W2 rfl rfl rfl rfl ?_|refine Q6 rfl rfl (by omega) ?_))|(refine Qj ?_;(first|refine Qn ?_|refine Qc ?_|refine Qf ?_|refine Qh rfl ?_|refine Ql rfl ?_|refine Qs ?_)))
     exact e_1 Tryz.results48 (Qg rfl) (c_pe (by simp [*]) (by simp [*, Bool.or_assoc]))
  ·have hpl : ∀ b, PE Tryz.prog G 42 (fun p g => [.ptr p g 0, .agg [.i 9, .i n, .i m, QR ks], .i 2]) o b (.b false) true := fun b => (Zl 9 n m ks 2 hl).conv (by rw [Bool.not_eq_true] at hp;rw [hp]) (by rw [Bool.not_eq_true] at hp;rw [hp];simp)
   refine Qa Tryz.func48 rfl Tryz.ntmps48 rfl (t := [(0, .ptr 0 g0 0), (1, .agg [.i _, .i n, .i m, QR ks])]) rfl fun E hE => ?_
   (repeat' first|(refine Qe ?_;(first|refine QG rfl ?_|refine QJ rfl ?_|(refine Qz ?_;(first|refine WF rfl rfl ?_|refine Qb rfl rfl rfl ?_))|refine QS rfl rfl ?_|refine Zg 0 1 (hpl _) rfl rfl rfl rfl rfl rfl ?_|refine WO rfl rfl ?_|refine Wn rfl ?_|refine Qd rfl rfl ?_|refine QU rfl rfl (fun _ _ => ?_)))|(refine Qk ?_;(first|refine Qi ?_|refine QN rfl ?_|refine W2 rfl rfl rfl rfl ?_|refine o_gu rfl rfl rfl rfl rfl ?_))|(refine Qj ?_;(first|refine Qn ?_|refine Qc ?_|refine Qf ?_|refine Qh rfl ?_|refine Ql rfl ?_|refine Qs ?_)))
   exact e_1 Tryz.results48 (Qg rfl) (c_pe (by simp [*]) (by simp [*, Bool.or_assoc]))
 by_cases k10 : k = 10
 ·subst k10
  refine Qa Tryz.func48 rfl Tryz.ntmps48 rfl (t := [(0, .ptr 0 g0 0), (1, .agg [.i _, .i n, .i m, QR ks])]) rfl fun E hE => ?_
  (repeat' first|(refine Qe ?_;(first|refine QG rfl ?_|refine QJ rfl ?_|(refine Qz ?_;(first|refine WF rfl rfl ?_|refine Qb rfl rfl rfl ?_))|(refine Qo ?_;(first|refine QS rfl rfl ?_|refine qD rfl rfl ?_))|(refine Qq ?_;(first|refine Zg 0 1 (qH _ _ _ _ _ (by assumption)) rfl rfl rfl rfl rfl rfl ?_|refine Zg 0 1 (hlist _) rfl rfl rfl rfl rfl rfl ?_))|refine Qd rfl rfl ?_|refine QV rfl rfl ?_|refine QU rfl rfl (fun _ _ => ?_)))|(refine Qk ?_;(first|refine Qi ?_|refine QN rfl ?_))|(refine Qj ?_;(first|refine Qn ?_|refine Qc ?_|refine Qf ?_|refine Qh rfl ?_|refine Ql rfl ?_|refine Qs ?_)))
  exact e_1 Tryz.results48 (Qg rfl) (c_pe (by simp [*]) (by simp [*, Bool.or_assoc]))
 by_cases k11 : k = 11
 ·subst k11
  refine Qa Tryz.func48 rfl Tryz.ntmps48 rfl (t := [(0, .ptr 0 g0 0), (1, .agg [.i _, .i n, .i m, QR ks])]) rfl fun E hE => ?_
  (repeat' first|(refine Qe ?_;(first|refine QG rfl ?_|refine QJ rfl ?_|(refine Qz ?_;(first|refine WF rfl rfl ?_|refine Qb rfl rfl rfl ?_))|refine QS rfl rfl ?_|(refine Qq ?_;(first|refine Zg 0 1 (Zl _ _ _ _ _ (by assumption)) rfl rfl rfl rfl rfl rfl ?_|refine Zg 0 1 (Zu hG _ (by assumption)) rfl rfl rfl rfl rfl rfl ?_|refine Zg 0 1 (hlist _) rfl rfl rfl rfl rfl rfl ?_))|refine Qd rfl rfl ?_|refine QU rfl rfl (fun _ _ => ?_)))|(refine Qk ?_;(first|refine Qi ?_|refine QN rfl ?_))|(refine Qj ?_;(first|refine Qn ?_|refine Qc ?_|refine Qf ?_|(refine Wg ?_;first|(refine QB (pfx3 _ _) 100 [(0, true), (1, true), (2, true), (3, true), (4, true), (9, true), (10, true), (15, true), (16, true), (17, true), (18, true), (19, true), (5, false), (6, true), (7, true), (8, true), (11, true), (12, true), (13, true), (14, true), (20, false), (21, true), (22, true), (23, true)] (by rfl) (by rfl) (by kernel_rfl) (by decide +kernel) (by decide +kernel) ⟨(_, _, _, _), rfl⟩ ?_)|(refine QB (pfx3 _ _) 100 [(0, true), (1, true), (2, true), (6, true), (7, true), (8, true), (3, false), (4, true), (5, true), (9, false), (10, true), (11, true)] (by rfl) (by rfl) (by kernel_rfl) (by decide +kernel) (by decide +kernel) ⟨(_, _, _, _), rfl⟩ ?_)|(refine QB (pfx3 _ _) 100 [(0, true), (1, true), (2, true), (6, true), (7, true), (8, true), (9, true), (3, false), (4, true), (5, true), (10, false), (11, true), (12, true), (13, true)] (by rfl) (by rfl) (by kernel_rfl) (by decide +kernel) (by decide +kernel) ⟨(_, _, _, _), rfl⟩ ?_)|refine Q3 (by rfl) (by kernel_rfl) (by kernel_rfl) ?_|refine Q2 (by kernel_rfl) (by kernel_rfl) ?_)|refine Qh rfl ?_|refine Ql rfl ?_|refine Qs ?_))|(refine Ze ?_;(first|refine Z1 ?_|refine i_st rfl rfl (fun _ => (by (repeat' first|(refine Qe ?_;(first|refine QG rfl ?_|refine QJ rfl ?_|refine Qb rfl rfl rfl ?_|refine qD rfl rfl ?_|refine Qd rfl rfl ?_|refine QV rfl rfl ?_))|exact ⟨rfl, rfl⟩))) ?_|refine i_ef rfl ?_))|refine And.intro (Exists.intro ((_, _, _, _)) rfl) ?_)
  exact e_1 Tryz.results48 (Qg rfl) (c_pe (by simp [*]) (by simp [*, Bool.or_assoc]))
 by_cases k12 : k = 12
 ·subst k12
  refine Qa Tryz.func48 rfl Tryz.ntmps48 rfl (t := [(0, .ptr 0 g0 0), (1, .agg [.i _, .i n, .i m, QR ks])]) rfl fun E hE => ?_
  (repeat' first|(refine Qe ?_;(first|refine QG rfl ?_|refine QJ rfl ?_|(refine Qz ?_;(first|refine WF rfl rfl ?_|refine Qb rfl rfl rfl ?_))|(refine Qo ?_;(first|refine QS rfl rfl ?_|refine qD rfl rfl ?_))|(refine Qq ?_;(first|refine Zg 0 1 (Zl _ _ _ _ _ (by assumption)) rfl rfl rfl rfl rfl rfl ?_|refine Zg 0 1 (Zu hG _ (by assumption)) rfl rfl rfl rfl rfl rfl ?_))|refine Qd rfl rfl ?_|refine QU rfl rfl (fun _ _ => ?_)))|(refine Qk ?_;(first|refine Qi ?_|refine QN rfl ?_))|(refine Qj ?_;(first|refine Qn ?_|refine Qc ?_|refine Qf ?_|refine Qh rfl ?_|refine Ql rfl ?_|refine Qs ?_)))
  exact e_1 Tryz.results48 (Qg rfl) (c_pe (by simp [*]) (by simp [*, Bool.or_assoc]))
 ·refine Qa Tryz.func48 rfl Tryz.ntmps48 rfl (t := [(0, .ptr 0 g0 0), (1, .agg [.i k, .i n, .i m, QR ks])]) rfl fun E hE => ?_
  (repeat' first|(refine Qe ?_;(first|refine QG rfl ?_|refine QJ rfl ?_|refine Qb rfl rfl rfl ?_|refine QS rfl rfl ?_|refine Zg 0 1 (Zj _) rfl rfl rfl rfl rfl rfl ?_|refine Qd rfl rfl ?_|refine QU rfl rfl (fun _ _ => ?_)))|(refine Qk ?_;(first|refine Qi ?_|refine QN rfl ?_))|(refine Qj ?_;(first|refine Qn ?_|refine Qc ?_|refine Qf ?_|refine Qx ?_|refine Qm rfl (by omega) ?_|refine Qs ?_)))
  exact e_1 Tryz.results48 (Qg rfl) (c_pe (by simp [*]) (by simp [*, Bool.or_assoc]))
end Go.Proofs
end
section
namespace Go.Proofs
open Go.Av
variable {G : Nat -> DV}
attribute [local irreducible] OpSem Zd Zx ZL ACalls qt AClose RV
open Go.Bl
variable {o : List UInt8}
theorem simple1_c {k n m : Int} {ks : List Nd} (b : Bool) (g0 g1 gp gn : Nat) {B : Nat} (hlist : ∀ b, PE Tryz.prog G 84 (fun p g => [QR ks, .fn (.func 48) [.ptr p g 0] []]) o b (WQ (WJ (ks.map exT))) (b || !ks.all Zn)) : 
  ACalls Tryz.prog G B 138 [.ptr 3 gn 0, .ptr 2 gp 0] [pRow 0 1 g0 g1 o.length b, .row g1 (Ws o), .row gp [.ptr 0 g0 0], .row gn [.i k, .i n, .i m, QR ks]]
   (fun d τ => d = WQ (WJ (ks.map exT)) /\ τ = [pRow 0 1 g0 g1 o.length (b || !ks.all Zn), .row g1 (Ws o), .row gp [.ptr 0 g0 0], .row gn [.i k, .i n, .i m, QR ks]]) := by
 refine Qa Tryz.func138 rfl Tryz.ntmps138 rfl (t := [(0, .ptr 3 gn 0), (1, .ptr 2 gp 0)]) rfl fun E hE => ?_
 (repeat' first|(refine Qe ?_;(first|refine QJ rfl ?_|refine Qb rfl rfl rfl ?_|refine Zg 0 1 (hlist _) rfl rfl rfl rfl rfl rfl ?_|refine Qd rfl rfl ?_|refine QV rfl rfl ?_))|(refine Qk ?_;(first|refine Qi ?_|refine QN rfl ?_))|(refine Qj ?_;(first|refine Qn ?_|refine Qc ?_|refine Qs ?_)))
 exact e_1 (Tryz.results138) (Qg rfl) (c_same ⟨rfl, rfl⟩)
theorem simple_c (hG : G 6 = pow10T) (hG1 : G 1 = spaceT) (t : Nd) (hok : okN t) (hsz : Qu t <= 1000000) (bad : Bool) : PE Tryz.prog G 91 (fun p g => [.ptr p g 0, .agg (Enc.enc t)]) o bad (WQ (simT t)) (bad || !Zt t) := fun g0 g1 B h0 h1 => by
 obtain ⟨k, n, m, ks⟩ := t
 rw [okN] at hok
 rw [Qu] at hsz
 have hl1 := WC ks
 have hl : ks.length <= 1048576 := by omega
 have hn : -9223372036854775808 <= n /\ n <= 9223372036854775807 := hok.1.2.1
 have hm : -9223372036854775808 <= m /\ m <= 9223372036854775807 := hok.1.2.2
 have hnl := Zb hok.1.2.1
 have hml := Zb hok.1.2.2
 have hcl := ZR exT ks (exs_len hok.2)
 have hlist : ∀ b, PE Tryz.prog G 84 (fun p g => [QR ks, .fn (.func 48) [.ptr p g 0] []]) o b (WQ (WJ (ks.map exT))) (b || !ks.all Zn) := fun b => list_c _ exT Zn ks b (fun x hx b => expr_c hG hG1 x (Wj hok.2 hx) (by have := QY hx;omega) b) hl (by omega)
 have hx : ∀ x ∈ ks, ∀ b, PE Tryz.prog G 48 (fun p g => [.ptr p g 0, .agg (Enc.enc x)]) o b (WQ (exT x)) (b || !Zn x) := fun x hx b => expr_c hG hG1 x (Wj hok.2 hx) (by have := QY hx;omega) b
 have hxl : ∀ x ∈ ks, (exT x).length <= 60000000 := fun x hx => by have := qY x (Wj hok.2 hx);have := QY hx;omega
 clear hok
 rw [simT, Zt]
 rw [QW]
 by_cases k14 : k = 14
 ·subst k14
  by_cases hp : Q0 m ks.length 1 = true
  ·have hpl : ∀ b, PE Tryz.prog G 42 (fun p g => [.ptr p g 0, .agg [.i 14, .i n, .i m, QR ks], .i 1]) o b (.b true) b := fun b => (Zl 14 n m ks 1 hl).conv (by rw [hp]) (by rw [hp];simp)
   refine Qa Tryz.func91 rfl Tryz.ntmps91 rfl (t := [(0, .ptr 0 g0 0), (1, .agg [.i _, .i n, .i m, QR ks])]) rfl fun E hE => ?_
   (repeat' first|(refine Qe ?_;(first|refine QG rfl ?_|refine QJ rfl ?_|(refine Qz ?_;(first|refine WF rfl rfl ?_|refine Qb rfl rfl rfl ?_))|(refine Qo ?_;(first|refine QS rfl rfl ?_|refine qD rfl rfl ?_))|(refine Qq ?_;(first|refine qv rfl rfl (simple1_c _ g0 g1 _ _ hlist) ?_|refine Zg 0 1 (hpl _) rfl rfl rfl rfl rfl rfl ?_|refine Zg 0 1 (Zu hG _ (by assumption)) rfl rfl rfl rfl rfl rfl ?_))|refine WO rfl rfl ?_|refine Qd rfl rfl ?_|refine QV rfl rfl ?_|refine QU rfl rfl (fun _ _ => ?_)))|(refine Qk ?_;(first|refine Qi ?_|refine QN rfl ?_|refine WD rfl rfl rfl rfl ?_))|(refine Qj ?_;(first|refine Qn ?_|refine Qc ?_|refine Qf ?_|refine Qh rfl ?_|refine Qs ?_)))
   exact e_1 Tryz.results91 (Qg rfl) (c_pe (by simp [*]) (by simp [*, Bool.or_assoc]))
  ·have hp : Q0 m ks.length 1 = false := by rw [<- Bool.not_eq_true];exact hp
   have hpl : ∀ b, PE Tryz.prog G 42 (fun p g => [.ptr p g 0, .agg [.i 14, .i n, .i m, QR ks], .i 1]) o b (.b false) true := fun b => (Zl 14 n m ks 1 hl).conv (by rw [hp]) (by rw [hp];simp)
   refine Qa Tryz.func91 rfl Tryz.ntmps91 rfl (t := [(0, .ptr 0 g0 0), (1, .agg [.i _, .i n, .i m, QR ks])]) rfl fun E hE => ?_
   (repeat' first|(refine Qe ?_;(first|refine QG rfl ?_|refine QJ rfl ?_|(refine Qz ?_;(first|refine WF rfl rfl ?_|refine Qb rfl rfl rfl ?_))|refine QS rfl rfl ?_|(refine Qq ?_;(first|refine Zg 0 1 (Zj _) rfl rfl rfl rfl rfl rfl ?_|refine Zg 0 1 (hpl _) rfl rfl rfl rfl rfl rfl ?_))|(refine Q4 ?_;(first|refine WO rfl rfl ?_|refine Wr rfl rfl ?_))|refine Qd rfl rfl ?_|refine QV rfl rfl ?_|refine QU rfl rfl (fun _ _ => ?_)))|(refine Qk ?_;(first|refine Qi ?_|refine QN rfl ?_|refine WD rfl rfl rfl rfl ?_|refine W2 rfl rfl rfl rfl ?_))|(refine Qj ?_;(first|refine Qn ?_|refine Qc ?_|refine Qf ?_|refine Qx ?_|refine Ql rfl ?_|refine Qs ?_)))
   exact e_1 Tryz.results91 (Qg rfl) (c_pe (by simp [*]) (by simp [*, Bool.or_assoc]))
 by_cases k15 : k = 15
 ·subst k15
  by_cases hp : Q0 m ks.length 2 = true
  ·have hpl : ∀ b, PE Tryz.prog G 42 (fun p g => [.ptr p g 0, .agg [.i 15, .i n, .i m, QR ks], .i 2]) o b (.b true) b := fun b => (Zl 15 n m ks 2 hl).conv (by rw [hp]) (by rw [hp];simp)
   have h2 : ks.length = 2 := by simp [Q0] at hp;omega
   match ks, h2 with
   | [a, b], _ =>
    have ha := hx a (by simp)
    have hb := hx b (by simp)
    have hal := hxl a (by simp)
    have hbl := hxl b (by simp)
    clear hx hxl hlist hcl
    refine Qa Tryz.func91 rfl Tryz.ntmps91 rfl (t := [(0, .ptr 0 g0 0), (1, .agg [.i _, .i n, .i m, QR [a, b]])]) rfl fun E hE => ?_
    (repeat' first|(refine Qe ?_;(first|refine QG rfl ?_|refine QJ rfl ?_|(refine Qz ?_;(first|refine WF rfl rfl ?_|refine Qb rfl rfl rfl ?_))|refine QS rfl rfl ?_|(refine Qq ?_;(first|refine Zg 0 1 (hpl _) rfl rfl rfl rfl rfl rfl ?_|refine Zg 0 1 (Zu hG _ (by assumption)) rfl rfl rfl rfl rfl rfl ?_|refine Zg 0 1 (ha _) rfl rfl rfl rfl rfl rfl ?_|refine Zg 0 1 (hb _) rfl rfl rfl rfl rfl rfl ?_))|(refine Q4 ?_;(first|refine WO rfl rfl ?_|refine Wr rfl rfl ?_))|refine Qd rfl rfl ?_|refine QV rfl rfl ?_|refine QU rfl rfl (fun _ _ => ?_)))|(refine Qk ?_;(first|refine Qi ?_|refine QN rfl ?_|refine WD rfl rfl rfl rfl ?_|refine W2 rfl rfl rfl rfl ?_))|(refine Qj ?_;(first|refine Qn ?_|refine Qc ?_|refine Qf ?_|(refine Wg ?_;first|(refine QB (pfx3 _ _) 100 [(0, true), (1, true), (2, true), (6, true), (7, true), (8, true), (12, true), (3, false), (4, true), (5, true), (9, false), (10, true), (11, true), (13, false), (14, true), (15, true)] (by rfl) (by rfl) (by kernel_rfl) (by decide +kernel) (by decide +kernel) ⟨(_, _, _, _), rfl⟩ ?_)|(refine QB (pfx3 _ _) 100 [(0, true), (1, true), (2, true), (6, true), (7, true), (8, true), (9, true), (10, true), (14, true), (15, true), (16, true), (17, true), (18, true), (3, false), (4, true), (5, true), (11, false), (12, true), (13, true), (19, false), (20, true), (21, true)] (by rfl) (by rfl) (by kernel_rfl) (by decide +kernel) (by decide +kernel) ⟨(_, _, _, _), rfl⟩ ?_)|refine Q3 (by rfl) (by kernel_rfl) (by kernel_rfl) ?_|refine Q2 (by kernel_rfl) (by kernel_rfl) ?_)|refine Qh rfl ?_|refine Ql rfl ?_|refine Qs ?_))|(refine Ze ?_;(first|refine Z1 ?_|refine i_st rfl rfl (fun _ => (by (repeat' first|(refine Qe ?_;(first|refine QJ rfl ?_|(refine Qz ?_;(first|refine QD rfl ?_|refine Qb rfl rfl rfl ?_))|refine Qv rfl rfl (by first|assumption|omega|(simp;done)|(simp;omega)) ?_|refine qD rfl rfl ?_|refine Qd rfl rfl ?_))|exact ⟨rfl, rfl⟩))) ?_|refine i_ef rfl ?_))|refine And.intro (Exists.intro ((_, _, _, _)) rfl) ?_)
    have hp2 : Q0 m 2 2 = true := hp
    exact e_1 Tryz.results91 (Qg rfl) (c_pe (by simp [*]) (by simp [*, Bool.or_assoc]))
  ·have hp : Q0 m ks.length 2 = false := by rw [<- Bool.not_eq_true];exact hp
   have hpl : ∀ b, PE Tryz.prog G 42 (fun p g => [.ptr p g 0, .agg [.i 15, .i n, .i m, QR ks], .i 2]) o b (.b false) true := fun b => (Zl 15 n m ks 2 hl).conv (by rw [hp]) (by rw [hp];simp)
   refine Qa Tryz.func91 rfl Tryz.ntmps91 rfl (t := [(0, .ptr 0 g0 0), (1, .agg [.i _, .i n, .i m, QR ks])]) rfl fun E hE => ?_
   (repeat' first|(refine Qe ?_;(first|refine QG rfl ?_|refine QJ rfl ?_|(refine Qz ?_;(first|refine WF rfl rfl ?_|refine Qb rfl rfl rfl ?_))|refine QS rfl rfl ?_|(refine Qq ?_;(first|refine Zg 0 1 (Zj _) rfl rfl rfl rfl rfl rfl ?_|refine Zg 0 1 (hpl _) rfl rfl rfl rfl rfl rfl ?_))|(refine Q4 ?_;(first|refine WO rfl rfl ?_|refine Wr rfl rfl ?_))|refine Qd rfl rfl ?_|refine QV rfl rfl ?_|refine QU rfl rfl (fun _ _ => ?_)))|(refine Qk ?_;(first|refine Qi ?_|refine QN rfl ?_|refine WD rfl rfl rfl rfl ?_|refine W2 rfl rfl rfl rfl ?_))|(refine Qj ?_;(first|refine Qn ?_|refine Qc ?_|refine Qf ?_|refine Qx ?_|refine Ql rfl ?_|refine Qs ?_)))
   exact e_1 Tryz.results91 (Qg rfl) (c_pe (by simp [*]) (by simp [*, Bool.or_assoc]))
 by_cases k19 : k = 19
 ·subst k19
  by_cases hp : Wz n m ks.length 1 = true
  ·have hpl : ∀ b, PE Tryz.prog G 87 (fun p g => [.ptr p g 0, .agg [.i 19, .i n, .i m, QR ks], .i 1]) o b (.b true) b := fun b => (qH 19 n m ks 1 hl).conv (by rw [hp]) (by rw [hp];simp)
   refine Qa Tryz.func91 rfl Tryz.ntmps91 rfl (t := [(0, .ptr 0 g0 0), (1, .agg [.i _, .i n, .i m, QR ks])]) rfl fun E hE => ?_
   (repeat' first|(refine Qe ?_;(first|refine QG rfl ?_|refine QJ rfl ?_|(refine Qz ?_;(first|refine WF rfl rfl ?_|refine Qb rfl rfl rfl ?_))|(refine Qo ?_;(first|refine QS rfl rfl ?_|refine qD rfl rfl ?_))|(refine Qq ?_;(first|refine qv rfl rfl (simple1_c _ g0 g1 _ _ hlist) ?_|refine Zg 0 1 (hpl _) rfl rfl rfl rfl rfl rfl ?_))|(refine Q4 ?_;(first|refine WO rfl rfl ?_|refine Wr rfl rfl ?_))|refine Qd rfl rfl ?_|refine QV rfl rfl ?_|refine QU rfl rfl (fun _ _ => ?_)))|(refine Qk ?_;(first|refine Qi ?_|refine QN rfl ?_|refine WD rfl rfl rfl rfl ?_|refine W2 rfl rfl rfl rfl ?_))|(refine Qj ?_;(first|refine Qn ?_|refine Qc ?_|refine Qf ?_|refine Qh rfl ?_|refine Ql rfl ?_|refine Qs ?_)))
   exact e_1 Tryz.results91 (Qg rfl) (c_pe (by simp [*]) (by simp [*, Bool.or_assoc]))
  ·have hp : Wz n m ks.length 1 = false := by rw [<- Bool.not_eq_true];exact hp
   have hpl : ∀ b, PE Tryz.prog G 87 (fun p g => [.ptr p g 0, .agg [.i 19, .i n, .i m, QR ks], .i 1]) o b (.b false) true := fun b => (qH 19 n m ks 1 hl).conv (by rw [hp]) (by rw [hp];simp)
   refine Qa Tryz.func91 rfl Tryz.ntmps91 rfl (t := [(0, .ptr 0 g0 0), (1, .agg [.i _, .i n, .i m, QR ks])]) rfl fun E hE => ?_
   (repeat' first|(refine Qe ?_;(first|refine QG rfl ?_|refine QJ rfl ?_|(refine Qz ?_;(first|refine WF rfl rfl ?_|refine Qb rfl rfl rfl ?_))|refine QS rfl rfl ?_|(refine Qq ?_;(first|refine Zg 0 1 (Zj _) rfl rfl rfl rfl rfl rfl ?_|refine Zg 0 1 (hpl _) rfl rfl rfl rfl rfl rfl ?_))|(refine Q4 ?_;(first|refine WO rfl rfl ?_|refine Wr rfl rfl ?_))|refine Qd rfl rfl ?_|refine QV rfl rfl ?_|refine QU rfl rfl (fun _ _ => ?_)))|(refine Qk ?_;(first|refine Qi ?_|refine QN rfl ?_|refine WD rfl rfl rfl rfl ?_|refine W2 rfl rfl rfl rfl ?_))|(refine Qj ?_;(first|refine Qn ?_|refine Qc ?_|refine Qf ?_|refine Qx ?_|refine Ql rfl ?_|refine Qs ?_)))
   exact e_1 Tryz.results91 (Qg rfl) (c_pe (by simp [*]) (by simp [*, Bool.or_assoc]))
 by_cases k20 : k = 20
 ·subst k20
  by_cases hp : Wz n m ks.length 1 = true
  ·have hpl : ∀ b, PE Tryz.prog G 87 (fun p g => [.ptr p g 0, .agg [.i 20, .i n, .i m, QR ks], .i 1]) o b (.b true) b := fun b => (qH 20 n m ks 1 hl).conv (by rw [hp]) (by rw [hp];simp)
   refine Qa Tryz.func91 rfl Tryz.ntmps91 rfl (t := [(0, .ptr 0 g0 0), (1, .agg [.i _, .i n, .i m, QR ks])]) rfl fun E hE => ?_
   (repeat' first|(refine Qe ?_;(first|refine QG rfl ?_|refine QJ rfl ?_|(refine Qz ?_;(first|refine WF rfl rfl ?_|refine Qb rfl rfl rfl ?_))|(refine Qo ?_;(first|refine QS rfl rfl ?_|refine qD rfl rfl ?_))|(refine Qq ?_;(first|refine qv rfl rfl (simple1_c _ g0 g1 _ _ hlist) ?_|refine Zg 0 1 (hpl _) rfl rfl rfl rfl rfl rfl ?_))|(refine Q4 ?_;(first|refine WO rfl rfl ?_|refine Wr rfl rfl ?_))|refine Qd rfl rfl ?_|refine QV rfl rfl ?_|refine QU rfl rfl (fun _ _ => ?_)))|(refine Qk ?_;(first|refine Qi ?_|refine QN rfl ?_|refine WD rfl rfl rfl rfl ?_|refine W2 rfl rfl rfl rfl ?_))|(refine Qj ?_;(first|refine Qn ?_|refine Qc ?_|refine Qf ?_|refine Qh rfl ?_|refine Ql rfl ?_|refine Qs ?_)))
   exact e_1 Tryz.results91 (Qg rfl) (c_pe (by simp [*]) (by simp [*, Bool.or_assoc]))
  ·have hp : Wz n m ks.length 1 = false := by rw [<- Bool.not_eq_true];exact hp
   have hpl : ∀ b, PE Tryz.prog G 87 (fun p g => [.ptr p g 0, .agg [.i 20, .i n, .i m, QR ks], .i 1]) o b (.b false) true := fun b => (qH 20 n m ks 1 hl).conv (by rw [hp]) (by rw [hp];simp)
   refine Qa Tryz.func91 rfl Tryz.ntmps91 rfl (t := [(0, .ptr 0 g0 0), (1, .agg [.i _, .i n, .i m, QR ks])]) rfl fun E hE => ?_
   (repeat' first|(refine Qe ?_;(first|refine QG rfl ?_|refine QJ rfl ?_|(refine Qz ?_;(first|refine WF rfl rfl ?_|refine Qb rfl rfl rfl ?_))|refine QS rfl rfl ?_|(refine Qq ?_;(first|refine Zg 0 1 (Zj _) rfl rfl rfl rfl rfl rfl ?_|refine Zg 0 1 (hpl _) rfl rfl rfl rfl rfl rfl ?_))|(refine Q4 ?_;(first|refine WO rfl rfl ?_|refine Wr rfl rfl ?_))|refine Qd rfl rfl ?_|refine QV rfl rfl ?_|refine QU rfl rfl (fun _ _ => ?_)))|(refine Qk ?_;(first|refine Qi ?_|refine QN rfl ?_|refine WD rfl rfl rfl rfl ?_|refine W2 rfl rfl rfl rfl ?_))|(refine Qj ?_;(first|refine Qn ?_|refine Qc ?_|refine Qf ?_|refine Qx ?_|refine Ql rfl ?_|refine Qs ?_)))
   exact e_1 Tryz.results91 (Qg rfl) (c_pe (by simp [*]) (by simp [*, Bool.or_assoc]))
 by_cases k24 : k = 24
 ·subst k24
  by_cases hp : Wz n m ks.length 1 = true
  ·have hpl : ∀ b, PE Tryz.prog G 87 (fun p g => [.ptr p g 0, .agg [.i 24, .i n, .i m, QR ks], .i 1]) o b (.b true) b := fun b => (qH 24 n m ks 1 hl).conv (by rw [hp]) (by rw [hp];simp)
   refine Qa Tryz.func91 rfl Tryz.ntmps91 rfl (t := [(0, .ptr 0 g0 0), (1, .agg [.i _, .i n, .i m, QR ks])]) rfl fun E hE => ?_
   (repeat' first|(refine Qe ?_;(first|refine QG rfl ?_|refine QJ rfl ?_|(refine Qz ?_;(first|refine WF rfl rfl ?_|refine Qb rfl rfl rfl ?_))|(refine Qo ?_;(first|refine QS rfl rfl ?_|refine qD rfl rfl ?_))|(refine Qq ?_;(first|refine qv rfl rfl (simple1_c _ g0 g1 _ _ hlist) ?_|refine Zg 0 1 (hpl _) rfl rfl rfl rfl rfl rfl ?_))|(refine Q4 ?_;(first|refine WO rfl rfl ?_|refine Wr rfl rfl ?_))|refine Qd rfl rfl ?_|refine QV rfl rfl ?_|refine QU rfl rfl (fun _ _ => ?_)))|(refine Qk ?_;(first|refine Qi ?_|refine QN rfl ?_|refine WD rfl rfl rfl rfl ?_|refine W2 rfl rfl rfl rfl ?_))|(refine Qj ?_;(first|refine Qn ?_|refine Qc ?_|refine Qf ?_|refine Qh rfl ?_|refine Ql rfl ?_|refine Qs ?_)))
   exact e_1 Tryz.results91 (Qg rfl) (c_pe (by simp [*]) (by simp [*, Bool.or_assoc]))
  ·have hp : Wz n m ks.length 1 = false := by rw [<- Bool.not_eq_true];exact hp
   have hpl : ∀ b, PE Tryz.prog G 87 (fun p g => [.ptr p g 0, .agg [.i 24, .i n, .i m, QR ks], .i 1]) o b (.b false) true := fun b => (qH 24 n m ks 1 hl).conv (by rw [hp]) (by rw [hp];simp)
   refine Qa Tryz.func91 rfl Tryz.ntmps91 rfl (t := [(0, .ptr 0 g0 0), (1, .agg [.i _, .i n, .i m, QR ks])]) rfl fun E hE => ?_
   (repeat' first|(refine Qe ?_;(first|refine QG rfl ?_|refine QJ rfl ?_|(refine Qz ?_;(first|refine WF rfl rfl ?_|refine Qb rfl rfl rfl ?_))|refine QS rfl rfl ?_|(refine Qq ?_;(first|refine Zg 0 1 (Zj _) rfl rfl rfl rfl rfl rfl ?_|refine Zg 0 1 (hpl _) rfl rfl rfl rfl rfl rfl ?_))|(refine Q4 ?_;(first|refine WO rfl rfl ?_|refine Wr rfl rfl ?_))|refine Qd rfl rfl ?_|refine QV rfl rfl ?_|refine QU rfl rfl (fun _ _ => ?_)))|(refine Qk ?_;(first|refine Qi ?_|refine QN rfl ?_|refine WD rfl rfl rfl rfl ?_|refine W2 rfl rfl rfl rfl ?_))|(refine Qj ?_;(first|refine Qn ?_|refine Qc ?_|refine Qf ?_|refine Qx ?_|refine Ql rfl ?_|refine Qs ?_)))
   exact e_1 Tryz.results91 (Qg rfl) (c_pe (by simp [*]) (by simp [*, Bool.or_assoc]))
 by_cases k25 : k = 25
 ·subst k25
  by_cases hp : Wz n m ks.length 0 = true
  ·have hpl : ∀ b, PE Tryz.prog G 87 (fun p g => [.ptr p g 0, .agg [.i 25, .i n, .i m, QR ks], .i 0]) o b (.b true) b := fun b => (qH 25 n m ks 0 hl).conv (by rw [hp]) (by rw [hp];simp)
   refine Qa Tryz.func91 rfl Tryz.ntmps91 rfl (t := [(0, .ptr 0 g0 0), (1, .agg [.i _, .i n, .i m, QR ks])]) rfl fun E hE => ?_
   (repeat' first|(refine Qe ?_;(first|refine QG rfl ?_|refine QJ rfl ?_|(refine Qz ?_;(first|refine WF rfl rfl ?_|refine Qb rfl rfl rfl ?_))|refine QS rfl rfl ?_|refine Zg 0 1 (hpl _) rfl rfl rfl rfl rfl rfl ?_|(refine Q4 ?_;(first|refine WO rfl rfl ?_|refine Wr rfl rfl ?_))|refine Qd rfl rfl ?_|refine QV rfl rfl ?_|refine QU rfl rfl (fun _ _ => ?_)))|(refine Qk ?_;(first|refine Qi ?_|refine QN rfl ?_|refine WD rfl rfl rfl rfl ?_|refine W2 rfl rfl rfl rfl ?_))|(refine Qj ?_;(first|refine Qn ?_|refine Qc ?_|refine Qf ?_|refine Qh rfl ?_|refine Ql rfl ?_|refine Qs ?_)))
   exact e_1 Tryz.results91 (Qg rfl) (c_pe (by simp [*]) (by simp [*, Bool.or_assoc]))
  ·have hp : Wz n m ks.length 0 = false := by rw [<- Bool.not_eq_true];exact hp
   have hpl : ∀ b, PE Tryz.prog G 87 (fun p g => [.ptr p g 0, .agg [.i 25, .i n, .i m, QR ks], .i 0]) o b (.b false) true := fun b => (qH 25 n m ks 0 hl).conv (by rw [hp]) (by rw [hp];simp)
   refine Qa Tryz.func91 rfl Tryz.ntmps91 rfl (t := [(0, .ptr 0 g0 0), (1, .agg [.i _, .i n, .i m, QR ks])]) rfl fun E hE => ?_
   (repeat' first|(refine Qe ?_;(first|refine QG rfl ?_|refine QJ rfl ?_|(refine Qz ?_;(first|refine WF rfl rfl ?_|refine Qb rfl rfl rfl ?_))|refine QS rfl rfl ?_|(refine Qq ?_;(first|refine Zg 0 1 (Zj _) rfl rfl rfl rfl rfl rfl ?_|refine Zg 0 1 (hpl _) rfl rfl rfl rfl rfl rfl ?_))|(refine Q4 ?_;(first|refine WO rfl rfl ?_|refine Wr rfl rfl ?_))|refine Qd rfl rfl ?_|refine QV rfl rfl ?_|refine QU rfl rfl (fun _ _ => ?_)))|(refine Qk ?_;(first|refine Qi ?_|refine QN rfl ?_|refine WD rfl rfl rfl rfl ?_|refine W2 rfl rfl rfl rfl ?_))|(refine Qj ?_;(first|refine Qn ?_|refine Qc ?_|refine Qf ?_|refine Qx ?_|refine Ql rfl ?_|refine Qs ?_)))
   exact e_1 Tryz.results91 (Qg rfl) (c_pe (by simp [*]) (by simp [*, Bool.or_assoc]))
 by_cases k22 : k = 22
 ·subst k22
  by_cases hp : Q0 m ks.length 1 = true
  ·have hpl : ∀ b, PE Tryz.prog G 42 (fun p g => [.ptr p g 0, .agg [.i 22, .i n, .i m, QR ks], .i 1]) o b (.b true) b := fun b => (Zl 22 n m ks 1 hl).conv (by rw [hp]) (by rw [hp];simp)
   refine Qa Tryz.func91 rfl Tryz.ntmps91 rfl (t := [(0, .ptr 0 g0 0), (1, .agg [.i _, .i n, .i m, QR ks])]) rfl fun E hE => ?_
   (repeat' first|(refine Qe ?_;(first|refine QG rfl ?_|refine QJ rfl ?_|(refine Qz ?_;(first|refine WF rfl rfl ?_|refine Qb rfl rfl rfl ?_))|(refine Qo ?_;(first|refine QS rfl rfl ?_|refine qD rfl rfl ?_))|(refine Qq ?_;(first|refine qv rfl rfl (simple1_c _ g0 g1 _ _ hlist) ?_|refine Zg 0 1 (hpl _) rfl rfl rfl rfl rfl rfl ?_|refine Zg 0 1 (Zu hG _ (by assumption)) rfl rfl rfl rfl rfl rfl ?_))|(refine Q4 ?_;(first|refine WO rfl rfl ?_|refine Wr rfl rfl ?_))|refine Qd rfl rfl ?_|refine QV rfl rfl ?_|refine QU rfl rfl (fun _ _ => ?_)))|(refine Qk ?_;(first|refine Qi ?_|refine QN rfl ?_|refine WD rfl rfl rfl rfl ?_|refine W2 rfl rfl rfl rfl ?_))|(refine Qj ?_;(first|refine Qn ?_|refine Qc ?_|refine Qf ?_|refine Qh rfl ?_|refine Ql rfl ?_|refine Qs ?_)))
   exact e_1 Tryz.results91 (Qg rfl) (c_pe (by simp [*]) (by simp [*, Bool.or_assoc]))
  ·have hp : Q0 m ks.length 1 = false := by rw [<- Bool.not_eq_true];exact hp
   have hpl : ∀ b, PE Tryz.prog G 42 (fun p g => [.ptr p g 0, .agg [.i 22, .i n, .i m, QR ks], .i 1]) o b (.b false) true := fun b => (Zl 22 n m ks 1 hl).conv (by rw [hp]) (by rw [hp];simp)
   refine Qa Tryz.func91 rfl Tryz.ntmps91 rfl (t := [(0, .ptr 0 g0 0), (1, .agg [.i _, .i n, .i m, QR ks])]) rfl fun E hE => ?_
   (repeat' first|(refine Qe ?_;(first|refine QG rfl ?_|refine QJ rfl ?_|(refine Qz ?_;(first|refine WF rfl rfl ?_|refine Qb rfl rfl rfl ?_))|refine QS rfl rfl ?_|(refine Qq ?_;(first|refine Zg 0 1 (Zj _) rfl rfl rfl rfl rfl rfl ?_|refine Zg 0 1 (hpl _) rfl rfl rfl rfl rfl rfl ?_))|(refine Q4 ?_;(first|refine WO rfl rfl ?_|refine Wr rfl rfl ?_))|refine Qd rfl rfl ?_|refine QV rfl rfl ?_|refine QU rfl rfl (fun _ _ => ?_)))|(refine Qk ?_;(first|refine Qi ?_|refine QN rfl ?_|refine WD rfl rfl rfl rfl ?_|refine W2 rfl rfl rfl rfl ?_))|(refine Qj ?_;(first|refine Qn ?_|refine Qc ?_|refine Qf ?_|refine Qx ?_|refine Ql rfl ?_|refine Qs ?_)))
   exact e_1 Tryz.results91 (Qg rfl) (c_pe (by simp [*]) (by simp [*, Bool.or_assoc]))
 by_cases k23 : k = 23
 ·subst k23
  by_cases hp : Q0 m ks.length (-1) = true
  ·have hpl : ∀ b, PE Tryz.prog G 42 (fun p g => [.ptr p g 0, .agg [.i 23, .i n, .i m, QR ks], .i (-1)]) o b (.b true) b := fun b => (Zl 23 n m ks (-1) hl).conv (by rw [hp]) (by rw [hp];simp)
   refine Qa Tryz.func91 rfl Tryz.ntmps91 rfl (t := [(0, .ptr 0 g0 0), (1, .agg [.i _, .i n, .i m, QR ks])]) rfl fun E hE => ?_
   (repeat' first|(refine Qe ?_;(first|refine QG rfl ?_|refine QJ rfl ?_|(refine Qz ?_;(first|refine WF rfl rfl ?_|refine Qb rfl rfl rfl ?_))|(refine Qo ?_;(first|refine QS rfl rfl ?_|refine qD rfl rfl ?_))|(refine Qq ?_;(first|refine qv rfl rfl (simple1_c _ g0 g1 _ _ hlist) ?_|refine Zg 0 1 (hpl _) rfl rfl rfl rfl rfl rfl ?_|refine Zg 0 1 (Zu hG _ (by assumption)) rfl rfl rfl rfl rfl rfl ?_))|(refine Q4 ?_;(first|refine WO rfl rfl ?_|refine Wr rfl rfl ?_))|refine Qd rfl rfl ?_|refine QV rfl rfl ?_|refine QU rfl rfl (fun _ _ => ?_)))|(refine Qk ?_;(first|refine Qi ?_|refine QN rfl ?_|refine WD rfl rfl rfl rfl ?_|refine W2 rfl rfl rfl rfl ?_))|(refine Qj ?_;(first|refine Qn ?_|refine Qc ?_|refine Qf ?_|refine Qh rfl ?_|refine Ql rfl ?_|refine Qs ?_)))
   exact e_1 Tryz.results91 (Qg rfl) (c_pe (by simp [*]) (by simp [*, Bool.or_assoc]))
  ·have hp : Q0 m ks.length (-1) = false := by rw [<- Bool.not_eq_true];exact hp
   have hpl : ∀ b, PE Tryz.prog G 42 (fun p g => [.ptr p g 0, .agg [.i 23, .i n, .i m, QR ks], .i (-1)]) o b (.b false) true := fun b => (Zl 23 n m ks (-1) hl).conv (by rw [hp]) (by rw [hp];simp)
   refine Qa Tryz.func91 rfl Tryz.ntmps91 rfl (t := [(0, .ptr 0 g0 0), (1, .agg [.i _, .i n, .i m, QR ks])]) rfl fun E hE => ?_
   (repeat' first|(refine Qe ?_;(first|refine QG rfl ?_|refine QJ rfl ?_|(refine Qz ?_;(first|refine WF rfl rfl ?_|refine Qb rfl rfl rfl ?_))|refine QS rfl rfl ?_|(refine Qq ?_;(first|refine Zg 0 1 (Zj _) rfl rfl rfl rfl rfl rfl ?_|refine Zg 0 1 (hpl _) rfl rfl rfl rfl rfl rfl ?_))|(refine Q4 ?_;(first|refine WO rfl rfl ?_|refine Wr rfl rfl ?_))|refine Qd rfl rfl ?_|refine QV rfl rfl ?_|refine QU rfl rfl (fun _ _ => ?_)))|(refine Qk ?_;(first|refine Qi ?_|refine QN rfl ?_|refine WD rfl rfl rfl rfl ?_|refine W2 rfl rfl rfl rfl ?_))|(refine Qj ?_;(first|refine Qn ?_|refine Qc ?_|refine Qf ?_|refine Qx ?_|refine Ql rfl ?_|refine Qs ?_)))
   exact e_1 Tryz.results91 (Qg rfl) (c_pe (by simp [*]) (by simp [*, Bool.or_assoc]))
 by_cases k16 : k = 16
 ·subst k16
  by_cases hp : ks.length = 1
  ·refine Qa Tryz.func91 rfl Tryz.ntmps91 rfl (t := [(0, .ptr 0 g0 0), (1, .agg [.i _, .i n, .i m, QR ks])]) rfl fun E hE => ?_
   (repeat' first|(refine Qe ?_;(first|refine QG rfl ?_|refine QJ rfl ?_|refine Qb rfl rfl rfl ?_|refine QS rfl rfl ?_|(refine Qq ?_;(first|refine qv rfl rfl (simple1_c _ g0 g1 _ _ hlist) ?_|refine Zg 0 1 (Zj _) rfl rfl rfl rfl rfl rfl ?_|refine Zg 0 1 (Zu hG _ (by assumption)) rfl rfl rfl rfl rfl rfl ?_|refine Qt rfl ?_))|(refine Q4 ?_;(first|refine WO rfl rfl ?_|refine Wr rfl rfl ?_))|refine Qd rfl rfl ?_|refine QV rfl rfl ?_|refine QU rfl rfl (fun _ _ => ?_)))|(refine Qk ?_;(first|refine Qi ?_|refine QN rfl ?_|refine WD rfl rfl rfl rfl ?_|refine W2 rfl rfl rfl rfl ?_))|(refine Qj ?_;(first|refine Qn ?_|refine Qc ?_|refine Qf ?_|(refine Wg ?_;first|(refine QB (pfx3 _ _) 100 [(0, true), (1, true), (2, true), (6, true), (7, true), (8, true), (12, true), (3, false), (4, true), (5, true), (9, false), (10, true), (11, true), (13, false), (14, true), (15, true)] (by rfl) (by rfl) (by kernel_rfl) (by decide +kernel) (by decide +kernel) ⟨(_, _, _, _), rfl⟩ ?_)|(refine QB (pfx3 _ _) 100 [(0, true), (1, true), (2, true), (6, true), (7, true), (8, true), (9, true), (10, true), (14, true), (15, true), (16, true), (17, true), (18, true), (3, false), (4, true), (5, true), (11, false), (12, true), (13, true), (19, false), (20, true), (21, true)] (by rfl) (by rfl) (by kernel_rfl) (by decide +kernel) (by decide +kernel) ⟨(_, _, _, _), rfl⟩ ?_)|refine Q3 (by rfl) (by kernel_rfl) (by kernel_rfl) ?_|refine Q2 (by kernel_rfl) (by kernel_rfl) ?_)|refine Ql rfl ?_|refine Qp rfl (by omega) ?_|refine Qs ?_))|(refine Ze ?_;(first|refine Z1 ?_|refine i_st rfl rfl (fun _ => (by (repeat' first|(refine Qe ?_;(first|refine QG rfl ?_|refine QJ rfl ?_|refine Qb rfl rfl rfl ?_|refine qD rfl rfl ?_|refine Qd rfl rfl ?_))|exact ⟨rfl, rfl⟩))) ?_|refine i_ef rfl ?_))|refine And.intro (Exists.intro ((_, _, _, _)) rfl) ?_)
   exact e_1 Tryz.results91 (Qg rfl) (c_pe (by simp [*]) (by simp [*, Bool.or_assoc]))
  ·refine Qa Tryz.func91 rfl Tryz.ntmps91 rfl (t := [(0, .ptr 0 g0 0), (1, .agg [.i _, .i n, .i m, QR ks])]) rfl fun E hE => ?_
   (repeat' first|(refine Qe ?_;(first|refine QG rfl ?_|refine QJ rfl ?_|refine Qb rfl rfl rfl ?_|refine QS rfl rfl ?_|(refine Qq ?_;(first|refine Zg 0 1 (Zj _) rfl rfl rfl rfl rfl rfl ?_|refine Qt rfl ?_))|(refine Q4 ?_;(first|refine WO rfl rfl ?_|refine Wr rfl rfl ?_))|refine Qd rfl rfl ?_|refine QV rfl rfl ?_|refine QU rfl rfl (fun _ _ => ?_)))|(refine Qk ?_;(first|refine Qi ?_|refine QN rfl ?_|refine WD rfl rfl rfl rfl ?_|refine W2 rfl rfl rfl rfl ?_))|(refine Qj ?_;(first|refine Qn ?_|refine Qc ?_|refine Qf ?_|refine Qx ?_|refine Ql rfl ?_|refine Qm rfl (by omega) ?_|refine Qs ?_)))
   exact e_1 Tryz.results91 (Qg rfl) (c_pe (by simp [*]) (by simp [*, Bool.or_assoc]))
 ·refine Qa Tryz.func91 rfl Tryz.ntmps91 rfl (t := [(0, .ptr 0 g0 0), (1, .agg [.i k, .i n, .i m, QR ks])]) rfl fun E hE => ?_
  (repeat' first|(refine Qe ?_;(first|refine QG rfl ?_|refine QJ rfl ?_|refine Qb rfl rfl rfl ?_|refine QS rfl rfl ?_|refine Zg 0 1 (Zj _) rfl rfl rfl rfl rfl rfl ?_|refine Wr rfl rfl ?_|refine Qd rfl rfl ?_|refine QV rfl rfl ?_|refine QU rfl rfl (fun _ _ => ?_)))|(refine Qk ?_;(first|refine Qi ?_|refine QN rfl ?_|refine W2 rfl rfl rfl rfl ?_|refine Q6 rfl rfl (by omega) ?_))|(refine Qj ?_;(first|refine Qn ?_|refine Qc ?_|refine Qf ?_|refine Qx ?_|refine Ql rfl ?_|refine Qs ?_)))
  exact e_1 Tryz.results91 (Qg rfl) (c_pe (by simp [*]) (by simp [*, Bool.or_assoc]))
end Go.Proofs
end
section
namespace Go.Proofs
open Go.Av
variable {G : Nat -> DV}
attribute [local irreducible] OpSem Zd Zx ZL ACalls qt AClose RV
open Go.Bl
variable {o : List UInt8} {bad : Bool}
theorem line_c (i : Nat) (s : List UInt8) (hi : i <= 1000000) (hlen : o.length + s.length <= 140737480000000) : PM Tryz.prog G 43 (fun p g => [.ptr p g 0, .i i, WQ s]) o bad (.tup []) (o ++ qm i s) bad := fun g0 g1 B h0 h1 => by
 have hrl : (Lib.repeatL [32, 32] i).length = 2 * i := by rw [Lib.repeatL_length];show i * 2 = _;omega
 have hwr : PM Tryz.prog G 46 (fun k g => [.ptr k g 0, WQ (Lib.repeatL [32, 32] i ++ s ++ [10])]) o bad (.tup [.i (Lib.repeatL [32, 32] i ++ s ++ [10]).length, .sc .nilIface]) (o ++ qm i s) bad := write_c _ (by simp only [List.length_append, List.length_cons, List.length_nil];omega)
 refine Qa Tryz.func43 rfl Tryz.ntmps43 rfl (t := [(0, .ptr 0 g0 0), (1, .i i), (2, WQ s)]) rfl fun E hE => ?_
 (repeat' first|refine s_pm 0 1 (hwr) rfl rfl rfl rfl rfl rfl (fun _ => rfl) (fun _ _ => ?_)|(refine Qj ?_;(refine Wg ?_;first|(refine QB (pfx3 _ _) 100 [(0, true), (1, true), (2, true), (3, true), (4, true), (5, true), (6, true), (7, true), (8, true), (9, false), (10, true), (11, true), (12, false)] (by rfl) (by rfl) (by kernel_rfl) (by decide +kernel) (by decide +kernel) ⟨(_, _, _, _), rfl⟩ ?_)|(refine QB (pfx3 _ _) 100 [(0, true), (1, true), (2, true), (3, true), (4, true), (5, true), (6, false)] (by rfl) (by rfl) (by kernel_rfl) (by decide +kernel) (by decide +kernel) ⟨(_, _, _, _), rfl⟩ ?_)|(refine QB (pfx3 _ _) 100 [(0, true), (1, true), (2, true), (3, true), (4, true), (5, true), (6, false), (7, true), (8, true), (9, false)] (by rfl) (by rfl) (by kernel_rfl) (by decide +kernel) (by decide +kernel) ⟨(_, _, _, _), rfl⟩ ?_)|(refine QB (pfx3 _ _) 100 [(0, true), (1, true), (2, true), (3, true), (4, true), (5, true), (6, true), (7, true), (8, false)] (by rfl) (by rfl) (by kernel_rfl) (by decide +kernel) (by decide +kernel) ⟨(_, _, _, _), rfl⟩ ?_)|refine Q3 (by rfl) (by kernel_rfl) (by kernel_rfl) ?_|refine Q2 (by kernel_rfl) (by kernel_rfl) ?_))|(refine Ze ?_;(first|refine Z1 ?_|refine i_st rfl rfl (fun _ => (by (repeat' first|(refine Qe ?_;(first|refine QG rfl ?_|refine qD rfl rfl ?_|refine QZ rfl rfl (repeat_c _ _ (by omega) (by simp only [List.length_cons, List.length_nil];omega)) ?_|refine Qd rfl rfl ?_|refine QA rfl rfl ?_))|exact ⟨rfl, rfl⟩))) ?_|refine i_ef rfl ?_))|refine And.intro (Exists.intro ((_, _, _, _)) rfl) ?_)
 exact e_0 (Tryz.results43) (c_pm rfl rfl rfl (by omega))
theorem stmt1_c (i : Nat) (s : List UInt8) (hi : i <= 1000000) (hlen : o.length + s.length <= 140737480000000) (g0 g1 gp gi : Nat) {B : Nat} {bl : ABlk} (h1 : g1 <= B) : 
  ACalls Tryz.prog G B 90 [WQ s, .ptr 2 gp 0, .ptr 3 gi 0] [pRow 0 1 g0 g1 o.length bad, .row g1 (Ws o), .row gp [.ptr 0 g0 0], .row gi [.i i], bl]
   (fun d τ => d = .tup [] /\ ∃ g', (g' = g1 \/ B < g') /\ τ = [pRow 0 1 g0 g' (o ++ qm i s).length bad, .row g' (Ws (o ++ qm i s)), .row gp [.ptr 0 g0 0], .row gi [.i i], bl]) := by
 refine Qa Tryz.func90 rfl Tryz.ntmps90 rfl (t := [(0, WQ s), (1, .ptr 2 gp 0), (2, .ptr 3 gi 0)]) rfl fun E hE => ?_
 (repeat' first|(refine Qe ?_;(first|refine QG rfl ?_|refine Qb rfl rfl rfl ?_|refine s_pm 0 1 (line_c _ _ (by first|assumption|omega) (by first|assumption|(simp only [List.length_append, Wk, List.length_cons, List.length_nil];omega))) rfl rfl rfl rfl rfl rfl (fun _ => rfl) (fun _ _ => ?_)))|(refine Qk ?_;(first|refine Qi ?_|refine QN rfl ?_))|refine Qc ?_)
 rename_i g' hg'
 exact e_0 (Tryz.results90) (c_same ⟨rfl, g', by omega, rfl⟩)
theorem st_lenX {t : Nd} (hok : okN t) {i : Nat} (hi : i + Qu t <= 1000000) : (stT t i).length <= 7000000 * Qu t /\ (inT t i).length <= 7000000 * (Qu t - 1) := by
 obtain ⟨h1, h2⟩ := st_len t hok i
 exact ⟨Nat.le_trans h1 (Nat.mul_le_mul (by omega) (Nat.le_refl _)), Nat.le_trans h2 (Nat.mul_le_mul (by omega) (Nat.le_refl _))⟩
def StC (G : Nat -> DV) (t : Nd) : Prop := ∀ (i : Nat) (o : List UInt8) (bad : Bool), i + Qu t <= 1000000 -> o.length + 7000000 * Qu t <= 140737470000000 -> PM Tryz.prog G 49 (fun p g => [.ptr p g 0, .i i, .agg (Enc.enc t)]) o bad (.tup []) (o ++ stT t i) (bad || !qg t)
def BlC (G : Nat -> DV) (t : Nd) : Prop := ∀ (i : Nat) (e : List UInt8) (o : List UInt8) (bad : Bool), e.length <= 100 -> i + Qu t <= 1000000 -> o.length + 7000000 * Qu t <= 140737475000000 -> PM Tryz.prog G 85 (fun p g => [.ptr p g 0, .i i, .agg (Enc.enc t), WQ e]) o bad (.tup []) (o ++ (inT t i ++ qm i e)) (bad || !inOk t)
theorem block_c (k n m : Int) (ks : List Nd) (hok : okN (.mk k n m ks)) (hst : ∀ x ∈ ks, StC G x) : BlC G (.mk k n m ks) := fun i e o bad hel hi hlen g0 g1 B h0 h1 => by
 rw [okN] at hok
 rw [Qu] at hi hlen
 have hl1 := WC ks
 have hl : ks.length <= 1048576 := by omega
 rw [QW, inT, inOk]
 by_cases hk : k = 13
 ·subst hk
  by_cases hp : Wz n m ks.length (-1) = true
  ·have hpl : ∀ b, PE Tryz.prog G 87 (fun p g => [.ptr p g 0, .agg [.i 13, .i n, .i m, QR ks], .i (-1)]) o b (.b true) b := fun b => (qH 13 n m ks (-1) hl).conv (by rw [hp]) (by rw [hp];simp)
   refine Qa Tryz.func85 rfl Tryz.ntmps85 rfl (t := [(0, .ptr 0 g0 0), (1, .i i), (2, .agg [.i _, .i n, .i m, QR ks]), (3, WQ e)]) rfl fun E hE => ?_
   (repeat' first|(refine Qe ?_;(first|refine QG rfl ?_|(refine Qz ?_;(first|refine WF rfl rfl ?_|refine Qb rfl rfl rfl ?_))|refine QS rfl rfl ?_|(refine Qq ?_;(first|refine Zg 0 1 (Zj _) rfl rfl rfl rfl rfl rfl ?_|refine Zg 0 1 (hpl _) rfl rfl rfl rfl rfl rfl ?_|refine Qt rfl ?_))|refine WO rfl rfl ?_|refine Qd rfl rfl ?_|refine QU rfl rfl (fun _ _ => ?_)))|(refine Qk ?_;(first|refine Qi ?_|refine QN rfl ?_|refine WD rfl rfl rfl rfl ?_))|(refine Qj ?_;(first|refine Qn ?_|refine Qc ?_|refine Qf ?_|refine Qh rfl ?_)))
   rename_i gn hgn
   have hpos := hst
   rw [show (bad || !decide ((13 : Int) = 13)) = bad by simp]
   refine r_loop2 (fun (j : Nat) (g : Nat) => ⟨[(0, .ptr 0 g0 0), (1, .i i), (3, WQ e), (21, QR ks), (22, .i ks.length), (23, .i j)], [pRow 0 1 g0 g (o ++ stTs (ks.take j) (i + 1)).length (bad || !stOks (ks.take j)), .row g (Ws (o ++ stTs (ks.take j) (i + 1))), .row gn [.i 13, .i n, .i m, QR ks]]⟩) (fun j g => j <= ks.length /\ (g = g1 \/ E.N < g)) (fun j _ => ks.length - j) 0 g1 ?_ (by omega) ?_
   ·rw [show (bad || !stOks (ks.take 0)) = bad by simp [stOks], show o ++ stTs (ks.take 0) (i + 1) = o by simp [stTs]]
    exact zal rfl
   intro j g hj
   have hpre := stTs_len (C := 7000000) (ks.take j) (i + 1) fun x hx => (st_lenX (Wj hok.2 (List.mem_of_mem_take hx)) (by have := QY (List.mem_of_mem_take hx);omega)).1
   have hsl := Wm ks j
   by_cases hjl : j < ks.length
   ·have hsm := QY (List.getElem_mem hjl)
    have hst1 := qJ ks j hjl
    have hst2 := Wm ks (j + 1)
    have hsx := hst _ (List.getElem_mem hjl) (i + 1) (o ++ stTs (ks.take j) (i + 1)) (bad || !stOks (ks.take j)) (by omega) (by rw [List.length_append];omega)
    have e1 : o ++ stTs (ks.take (j + 1)) (i + 1) = (o ++ stTs (ks.take j) (i + 1)) ++ stT ks[j] (i + 1) := by rw [stTs_take hjl, List.append_assoc]
    have e2 : (bad || !stOks (ks.take (j + 1))) = ((bad || !stOks (ks.take j)) || !qg ks[j]) := by rw [stOks_take hjl];cases bad <;> simp
    clear hpos hst
    (repeat' first|(refine Qe ?_;(first|refine QG rfl ?_|(refine Qz ?_;(first|refine WF rfl rfl ?_|refine QD rfl ?_))|refine Qv rfl rfl (by first|assumption|omega|(simp;done)|(simp;omega)) ?_|(refine Qo ?_;(first|refine Q1 rfl rfl ?_|refine W3 rfl rfl (by omega) ?_))|refine s_pm 0 1 (hsx) rfl rfl rfl rfl rfl rfl (fun _ => rfl) (fun _ _ => ?_)|refine WR rfl rfl rfl rfl ?_|refine QC (fun _ _ => ?_)))|(refine Qk ?_;(first|refine Qi ?_|refine QN rfl ?_|refine Q5 ?_))|(refine Qj ?_;(first|refine Qn ?_|refine Qc ?_|refine Qf ?_|refine Qx ?_|refine Qp rfl (by omega) ?_)))
    rename_i g' hg'
    refine ⟨j + 1, g', ⟨by omega, by omega⟩, by omega, ?_⟩
    rw [e1, e2]
    exact zal rfl
   ·have hje : j = ks.length := by omega
    subst hje
    rw [List.take_length] at *
    have hll : (o ++ stTs ks (i + 1)).length + e.length <= 140737480000000 := by rw [List.length_append];omega
    have hi1 : i <= 1000000 := by omega
    (repeat' first|(refine Qe ?_;(first|refine QG rfl ?_|refine Q1 rfl rfl ?_|refine s_pm 0 1 (line_c _ _ (by first|assumption|omega) (by first|assumption|(simp only [List.length_append, Wk, List.length_cons, List.length_nil];omega))) rfl rfl rfl rfl rfl rfl (fun _ => rfl) (fun _ _ => ?_)))|(refine Qk ?_;(first|refine Qi ?_|refine QN rfl ?_))|(refine Qj ?_;(first|refine Qn ?_|refine Qc ?_|refine Qm rfl (by omega) ?_|refine WI rfl ?_)))
    exact e_0 (Tryz.results85) (c_pm rfl (by simp [hp]) (by simp [hp]) (by omega))
  ·have hp : Wz n m ks.length (-1) = false := by rw [<- Bool.not_eq_true];exact hp
   have hpl : ∀ b, PE Tryz.prog G 87 (fun p g => [.ptr p g 0, .agg [.i 13, .i n, .i m, QR ks], .i (-1)]) o b (.b false) true := fun b => (qH 13 n m ks (-1) hl).conv (by rw [hp]) (by rw [hp];simp)
   have hll : o.length + e.length <= 140737480000000 := by omega
   have hi1 : i <= 1000000 := by omega
   refine Qa Tryz.func85 rfl Tryz.ntmps85 rfl (t := [(0, .ptr 0 g0 0), (1, .i i), (2, .agg [.i _, .i n, .i m, QR ks]), (3, WQ e)]) rfl fun E hE => ?_
   (repeat' first|(refine Qe ?_;(first|refine QG rfl ?_|(refine Qz ?_;(first|refine WF rfl rfl ?_|refine Qb rfl rfl rfl ?_))|refine QS rfl rfl ?_|(refine Qq ?_;(first|refine Zg 0 1 (Zj _) rfl rfl rfl rfl rfl rfl ?_|refine Zg 0 1 (hpl _) rfl rfl rfl rfl rfl rfl ?_|refine s_pm 0 1 (line_c _ _ (by first|assumption|omega) (by first|assumption|(simp only [List.length_append, Wk, List.length_cons, List.length_nil];omega))) rfl rfl rfl rfl rfl rfl (fun _ => rfl) (fun _ _ => ?_)))|refine WO rfl rfl ?_|refine Qd rfl rfl ?_|refine QU rfl rfl (fun _ _ => ?_)))|(refine Qk ?_;(first|refine Qi ?_|refine QN rfl ?_|refine WD rfl rfl rfl rfl ?_))|(refine Qj ?_;(first|refine Qn ?_|refine Qc ?_|refine Qx ?_|refine Ql rfl ?_)))
   exact e_0 (Tryz.results85) (c_pm rfl (by simp [hp]) (by simp [hp]) (by omega))
 ·have hll : o.length + e.length <= 140737480000000 := by omega
  have hi1 : i <= 1000000 := by omega
  refine Qa Tryz.func85 rfl Tryz.ntmps85 rfl (t := [(0, .ptr 0 g0 0), (1, .i i), (2, .agg [.i k, .i n, .i m, QR ks]), (3, WQ e)]) rfl fun E hE => ?_
  (repeat' first|(refine Qe ?_;(first|refine QG rfl ?_|refine Qb rfl rfl rfl ?_|refine QS rfl rfl ?_|(refine Qq ?_;(first|refine Zg 0 1 (Zj _) rfl rfl rfl rfl rfl rfl ?_|refine s_pm 0 1 (line_c _ _ (by first|assumption|omega) (by first|assumption|(simp only [List.length_append, Wk, List.length_cons, List.length_nil];omega))) rfl rfl rfl rfl rfl rfl (fun _ => rfl) (fun _ _ => ?_)))|refine Wr rfl rfl ?_|refine Qd rfl rfl ?_|refine QU rfl rfl (fun _ _ => ?_)))|(refine Qk ?_;(first|refine Qi ?_|refine QN rfl ?_|refine W2 rfl rfl rfl rfl ?_|refine Q6 rfl rfl (by omega) ?_))|(refine Qj ?_;(first|refine Qn ?_|refine Qc ?_|refine Qx ?_|refine Ql rfl ?_)))
  exact e_0 (Tryz.results85) (c_pm rfl (by simp [hk]) (by simp [hk]) (by omega))
theorem stmt_c (hG : G 6 = pow10T) (hG1 : G 1 = spaceT) (k n m : Int) (ks : List Nd) (hok0 : okN (.mk k n m ks)) (hbl : BlC G (.mk k n m ks)) (hkb : ∀ x ∈ ks, BlC G x) : StC G (.mk k n m ks) := fun i o bad hi hlen g0 g1 B h0 h1 => by
 have hok := hok0
 rw [okN] at hok
 have hse : Qu (.mk k n m ks) = 1 + QT ks := by rw [Qu]
 have hl1 := WC ks
 have hsim := simT_len _ hok0
 have hsimc := fun (o : List UInt8) (b : Bool) => simple_c (G := G) (o := o) hG hG1 _ hok0 (by omega) b
 rw [hse] at hi hlen hsim
 have hl : ks.length <= 1048576 := by omega
 have hi1 : i <= 1000000 := by omega
 have hn : -9223372036854775808 <= n /\ n <= 9223372036854775807 := hok.1.2.1
 have hnl := Zb hok.1.2.1
 have hx : ∀ x ∈ ks, ∀ (o : List UInt8) b, PE Tryz.prog G 48 (fun p g => [.ptr p g 0, .agg (Enc.enc x)]) o b (WQ (exT x)) (b || !Zn x) := fun x hx o b => expr_c hG hG1 x (Wj hok.2 hx) (by have := QY hx;omega) b
 have hxl := exs_len hok.2
 have hil : ∀ x ∈ ks, (inT x i).length <= 7000000 * (Qu x - 1) := fun x hx => (st_lenX (Wj hok.2 hx) (by have := QY hx;omega)).2
 rw [stT, qg, inTs_eq, ZE]
 rw [QW] at hsimc ⊢
 by_cases k13 : k = 13
 ·subst k13
  have hb1 := hbl i sClose (o ++ qm i sOpen) bad (by decide) (by rw [hse];omega) (by rw [hse, List.length_append, Wk];simp only [List.length_cons, List.length_nil];omega)
  rw [QW, inT, inOk] at hb1
  clear hkb hbl hx hxl hil hsimc
  refine Qa Tryz.func49 rfl Tryz.ntmps49 rfl (t := [(0, .ptr 0 g0 0), (1, .i i), (2, .agg [.i _, .i n, .i m, QR ks])]) rfl fun E hE => ?_
  (repeat' first|(refine Qe ?_;(first|refine QG rfl ?_|refine QJ rfl ?_|(refine Qz ?_;(first|refine WF rfl rfl ?_|refine Qb rfl rfl rfl ?_))|refine QS rfl rfl ?_|(refine Qq ?_;(first|refine qu rfl rfl rfl (fun B' hB' => stmt1_c i _ hi1 (by first|omega|(simp only [List.length_append, Wk, List.length_cons, List.length_nil];omega)) g0 _ _ _ hB') (fun _ _ => ?_)|refine s_pm 0 1 (hb1) rfl rfl rfl rfl rfl rfl (fun _ => rfl) (fun _ _ => ?_)))|refine Qd rfl rfl ?_|refine QV rfl rfl ?_|refine QU rfl rfl (fun _ _ => ?_)))|(refine Qk ?_;(first|refine Qi ?_|refine QN rfl ?_))|(refine Qj ?_;(first|refine Qn ?_|refine Qc ?_|refine Qf ?_|refine Qh rfl ?_)))
  exact e_0 (Tryz.results49) (c_pm rfl (by simp) (by simp [Bool.or_assoc]) (by omega))
 by_cases k17 : k = 17
 ·subst k17
  by_cases hp : Wz n m ks.length 3 = true
  ·have hpl : ∀ (o : List UInt8) b, PE Tryz.prog G 87 (fun p g => [.ptr p g 0, .agg [.i 17, .i n, .i m, QR ks], .i 3]) o b (.b true) b := fun o b => (qH 17 n m ks 3 hl).conv (by rw [hp]) (by rw [hp];simp)
   have h2 : ks.length = 3 := by simp [Wz, Q0] at hp;omega
   match ks, h2 with
   | [a, b, c], _ =>
    have hxa := hx a (by simp)
    have hba := hkb a (by simp)
    have hxal := hxl a (by simp)
    have hial := hil a (by simp)
    have hsa := Wh a
    have hxb := hx b (by simp)
    have hbb := hkb b (by simp)
    have hxbl := hxl b (by simp)
    have hibl := hil b (by simp)
    have hsb := Wh b
    have hxc := hx c (by simp)
    have hbc := hkb c (by simp)
    have hxcl := hxl c (by simp)
    have hicl := hil c (by simp)
    have hsc := Wh c
    have hp2 : Wz n m 3 3 = true := hp
    simp only [QT] at hi hlen
    clear hx hkb hxl hil hbl hsimc
    refine Qa Tryz.func49 rfl Tryz.ntmps49 rfl (t := [(0, .ptr 0 g0 0), (1, .i i), (2, .agg [.i _, .i n, .i m, QR [a, b, c]])]) rfl fun E hE => ?_
    (repeat' first|(refine Qe ?_;(first|refine QG rfl ?_|refine QJ rfl ?_|(refine Qz ?_;(first|refine WF rfl rfl ?_|refine Qb rfl rfl rfl ?_))|refine QS rfl rfl ?_|(refine Qq ?_;(first|refine qu rfl rfl rfl (fun B' hB' => stmt1_c i _ hi1 (by first|omega|(simp only [List.length_append, Wk, List.length_cons, List.length_nil];omega)) g0 _ _ _ hB') (fun _ _ => ?_)|refine Zg 0 1 (hpl _ _) rfl rfl rfl rfl rfl rfl ?_|refine Zg 0 1 (hxa _ _) rfl rfl rfl rfl rfl rfl ?_|refine s_pm 0 1 (hbb i _ _ _ (by first|decide|(simp only [List.length_append, List.length_cons, List.length_nil];omega)) (by omega) (by first|omega|(simp only [List.length_append, Wk, List.length_cons, List.length_nil];omega))) rfl rfl rfl rfl rfl rfl (fun _ => rfl) (fun _ _ => ?_)|refine s_pm 0 1 (hbc i _ _ _ (by first|decide|(simp only [List.length_append, List.length_cons, List.length_nil];omega)) (by omega) (by first|omega|(simp only [List.length_append, Wk, List.length_cons, List.length_nil];omega))) rfl rfl rfl rfl rfl rfl (fun _ => rfl) (fun _ _ => ?_)))|refine WO rfl rfl ?_|refine Qd rfl rfl ?_|refine QV rfl rfl ?_|refine QU rfl rfl (fun _ _ => ?_)))|(refine Qk ?_;(first|refine Qi ?_|refine QN rfl ?_|refine WD rfl rfl rfl rfl ?_))|(refine Qj ?_;(first|refine Qn ?_|refine Qc ?_|refine Qf ?_|(refine Wg ?_;first|(refine QB (pfx3 _ _) 100 [(0, true), (1, true), (2, true), (3, true), (4, true), (5, true), (6, true), (7, true), (8, true), (9, false), (10, true), (11, true), (12, false)] (by rfl) (by rfl) (by kernel_rfl) (by decide +kernel) (by decide +kernel) ⟨(_, _, _, _), rfl⟩ ?_)|(refine QB (pfx3 _ _) 100 [(0, true), (1, true), (2, true), (3, true), (4, true), (5, true), (6, false)] (by rfl) (by rfl) (by kernel_rfl) (by decide +kernel) (by decide +kernel) ⟨(_, _, _, _), rfl⟩ ?_)|(refine QB (pfx3 _ _) 100 [(0, true), (1, true), (2, true), (3, true), (4, true), (5, true), (6, false), (7, true), (8, true), (9, false)] (by rfl) (by rfl) (by kernel_rfl) (by decide +kernel) (by decide +kernel) ⟨(_, _, _, _), rfl⟩ ?_)|(refine QB (pfx3 _ _) 100 [(0, true), (1, true), (2, true), (3, true), (4, true), (5, true), (6, true), (7, true), (8, false)] (by rfl) (by rfl) (by kernel_rfl) (by decide +kernel) (by decide +kernel) ⟨(_, _, _, _), rfl⟩ ?_)|refine Q3 (by rfl) (by kernel_rfl) (by kernel_rfl) ?_|refine Q2 (by kernel_rfl) (by kernel_rfl) ?_)|refine Qh rfl ?_|refine Ql rfl ?_))|(refine Ze ?_;(first|refine Z1 ?_|refine i_st rfl rfl (fun _ => (by (repeat' first|(refine Qe ?_;(first|refine QG rfl ?_|(refine Qz ?_;(first|refine QD rfl ?_|refine Qb rfl rfl rfl ?_))|refine Qv rfl rfl (by first|assumption|omega|(simp;done)|(simp;omega)) ?_|refine qD rfl rfl ?_|refine Qd rfl rfl ?_))|exact ⟨rfl, rfl⟩))) ?_|refine i_ef rfl ?_))|refine And.intro (Exists.intro ((_, _, _, _)) rfl) ?_)
    exact e_0 (Tryz.results49) (c_pm rfl (by simp [hp2]) (by simp [hp2, Bool.or_assoc]) (by omega))
  ·have hp : Wz n m ks.length 3 = false := by rw [<- Bool.not_eq_true];exact hp
   have hpl : ∀ (o : List UInt8) b, PE Tryz.prog G 87 (fun p g => [.ptr p g 0, .agg [.i 17, .i n, .i m, QR ks], .i 3]) o b (.b false) true := fun o b => (qH 17 n m ks 3 hl).conv (by rw [hp]) (by rw [hp];simp)
   clear hkb hbl hx hxl hil
   refine Qa Tryz.func49 rfl Tryz.ntmps49 rfl (t := [(0, .ptr 0 g0 0), (1, .i i), (2, .agg [.i _, .i n, .i m, QR ks])]) rfl fun E hE => ?_
   (repeat' first|(refine Qe ?_;(first|refine QG rfl ?_|refine QJ rfl ?_|(refine Qz ?_;(first|refine WF rfl rfl ?_|refine Qb rfl rfl rfl ?_))|refine QS rfl rfl ?_|(refine Qq ?_;(first|refine qu rfl rfl rfl (fun B' hB' => stmt1_c i _ hi1 (by first|omega|(simp only [List.length_append, Wk, List.length_cons, List.length_nil];omega)) g0 _ _ _ hB') (fun _ _ => ?_)|refine Zg 0 1 (hpl _ _) rfl rfl rfl rfl rfl rfl ?_|refine Zg 0 1 (hsimc _ _) rfl rfl rfl rfl rfl rfl ?_))|(refine Q4 ?_;(first|refine WO rfl rfl ?_|refine Wr rfl rfl ?_))|refine Qd rfl rfl ?_|refine QV rfl rfl ?_|refine QU rfl rfl (fun _ _ => ?_)))|(refine Qk ?_;(first|refine Qi ?_|refine QN rfl ?_|refine WD rfl rfl rfl rfl ?_|refine W2 rfl rfl rfl rfl ?_))|(refine Qj ?_;(first|refine Qn ?_|refine Qc ?_|refine Qf ?_|refine Ql rfl ?_)))
   exact e_0 (Tryz.results49) (c_pm rfl (by simp [hp]) (by simp [hp, Bool.or_assoc]) (by omega))
 by_cases k18 : k = 18
 ·subst k18
  by_cases hp : Wz n m ks.length 2 = true
  ·have hpl : ∀ (o : List UInt8) b, PE Tryz.prog G 87 (fun p g => [.ptr p g 0, .agg [.i 18, .i n, .i m, QR ks], .i 2]) o b (.b true) b := fun o b => (qH 18 n m ks 2 hl).conv (by rw [hp]) (by rw [hp];simp)
   have h2 : ks.length = 2 := by simp [Wz, Q0] at hp;omega
   match ks, h2 with
   | [a, b], _ =>
    have hxa := hx a (by simp)
    have hba := hkb a (by simp)
    have hxal := hxl a (by simp)
    have hial := hil a (by simp)
    have hsa := Wh a
    have hxb := hx b (by simp)
    have hbb := hkb b (by simp)
    have hxbl := hxl b (by simp)
    have hibl := hil b (by simp)
    have hsb := Wh b
    have hp2 : Wz n m 2 2 = true := hp
    simp only [QT] at hi hlen
    clear hx hkb hxl hil hbl hsimc
    refine Qa Tryz.func49 rfl Tryz.ntmps49 rfl (t := [(0, .ptr 0 g0 0), (1, .i i), (2, .agg [.i _, .i n, .i m, QR [a, b]])]) rfl fun E hE => ?_
    (repeat' first|(refine Qe ?_;(first|refine QG rfl ?_|refine QJ rfl ?_|(refine Qz ?_;(first|refine WF rfl rfl ?_|refine Qb rfl rfl rfl ?_))|refine QS rfl rfl ?_|(refine Qq ?_;(first|refine qu rfl rfl rfl (fun B' hB' => stmt1_c i _ hi1 (by first|omega|(simp only [List.length_append, Wk, List.length_cons, List.length_nil];omega)) g0 _ _ _ hB') (fun _ _ => ?_)|refine Zg 0 1 (hpl _ _) rfl rfl rfl rfl rfl rfl ?_|refine Zg 0 1 (hxa _ _) rfl rfl rfl rfl rfl rfl ?_|refine s_pm 0 1 (hbb i _ _ _ (by first|decide|(simp only [List.length_append, List.length_cons, List.length_nil];omega)) (by omega) (by first|omega|(simp only [List.length_append, Wk, List.length_cons, List.length_nil];omega))) rfl rfl rfl rfl rfl rfl (fun _ => rfl) (fun _ _ => ?_)))|(refine Q4 ?_;(first|refine WO rfl rfl ?_|refine Wr rfl rfl ?_))|refine Qd rfl rfl ?_|refine QV rfl rfl ?_|refine QU rfl rfl (fun _ _ => ?_)))|(refine Qk ?_;(first|refine Qi ?_|refine QN rfl ?_|refine WD rfl rfl rfl rfl ?_|refine W2 rfl rfl rfl rfl ?_))|(refine Qj ?_;(first|refine Qn ?_|refine Qc ?_|refine Qf ?_|(refine Wg ?_;first|(refine QB (pfx3 _ _) 100 [(0, true), (1, true), (2, true), (3, true), (4, true), (5, true), (6, true), (7, true), (8, true), (9, false), (10, true), (11, true), (12, false)] (by rfl) (by rfl) (by kernel_rfl) (by decide +kernel) (by decide +kernel) ⟨(_, _, _, _), rfl⟩ ?_)|(refine QB (pfx3 _ _) 100 [(0, true), (1, true), (2, true), (3, true), (4, true), (5, true), (6, false)] (by rfl) (by rfl) (by kernel_rfl) (by decide +kernel) (by decide +kernel) ⟨(_, _, _, _), rfl⟩ ?_)|(refine QB (pfx3 _ _) 100 [(0, true), (1, true), (2, true), (3, true), (4, true), (5, true), (6, false), (7, true), (8, true), (9, false)] (by rfl) (by rfl) (by kernel_rfl) (by decide +kernel) (by decide +kernel) ⟨(_, _, _, _), rfl⟩ ?_)|(refine QB (pfx3 _ _) 100 [(0, true), (1, true), (2, true), (3, true), (4, true), (5, true), (6, true), (7, true), (8, false)] (by rfl) (by rfl) (by kernel_rfl) (by decide +kernel) (by decide +kernel) ⟨(_, _, _, _), rfl⟩ ?_)|refine Q3 (by rfl) (by kernel_rfl) (by kernel_rfl) ?_|refine Q2 (by kernel_rfl) (by kernel_rfl) ?_)|refine Qh rfl ?_|refine Ql rfl ?_))|(refine Ze ?_;(first|refine Z1 ?_|refine i_st rfl rfl (fun _ => (by (repeat' first|(refine Qe ?_;(first|refine QG rfl ?_|(refine Qz ?_;(first|refine QD rfl ?_|refine Qb rfl rfl rfl ?_))|refine Qv rfl rfl (by first|assumption|omega|(simp;done)|(simp;omega)) ?_|refine qD rfl rfl ?_|refine Qd rfl rfl ?_))|exact ⟨rfl, rfl⟩))) ?_|refine i_ef rfl ?_))|refine And.intro (Exists.intro ((_, _, _, _)) rfl) ?_)
    exact e_0 (Tryz.results49) (c_pm rfl (by simp [hp2]) (by simp [hp2, Bool.or_assoc]) (by omega))
  ·have hp : Wz n m ks.length 2 = false := by rw [<- Bool.not_eq_true];exact hp
   have hpl : ∀ (o : List UInt8) b, PE Tryz.prog G 87 (fun p g => [.ptr p g 0, .agg [.i 18, .i n, .i m, QR ks], .i 2]) o b (.b false) true := fun o b => (qH 18 n m ks 2 hl).conv (by rw [hp]) (by rw [hp];simp)
   clear hkb hbl hx hxl hil
   refine Qa Tryz.func49 rfl Tryz.ntmps49 rfl (t := [(0, .ptr 0 g0 0), (1, .i i), (2, .agg [.i _, .i n, .i m, QR ks])]) rfl fun E hE => ?_
   (repeat' first|(refine Qe ?_;(first|refine QG rfl ?_|refine QJ rfl ?_|(refine Qz ?_;(first|refine WF rfl rfl ?_|refine Qb rfl rfl rfl ?_))|refine QS rfl rfl ?_|(refine Qq ?_;(first|refine qu rfl rfl rfl (fun B' hB' => stmt1_c i _ hi1 (by first|omega|(simp only [List.length_append, Wk, List.length_cons, List.length_nil];omega)) g0 _ _ _ hB') (fun _ _ => ?_)|refine Zg 0 1 (hpl _ _) rfl rfl rfl rfl rfl rfl ?_|refine Zg 0 1 (hsimc _ _) rfl rfl rfl rfl rfl rfl ?_))|(refine Q4 ?_;(first|refine WO rfl rfl ?_|refine Wr rfl rfl ?_))|refine Qd rfl rfl ?_|refine QV rfl rfl ?_|refine QU rfl rfl (fun _ _ => ?_)))|(refine Qk ?_;(first|refine Qi ?_|refine QN rfl ?_|refine WD rfl rfl rfl rfl ?_|refine W2 rfl rfl rfl rfl ?_))|(refine Qj ?_;(first|refine Qn ?_|refine Qc ?_|refine Qf ?_|refine Ql rfl ?_)))
   exact e_0 (Tryz.results49) (c_pm rfl (by simp [hp]) (by simp [hp, Bool.or_assoc]) (by omega))
 by_cases k21 : k = 21
 ·subst k21
  by_cases hp : Q0 m ks.length 2 = true
  ·have hpl : ∀ (o : List UInt8) b, PE Tryz.prog G 42 (fun p g => [.ptr p g 0, .agg [.i 21, .i n, .i m, QR ks], .i 2]) o b (.b true) b := fun o b => (Zl 21 n m ks 2 hl).conv (by rw [hp]) (by rw [hp];simp)
   have h2 : ks.length = 2 := by simp [Wz, Q0] at hp;omega
   match ks, h2 with
   | [a, b], _ =>
    have hxa := hx a (by simp)
    have hba := hkb a (by simp)
    have hxal := hxl a (by simp)
    have hial := hil a (by simp)
    have hsa := Wh a
    have hxb := hx b (by simp)
    have hbb := hkb b (by simp)
    have hxbl := hxl b (by simp)
    have hibl := hil b (by simp)
    have hsb := Wh b
    have hp2 : Q0 m 2 2 = true := hp
    simp only [QT] at hi hlen
    clear hx hkb hxl hil hbl hsimc
    refine Qa Tryz.func49 rfl Tryz.ntmps49 rfl (t := [(0, .ptr 0 g0 0), (1, .i i), (2, .agg [.i _, .i n, .i m, QR [a, b]])]) rfl fun E hE => ?_
    (repeat' first|(refine Qe ?_;(first|refine QG rfl ?_|refine QJ rfl ?_|(refine Qz ?_;(first|refine WF rfl rfl ?_|refine Qb rfl rfl rfl ?_))|refine QS rfl rfl ?_|(refine Qq ?_;(first|refine qu rfl rfl rfl (fun B' hB' => stmt1_c i _ hi1 (by first|omega|(simp only [List.length_append, Wk, List.length_cons, List.length_nil];omega)) g0 _ _ _ hB') (fun _ _ => ?_)|refine Zg 0 1 (hpl _ _) rfl rfl rfl rfl rfl rfl ?_|refine Zg 0 1 (Zu hG _ (by assumption)) rfl rfl rfl rfl rfl rfl ?_|refine s_pm 0 1 (hba i _ _ _ (by first|decide|(simp only [List.length_append, List.length_cons, List.length_nil];omega)) (by omega) (by first|omega|(simp only [List.length_append, Wk, List.length_cons, List.length_nil];omega))) rfl rfl rfl rfl rfl rfl (fun _ => rfl) (fun _ _ => ?_)|refine s_pm 0 1 (hbb i _ _ _ (by first|decide|(simp only [List.length_append, List.length_cons, List.length_nil];omega)) (by omega) (by first|omega|(simp only [List.length_append, Wk, List.length_cons, List.length_nil];omega))) rfl rfl rfl rfl rfl rfl (fun _ => rfl) (fun _ _ => ?_)))|(refine Q4 ?_;(first|refine WO rfl rfl ?_|refine Wr rfl rfl ?_))|refine Qd rfl rfl ?_|refine QV rfl rfl ?_|refine QU rfl rfl (fun _ _ => ?_)))|(refine Qk ?_;(first|refine Qi ?_|refine QN rfl ?_|refine WD rfl rfl rfl rfl ?_|refine W2 rfl rfl rfl rfl ?_))|(refine Qj ?_;(first|refine Qn ?_|refine Qc ?_|refine Qf ?_|(refine Wg ?_;first|(refine QB (pfx3 _ _) 100 [(0, true), (1, true), (2, true), (3, true), (4, true), (5, true), (6, true), (7, true), (8, true), (9, false), (10, true), (11, true), (12, false)] (by rfl) (by rfl) (by kernel_rfl) (by decide +kernel) (by decide +kernel) ⟨(_, _, _, _), rfl⟩ ?_)|(refine QB (pfx3 _ _) 100 [(0, true), (1, true), (2, true), (3, true), (4, true), (5, true), (6, false)] (by rfl) (by rfl) (by kernel_rfl) (by decide +kernel) (by decide +kernel) ⟨(_, _, _, _), rfl⟩ ?_)|(refine QB (pfx3 _ _) 100 [(0, true), (1, true), (2, true), (3, true), (4, true), (5, true), (6, false), (7, true), (8, true), (9, false)] (by rfl) (by rfl) (by kernel_rfl) (by decide +kernel) (by decide +kernel) ⟨(_, _, _, _), rfl⟩ ?_)|(refine QB (pfx3 _ _) 100 [(0, true), (1, true), (2, true), (3, true), (4, true), (5, true), (6, true), (7, true), (8, false)] (by rfl) (by rfl) (by kernel_rfl) (by decide +kernel) (by decide +kernel) ⟨(_, _, _, _), rfl⟩ ?_)|refine Q3 (by rfl) (by kernel_rfl) (by kernel_rfl) ?_|refine Q2 (by kernel_rfl) (by kernel_rfl) ?_)|refine Qh rfl ?_|refine Ql rfl ?_))|(refine Ze ?_;(first|refine Z1 ?_|refine i_st rfl rfl (fun _ => (by (repeat' first|(refine Qe ?_;(first|(refine Qz ?_;(first|refine QD rfl ?_|refine Qb rfl rfl rfl ?_))|refine Qv rfl rfl (by first|assumption|omega|(simp;done)|(simp;omega)) ?_|refine qD rfl rfl ?_|refine Qd rfl rfl ?_))|exact ⟨rfl, rfl⟩))) ?_|refine i_ef rfl ?_))|refine And.intro (Exists.intro ((_, _, _, _)) rfl) ?_)
    exact e_0 (Tryz.results49) (c_pm rfl (by simp [hp2]) (by simp [hp2, Bool.or_assoc]) (by omega))
  ·have hp : Q0 m ks.length 2 = false := by rw [<- Bool.not_eq_true];exact hp
   have hpl : ∀ (o : List UInt8) b, PE Tryz.prog G 42 (fun p g => [.ptr p g 0, .agg [.i 21, .i n, .i m, QR ks], .i 2]) o b (.b false) true := fun o b => (Zl 21 n m ks 2 hl).conv (by rw [hp]) (by rw [hp];simp)
   clear hkb hbl hx hxl hil
   refine Qa Tryz.func49 rfl Tryz.ntmps49 rfl (t := [(0, .ptr 0 g0 0), (1, .i i), (2, .agg [.i _, .i n, .i m, QR ks])]) rfl fun E hE => ?_
   (repeat' first|(refine Qe ?_;(first|refine QG rfl ?_|refine QJ rfl ?_|(refine Qz ?_;(first|refine WF rfl rfl ?_|refine Qb rfl rfl rfl ?_))|refine QS rfl rfl ?_|(refine Qq ?_;(first|refine qu rfl rfl rfl (fun B' hB' => stmt1_c i _ hi1 (by first|omega|(simp only [List.length_append, Wk, List.length_cons, List.length_nil];omega)) g0 _ _ _ hB') (fun _ _ => ?_)|refine Zg 0 1 (hpl _ _) rfl rfl rfl rfl rfl rfl ?_|refine Zg 0 1 (hsimc _ _) rfl rfl rfl rfl rfl rfl ?_))|(refine Q4 ?_;(first|refine WO rfl rfl ?_|refine Wr rfl rfl ?_))|refine Qd rfl rfl ?_|refine QV rfl rfl ?_|refine QU rfl rfl (fun _ _ => ?_)))|(refine Qk ?_;(first|refine Qi ?_|refine QN rfl ?_|refine WD rfl rfl rfl rfl ?_|refine W2 rfl rfl rfl rfl ?_))|(refine Qj ?_;(first|refine Qn ?_|refine Qc ?_|refine Qf ?_|refine Ql rfl ?_)))
   exact e_0 (Tryz.results49) (c_pm rfl (by simp [hp]) (by simp [hp, Bool.or_assoc]) (by omega))
 ·clear hkb hbl hx hxl hil
  refine Qa Tryz.func49 rfl Tryz.ntmps49 rfl (t := [(0, .ptr 0 g0 0), (1, .i i), (2, .agg [.i k, .i n, .i m, QR ks])]) rfl fun E hE => ?_
  (repeat' first|(refine Qe ?_;(first|refine QG rfl ?_|refine QJ rfl ?_|(refine Qz ?_;(first|refine WF rfl rfl ?_|refine Qb rfl rfl rfl ?_))|refine QS rfl rfl ?_|(refine Qq ?_;(first|refine qu rfl rfl rfl (fun B' hB' => stmt1_c i _ hi1 (by first|omega|(simp only [List.length_append, Wk, List.length_cons, List.length_nil];omega)) g0 _ _ _ hB') (fun _ _ => ?_)|refine Zg 0 1 (hsimc _ _) rfl rfl rfl rfl rfl rfl ?_))|refine Wr rfl rfl ?_|refine Qd rfl rfl ?_|refine QV rfl rfl ?_|refine QU rfl rfl (fun _ _ => ?_)))|(refine Qk ?_;(first|refine Qi ?_|refine QN rfl ?_|refine W2 rfl rfl rfl rfl ?_|refine Q6 rfl rfl (by omega) ?_))|(refine Qj ?_;(first|refine Qn ?_|refine Qc ?_|refine Qf ?_|refine Ql rfl ?_|refine Qm rfl (by omega) ?_)))
  exact e_0 (Tryz.results49) (c_pm rfl (by simp [*]) (by simp [*, Bool.or_assoc]) (by omega))
end Go.Proofs
end
