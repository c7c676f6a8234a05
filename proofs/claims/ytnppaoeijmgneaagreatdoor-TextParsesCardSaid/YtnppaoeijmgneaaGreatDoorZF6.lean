/-
  Part 6 of the proof: Q1 Q2 U1 Q3 Q4 Q5 Q6 Q7 Q8 Q9 XA VP VQ VR.
-/
import Derived.Test.YtnppaoeijmgneaaGreatDoorZF1
import Derived.Test.YtnppaoeijmgneaaGreatDoorZF2
import Derived.Test.YtnppaoeijmgneaaGreatDoorZF3
import Derived.Test.YtnppaoeijmgneaaGreatDoorZF4
import Derived.Test.YtnppaoeijmgneaaGreatDoorZF5
set_option linter.unusedSimpArgs false
set_option linter.unusedVariables false
set_option maxRecDepth 10000
set_option maxHeartbeats 4000000
section
namespace Go.Proofs
open Go.Av
variable {G : Nat -> DV}
attribute [local irreducible] OpSem WR Zc Zp ACalls ZS AClose RV
open Go.Bl
abbrev rqC (L : W7) (S : RS) : List DV := [Qo (trs L), .i S.p, .i (badI S)]
theorem trs_len (L : W7) : (trs L).length = L.length := List.length_map _
theorem trs_get {L : W7} {i : Nat} (h : i < L.length) : (trs L)[i]'(by rw [trs_len];exact h) = ⟨L[i].1, L[i].2, kindM L[i].1⟩ := by simp [trs]
def OkT (L : W7) : Prop := ∀ x ∈ L, ∃ u, Wq u = x.1
theorem tok_kind {t u : List UInt8} (h : Wq u = t) (hk : kindM t = 1) : qx t = true := by
 have hk2 : t ≠ [] /\ letB (t.getD 0 0) = false /\ digB (t.getD 0 0) = true := by
  unfold kindM at hk
  split at hk
  ·cases hk
  ·rename_i h1
   split at hk
   ·rename_i h2
    exact ⟨fun e => h1 (.inl e), by rw [<- Bool.not_eq_true];exact fun e => h1 (.inr e), h2⟩
   ·cases hk
 obtain ⟨h1, h2, h3⟩ := hk2
 unfold Wq at h
 split at h
 ·rename_i hp
  split at h
  ·rename_i hl
   have hu : (ZE u).getD 0 0 = u.getD 0 0 := by
    cases u with
    | nil => simp [ZE] at hp
    | cons b r =>
     unfold ZE at hp ⊢
     rw [List.takeWhile_cons] at hp ⊢
     split
     ·rfl
     ·rename_i hn
      rw [if_neg hn] at hp
      simp at hp
   rw [<- h]
   rw [<- h, hu] at h2
   rw [h2, Bool.false_or] at hl
   exact hl
  ·exact absurd h.symm h1
 ·have hm := sign_mem (u := u) (by rw [h];exact h1)
  rw [h] at hm
  have : ∀ t ∈ signsT, digB (t.getD 0 0) = false := by decide
  rw [this t hm.1] at h3
  cases h3
theorem num_kind {t : List UInt8} (h : qx t = true) : kindM t = 1 := by
 obtain ⟨h1, h2⟩ := num_dig h
 cases t with
 | nil => exact absurd rfl h1
 | cons b r =>
  have hb : digB b = true := by simp at h2;exact h2.1
  unfold kindM
  rw [if_neg, if_pos]
  ·exact hb
  ·rintro (e|e)
   ·cases e
   ·have := dig_let hb
    change letB b = true at e
    rw [this] at e;cases e
theorem c_ceA {E : AX} {g : Nat} {res : DV} {cs' c2 : List DV} {r : List ABlk} {k n m : Int} (hd : res = .agg (Enc.enc (Nd.mk k n m []))) (hc : c2 = cs') :
  AClose E (fun d' τ' => d' = res /\ τ' = [.row g cs']) (.agg [.i k, .i n, .i m, .sc (.slice none 0 0)]) (.row g c2 :: r) := by
 subst hd hc
 refine c_sub (d2 := .agg (Enc.enc (Nd.mk k n m []))) ?_ (ZI rfl rfl)
 rw [Qr]
 exact .agg _ _ rfl (qI (.refl _) (qI (.refl _) (qI (.refl _) (qI (.nil 4) dsub_nil))))
theorem wkQ1 {X W0 W1 W2 : Prop} (w0 : W0 := by exact True.intro) (w1 : W1 := by exact True.intro) (w2 : W2 := by exact True.intro) (s : (Unit -> W0) -> (Unit -> W1) -> (Unit -> W2) -> Unit -> X := by (intro w0 w1 w2 _;(repeat' first|(refine Qz ?_;(first|refine Ws rfl ?_|refine WM rfl ?_|refine Qc rfl rfl rfl ?_|(refine Qw ?_;(first|refine s_neq_asQ rfl rfl hq ?_|refine Zw rfl rfl ?_|refine ZU rfl rfl (by omega) ?_))|(refine QK ?_;(first|refine WA rfl rfl (hnu) ?_|refine Wh 0 (his) rfl rfl rfl rfl ?_|refine Wh 0 (hfl) rfl rfl rfl rfl ?_|refine Wh 0 (hnm) rfl rfl rfl rfl ?_))|(refine Wr ?_;(first|refine qh rfl rfl rfl rfl ?_|refine Wg rfl rfl rfl rfl (by rfl) (by rfl) (by rfl) ?_))|refine Qe rfl rfl ?_|refine QB rfl rfl ?_|refine Qj rfl rfl ?_|refine QU (fun _ _ => ?_)))|(refine We ?_;(first|refine Wb ?_|refine Zg rfl ?_|refine WI ?_))|(refine Wc ?_;(first|refine Q7 ?_|refine Qm ?_|(refine WC ?_;first|(refine Ql (fun p => .row g [Qo (trs L), .i (n0 : Nat), .i (-1)] :: p) 12 [(0, true), (1, true), (2, true), (3, true), (4, true), (5, true), (6, true), (7, true), (8, true), (9, true), (10, false), (11, false)] (by rfl) (by rfl) (by kernel_rfl) (by decide +kernel) (by decide +kernel) ⟨_, rfl⟩ ?_)|refine Q9 (by rfl) (by kernel_rfl) (by kernel_rfl) ?_|refine Q8 (by kernel_rfl) (by kernel_rfl) ?_)|refine QV ?_|refine QD rfl ?_|refine QR rfl ?_|refine Qu rfl (by omega) ?_|refine Qn rfl (by omega) ?_|refine Wi ?_))|(refine qM ?_;(first|refine x_gn rfl rfl rfl rfl ?_|refine x_op rfl (by (repeat' first|(refine Qz ?_;(first|refine Ws rfl ?_|refine WM rfl ?_|(refine QN ?_;(first|refine QA rfl ?_|refine Q0 rfl ?_|refine Qc rfl rfl rfl ?_))|refine Qq rfl rfl (by first|assumption|omega|(simp;done)|(simp;omega)) ?_|(refine Qw ?_;(first|refine Zw rfl rfl ?_|refine WG rfl rfl ?_|refine Zr rfl rfl ?_|refine qC rfl rfl (by omega) ?_))|(refine QK ?_;(first|refine s_min_as rfl rfl hmin ?_|refine Qv rfl ?_|refine WA rfl rfl (hnum) ?_))|(refine Q1 ?_;(first|refine ZO rfl rfl ?_|refine W9 rfl rfl ?_))|(refine QS ?_;(first|refine Qe rfl rfl ?_|refine Wz rfl rfl ?_))|refine Qj rfl rfl ?_))|exact ⟨rfl, rfl⟩)) ?_|refine x_gy rfl rfl rfl rfl (by (repeat' first|(refine Qz ?_;(first|refine Ws rfl ?_|refine WM rfl ?_|(refine QN ?_;(first|refine QA rfl ?_|refine Q0 rfl ?_|refine Qc rfl rfl rfl ?_))|refine Qq rfl rfl (by first|assumption|omega|(simp;done)|(simp;omega)) ?_|(refine Qw ?_;(first|refine Zw rfl rfl ?_|refine WG rfl rfl ?_|refine Zr rfl rfl ?_|refine qC rfl rfl (by omega) ?_))|(refine QK ?_;(first|refine s_min_as rfl rfl hmin ?_|refine Qv rfl ?_|refine WA rfl rfl (hnum) ?_))|(refine Q1 ?_;(first|refine ZO rfl rfl ?_|refine W9 rfl rfl ?_))|(refine QS ?_;(first|refine Qe rfl rfl ?_|refine Wz rfl rfl ?_))|refine Qj rfl rfl ?_))|exact ⟨rfl, rfl⟩)) ?_|refine qJ ?_|refine x_sp_t rfl rfl (by omega) ?_|refine x_sp_f rfl rfl (by omega) ?_))|(refine ZG ?_;(first|refine qL ?_|refine i_st rfl rfl (fun _ => (by (repeat' first|(refine Qz ?_;(first|refine Ws rfl ?_|refine WM rfl ?_|(refine QN ?_;(first|refine QA rfl ?_|refine Q0 rfl ?_|refine Qc rfl rfl rfl ?_))|refine Qq rfl rfl (by first|assumption|omega|(simp;done)|(simp;omega)) ?_|(refine Qw ?_;(first|refine Zw rfl rfl ?_|refine WG rfl rfl ?_|refine Zr rfl rfl ?_|refine qC rfl rfl (by omega) ?_))|(refine QK ?_;(first|refine s_min_as rfl rfl hmin ?_|refine Qv rfl ?_|refine WA rfl rfl (hnum) ?_))|(refine Q1 ?_;(first|refine ZO rfl rfl ?_|refine W9 rfl rfl ?_))|(refine QS ?_;(first|refine Qe rfl rfl ?_|refine Wz rfl rfl ?_))|refine Qj rfl rfl ?_))|exact ⟨rfl, rfl⟩))) ?_|refine i_ef rfl ?_|refine i_ef0 ?_))|refine And.intro (Exists.intro (_) rfl) ?_);(all_goals (repeat (rename_i x;(fail_if_success have : Unit := x);revert x)));(first|done|exact w0 ());(first|done|exact w1 ());(first|done|exact w2 ()))) (u : (W0 \/ True) /\ (W1 \/ True) /\ (W2 \/ True) := by (refine ⟨?_, ?_, ?_⟩ <;> first|exact Or.inl True.intro|exact Or.inr True.intro)) : X := s (fun _ => w0) (fun _ => w1) (fun _ => w2) ()
theorem fail_q (L : W7) (S : RS) : CE Tryz.prog G 113 (fun p g => [.ptr p g 0]) (rqC L S) (.agg (Enc.enc zNd)) (rqC L (WJ S)) := fun g B hg => by
 obtain ⟨p, bad⟩ := S
 unfold WJ rqC badI
 cases bad with
 | true =>
  simp only [if_true]
  refine Qa Tryz.func113 rfl Tryz.ntmps113 rfl (t := [(0, .ptr 0 g 0)]) rfl fun E hE => ?_
  (refine wkQ1 ?_;intros)
  exact e_1 (Tryz.results113) (Qg (size := 4) rfl rfl rfl rfl) (c_ceA rfl rfl)
 | false =>
  simp only [Bool.false_eq_true, if_false, if_true]
  refine Qa Tryz.func113 rfl Tryz.ntmps113 rfl (t := [(0, .ptr 0 g 0)]) rfl fun E hE => ?_
  (refine wkQ1 ?_;intros)
  exact e_1 (Tryz.results113) (Qg (size := 4) rfl rfl rfl rfl) (c_ceA rfl rfl)
theorem is_q (L : W7) (S : RS) (hL : OkL L) (s : List UInt8) (hs0 : s ≠ []) : CE Tryz.prog G 112 (fun p g => [.ptr p g 0, Q2 s]) (rqC L S) (.b (decide (QH L S = s))) (rqC L S) := fun g B hg => by
 have htl := trs_len L
 have hb := hL.1
 obtain ⟨p, bad⟩ := S
 unfold QH rqC badI
 cases bad with
 | true =>
  simp only [if_true]
  have hmin := trivial
  rw [decide_eq_false (show ¬ ([] : List UInt8) = s from fun h => hs0 h.symm)]
  refine Qa Tryz.func112 rfl Tryz.ntmps112 rfl (t := [(0, .ptr 0 g 0), (1, Q2 s)]) rfl fun E hE => ?_
  (refine wkQ1 ?_;intros)
  exact e_1 (Tryz.results112) (Qb rfl) (ZI rfl rfl)
 | false =>
  simp only [Bool.false_eq_true, if_false]
  by_cases hp : p < L.length
  ·have hp2 : p < (trs L).length := by omega
   have hgt : (L.getD p ([], 0)).1 = (trs L)[p].t := by rw [trs_get hp, List.getD_eq_getElem?_getD, List.getElem?_eq_getElem hp];rfl
   rw [hgt]
   have hmin : min (p : Int) (((trs L).length : Nat) - 1) = (p : Nat) := by omega
   refine Qa Tryz.func112 rfl Tryz.ntmps112 rfl (t := [(0, .ptr 0 g 0), (1, Q2 s)]) rfl fun E hE => ?_
   (refine wkQ1 ?_;intros)
   exact e_1 (Tryz.results112) (Qb rfl) (ZI rfl rfl)
  ·have hgt : (L.getD p ([], 0)).1 = [] := by rw [List.getD_eq_getElem?_getD, List.getElem?_eq_none (by omega)];rfl
   rw [hgt, decide_eq_false (show ¬ ([] : List UInt8) = s from fun h => hs0 h.symm)]
   have hmin := trivial
   refine Qa Tryz.func112 rfl Tryz.ntmps112 rfl (t := [(0, .ptr 0 g 0), (1, Q2 s)]) rfl fun E hE => ?_
   (refine wkQ1 ?_;intros)
   exact e_1 (Tryz.results112) (Qb rfl) (ZI rfl rfl)
theorem nextq {L : W7} {S : RS} (h : S.bad = false) : [Qo (trs L), .i ((S.p : Int) + 1), .i (badI S)] = rqC L (Qi S) := by
 unfold rqC Qi badI;simp [h]
theorem qN (L : W7) (S : RS) (hL : OkL L) (s : List UInt8) (hs0 : s ≠ []) : CE Tryz.prog G 62 (fun p g => [.ptr p g 0, Q2 s]) (rqC L S) (.b (decide (QH L S = s))) (rqC L (QC L s S)) := fun g B hg => by
 have his := is_q (G := G) L S hL s hs0
 have hfl := fail_q (G := G) L S
 have hb := hL.1
 unfold QC
 by_cases h : QH L S = s
 ·obtain ⟨h1, h2, h3⟩ := now_at (L := L) (S := S) (by rw [h];exact hs0)
  rw [if_pos h, <- nextq h1, decide_eq_true h]
  rw [decide_eq_true h] at his
  refine Qa Tryz.func62 rfl Tryz.ntmps62 rfl (t := [(0, .ptr 0 g 0), (1, Q2 s)]) rfl fun E hE => ?_
  (refine wkQ1 ?_;intros)
  exact e_1 (Tryz.results62) (Qb rfl) (ZI rfl rfl)
 ·rw [if_neg h, decide_eq_false h]
  rw [decide_eq_false h] at his
  refine Qa Tryz.func62 rfl Tryz.ntmps62 rfl (t := [(0, .ptr 0 g 0), (1, Q2 s)]) rfl fun E hE => ?_
  (refine wkQ1 ?_;intros)
  exact e_1 (Tryz.results62) (Qb rfl) (ZI rfl rfl)
theorem tok_at {L : W7} (hT : OkT L) {p : Nat} (hp : p < L.length) : ∃ u, Wq u = L[p].1 := hT _ (List.getElem_mem hp)
theorem numeral_q (L : W7) (S : RS) (hL : OkL L) (hT : OkT L) : CE Tryz.prog G 63 (fun p g => [.ptr p g 0]) (rqC L S) (.i (Qh L S).1) (rqC L (Qh L S).2) := fun g B hg => by
 have hfl := fail_q (G := G) L S
 have htl := trs_len L
 have hb := hL.1
 by_cases hgo : S.bad = false /\ S.p < L.length
 case neg =>
  have hn : QH L S = [] := by
   by_cases h : QH L S = []
   ·exact h
   ·obtain ⟨h1, h2, _⟩ := now_at h
    exact absurd ⟨h1, h2⟩ hgo
  have hz : Qh L S = (0, WJ S) := by unfold Qh;rw [hn, if_neg (by decide)]
  rw [hz]
  have hnu := trivial
  have hq := trivial
  obtain ⟨n0, bad⟩ := S
  cases bad with
  | true =>
   have ec : rqC L ⟨n0, true⟩ = [Qo (trs L), .i (n0 : Nat), .i (n0 : Nat)] := by unfold rqC badI;simp
   have ef : rqC L (WJ ⟨n0, true⟩) = [Qo (trs L), .i (n0 : Nat), .i (n0 : Nat)] := by unfold rqC badI WJ;simp
   rw [ec, ef] at hfl
   rw [ec, ef]
   refine Qa Tryz.func63 rfl Tryz.ntmps63 rfl (t := [(0, .ptr 0 g 0)]) rfl fun E hE => ?_
   (refine wkQ1 ?_;intros)
   exact e_1 (Tryz.results63) (Qb rfl) (ZI rfl rfl)
  | false =>
   have hpl : ¬ n0 < L.length := fun h => hgo ⟨rfl, h⟩
   have ec : rqC L ⟨n0, false⟩ = [Qo (trs L), .i (n0 : Nat), .i (-1)] := by unfold rqC badI;simp
   rw [ec] at hfl
   rw [ec]
   refine Qa Tryz.func63 rfl Tryz.ntmps63 rfl (t := [(0, .ptr 0 g 0)]) rfl fun E hE => ?_
   (refine wkQ1 ?_;intros)
   exact e_1 (Tryz.results63) (Qb rfl) (ZI rfl rfl)
 obtain ⟨n0, bad⟩ := S
 obtain ⟨hb1, hp⟩ := hgo
 dsimp only at hb1 hp
 subst hb1
 have hp2 : n0 < (trs L).length := by omega
 have hnow : QH L ⟨n0, false⟩ = L[n0].1 := by
  unfold QH
  rw [if_neg (by simp), List.getD_eq_getElem?_getD, List.getElem?_eq_getElem hp];rfl
 obtain ⟨u, hu⟩ := tok_at hT hp
 have hgt : (trs L)[n0].t = L[n0].1 := by rw [trs_get hp]
 have hgk : (trs L)[n0].k = kindM L[n0].1 := by rw [trs_get hp]
 have ecell : rqC L ⟨n0, false⟩ = [Qo (trs L), .i (n0 : Nat), .i (-1)] := by unfold rqC badI;simp
 by_cases hk : kindM L[n0].1 = 1
 ·have hnb := tok_kind hu hk
  obtain ⟨hn1, hn2⟩ := num_dig hnb
  have hz : Qh L ⟨n0, false⟩ = (dvM (trs L)[n0].t, Qi ⟨n0, false⟩) := by unfold Qh;rw [hnow, if_pos hnb, hgt, dvM_val hnb]
  rw [hz, <- nextq rfl, ecell]
  have hl3 : L[n0].1.length <= 3 := by unfold qx at hnb;simp only [Bool.and_eq_true, decide_eq_true_eq] at hnb;omega
  have hnu := rNumeral_c (G := G) (trs L)[n0].t (by rw [hgt];exact hn2) (by rw [hgt];exact hl3)
  have hq : decide ((trs L)[n0].k ≠ 1) = false := decide_eq_false (fun h => h (by rw [hgk];exact hk))
  refine Qa Tryz.func63 rfl Tryz.ntmps63 rfl (t := [(0, .ptr 0 g 0)]) rfl fun E hE => ?_
  (refine wkQ1 ?_;intros)
  exact e_1 (Tryz.results63) (Qb rfl) (ZI rfl rfl)
 ·have hnb : qx L[n0].1 = false := by
   rw [<- Bool.not_eq_true]
   exact fun h => hk (num_kind h)
  have hz : Qh L ⟨n0, false⟩ = (0, WJ ⟨n0, false⟩) := by unfold Qh;rw [hnow, hnb, if_neg (by decide)]
  rw [hz]
  rw [ecell] at hfl ⊢
  have hnu := trivial
  have hq : decide ((trs L)[n0].k ≠ 1) = true := decide_eq_true (by rw [hgk];exact hk)
  refine Qa Tryz.func63 rfl Tryz.ntmps63 rfl (t := [(0, .ptr 0 g 0)]) rfl fun E hE => ?_
  (refine wkQ1 ?_;intros)
  exact e_1 (Tryz.results63) (Qb rfl) (ZI rfl rfl)
theorem number_q (L : W7) (S : RS) (hL : OkL L) (c : UInt8) (hc : letB c = true) : CE Tryz.prog G 180 (fun p g => [.ptr p g 0, .sc (.int .u8 c.toNat)]) (rqC L S) (.i (ndM (QH L S) c)) (rqC L S) := fun g B hg => by
 have htl := trs_len L
 have hb := hL.1
 by_cases hgo : S.bad = false /\ S.p < L.length
 case neg =>
  have hn : QH L S = [] := by
   by_cases h : QH L S = []
   ·exact h
   ·obtain ⟨h1, h2, _⟩ := now_at h
    exact absurd ⟨h1, h2⟩ hgo
  rw [hn, ndM_no (by rfl)]
  have hnum := trivial
  obtain ⟨n0, bad⟩ := S
  cases bad with
  | true =>
   have ec : rqC L ⟨n0, true⟩ = [Qo (trs L), .i (n0 : Nat), .i (n0 : Nat)] := by unfold rqC badI;simp
   rw [ec]
   refine Qa Tryz.func180 rfl Tryz.ntmps180 rfl (t := [(0, .ptr 0 g 0), (1, .sc (.int .u8 c.toNat))]) rfl fun E hE => ?_
   (refine wkQ1 ?_;intros)
   exact e_1 (Tryz.results180) (Qb rfl) (ZI rfl rfl)
  | false =>
   have hpl : ¬ n0 < L.length := fun h => hgo ⟨rfl, h⟩
   have ec : rqC L ⟨n0, false⟩ = [Qo (trs L), .i (n0 : Nat), .i (-1)] := by unfold rqC badI;simp
   rw [ec]
   refine Qa Tryz.func180 rfl Tryz.ntmps180 rfl (t := [(0, .ptr 0 g 0), (1, .sc (.int .u8 c.toNat))]) rfl fun E hE => ?_
   (refine wkQ1 ?_;intros)
   exact e_1 (Tryz.results180) (Qb rfl) (ZI rfl rfl)
 obtain ⟨n0, bad⟩ := S
 obtain ⟨hb1, hp⟩ := hgo
 dsimp only at hb1 hp
 subst hb1
 have hp2 : n0 < (trs L).length := by omega
 have hgt : (trs L)[n0].t = L[n0].1 := by rw [trs_get hp]
 have hnow : QH L ⟨n0, false⟩ = (trs L)[n0].t := by
  unfold QH
  rw [if_neg (by simp), List.getD_eq_getElem?_getD, List.getElem?_eq_getElem hp, hgt];rfl
 have hnum := rNumbered_c (G := G) (trs L)[n0] c hc (by rw [trs_get hp]) (by rw [hgt];exact (hL.2 _ (List.getElem_mem hp)).2)
 rw [hnow]
 have ec : rqC L ⟨n0, false⟩ = [Qo (trs L), .i (n0 : Nat), .i (-1)] := by unfold rqC badI;simp
 rw [ec]
 refine Qa Tryz.func180 rfl Tryz.ntmps180 rfl (t := [(0, .ptr 0 g 0), (1, .sc (.int .u8 c.toNat))]) rfl fun E hE => ?_
 (refine wkQ1 ?_;intros)
 exact e_1 (Tryz.results180) (Qb rfl) (ZI rfl rfl)
theorem ndM_is (L : W7) (S : RS) (c : UInt8) : ndM (QH L S) c = if isM L c S = true then valM ((QH L S).drop 1) else -1 := by unfold ndM isM;rfl
theorem numbered_q (L : W7) (S : RS) (hL : OkL L) (c : UInt8) (hc : letB c = true) : CE Tryz.prog G 183 (fun p g => [.ptr p g 0, .sc (.int .u8 c.toNat)]) (rqC L S) (.i (Qf L c S).1) (rqC L (Qf L c S).2) := fun g B hg => by
 have hnm := number_q (G := G) L S hL c hc
 have hfl := fail_q (G := G) L S
 have hb := hL.1
 rw [ndM_is] at hnm
 unfold Qf
 by_cases h : isM L c S = true
 ·obtain ⟨e1, e2, e3⟩ := is_now h
  obtain ⟨h1, h2, h3⟩ := now_at e1
  obtain ⟨v1, v2, v3⟩ := val_num e2
  rw [if_pos h] at hnm
  rw [if_pos h, <- nextq h1]
  generalize valM ((QH L S).drop 1) = v at *
  refine Qa Tryz.func183 rfl Tryz.ntmps183 rfl (t := [(0, .ptr 0 g 0), (1, .sc (.int .u8 c.toNat))]) rfl fun E hE => ?_
  (refine wkQ1 ?_;intros)
  exact e_1 (Tryz.results183) (Qb rfl) (ZI rfl rfl)
 ·rw [if_neg h] at hnm
  rw [if_neg h]
  refine Qa Tryz.func183 rfl Tryz.ntmps183 rfl (t := [(0, .ptr 0 g 0), (1, .sc (.int .u8 c.toNat))]) rfl fun E hE => ?_
  (refine wkQ1 ?_;intros)
  exact e_1 (Tryz.results183) (Qb rfl) (ZI rfl rfl)
def ElQ (G : Nat -> DV) (F : FuncId) (L : W7) (E : Rd1) (r0 : Nat) : Prop := ∀ S, rM L S <= r0 -> CE Tryz.prog G F (fun p g => [.ptr p g 0]) (rqC L S) (.agg (Enc.enc (E S).1)) (rqC L (E S).2) /\ rM L (E S).2 <= rM L S
theorem now_mk {L : W7} {S : RS} {s : List UInt8} (h : QH L S = s) (hs : s ≠ []) : ∃ n0, S = ⟨n0, false⟩ /\ n0 < L.length := by
 obtain ⟨h1, h2, _⟩ := now_at (L := L) (S := S) (by rw [h];exact hs)
 obtain ⟨n0, b⟩ := S
 dsimp only at h1 h2
 subst h1
 exact ⟨n0, rfl, h2⟩
theorem is_yes (L : W7) (S : RS) (hL : OkL L) (s : List UInt8) (hs0 : s ≠ []) (h : QH L S = s) : CE Tryz.prog G 112 (fun p g => [.ptr p g 0, Q2 s]) (rqC L S) (.b true) (rqC L S) := (is_q L S hL s hs0).conv (by rw [decide_eq_true h]) rfl
theorem is_no (L : W7) (S : RS) (hL : OkL L) (s : List UInt8) (hs0 : s ≠ []) (h : ¬ QH L S = s) : CE Tryz.prog G 112 (fun p g => [.ptr p g 0, Q2 s]) (rqC L S) (.b false) (rqC L S) := (is_q L S hL s hs0).conv (by rw [decide_eq_false h]) rfl
theorem wkQ2 {X W0 W1 W2 : Prop} (w0 : W0 := by exact True.intro) (w1 : W1 := by exact True.intro) (w2 : W2 := by exact True.intro) (s : (Unit -> W0) -> (Unit -> W1) -> (Unit -> W2) -> Unit -> X := by (intro w0 w1 w2 _;(repeat' first|(refine Qz ?_;(first|refine Ws rfl ?_|refine WM rfl ?_|refine Qc rfl rfl rfl ?_|refine W6 (a := (n0 : Int)) (b := 1) rfl rfl hat0 ⟨by omega, by omega⟩ ?_|(refine QK ?_;(first|refine Zy (z := x2) (l := ([] : List Nd)) rfl rfl rfl rfl rfl rfl rfl (by first|omega|(simp;done)|(simp;omega)) (by first|omega|(simp;done)|(simp;omega)) (fun _ => rfl) (fun _ _ => ?_)|refine Zy (z := x2) rfl rfl rfl rfl rfl rfl rfl (by first|omega|(simp;omega)) (by first|omega|(simp;omega)) (fun _ => rfl) (fun _ _ => ?_)|refine Wh 0 (htk) rfl rfl rfl rfl ?_|refine Wh 0 (htk2) rfl rfl rfl rfl ?_|refine Wh 0 (his) rfl rfl rfl rfl ?_|refine Wh 0 (hE0) rfl rfl rfl rfl ?_|refine Wh 0 (hE2) rfl rfl rfl rfl ?_))|refine Wg rfl rfl rfl rfl (by rfl) (by rfl) (by rfl) ?_|refine QO (z := x2) rfl rfl (by decide) ?_|refine Qe rfl rfl ?_|refine Qj rfl rfl ?_))|(refine We ?_;(first|refine Wb ?_|refine Zg rfl ?_|refine WI ?_))|(refine Wc ?_;(first|refine r_own 3 4 rfl (fun _ _ => ?_)|refine Q7 ?_|refine Qm ?_|refine QM ?_|refine QV ?_|refine QD rfl ?_|refine QR rfl ?_|refine W8 rfl ?_|refine Wi ?_)));(all_goals (repeat (rename_i x;(fail_if_success have : Unit := x);revert x)));(first|done|exact w0 ());(first|done|exact w1 ());(first|done|exact w2 ()))) (u : (W0 \/ True) /\ (W1 \/ True) /\ (W2 \/ True) := by (refine ⟨?_, ?_, ?_⟩ <;> first|exact Or.inl True.intro|exact Or.inr True.intro)) : X := s (fun _ => w0) (fun _ => w1) (fun _ => w2) ()
theorem args_q (L : W7) (E : Rd1) (r0 k : Nat) (hL : OkL L) (hE : ElQ G 182 L E r0) (S : RS) (hr : rM L S <= r0) (hk : rM L S + 1 <= k) :
  CE Tryz.prog G 184 (fun p g => [.ptr p g 0]) (rqC L S) (Qo (Wv L E k S).1) (rqC L (Wv L E k S).2) := fun g B hg => by
 have htk := qN (G := G) L S hL [40] (by decide)
 have hle := qc (L := L) (S := S) [40] (by decide)
 have hll := hL.1
 unfold Wv
 generalize QC L [40] S = S1 at *
 have hE0 := trivial
 have hE2 := trivial
 have his2 := trivial
 have htk2 := trivial
 by_cases hc : QH L S1 = [41]
 ·rw [if_pos hc]
  have his := is_yes (G := G) L S1 hL [41] (by decide) hc
  obtain ⟨n0, rfl, hn0⟩ := now_mk hc (by decide)
  have hat0 : (n0 : Int) + 1 = ((n0 + 1 : Nat) : Int) := by omega
  refine Qa Tryz.func184 rfl Tryz.ntmps184 rfl (t := [(0, .ptr 0 g 0)]) rfl fun E0 hE1 => ?_
  (refine wkQ2 ?_;intros)
  exact e_1 (Tryz.results184) (Qb rfl) (WK (D := fun d => d) (k := 0) .id rfl rfl rfl rfl)
 ·rw [if_neg hc]
  have his := is_no (G := G) L S1 hL [41] (by decide) hc
  obtain ⟨hE0, hrE⟩ := hE S1 (by omega)
  unfold ZM
  generalize hx0 : (E S1).1 = x2 at *
  generalize hS2 : (E S1).2 = S2 at *
  have hat0 := trivial
  refine Qa Tryz.func184 rfl Tryz.ntmps184 rfl (t := [(0, .ptr 0 g 0)]) rfl fun E0 hE1 => ?_
  (refine wkQ2 ?_;intros)
  rename_i g0 hg0 g1 hg1
  have hr1000 : rM L S1 <= 1000000 := by unfold rM;split <;> omega
  have hx := trivial
  refine r_loop3 (fun (o : List Nd) (Q : RS) (gg : Nat) => ⟨[(0, .ptr 0 g 0), (3, .ref 1 gg 0 o.length 4)], [.row g (rqC L Q), .row gg (Wf o)]⟩) (fun o Q gg => E0.N < gg /\ rM L Q <= rM L S1 /\ o.length + rM L Q <= rM L S1 + 1 /\ ∃ k', QJ L E k [x2] S2 = QJ L E k' o Q /\ rM L Q + 1 <= k') (fun o Q gg => rM L Q) [x2] S2 g1 ?_ ⟨hg1, hrE, by simp;omega, k, rfl, by omega⟩ ?_
  ·exact zal rfl
  clear his hE0 htk
  have htk := trivial
  have hE0 := trivial
  generalize hx2 : QJ L E k [x2] S2 = LL at *
  clear hx2
  intro o Q gg ⟨hgg, hq1, hq2, k', hk1, hk2⟩
  rw [hk1]
  by_cases hc : QH L Q = [44]
  ·have his := is_yes (G := G) L Q hL [44] (by decide) hc
   obtain ⟨hn1, hn2⟩ := Wo hc (by decide)
   obtain ⟨n0, rfl, hn0⟩ := now_mk hc (by decide)
   have hat0 : (n0 : Int) + 1 = ((n0 + 1 : Nat) : Int) := by omega
   obtain ⟨hE2, hrE2⟩ := hE ⟨n0 + 1, false⟩ (by show rM L (Qi ⟨n0, false⟩) <= r0;omega)
   have hrn : rM L ⟨n0 + 1, false⟩ + 1 = rM L ⟨n0, false⟩ := hn1
   match k', hk1, hk2 with
   | k2 + 1, hk1, hk2 =>
   have hrec : QJ L E (k2 + 1) o ⟨n0, false⟩ = QJ L E k2 (o ++ [(E ⟨n0 + 1, false⟩).1]) (E ⟨n0 + 1, false⟩).2 := by rw [QJ, if_pos hc];rfl
   clear hx0 hS2
   generalize hx2 : (E ⟨n0 + 1, false⟩).1 = x2 at *
   generalize hS2 : (E ⟨n0 + 1, false⟩).2 = S3 at *
   (refine wkQ2 ?_;intros)
   refine ⟨o ++ [x2], S3, _, ⟨by assumption, by omega, by simp;omega, k2, hrec, by omega⟩, by omega, ?_⟩
   exact zal rfl
  ·have his := is_no (G := G) L Q hL [44] (by decide) hc
   have htk2 := qN (G := G) L Q hL [41] (by decide)
   have hat0 := trivial
   have hend : QJ L E k' o Q = (o, Q) := by
    cases k' with
    | zero => rfl
    | succ k2 => rw [QJ, if_neg hc]
   rw [hend]
   (refine wkQ2 ?_;intros)
   exact e_1 (Tryz.results184) (Qb rfl) (WK (D := fun d => d) (k := 0) .id rfl (by rw [Qx];rfl) rfl rfl)
theorem decDigits_step {n : Nat} (h : ¬ n < 10) : Lib.decDigits n = Lib.decDigits (n / 10) ++ [UInt8.ofNat (48 + n % 10)] := by rw [Lib.decDigits, dif_neg h]
theorem digits_len (n : Nat) (h : n <= 9223372036854775807) : (Lib.decDigits n).length <= 21 := by
 have h1 := WP (n := (n : Int)) ⟨by omega, by omega⟩
 unfold Lib.itoa at h1
 rw [if_neg (by omega)] at h1
 exact h1
theorem wkU1 {X W0 W1 W2 : Prop} (w0 : W0 := by exact True.intro) (w1 : W1 := by exact True.intro) (w2 : W2 := by exact True.intro) (s : (Unit -> W0) -> (Unit -> W1) -> (Unit -> W2) -> Unit -> X := by (intro w0 w1 w2 _;(repeat' first|(refine Qz ?_;(first|refine Ws rfl ?_|refine WM rfl ?_|(refine QN ?_;(first|refine QA rfl ?_|refine Qc rfl rfl rfl ?_))|refine Qq rfl rfl (by first|assumption|omega|(simp;done)|(simp;omega)) ?_|(refine Qw ?_;(first|refine Zw rfl rfl ?_|refine qv rfl rfl ?_|refine s_gtr rfl rfl ?_|refine WG rfl rfl ?_|refine WX rfl rfl ?_|refine ZU rfl rfl (by omega) ?_|refine s_ad rfl rfl ?_))|refine Qv rfl ?_|(refine Q1 ?_;(first|refine ZO rfl rfl ?_|refine W9 rfl rfl ?_))|(refine g_convert ?_;(first|refine s_conv_u8 rfl hw ?_|refine s_conv_bsl1 rfl ?_))|(refine ZA ?_;(first|refine s_bslice_e [Str.mk [43], Str.mk [45], Str.mk [42], Str.mk [47], Str.mk [37], Str.mk [38], Str.mk [124], Str.mk [94], Str.mk [60, 60], Str.mk [62, 62], Str.mk [60], Str.mk [61, 61], Str.mk [38, 38], Str.mk [124, 124]] rfl rfl (by decide) rfl ?_|refine W5 rfl rfl (by decide) rfl ?_))|refine Qe rfl rfl ?_|refine ZC rfl rfl (fun _ _ => ?_)))|(refine We ?_;(first|refine Wb ?_|refine Zg rfl ?_|refine qd rfl rfl rfl rfl ?_|refine qw rfl rfl rfl rfl ?_|refine WN rfl rfl (by omega) ?_|refine WD rfl rfl (by omega) ?_))|(refine Wc ?_;(first|refine Q7 ?_|refine Qm ?_|refine QM ?_|(refine WC ?_;first|refine Q9 (by rfl) (by kernel_rfl) (by kernel_rfl) ?_|refine Q8 (by kernel_rfl) (by kernel_rfl) ?_)|refine QV ?_|refine QR rfl ?_|refine Qu rfl (by omega) ?_|refine Qn rfl (by omega) ?_|refine W8 rfl ?_|refine Wi ?_))|(refine qM ?_;(first|refine x_op rfl (by (repeat' first|(refine Qz ?_;(first|refine Ws rfl ?_|refine WM rfl ?_|(refine Qw ?_;(first|refine ZU rfl rfl (by omega) ?_|refine s_ad rfl rfl ?_|refine s_quo rfl rfl (by omega) (by omega) (by omega) ?_|refine s_rem rfl rfl (by first|omega|exact nn_shr (by omega)) (by omega) ?_))|refine WA rfl rfl (hr) ?_|(refine g_convert ?_;(first|refine s_conv_u8 rfl hw ?_|refine s_conv_bsl1 rfl ?_))|refine W5 rfl rfl (by decide) rfl ?_))|exact ⟨rfl, rfl⟩)) ?_|refine qJ ?_)));(all_goals (repeat (rename_i x;(fail_if_success have : Unit := x);revert x)));(first|done|exact w0 ());(first|done|exact w1 ());(first|done|exact w2 ()))) (u : (W0 \/ True) /\ (W1 \/ True) /\ (W2 \/ True) := by (refine ⟨?_, ?_, ?_⟩ <;> first|exact Or.inl True.intro|exact Or.inr True.intro)) : X := s (fun _ => w0) (fun _ => w1) (fun _ => w2) ()
theorem qW : ∀ (n : Nat), n <= 9223372036854775807 -> Go.Av.Pure Tryz.prog G 93 [.i n] (Q2 (Lib.decDigits n)) := by
 intro n
 induction n using Nat.strongRecOn with
 | ind n ih =>
 intro hn B
 by_cases h : n < 10
 ·have hw : IntKind.u8.wrap (48 + (n : Int)) = ((UInt8.ofNat (48 + n)).toNat : Int) := by rw [<- wrap_u8 (48 + n) (by omega)];congr 1
  refine Qa Tryz.func93 rfl Tryz.ntmps93 rfl (t := [(0, .i n)]) rfl fun E hE => ?_
  (refine wkU1 ?_;intros)
  refine e_1 Tryz.results93 (Qb rfl) (Qd ?_)
  rw [Lib.decDigits_one h]
 ·have hr := ih (n / 10) (by omega) (by omega)
  have hl := digits_len (n / 10) (by omega)
  rw [show ((n / 10 : Nat) : Int) = (n : Int) / 10 by omega] at hr
  have hw : IntKind.u8.wrap (48 + (n : Int) % 10) = ((UInt8.ofNat (48 + n % 10)).toNat : Int) := by rw [<- wrap_u8 (48 + n % 10) (by omega)];congr 1
  refine Qa Tryz.func93 rfl Tryz.ntmps93 rfl (t := [(0, .i n)]) rfl fun E hE => ?_
  (refine wkU1 ?_;intros)
  refine e_1 Tryz.results93 (Qb rfl) (Qd ?_)
  rw [decDigits_step h]
theorem ZK (n : Int) : Go.Av.Pure Tryz.prog G 92 [.i n] (.b (WF n)) := fun B => by
 unfold WF
 by_cases h : 0 <= n
 ·refine Qa Tryz.func92 rfl Tryz.ntmps92 rfl (t := [(0, .i n)]) rfl fun E hE => ?_
  (refine wkU1 ?_;intros)
  refine e_1 Tryz.results92 (Qb rfl) (Qd ?_)
  simp [h]
 ·refine Qa Tryz.func92 rfl Tryz.ntmps92 rfl (t := [(0, .i n)]) rfl fun E hE => ?_
  (refine wkU1 ?_;intros)
  refine e_1 Tryz.results92 (Qb rfl) (Qd ?_)
  simp [h]
def bareR (m : Int) (len : Nat) (kids : Int) : Bool := decide (m = 0) && decide ((len : Int) = kids)
theorem qa (k n m : Int) (ks : List Nd) (kids : Int) : Go.Av.Pure Tryz.prog G 97 [.agg [.i k, .i n, .i m, Qo ks], .i kids] (.b (bareR m ks.length kids)) := fun B => by
 unfold bareR
 by_cases h : m = 0
 ·refine Qa Tryz.func97 rfl Tryz.ntmps97 rfl (t := [(0, .agg [.i k, .i n, .i m, Qo ks]), (1, .i kids)]) rfl fun E hE => ?_
  (refine wkU1 ?_;intros)
  refine e_1 Tryz.results97 (Qb rfl) (Qd ?_)
  simp [h]
 ·refine Qa Tryz.func97 rfl Tryz.ntmps97 rfl (t := [(0, .agg [.i k, .i n, .i m, Qo ks]), (1, .i kids)]) rfl fun E hE => ?_
  (refine wkU1 ?_;intros)
  refine e_1 Tryz.results97 (Qb rfl) (Qd ?_)
  simp [h]
theorem r_ops_c : Go.Av.Pure Tryz.prog G 99 [] (Qo (opTexts.map Str.mk)) := fun B => by
 refine Qa Tryz.func99 rfl Tryz.ntmps99 rfl (t := []) rfl fun E hE => ?_
 (refine wkU1 ?_;intros)
 refine e_1 Tryz.results99 (Qb rfl) (Qd ?_)
 rfl
def qm (ls : List Str) : List (List UInt8) := ls.map (·.l)
theorem commas_snoc (a : List (List UInt8)) (x : List UInt8) : Wy (a ++ [x]) = if a = [] then x else Wy a ++ comma ++ x := by
 cases a with
 | nil => exact Lib.join_one _ _
 | cons y r =>
  rw [if_neg (by simp)]
  show Lib.join (y :: (r ++ [x])) comma = Lib.join (y :: r) comma ++ comma ++ x
  rw [Lib.join_cons, Lib.join_cons]
  simp [Lib.joinTail]
theorem commas_take_le (ls : List Str) (i : Nat) : (Wy (qm (ls.take i))).length <= (Wy (qm ls)).length := by
 have key : ∀ (a b : List (List UInt8)), (Wy a).length <= (Wy (a ++ b)).length := by
  intro a b
  cases a with
  | nil => simp [Wy, Lib.join_nil]
  | cons x r =>
   show (Lib.join (x :: r) comma).length <= (Lib.join (x :: (r ++ b)) comma).length
   rw [Lib.join_cons, Lib.join_cons]
   simp [Lib.joinTail]
 have := key (qm (ls.take i)) (qm (ls.drop i))
 unfold qm at this ⊢
 rwa [<- List.map_append, List.take_append_drop] at this
theorem r_list_c (ls : List Str) (hlen : (Wy (qm ls)).length <= 140737488355328) (hn : ls.length <= 1000000000) : Go.Av.Pure Tryz.prog G 96 [Qo ls] (Q2 (Wy (qm ls))) := fun B => by
 refine Qa Tryz.func96 rfl Tryz.ntmps96 rfl (t := [(0, Qo ls)]) rfl fun E hE => ?_
 (refine wkU1 ?_;intros)
 refine WY (fun (i : Nat) => ⟨[(0, Qo ls), (3, Q2 (Wy (qm (ls.take i)))), (4, .i i)], []⟩) (fun i => i <= ls.length) (fun i => ls.length - i) 0 ?_ (by omega) ?_
 ·exact zal rfl
 intro i hi
 have hle := commas_take_le ls i
 by_cases hil : i < ls.length
 ·have hle2 := commas_take_le ls (i + 1)
  have hsn : Wy (qm (ls.take (i + 1))) = if qm (ls.take i) = [] then ls[i].l else Wy (qm (ls.take i)) ++ comma ++ ls[i].l := by
   rw [<- commas_snoc];unfold qm;rw [List.take_succ_eq_append_getElem hil, List.map_append];rfl
  by_cases h0 : i = 0
  ·subst h0
   have hll : ls[0].l.length <= 140737488355328 := by
    rw [hsn, if_pos (by simp [qm])] at hle2;omega
   (refine wkU1 ?_;intros)
   refine ⟨1, by omega, by omega, ?_⟩
   rw [hsn, if_pos (by simp [qm])]
   exact zal rfl
  ·have hne : qm (ls.take i) ≠ [] := by
    intro h
    have h2 : (qm (ls.take i)).length = i := by unfold qm;rw [List.length_map, List.length_take];omega
    rw [h] at h2;exact h0 h2.symm
   rw [if_neg hne] at hsn
   have hll : (Wy (qm (ls.take i))).length + 2 + ls[i].l.length <= 140737488355328 := by
    rw [hsn] at hle2
    simp only [List.length_append, show comma.length = 2 from rfl] at hle2
    omega
   (refine wkU1 ?_;intros)
   refine ⟨i + 1, by omega, by omega, ?_⟩
   rw [hsn]
   exact zal rfl
 ·have hie : i = ls.length := by omega
  subst hie
  (refine wkU1 ?_;intros)
  refine e_1 Tryz.results96 (Qb rfl) (Qd ?_)
  rw [List.take_length]
theorem wkQ3 {X W0 W1 W2 : Prop} (w0 : W0 := by exact True.intro) (w1 : W1 := by exact True.intro) (w2 : W2 := by exact True.intro) (s : (Unit -> W0) -> (Unit -> W1) -> (Unit -> W2) -> Unit -> X := by (intro w0 w1 w2 _;(repeat' first|(refine Qz ?_;(first|refine Ws rfl ?_|refine WM rfl ?_|(refine QN ?_;(first|refine Z4 rfl rfl ?_|refine QA rfl ?_|refine Qc rfl rfl rfl ?_))|refine Qq rfl rfl (by first|assumption|omega|(simp;done)|(simp;omega)) ?_|(refine Qw ?_;(first|refine W6 (a := (n0 : Int)) (b := 1) rfl rfl hat0 ⟨by omega, by omega⟩ ?_|refine ZU rfl rfl (by omega) ?_|refine Zw rfl rfl ?_))|(refine QK ?_;(first|refine Qv rfl ?_|refine WA rfl rfl (r_ops_c) ?_|refine Wh 0 (htk) rfl rfl rfl rfl ?_|refine Wh 0 (htk2) rfl rfl rfl rfl ?_|refine Wh 0 (his1) rfl rfl rfl rfl ?_|refine Wh 0 (his2) rfl rfl rfl rfl ?_|refine Wh 0 (hnb) rfl rfl rfl rfl ?_|refine Wh 0 (hnm) rfl rfl rfl rfl ?_|refine Wh 0 (hE0) rfl rfl rfl rfl ?_|refine Wh 0 (hE2) rfl rfl rfl rfl ?_|refine Wh 0 (hfl) rfl rfl rfl rfl ?_))|(refine Wr ?_;(first|refine qh rfl rfl rfl rfl ?_|refine Wg rfl rfl rfl rfl (by rfl) (by rfl) (by rfl) ?_))|(refine ZA ?_;(first|refine qD (z := xE) rfl rfl rfl rfl (fun _ _ => ?_)|refine WO (y := xa) (z := xb) rfl rfl (by decide) ?_))|refine Qe rfl rfl ?_|refine QB rfl rfl ?_|refine Qj rfl rfl ?_|refine QU (fun _ _ => ?_)))|(refine We ?_;(first|refine Wb ?_|refine Zg rfl ?_|refine WI ?_))|(refine Wc ?_;(first|refine Q7 ?_|refine Qm ?_|refine QM ?_|refine QV ?_|refine QD rfl ?_|refine QR rfl ?_|refine Qu rfl (by omega) ?_|refine W8 rfl ?_|refine Wi ?_)));(all_goals (repeat (rename_i x;(fail_if_success have : Unit := x);revert x)));(first|done|exact w0 ());(first|done|exact w1 ());(first|done|exact w2 ()))) (u : (W0 \/ True) /\ (W1 \/ True) /\ (W2 \/ True) := by (refine ⟨?_, ?_, ?_⟩ <;> first|exact Or.inl True.intro|exact Or.inr True.intro)) : X := s (fun _ => w0) (fun _ => w1) (fun _ => w2) ()
theorem variable_q (L : W7) (hL : OkL L) (hT : OkT L) (E : Rd1) (r0 : Nat) (hE : ElQ G 182 L E r0) (S : RS) (hr : rM L S <= r0 + 1) :
  CO Tryz.prog G 203 (fun p g => [.ptr p g 0]) (rqC L S) (frmN (QX L E S).1) (kidsN (QX L E S).1).length 4 (Wf (kidsN (QX L E S).1)) (rqC L (QX L E S).2) := by
 have hnb := numbered_q (G := G) L S hL 118 (by decide)
 have hnl := ZP L 118 S
 have hll := hL.1
 unfold QX
 generalize (Qf L 118 S).1 = v at *
 generalize (Qf L 118 S).2 = S1 at *
 unfold qP
 have hE0 := trivial
 have hfl := trivial
 have hno := trivial
 have htk := trivial
 by_cases h1 : QH L S1 = [91]
 ·have his1 := is_yes (G := G) L S1 hL [91] (by decide) h1
  have hrn := (Wo h1 (by decide)).1
  obtain ⟨n0, rfl, hn0⟩ := now_mk h1 (by decide)
  have hat0 : (n0 : Int) + 1 = ((n0 + 1 : Nat) : Int) := by omega
  rw [if_pos h1]
  have hnx : Qi ⟨n0, false⟩ = ⟨n0 + 1, false⟩ := rfl
  rw [hnx] at hrn ⊢
  obtain ⟨hE2, hle2⟩ := hE ⟨n0 + 1, false⟩ (by omega)
  generalize (E ⟨n0 + 1, false⟩).1 = xE at *
  generalize (E ⟨n0 + 1, false⟩).2 = S2 at *
  have htk2 := qN (G := G) L S2 hL [93] (by decide)
  have his2 := trivial
  have hnm := trivial
  intro g B hg
  refine Qa Tryz.func203 rfl Tryz.ntmps203 rfl (t := [(0, .ptr 0 g 0)]) rfl fun E0 hE1 => ?_
  (refine wkQ3 ?_;intros)
  exact e_1 (Tryz.results203) (Qg (size := 4) rfl rfl rfl rfl) (c_co (k := 3) (D2 := frmN (.mk 7 v 0 [xE])) (frmN_ok _) hE1 (by omega) rfl rfl rfl rfl rfl rfl)
 rw [if_neg h1]
 have his1 := is_no (G := G) L S1 hL [91] (by decide) h1
 have htk2 := trivial
 have hE2 := trivial
 by_cases h2 : QH L S1 = [46]
 ·have his2 := is_yes (G := G) L S1 hL [46] (by decide) h2
  obtain ⟨n0, rfl, hn0⟩ := now_mk h2 (by decide)
  have hat0 : (n0 : Int) + 1 = ((n0 + 1 : Nat) : Int) := by omega
  rw [if_pos h2]
  have hnx : Qi ⟨n0, false⟩ = ⟨n0 + 1, false⟩ := rfl
  rw [hnx]
  have hnm := numeral_q (G := G) L ⟨n0 + 1, false⟩ hL hT
  generalize (Qh L ⟨n0 + 1, false⟩).1 = m at *
  generalize (Qh L ⟨n0 + 1, false⟩).2 = S2 at *
  intro g B hg
  refine Qa Tryz.func203 rfl Tryz.ntmps203 rfl (t := [(0, .ptr 0 g 0)]) rfl fun E0 hE1 => ?_
  (refine wkQ3 ?_;intros)
  exact e_1 (Tryz.results203) (Qg (size := 4) rfl rfl rfl rfl) (c_co_nil (D2 := frmN (.mk 8 v m [])) (frmN_ok _) hE1 rfl rfl rfl rfl)
 ·rw [if_neg h2]
  have his2 := is_no (G := G) L S1 hL [46] (by decide) h2
  have hat0 := trivial
  have hnm := trivial
  intro g B hg
  refine Qa Tryz.func203 rfl Tryz.ntmps203 rfl (t := [(0, .ptr 0 g 0)]) rfl fun E0 hE1 => ?_
  (refine wkQ3 ?_;intros)
  exact e_1 (Tryz.results203) (Qg (size := 4) rfl rfl rfl rfl) (c_co_nil (D2 := frmN (.mk 6 v 0 [])) (frmN_ok _) hE1 rfl rfl rfl rfl)
theorem opIdx_at {s : List UInt8} {i : Nat} (h : i < opTexts.length) (hs : opTexts[i] = s) (hno : ∀ j (hj : j < opTexts.length), j < i -> opTexts[j] ≠ s) : qF s = (i : Int) := by
 unfold qF
 have : opTexts.findIdx? (fun t => decide (t = s)) = some i := by
  rw [List.findIdx?_eq_some_iff_getElem]
  exact ⟨h, by simp [hs], fun j hj => by simp;exact hno j (by omega) hj⟩
 rw [this]
theorem opIdx_none {s : List UInt8} (hno : ∀ j (hj : j < opTexts.length), opTexts[j] ≠ s) : qF s = -1 := by
 unfold qF
 have : opTexts.findIdx? (fun t => decide (t = s)) = none := by
  rw [List.findIdx?_eq_none_iff]
  intro x hx
  obtain ⟨j, hj, rfl⟩ := List.getElem_of_mem hx
  simp;exact hno j hj
 rw [this]
theorem binary_q (L : W7) (hL : OkL L) (E : Rd1) (r0 : Nat) (hE : ElQ G 182 L E r0) (n1 : Nat) (hop : QH L ⟨n1, false⟩ = [40]) (hr : rM L ⟨n1, false⟩ <= r0 + 1) :
  CE Tryz.prog G 204 (fun p g => [.ptr p g 0]) (rqC L ⟨n1, false⟩) (.agg (Enc.enc (Z0 L E ⟨n1 + 1, false⟩).1)) (rqC L (Z0 L E ⟨n1 + 1, false⟩).2) := fun g B hg => by
 have hll := hL.1
 have htk := qN (G := G) L ⟨n1, false⟩ hL [40] (by decide)
 have e0 : QC L [40] ⟨n1, false⟩ = ⟨n1 + 1, false⟩ := by unfold QC;rw [if_pos hop];rfl
 rw [e0] at htk
 have hrn := (Wo hop (by decide)).1
 have hnx : Qi ⟨n1, false⟩ = ⟨n1 + 1, false⟩ := rfl
 rw [hnx] at hrn
 obtain ⟨hE0, hla⟩ := hE ⟨n1 + 1, false⟩ (by omega)
 unfold Z0
 generalize (E ⟨n1 + 1, false⟩).1 = xa at *
 generalize (E ⟨n1 + 1, false⟩).2 = S1 at *
 have hfl := fail_q (G := G) L S1
 have his1 := trivial
 have his2 := trivial
 have hno := trivial
 have hnb := trivial
 have hnm := trivial
 have hE2 := trivial
 have htk2 := trivial
 have hat0 := trivial
 have hol : (opTexts.map Str.mk).length = 14 := rfl
 refine Qa Tryz.func204 rfl Tryz.ntmps204 rfl (t := [(0, .ptr 0 g 0)]) rfl fun E0 hE1 => ?_
 (refine wkQ3 ?_;intros)
 rename_i g2 hg2 g3 hg3
 have hfl2 := hfl
 clear htk hE0
 have htk := trivial
 have hE0 := trivial
 refine WY (fun i : Nat => ⟨[(0, .ptr 0 g 0), (2, .ptr 1 g2 0), (3, .ptr 2 g3 0), (4, Qo (opTexts.map Str.mk)), (5, .i i)], [.row g (rqC L S1), .row g2 [.i 0, .i 0, .i 0, .nil], .row g3 (Enc.enc xa)]⟩) (fun i => i <= 14 /\ ∀ j (hj : j < opTexts.length), j < i -> opTexts[j] ≠ QH L S1) (fun i => 14 - i) 0 ?_ ⟨by omega, fun j hj h => by omega⟩ ?_
 ·exact zal rfl
 intro i ⟨hi, hmiss⟩
 by_cases hil : i < 14
 ·have hit : i < opTexts.length := hil
  have hil2 : i < (opTexts.map Str.mk).length := by omega
  have hel : ((opTexts.map Str.mk)[i]).l = opTexts[i] := by rw [List.getElem_map];rfl
  have hne : ((opTexts.map Str.mk)[i]).l ≠ [] := by rw [hel];exact (by decide : ∀ x ∈ opTexts, x ≠ []) _ (List.getElem_mem hit)
  by_cases hx : QH L S1 = opTexts[i]
  ·have hoi := opIdx_at hit hx.symm hmiss
   have his1 := is_yes (G := G) L S1 hL ((opTexts.map Str.mk)[i]).l hne (by rw [hel];exact hx)
   have hrn2 := (Wo hx (by rw [<- hel];exact hne)).1
   rw [hoi, if_neg (by omega)]
   obtain ⟨n0, rfl, hn0⟩ := now_mk hx (by rw [<- hel];exact hne)
   have hat0 : (n0 : Int) + 1 = ((n0 + 1 : Nat) : Int) := by omega
   have hnx2 : Qi ⟨n0, false⟩ = ⟨n0 + 1, false⟩ := rfl
   rw [hnx2] at hrn2 ⊢
   obtain ⟨hE2, hlb⟩ := hE ⟨n0 + 1, false⟩ (by omega)
   generalize (E ⟨n0 + 1, false⟩).1 = xb at *
   generalize (E ⟨n0 + 1, false⟩).2 = S2 at *
   have htk2 := qN (G := G) L S2 hL [41] (by decide)
   clear hmiss hfl hfl2
   have hfl := trivial
   (refine wkQ3 ?_;intros)
   refine e_1 (Tryz.results204) (Qg (size := 4) rfl rfl rfl rfl) ?_
   rw [Qr]
   exact ZI rfl rfl
  ·have his1 := is_no (G := G) L S1 hL ((opTexts.map Str.mk)[i]).l hne (by rw [hel];exact hx)
   clear hfl hfl2
   have hfl := trivial
   (refine wkQ3 ?_;intros)
   refine ⟨i + 1, ⟨by omega, fun j hj hji => ?_⟩, by omega, ?_⟩
   ·rcases Nat.lt_or_ge j i with h'|h'
    ·exact hmiss j hj h'
    ·have hje : j = i := by omega
     subst hje
     exact fun e => hx e.symm
   ·exact zal rfl
 ·have hie : i = 14 := by omega
  subst hie
  have hoi := opIdx_none (s := QH L S1) fun j hj => hmiss j hj hj
  rw [hoi, if_pos (by decide)]
  clear hmiss
  (refine wkQ3 ?_;intros)
  exact e_1 (Tryz.results204) (Qg (size := 4) rfl rfl (WZ _) (Enc.len _)) (ZI rfl rfl)
theorem Qt {P : Program} {G : Nat -> DV} {B : Nat} {f : Operand -> DV} {σ : List ABlk} {K : DV -> List ABlk -> Prop} {dst : Option Tmp} {type : TypeId} {pos : String} {after : Array Edge} {gd : Option (Nat × Bool)} {t t' : TypeId} {g1 : Bool} {z1 : Nat} {x y : Operand} {a b : List UInt8} {v : Bool} [ht : TyI P t .string g1 z1] (hx : f x = Q2 a) (hy : f y = Q2 b) (hc : decide (a = b) = v) (k : K (.b v) σ) : OpSem P G B ⟨dst, .binOp .eql t x y t', type, pos, after, gd⟩ f σ K := Zr hx hy (by rw [hc];exact k)
theorem ndM_neg (L : W7) (S : RS) (c : UInt8) (h : ¬ isM L c S = true) : ndM (QH L S) c = -1 := by rw [ndM_is, if_neg h]
theorem ndM_pos (L : W7) (S : RS) (c : UInt8) (h : isM L c S = true) : 0 <= ndM (QH L S) c := by
 rw [ndM_is, if_pos h]
 exact (val_num (is_now h).2.1).2.1
theorem wkQ4 {X W0 W1 W2 : Prop} (w0 : W0 := by exact True.intro) (w1 : W1 := by exact True.intro) (w2 : W2 := by exact True.intro) (s : (Unit -> W0) -> (Unit -> W1) -> (Unit -> W2) -> Unit -> X := by (intro w0 w1 w2 _;(repeat' first|(refine Qz ?_;(first|refine Ws rfl ?_|refine WM rfl ?_|refine Qc rfl rfl rfl ?_|(refine Qw ?_;(first|refine W6 (a := (n0 : Int)) (b := 1) rfl rfl hat0 ⟨by omega, by omega⟩ ?_|refine Qt rfl rfl hw1 ?_|refine Qt rfl rfl hw2 ?_|refine Qt rfl rfl hw3 ?_|refine Qt rfl rfl hw4 ?_|refine Qt rfl rfl hw5 ?_|refine Qt rfl rfl hw6 ?_|refine WG rfl rfl ?_))|(refine QK ?_;(first|refine Wh 0 (hv1) rfl rfl rfl rfl ?_|refine Wh 0 (hv2) rfl rfl rfl rfl ?_|refine Wh 0 (hnm) rfl rfl rfl rfl ?_|refine Wh 0 (hnb) rfl rfl rfl rfl ?_|refine Wh 0 (hvar) rfl rfl rfl rfl ?_|refine Wh 0 (hbin) rfl rfl rfl rfl ?_|refine Wh 0 (hargs) rfl rfl rfl rfl ?_|refine Wh 0 (his1) rfl rfl rfl rfl ?_|refine Wh 0 (hE2) rfl rfl rfl rfl ?_|refine Wh 0 (hfl) rfl rfl rfl rfl ?_))|(refine Wr ?_;(first|refine qh rfl rfl rfl rfl ?_|refine Wg rfl rfl rfl rfl (by rfl) (by rfl) (by rfl) ?_))|refine QO (z := xE) rfl rfl (by decide) ?_|refine s_neg rfl (by omega) ?_|refine Qe rfl rfl ?_|refine QB rfl rfl ?_|refine Qj rfl rfl ?_|refine QU (fun _ _ => ?_)))|(refine We ?_;(first|refine Wb ?_|refine Zg rfl ?_|refine WI ?_))|(refine Wc ?_;(first|refine Q7 ?_|refine Qm ?_|refine QM ?_|(refine WC ?_;first|refine Q9 (by rfl) (by kernel_rfl) (by kernel_rfl) ?_|refine Q8 (by kernel_rfl) (by kernel_rfl) ?_)|refine QV ?_|refine QD rfl ?_|refine QR rfl ?_|refine Qu rfl (by omega) ?_|refine Qn rfl (by omega) ?_|refine Wi ?_))|(refine qM ?_;(first|refine x_gn rfl rfl rfl rfl ?_|refine x_op rfl (by (repeat' first|(refine Qz ?_;(first|refine Ws rfl ?_|(refine QN ?_;(first|refine QA rfl ?_|refine Qc rfl rfl rfl ?_))|refine Qq rfl rfl (by first|assumption|omega|(simp;done)|(simp;omega)) ?_|(refine Qw ?_;(first|refine s_eql_asQ rfl rfl hkq ?_|refine WG rfl rfl ?_))|refine Qv rfl ?_|(refine Q1 ?_;(first|refine ZO rfl rfl ?_|refine W9 rfl rfl ?_))|(refine QS ?_;(first|refine Qe rfl rfl ?_|refine Wz rfl rfl ?_))|refine Qj rfl rfl ?_))|exact ⟨rfl, rfl⟩)) ?_|refine x_gy rfl rfl rfl rfl (by (repeat' first|(refine Qz ?_;(first|refine Ws rfl ?_|(refine QN ?_;(first|refine QA rfl ?_|refine Qc rfl rfl rfl ?_))|refine Qq rfl rfl (by first|assumption|omega|(simp;done)|(simp;omega)) ?_|(refine Qw ?_;(first|refine s_eql_asQ rfl rfl hkq ?_|refine WG rfl rfl ?_))|refine Qv rfl ?_|(refine Q1 ?_;(first|refine ZO rfl rfl ?_|refine W9 rfl rfl ?_))|(refine QS ?_;(first|refine Qe rfl rfl ?_|refine Wz rfl rfl ?_))|refine Qj rfl rfl ?_))|exact ⟨rfl, rfl⟩)) ?_|refine qJ ?_)));(all_goals (repeat (rename_i x;(fail_if_success have : Unit := x);revert x)));(first|done|exact w0 ());(first|done|exact w1 ());(first|done|exact w2 ()))) (u : (W0 \/ True) /\ (W1 \/ True) /\ (W2 \/ True) := by (refine ⟨?_, ?_, ?_⟩ <;> first|exact Or.inl True.intro|exact Or.inr True.intro)) : X := s (fun _ => w0) (fun _ => w1) (fun _ => w2) ()
theorem expr_q (L : W7) (hL : OkL L) (hT : OkT L) : ∀ (n : Nat) (S : RS), rM L S + 2 <= n -> CE Tryz.prog G 182 (fun p g => [.ptr p g 0]) (rqC L S) (.agg (Enc.enc (Wm L zNd n S).1)) (rqC L (Wm L zNd n S).2) := by
 intro n
 induction n with
 | zero => intro S h;omega
 | succ n ih =>
 intro S hn
 have hll := hL.1
 have htl := trs_len L
 have jx : ∀ Q, rM L (Wm L zNd n Q).2 <= rM L Q := fun Q => (jr (fun i => J.expr (Ag.refl L i) n True) Q).1
 by_cases hgo : QH L S = []
 ·have hz : Wm L zNd (n + 1) S = (zNd, WJ S) := by
   rw [Wm]
   have h0 : ∀ c, isM L c S = false := fun c => by unfold isM;rw [hgo];rfl
   rw [hgo, h0, h0]
   rfl
  rw [hz]
  have hfl := fail_q (G := G) L S
  have hv1 := trivial
  have hv2 := trivial
  have hnm := trivial
  have hnb := trivial
  have hvar := trivial
  have hbin := trivial
  have hargs := trivial
  have his1 := trivial
  have hE2 := trivial
  have hat0 := trivial
  have hkq := trivial
  have hw1 := trivial
  have hw2 := trivial
  have hw3 := trivial
  have hw4 := trivial
  have hw5 := trivial
  have hw6 := trivial
  obtain ⟨n0, bad⟩ := S
  clear ih jx hz
  cases bad with
  | true =>
   have ec : rqC L ⟨n0, true⟩ = [Qo (trs L), .i (n0 : Nat), .i (n0 : Nat)] := by unfold rqC badI;simp
   rw [ec] at hfl ⊢
   intro g B hg
   refine Qa Tryz.func182 rfl Tryz.ntmps182 rfl (t := [(0, .ptr 0 g 0)]) rfl fun E0 hE1 => ?_
   (refine wkQ4 ?_;intros)
   exact e_1 (Tryz.results182) (Qg (size := 4) rfl rfl (WZ _) (Enc.len _)) (ZI rfl rfl)
  | false =>
   have ec : rqC L ⟨n0, false⟩ = [Qo (trs L), .i (n0 : Nat), .i (-1)] := by unfold rqC badI;simp
   have hpl : ¬ n0 < (trs L).length := fun h => by
    have h2 : n0 < L.length := by omega
    unfold QH at hgo
    rw [if_neg (by simp), List.getD_eq_getElem?_getD, List.getElem?_eq_getElem h2] at hgo
    exact (hL.2 _ (List.getElem_mem h2)).1 hgo
   rw [ec] at hfl ⊢
   intro g B hg
   refine Qa Tryz.func182 rfl Tryz.ntmps182 rfl (t := [(0, .ptr 0 g 0)]) rfl fun E0 hE1 => ?_
   (refine wkQ4 ?_;intros)
   exact e_1 (Tryz.results182) (Qg (size := 4) rfl rfl (WZ _) (Enc.len _)) (ZI rfl rfl)
 obtain ⟨n0, rfl, hn0⟩ := now_mk rfl hgo
 have hp2 : n0 < (trs L).length := by omega
 have hgt : (trs L)[n0].t = QH L ⟨n0, false⟩ := by
  rw [trs_get hn0]
  unfold QH
  rw [if_neg (by simp), List.getD_eq_getElem?_getD, List.getElem?_eq_getElem hn0];rfl
 have hgk : (trs L)[n0].k = kindM (trs L)[n0].t := by rw [trs_get hn0]
 obtain ⟨u, hu⟩ := tok_at hT hn0
 have hu : Wq u = QH L ⟨n0, false⟩ := by rw [hu, <- hgt, trs_get hn0]
 have ec : rqC L ⟨n0, false⟩ = [Qo (trs L), .i (n0 : Nat), .i (-1)] := by unfold rqC badI;simp
 have hat0 : (n0 : Int) + 1 = ((n0 + 1 : Nat) : Int) := by omega
 have hnx : Qi ⟨n0, false⟩ = ⟨n0 + 1, false⟩ := rfl
 have hrn := (Wo (L := L) (S := ⟨n0, false⟩) rfl hgo).1
 rw [hnx] at hrn
 have hel : ElQ G 182 L (Wm L zNd n) (rM L ⟨n0, false⟩ - 1) := fun Q hQ => ⟨ih Q (by omega), jx Q⟩
 have hv1 := number_q (G := G) L ⟨n0, false⟩ hL 118 (by decide)
 have hv2 := number_q (G := G) L ⟨n0, false⟩ hL 102 (by decide)
 clear ih
 rw [Wm, hnx]
 have hfl := fail_q (G := G) L ⟨n0, false⟩
 by_cases h1 : qx (QH L ⟨n0, false⟩) = true
 ·rw [if_pos h1]
  have hkq : decide ((trs L)[n0].k = 1) = true := decide_eq_true (by rw [hgk, hgt];exact num_kind h1)
  have hnm := numeral_q (G := G) L ⟨n0, false⟩ hL hT
  generalize (Qh L ⟨n0, false⟩).1 = v at *
  generalize (Qh L ⟨n0, false⟩).2 = S2 at *
  rw [ec] at hnm ⊢
  clear hel jx hv1 hv2 hfl
  intro g B hg
  refine Qa Tryz.func182 rfl Tryz.ntmps182 rfl (t := [(0, .ptr 0 g 0)]) rfl fun E0 hE1 => ?_
  (refine wkQ4 ?_;intros)
  exact e_1 (Tryz.results182) (Qg (size := 4) rfl rfl rfl rfl) (c_ceA rfl rfl)
 rw [if_neg h1]
 have hkq : decide ((trs L)[n0].k = 1) = false := decide_eq_false (fun h => h1 (tok_kind hu (by rw [<- hgt, <- hgk];exact h)))
 by_cases h2 : isM L 118 ⟨n0, false⟩ = true
 ·rw [if_pos h2]
  have hnd := ndM_pos L ⟨n0, false⟩ 118 h2
  generalize ndM (QH L ⟨n0, false⟩) 118 = d1 at *
  have hvar := ((variable_q (G := G) L hL hT _ _ hel ⟨n0, false⟩ (by omega)).pub (frmN_ok _) (by rw [Qx];rfl)).conv (frmN_enc _) rfl
  generalize QX L (Wm L zNd n) ⟨n0, false⟩ = q at *
  rw [ec] at hvar hv1 ⊢
  clear hel jx hv2 hfl
  intro g B hg
  refine Qa Tryz.func182 rfl Tryz.ntmps182 rfl (t := [(0, .ptr 0 g 0)]) rfl fun E0 hE1 => ?_
  (refine wkQ4 ?_;intros)
  exact e_1 (Tryz.results182) (Qg (size := 4) rfl rfl (WZ _) (Enc.len _)) (ZI rfl rfl)
 rw [if_neg h2]
 rw [ndM_neg L _ 118 h2] at hv1
 by_cases h3 : isM L 102 ⟨n0, false⟩ = true
 ·rw [if_pos h3]
  have hnd := ndM_pos L ⟨n0, false⟩ 102 h3
  generalize ndM (QH L ⟨n0, false⟩) 102 = d1 at *
  have hnb := numbered_q (G := G) L ⟨n0, false⟩ hL 102 (by decide)
  have e3 : (Qf L 102 ⟨n0, false⟩).2 = ⟨n0 + 1, false⟩ := by unfold Qf;rw [if_pos h3];rfl
  rw [e3] at hnb ⊢
  generalize (Qf L 102 ⟨n0, false⟩).1 = v at *
  have hargs := args_q (G := G) L (Wm L zNd n) _ n hL hel ⟨n0 + 1, false⟩ (by omega) (by omega)
  generalize Wv L (Wm L zNd n) n ⟨n0 + 1, false⟩ = q at *
  obtain ⟨q1, q2⟩ := q
  rw [ec] at hv1 hv2 hnb ⊢
  clear hel jx hfl
  intro g B hg
  refine Qa Tryz.func182 rfl Tryz.ntmps182 rfl (t := [(0, .ptr 0 g 0)]) rfl fun E0 hE1 => ?_
  (refine wkQ4 ?_;intros)
  refine e_1 (Tryz.results182) (Qg (size := 4) rfl rfl rfl rfl) ?_
  rw [Qr]
  exact ZI rfl rfl
 rw [if_neg h3]
 rw [ndM_neg L _ 102 h3] at hv2
 generalize hcur : QH L ⟨n0, false⟩ = cur at *
 rw [ec] at hv1 hv2 hfl ⊢
 have wd : ∀ w : List UInt8, decide ((trs L)[n0].t = w) = decide (cur = w) := fun w => by rw [hgt]
 by_cases h4 : cur = [45]
 ·rw [if_pos h4]
  have hw1 : decide ((trs L)[n0].t = [45]) = true := by rw [wd];exact decide_eq_true h4
  have hfl := fail_q (G := G) L ⟨n0 + 1, false⟩
  by_cases h5 : QH L ⟨n0 + 1, false⟩ = [48]
  ·rw [if_pos h5]
   have his1 := is_yes (G := G) L ⟨n0 + 1, false⟩ hL [48] (by decide) h5
   clear hel jx
   intro g B hg
   refine Qa Tryz.func182 rfl Tryz.ntmps182 rfl (t := [(0, .ptr 0 g 0)]) rfl fun E0 hE1 => ?_
   (refine wkQ4 ?_;intros)
   exact e_1 (Tryz.results182) (Qg (size := 4) rfl rfl (WZ _) (Enc.len _)) (ZI rfl rfl)
  ·rw [if_neg h5]
   have his1 := is_no (G := G) L ⟨n0 + 1, false⟩ hL [48] (by decide) h5
   have hnm := numeral_q (G := G) L ⟨n0 + 1, false⟩ hL hT
   have hnmb := numeralM_le L ⟨n0 + 1, false⟩
   generalize (Qh L ⟨n0 + 1, false⟩).1 = v at *
   generalize (Qh L ⟨n0 + 1, false⟩).2 = S2 at *
   clear hel jx hfl
   intro g B hg
   refine Qa Tryz.func182 rfl Tryz.ntmps182 rfl (t := [(0, .ptr 0 g 0)]) rfl fun E0 hE1 => ?_
   (refine wkQ4 ?_;intros)
   exact e_1 (Tryz.results182) (Qg (size := 4) rfl rfl rfl rfl) (c_ceA rfl rfl)
 rw [if_neg h4]
 have hw1 : decide ((trs L)[n0].t = [45]) = false := by rw [wd];exact decide_eq_false h4
 by_cases h5 : cur = wTrue
 ·rw [if_pos h5]
  have hw2 : decide ((trs L)[n0].t = wTrue) = true := by rw [wd];exact decide_eq_true h5
  clear hel jx hfl
  intro g B hg
  refine Qa Tryz.func182 rfl Tryz.ntmps182 rfl (t := [(0, .ptr 0 g 0)]) rfl fun E0 hE1 => ?_
  (refine wkQ4 ?_;intros)
  exact e_1 (Tryz.results182) (Qg (size := 4) rfl rfl rfl rfl) (c_ceA rfl rfl)
 rw [if_neg h5]
 have hw2 : decide ((trs L)[n0].t = wTrue) = false := by rw [wd];exact decide_eq_false h5
 by_cases h6 : cur = wFalse
 ·rw [if_pos h6]
  have hw3 : decide ((trs L)[n0].t = wFalse) = true := by rw [wd];exact decide_eq_true h6
  clear hel jx hfl
  intro g B hg
  refine Qa Tryz.func182 rfl Tryz.ntmps182 rfl (t := [(0, .ptr 0 g 0)]) rfl fun E0 hE1 => ?_
  (refine wkQ4 ?_;intros)
  exact e_1 (Tryz.results182) (Qg (size := 4) rfl rfl rfl rfl) (c_ceA rfl rfl)
 rw [if_neg h6]
 have hw3 : decide ((trs L)[n0].t = wFalse) = false := by rw [wd];exact decide_eq_false h6
 by_cases h7 : cur = [40]
 ·rw [if_pos h7]
  have hw4 : decide ((trs L)[n0].t = [40]) = true := by rw [wd];exact decide_eq_true h7
  have hbin := binary_q (G := G) L hL (Wm L zNd n) _ hel n0 (by rw [hcur];exact h7) (by omega)
  generalize Z0 L (Wm L zNd n) ⟨n0 + 1, false⟩ = q at *
  rw [ec] at hbin
  clear hel jx hfl
  intro g B hg
  refine Qa Tryz.func182 rfl Tryz.ntmps182 rfl (t := [(0, .ptr 0 g 0)]) rfl fun E0 hE1 => ?_
  (refine wkQ4 ?_;intros)
  exact e_1 (Tryz.results182) (Qg (size := 4) rfl rfl (WZ _) (Enc.len _)) (ZI rfl rfl)
 rw [if_neg h7]
 have hw4 : decide ((trs L)[n0].t = [40]) = false := by rw [wd];exact decide_eq_false h7
 by_cases h8 : cur = [33]
 ·rw [if_pos h8]
  have hw5 : decide ((trs L)[n0].t = [33]) = true := by rw [wd];exact decide_eq_true h8
  obtain ⟨hE2, _⟩ := hel ⟨n0 + 1, false⟩ (by omega)
  generalize (Wm L zNd n ⟨n0 + 1, false⟩).1 = xE at *
  generalize (Wm L zNd n ⟨n0 + 1, false⟩).2 = S2 at *
  clear hel jx hfl
  intro g B hg
  refine Qa Tryz.func182 rfl Tryz.ntmps182 rfl (t := [(0, .ptr 0 g 0)]) rfl fun E0 hE1 => ?_
  (refine wkQ4 ?_;intros)
  refine e_1 (Tryz.results182) (Qg (size := 4) rfl rfl rfl rfl) ?_
  rw [Qr]
  exact ZI (by simp [Qo, Wf];try rfl) rfl
 rw [if_neg h8]
 have hw5 : decide ((trs L)[n0].t = [33]) = false := by rw [wd];exact decide_eq_false h8
 by_cases h9 : cur = wRecv
 ·rw [if_pos h9]
  have hw6 : decide ((trs L)[n0].t = wRecv) = true := by rw [wd];exact decide_eq_true h9
  have hnb := numbered_q (G := G) L ⟨n0 + 1, false⟩ hL 99 (by decide)
  generalize (Qf L 99 ⟨n0 + 1, false⟩).1 = v at *
  generalize (Qf L 99 ⟨n0 + 1, false⟩).2 = S2 at *
  clear hel jx hfl
  intro g B hg
  refine Qa Tryz.func182 rfl Tryz.ntmps182 rfl (t := [(0, .ptr 0 g 0)]) rfl fun E0 hE1 => ?_
  (refine wkQ4 ?_;intros)
  exact e_1 (Tryz.results182) (Qg (size := 4) rfl rfl rfl rfl) (c_ceA rfl rfl)
 rw [if_neg h9]
 have hw6 : decide ((trs L)[n0].t = wRecv) = false := by rw [wd];exact decide_eq_false h9
 clear hel jx
 intro g B hg
 refine Qa Tryz.func182 rfl Tryz.ntmps182 rfl (t := [(0, .ptr 0 g 0)]) rfl fun E0 hE1 => ?_
 (refine wkQ4 ?_;intros)
 exact e_1 (Tryz.results182) (Qg (size := 4) rfl rfl (WZ _) (Enc.len _)) (ZI rfl rfl)
theorem wkQ5 {X W0 W1 W2 : Prop} (w0 : W0 := by exact True.intro) (w1 : W1 := by exact True.intro) (w2 : W2 := by exact True.intro) (s : (Unit -> W0) -> (Unit -> W1) -> (Unit -> W2) -> Unit -> X := by (intro w0 w1 w2 _;(repeat' first|(refine Qz ?_;(first|refine Ws rfl ?_|(refine QN ?_;(first|refine Z4 rfl rfl ?_|refine Qc rfl rfl rfl ?_))|(refine Qw ?_;(first|refine Zw rfl rfl ?_|refine WX rfl rfl ?_|refine ZU rfl rfl (by omega) ?_|refine qC rfl rfl (by omega) ?_))|(refine QK ?_;(first|refine Zy (z := x2) rfl rfl rfl rfl rfl rfl rfl (by first|omega|(simp;omega)) (by first|omega|(simp;omega)) (fun _ => rfl) (fun _ _ => ?_)|refine Wh 0 (htk) rfl rfl rfl rfl ?_|refine Wh 0 (htk2) rfl rfl rfl rfl ?_|refine Wh 0 (hv1) rfl rfl rfl rfl ?_|refine Wh 0 (hT2) rfl rfl rfl rfl ?_|refine Wh 0 (hx2) rfl rfl rfl rfl ?_|refine s_co 0 (hvar) (by first|exact .id|exact .node rfl rfl rfl) rfl rfl rfl rfl (Qy _) (fun _ _ => ?_)))|(refine Q1 ?_;(first|refine ZO rfl rfl ?_|refine W9 rfl rfl ?_))|(refine Wr ?_;(first|refine qh rfl rfl rfl rfl ?_|refine Wg rfl rfl rfl rfl (by rfl) (by rfl) (by rfl) ?_))|refine qK rfl ?_|refine Qe rfl rfl ?_|refine QB rfl rfl ?_|refine Qj rfl rfl ?_|refine QU (fun _ _ => ?_)))|(refine We ?_;(first|refine Wb ?_|refine Zg rfl ?_|refine WI ?_|refine qd rfl rfl rfl rfl ?_|refine qw rfl rfl rfl rfl ?_|refine WN rfl rfl (by omega) ?_|refine WD rfl rfl (by omega) ?_))|(refine Wc ?_;(first|refine Q7 ?_|refine Qm ?_|refine QM ?_|(refine WC ?_;first|(refine Ql ((fun g2 gn gk p => p.1 :: .row g2 [.i 0, .i 0, .i 0, .nil] :: p.2 :: .row gn [.i k, .i n, .i m, .ref 2 gk 0 ks.length 4] :: []) _ _ _) 7 [(0, true), (1, true), (2, true), (3, false), (4, true), (5, false), (6, true), (7, false)] (by rfl) (by rfl) (by kernel_rfl) (by decide +kernel) (by decide +kernel) ⟨(_, _), rfl⟩ ?_)|(refine Ql (fun p => p) 100 [(0, true)] (by rfl) (by rfl) (by kernel_rfl) (by decide +kernel) (by decide +kernel) ⟨_, rfl⟩ ?_)|(refine Ql (fun p => p.1 :: p.2 :: []) 100 [(0, true)] (by rfl) (by rfl) (by kernel_rfl) (by decide +kernel) (by decide +kernel) ⟨(_, _), rfl⟩ ?_)|(refine Ql (fun p => p.1 :: .row g2 [.i 0, .i 0, .i 0, .nil] :: .row gn [.i 13, .i 0, .i 0, .ref 3 gg 0 o.length 4] :: p.2) 7 [(0, true), (1, true), (2, true), (3, false), (4, true), (5, false), (6, true), (7, false)] (by rfl) (by rfl) (by kernel_rfl) (by decide +kernel) (by decide +kernel) ⟨(_, _), rfl⟩ ?_)|refine Q9 (by rfl) (by kernel_rfl) (by kernel_rfl) ?_|refine Q8 (by kernel_rfl) (by kernel_rfl) ?_)|refine QV ?_|refine QD rfl ?_|refine QR rfl ?_|refine Qu rfl (by omega) ?_|refine Qn rfl (by omega) ?_|refine W8 rfl ?_|refine Wi ?_))|(refine ZG ?_;(first|refine qL ?_|refine i_z0 ?_|refine i_st rfl rfl (fun _ => (by (repeat' first|(refine Qz ?_;(first|refine Ws rfl ?_|refine Qc rfl rfl rfl ?_|refine QO (z := x2) rfl rfl (by decide) ?_|refine Qe rfl rfl ?_))|exact ⟨rfl, rfl⟩))) ?_|refine i_ef rfl ?_))|refine And.intro (Exists.intro ((_, _)) rfl) ?_);(all_goals (repeat (rename_i x;(fail_if_success have : Unit := x);revert x)));(first|done|exact w0 ());(first|done|exact w1 ());(first|done|exact w2 ()))) (u : (W0 \/ True) /\ (W1 \/ True) /\ (W2 \/ True) := by (refine ⟨?_, ?_, ?_⟩ <;> first|exact Or.inl True.intro|exact Or.inr True.intro)) : X := s (fun _ => w0) (fun _ => w1) (fun _ => w2) ()
theorem block_q (L : W7) (hL : OkL L) (T : Rd1) (r0 k : Nat) (hT : ElQ G 153 L T r0) (he : Eats L T) (S : RS) (hr : rM L S <= r0 + 1) (hk : rM L S + 1 <= k) :
  CE Tryz.prog G 116 (fun p g => [.ptr p g 0]) (rqC L S) (.agg (Enc.enc (QW L T k S).1)) (rqC L (QW L T k S).2) := fun g B hg => by
 have htk := qN (G := G) L S hL [123] (by decide)
 have hle := mm_take (L := L) (S := S) [123] (by decide)
 have hle0 : rM L (QC L [123] S) <= r0 := by omega
 unfold QW
 generalize QC L [123] S = S1 at *
 have hr1000 : rM L S <= 1000000 := by unfold rM;split <;> have := hL.1 <;> omega
 have htk2 := trivial
 have hv1 := trivial
 have hT2 := trivial
 have hx2 := trivial
 have hvar := trivial
 refine Qa Tryz.func116 rfl Tryz.ntmps116 rfl (t := [(0, .ptr 0 g 0)]) rfl fun E0 hE1 => ?_
 (refine wkQ5 ?_;intros)
 rename_i g2 hg2 gn hgn
 refine r_ownin 2 3 4 rfl rfl (fun _ => rfl) (fun gk hgk => ?_)
 clear htk
 have htk := trivial
 refine r_loop3n (fun (o : List Nd) (Q : RS) (gg : Nat) => ⟨[(0, .ptr 0 g 0), (2, .ptr 1 g2 0), (3, .ptr 2 gn 0)], [.row g (rqC L Q), .row g2 [.i 0, .i 0, .i 0, .nil], .row gn [.i 13, .i 0, .i 0, .ref 3 gg 0 o.length 4], .row gg (Wf o)]⟩) (fun o Q gg => E0.N < gg /\ rM L Q <= r0 /\ o.length + mM L Q <= rM L S + 1 /\ ∃ k', Q4 L T k [] S1 = Q4 L T k' o Q /\ mM L Q + 1 <= k') (fun o Q gg => mM L Q) [] S1 gk ?_ ⟨hgk, hle0, by have := rm_mM L S1;simp;omega, k, rfl, by have := rm_mM L S1;omega⟩ ?_
 ·exact zal rfl
 intro o Q gg ⟨hgg, hq1, hq2, k', hk1, hk2⟩
 have hol : o.length <= 2000000 := by omega
 rw [hk1]
 cases hb : Q.bad with
 | true =>
  have hbi := bad_pos hb
  rw [bloop_bad hb]
  have htk2 := qN (G := G) L Q hL [125] (by decide)
  have e1 : QC L [125] Q = Q := by
   unfold QC QH
   rw [if_pos hb, if_neg (by decide)]
   obtain ⟨q1, q2⟩ := Q
   dsimp only at hb
   subst hb;rfl
  rw [e1] at htk2
  (refine wkQ5 ?_;intros)
  exact e_1 (Tryz.results116) (Qg (size := 4) rfl rfl rfl rfl) (WK (D := fun d => .agg [.i 13, .i 0, .i 0, d]) (k := 2) (.node rfl rfl rfl) rfl (by rw [Qx];rfl) (by rw [Qr];rfl) rfl)
 | false =>
  have hbi := bad_neg hb
  match k', hk1, hk2 with
  | k2 + 1, hk1, hk2 =>
  by_cases hc : QH L Q = [125]
  ·have hv1 := is_yes (G := G) L Q hL [125] (by decide) hc
   have hend : Q4 L T (k2 + 1) o Q = (o, Qi Q) := by rw [Q4, if_neg (by rw [hb];decide), if_pos hc]
   have htk2 := qN (G := G) L Q hL [125] (by decide)
   have e1 : QC L [125] Q = Qi Q := by unfold QC;rw [if_pos hc]
   rw [e1] at htk2
   rw [hend]
   (refine wkQ5 ?_;intros)
   exact e_1 (Tryz.results116) (Qg (size := 4) rfl rfl rfl rfl) (WK (D := fun d => .agg [.i 13, .i 0, .i 0, d]) (k := 2) (.node rfl rfl rfl) rfl (by rw [Qx];rfl) (by rw [Qr];rfl) rfl)
  ·have hv1 := is_no (G := G) L Q hL [125] (by decide) hc
   have hrec : Q4 L T (k2 + 1) o Q = Q4 L T k2 (o ++ [(T Q).1]) (T Q).2 := by rw [Q4, if_neg (by rw [hb];decide), if_neg hc]
   have hlt := he Q hb
   obtain ⟨hT2, hrT⟩ := hT Q hq1
   generalize hx2 : (T Q).1 = x2 at *
   generalize hS2 : (T Q).2 = S2 at *
   (refine wkQ5 ?_;intros)
   refine ⟨o ++ [x2], S2, _, ⟨by assumption, by omega, by simp;omega, k2, hrec, by omega⟩, by omega, ?_⟩
   exact zal rfl
theorem assign_q (L : W7) (hL : OkL L) (hT : OkT L) (E : Rd1) (hEj : ∀ i c, J i c E E) (r0 : Nat) (hE : ElQ G 182 L E r0) (S : RS) (hr : rM L S <= r0 + 1) (hw : isM L 118 S = true) :
  CE Tryz.prog G 181 (fun p g => [.ptr p g 0]) (rqC L S) (.agg (Enc.enc (qe L E S).1)) (rqC L (qe L E S).2) := fun g B hg => by
 have hv := variable_q (G := G) L hL hT E r0 hE S hr
 have hlt : rM L (QX L E S).2 <= r0 := by
  have h1 := (Wo (L := L) (S := S) rfl (is_now hw).1).1
  have h2 : (Qf L 118 S).2 = Qi S := by unfold Qf;rw [if_pos hw]
  have hn : rM L (Qf L 118 S).2 <= r0 := by rw [h2];omega
  unfold QX qP
  generalize (Qf L 118 S).2 = S1 at *
  split
  ·rename_i hc
   have h3 := (Wo hc (by decide)).1
   have h4 := (hE (Qi S1) (by omega)).2
   have h5 := qc (L := L) (S := (E (Qi S1)).2) [93] (by decide)
   show rM L (QC L [93] (E (Qi S1)).2) <= r0
   omega
  ·split
   ·rename_i hc
    have h3 := (Wo hc (by decide)).1
    have h4 := rM_numeral L (Qi S1)
    show rM L (Qh L (Qi S1)).2 <= r0
    omega
   ·exact hn
 have hkl : (kidsN (QX L E S).1).length <= 1 /\ ∃ k n m ks, (QX L E S).1 = .mk k n m ks /\ (k = 6 \/ k = 7 \/ k = 8) := by
  unfold QX qP
  repeat' split
  all_goals exact ⟨by simp [kidsN], _, _, _, _, rfl, by omega⟩
 unfold qe
 obtain ⟨hkl, k, n, m, ks, hvk, hkk⟩ := hkl
 rw [hvk] at hv hkl ⊢
 generalize (QX L E S).2 = S1 at *
 have hvar : CO Tryz.prog G 203 (fun p g => [.ptr p g 0]) (rqC L S) (fun d => .agg [.i k, .i n, .i m, d]) ks.length 4 (Wf ks) (rqC L S1) := hv
 have htk := qN (G := G) L S1 hL [61] (by decide)
 have hle := qc (L := L) (S := S1) [61] (by decide)
 generalize QC L [61] S1 = S2 at *
 obtain ⟨hx2, _⟩ := hE S2 (by omega)
 generalize (E S2).1 = x2 at *
 generalize (E S2).2 = S3 at *
 unfold setM setKind
 dsimp only
 have hkl : ks.length <= 1 := hkl
 have htk2 := trivial
 have hv1 := trivial
 have hT2 := trivial
 clear hv hvk
 rcases hkk with rfl|rfl|rfl
 ·rw [if_neg (by decide), if_neg (by decide)]
  obtain ⟨k, hk⟩ : ∃ k : Int, k = 6 := ⟨6, rfl⟩
  rw [<- hk] at hvar
  refine Qa Tryz.func181 rfl Tryz.ntmps181 rfl (t := [(0, .ptr 0 g 0)]) rfl fun E0 hE1 => ?_
  (refine wkQ5 ?_;intros)
  exact e_1 (Tryz.results181) (Qg (size := 4) rfl rfl rfl rfl) (WK (D := fun d => .agg [.i 14, .i n, .i m, d]) (k := 1) (.node rfl rfl rfl) rfl (by rw [Qx];rfl) (by rw [Qr];rfl) rfl)
 ·rw [if_pos rfl]
  obtain ⟨k, hk⟩ : ∃ k : Int, k = 7 := ⟨7, rfl⟩
  rw [<- hk] at hvar
  refine Qa Tryz.func181 rfl Tryz.ntmps181 rfl (t := [(0, .ptr 0 g 0)]) rfl fun E0 hE1 => ?_
  (refine wkQ5 ?_;intros)
  exact e_1 (Tryz.results181) (Qg (size := 4) rfl rfl rfl rfl) (WK (D := fun d => .agg [.i 15, .i n, .i m, d]) (k := 1) (.node rfl rfl rfl) rfl (by rw [Qx];rfl) (by rw [Qr];rfl) rfl)
 ·rw [if_neg (by decide), if_pos rfl]
  obtain ⟨k, hk⟩ : ∃ k : Int, k = 8 := ⟨8, rfl⟩
  rw [<- hk] at hvar
  refine Qa Tryz.func181 rfl Tryz.ntmps181 rfl (t := [(0, .ptr 0 g 0)]) rfl fun E0 hE1 => ?_
  (refine wkQ5 ?_;intros)
  exact e_1 (Tryz.results181) (Qg (size := 4) rfl rfl rfl rfl) (WK (D := fun d => .agg [.i 16, .i n, .i m, d]) (k := 1) (.node rfl rfl rfl) rfl (by rw [Qx];rfl) (by rw [Qr];rfl) rfl)
theorem stmt_q (L : W7) (hL : OkL L) (hT : OkT L) (E : Rd1) (hEj : ∀ i c, J i c E E) (q : Nat) (r1 : Nat) (hE : ElQ G 182 L E r1) (hq : r1 + 1 <= q) : ∀ (n : Nat) (S : RS), rM L S + 2 <= n -> rM L S <= r1 + 1 -> CE Tryz.prog G 153 (fun p g => [.ptr p g 0]) (rqC L S) (.agg (Enc.enc (Wl L E q n S).1)) (rqC L (Wl L E q n S).2) := by
 intro n
 induction n with
 | zero => intro S h;omega
 | succ n ih =>
 intro S hn hr1
 have hll := hL.1
 have htl := trs_len L
 have hjs := jS (L := L) hEj q n
 have hB := fun i c => jB (L := L) hjs n i c
 have hel : rM L S >= 1 -> ElQ G 153 L (Wl L E q n) (rM L S - 1) := fun h1 Q hQ => ⟨ih Q (by omega) (by omega), (jr (fun i => hjs i True) Q).1⟩
 have heat : rM L S >= 1 -> Eats L (Wl L E q n) := fun h1 => by
  obtain ⟨n', rfl⟩ : ∃ n', n = n' + 1 := ⟨n - 1, by omega⟩
  exact eats_st hEj q n'
 have blk : rM L S >= 1 -> ∀ Q, rM L Q <= rM L S -> CE Tryz.prog G 116 (fun p g => [.ptr p g 0]) (rqC L Q) (.agg (Enc.enc (QW L (Wl L E q n) n Q).1)) (rqC L (QW L (Wl L E q n) n Q).2) := fun h1 Q hQ => block_q L hL _ (rM L S - 1) n (hel h1) (heat h1) Q (by omega) (by omega)
 have bln : ∀ Q, rM L (QW L (Wl L E q n) n Q).2 <= rM L Q := fun Q => (jr (fun i => hB i True) Q).1
 clear ih hel heat
 have hnone : ∀ x : Nat, True := fun _ => trivial
 have hblk := trivial
 have hbla := trivial
 have hblb := trivial
 have hasg := trivial
 have hE2 := trivial
 have htk := trivial
 have hnb := trivial
 have hargs := trivial
 have his1 := trivial
 have hv1 := trivial
 have hfl := trivial
 have hat0 := trivial
 have hat1 := trivial
 have hqIf := trivial
 have hqWhile := trivial
 have hqReturn := trivial
 have hqThrow := trivial
 have hqOut := trivial
 have hqSkip := trivial
 have hqTry := trivial
 have hqSend := trivial
 have hqSpawn := trivial
 by_cases hgo : QH L S = []
 ·have hz : Wl L E q (n + 1) S = (zNd, WJ S) := by
   rw [Wl]
   have h0 : ∀ c, isM L c S = false := fun c => by unfold isM;rw [hgo];rfl
   rw [hgo, h0]
   rfl
  rw [hz]
  have hfl := fail_q (G := G) L S
  obtain ⟨n0, bad⟩ := S
  clear blk bln hz
  cases bad with
  | true =>
   have ec : rqC L ⟨n0, true⟩ = [Qo (trs L), .i (n0 : Nat), .i (n0 : Nat)] := by unfold rqC badI;simp
   rw [ec] at hfl ⊢
   intro g B hg
   refine Qa Tryz.func153 rfl Tryz.ntmps153 rfl (t := [(0, .ptr 0 g 0)]) rfl fun E0 hE1 => ?_
   (repeat' first|(refine Qz ?_;(first|refine Ws rfl ?_|refine Wh 0 (hfl) rfl rfl rfl rfl ?_|refine qh rfl rfl rfl rfl ?_|refine QU (fun _ _ => ?_)))|(refine We ?_;(first|refine Wb ?_|refine Zg rfl ?_|refine WI ?_))|(refine Wc ?_;(first|refine Q7 ?_|refine Qm ?_|(refine WC ?_;first|(rename_i g2 hg2 g4 hg4;refine Ql (fun p => p.1 :: p.2 :: .row g4 (Enc.enc xa) :: []) 7 [(0, true), (1, true), (2, true), (3, false), (4, true), (5, true), (6, false)] (by rfl) (by rfl) (by kernel_rfl) (by decide +kernel) (by decide +kernel) ⟨(_, _), rfl⟩ ?_)|(rename_i g2 hg2 g4 hg4;refine Ql (fun p => p.1 :: p.2 :: .row g4 (Enc.enc xE) :: []) 6 [(0, true), (1, true), (2, false), (3, true), (4, true), (5, false)] (by rfl) (by rfl) (by kernel_rfl) (by decide +kernel) (by decide +kernel) ⟨(_, _), rfl⟩ ?_)|(rename_i g2 hg2 g4 hg4 g5 hg5;refine Ql (fun p => p.1 :: p.2 :: .row g4 (Enc.enc xE) :: .row g5 (Enc.enc xa) :: []) 7 [(0, true), (1, true), (2, true), (3, false), (4, true), (5, true), (6, false)] (by rfl) (by rfl) (by kernel_rfl) (by decide +kernel) (by decide +kernel) ⟨(_, _), rfl⟩ ?_)|(refine Ql (fun p => p.1 :: p.2 :: []) 100 [(0, true)] (by rfl) (by rfl) (by kernel_rfl) (by decide +kernel) (by decide +kernel) ⟨(_, _), rfl⟩ ?_)|refine Q9 (by rfl) (by kernel_rfl) (by kernel_rfl) ?_|refine Q8 (by kernel_rfl) (by kernel_rfl) ?_)|refine QD rfl ?_|refine Wi ?_))|(refine qM ?_;(first|refine x_gn rfl rfl rfl rfl ?_|refine x_op rfl (by (repeat' first|(refine Qz ?_;(first|refine Ws rfl ?_|refine Qc rfl rfl rfl ?_|refine WG rfl rfl ?_|refine ZO rfl rfl ?_|refine Qe rfl rfl ?_|refine Qj rfl rfl ?_))|exact ⟨rfl, rfl⟩)) ?_|refine qJ ?_)))
   exact e_1 (Tryz.results153) (Qg (size := 4) rfl rfl (WZ _) (Enc.len _)) (ZI rfl rfl)
  | false =>
   have ec : rqC L ⟨n0, false⟩ = [Qo (trs L), .i (n0 : Nat), .i (-1)] := by unfold rqC badI;simp
   have hpl : ¬ n0 < (trs L).length := fun h => by
    have h2 : n0 < L.length := by omega
    unfold QH at hgo
    rw [if_neg (by simp), List.getD_eq_getElem?_getD, List.getElem?_eq_getElem h2] at hgo
    exact (hL.2 _ (List.getElem_mem h2)).1 hgo
   rw [ec] at hfl ⊢
   intro g B hg
   refine Qa Tryz.func153 rfl Tryz.ntmps153 rfl (t := [(0, .ptr 0 g 0)]) rfl fun E0 hE1 => ?_
   (repeat' first|(refine Qz ?_;(first|refine Ws rfl ?_|refine Wh 0 (hfl) rfl rfl rfl rfl ?_|refine qh rfl rfl rfl rfl ?_|refine QU (fun _ _ => ?_)))|(refine We ?_;(first|refine Wb ?_|refine Zg rfl ?_|refine WI ?_))|(refine Wc ?_;(first|refine Q7 ?_|refine Qm ?_|(refine WC ?_;first|(rename_i g2 hg2 g4 hg4;refine Ql (fun p => p.1 :: p.2 :: .row g4 (Enc.enc xa) :: []) 7 [(0, true), (1, true), (2, true), (3, false), (4, true), (5, true), (6, false)] (by rfl) (by rfl) (by kernel_rfl) (by decide +kernel) (by decide +kernel) ⟨(_, _), rfl⟩ ?_)|(rename_i g2 hg2 g4 hg4;refine Ql (fun p => p.1 :: p.2 :: .row g4 (Enc.enc xE) :: []) 6 [(0, true), (1, true), (2, false), (3, true), (4, true), (5, false)] (by rfl) (by rfl) (by kernel_rfl) (by decide +kernel) (by decide +kernel) ⟨(_, _), rfl⟩ ?_)|(rename_i g2 hg2 g4 hg4 g5 hg5;refine Ql (fun p => p.1 :: p.2 :: .row g4 (Enc.enc xE) :: .row g5 (Enc.enc xa) :: []) 7 [(0, true), (1, true), (2, true), (3, false), (4, true), (5, true), (6, false)] (by rfl) (by rfl) (by kernel_rfl) (by decide +kernel) (by decide +kernel) ⟨(_, _), rfl⟩ ?_)|(refine Ql (fun p => p.1 :: p.2 :: []) 100 [(0, true)] (by rfl) (by rfl) (by kernel_rfl) (by decide +kernel) (by decide +kernel) ⟨(_, _), rfl⟩ ?_)|refine Q9 (by rfl) (by kernel_rfl) (by kernel_rfl) ?_|refine Q8 (by kernel_rfl) (by kernel_rfl) ?_)|refine Qu rfl (by omega) ?_|refine Wi ?_))|(refine qM ?_;(first|refine x_op rfl (by (repeat' first|(refine Qz ?_;(first|refine Ws rfl ?_|refine Qc rfl rfl rfl ?_|refine WG rfl rfl ?_|refine Qv rfl ?_|refine W9 rfl rfl ?_|refine Qe rfl rfl ?_|refine Qj rfl rfl ?_))|exact ⟨rfl, rfl⟩)) ?_|refine x_gy rfl rfl rfl rfl (by (repeat' first|(refine Qz ?_;(first|refine Ws rfl ?_|refine Qc rfl rfl rfl ?_|refine WG rfl rfl ?_|refine Qv rfl ?_|refine W9 rfl rfl ?_|refine Qe rfl rfl ?_|refine Qj rfl rfl ?_))|exact ⟨rfl, rfl⟩)) ?_|refine qJ ?_)))
   exact e_1 (Tryz.results153) (Qg (size := 4) rfl rfl (WZ _) (Enc.len _)) (ZI rfl rfl)
 obtain ⟨n0, rfl, hn0⟩ := now_mk rfl hgo
 have hp2 : n0 < (trs L).length := by omega
 have hgt : (trs L)[n0].t = QH L ⟨n0, false⟩ := by
  rw [trs_get hn0]
  unfold QH
  rw [if_neg (by simp), List.getD_eq_getElem?_getD, List.getElem?_eq_getElem hn0];rfl
 have ec : rqC L ⟨n0, false⟩ = [Qo (trs L), .i (n0 : Nat), .i (-1)] := by unfold rqC badI;simp
 have hat0 : (n0 : Int) + 1 = ((n0 + 1 : Nat) : Int) := by omega
 have hat1 : ((n0 + 1 : Nat) : Int) - 1 = (n0 : Nat) := by omega
 have hnx : Qi ⟨n0, false⟩ = ⟨n0 + 1, false⟩ := rfl
 have hrn := (Wo (L := L) (S := ⟨n0, false⟩) rfl hgo).1
 rw [hnx] at hrn
 have hv1 := number_q (G := G) L ⟨n0, false⟩ hL 118 (by decide)
 have hfl := fail_q (G := G) L ⟨n0, false⟩
 rw [Wl, hnx]
 by_cases h1 : QH L ⟨n0, false⟩ = [123]
 ·rw [if_pos h1]
  have his1 := is_yes (G := G) L ⟨n0, false⟩ hL [123] (by decide) h1
  have hblk := blk (by omega) ⟨n0, false⟩ (Nat.le_refl _)
  generalize QW L (Wl L E q n) n ⟨n0, false⟩ = qq at *
  rw [ec] at his1 hblk ⊢
  clear blk bln hv1 hfl
  intro g B hg
  refine Qa Tryz.func153 rfl Tryz.ntmps153 rfl (t := [(0, .ptr 0 g 0)]) rfl fun E0 hE1 => ?_
  (repeat' first|(refine Qz ?_;(first|refine Ws rfl ?_|(refine QK ?_;(first|refine Wh 0 (his1) rfl rfl rfl rfl ?_|refine Wh 0 (hblk) rfl rfl rfl rfl ?_))|refine qh rfl rfl rfl rfl ?_|refine QU (fun _ _ => ?_)))|(refine We ?_;(first|refine Wb ?_|refine Zg rfl ?_|refine WI ?_))|(refine Wc ?_;(first|refine Q7 ?_|refine Qm ?_|(refine WC ?_;first|(rename_i g2 hg2 g4 hg4;refine Ql (fun p => p.1 :: p.2 :: .row g4 (Enc.enc xa) :: []) 7 [(0, true), (1, true), (2, true), (3, false), (4, true), (5, true), (6, false)] (by rfl) (by rfl) (by kernel_rfl) (by decide +kernel) (by decide +kernel) ⟨(_, _), rfl⟩ ?_)|(rename_i g2 hg2 g4 hg4;refine Ql (fun p => p.1 :: p.2 :: .row g4 (Enc.enc xE) :: []) 6 [(0, true), (1, true), (2, false), (3, true), (4, true), (5, false)] (by rfl) (by rfl) (by kernel_rfl) (by decide +kernel) (by decide +kernel) ⟨(_, _), rfl⟩ ?_)|(rename_i g2 hg2 g4 hg4 g5 hg5;refine Ql (fun p => p.1 :: p.2 :: .row g4 (Enc.enc xE) :: .row g5 (Enc.enc xa) :: []) 7 [(0, true), (1, true), (2, true), (3, false), (4, true), (5, true), (6, false)] (by rfl) (by rfl) (by kernel_rfl) (by decide +kernel) (by decide +kernel) ⟨(_, _), rfl⟩ ?_)|(refine Ql (fun p => p.1 :: p.2 :: []) 100 [(0, true)] (by rfl) (by rfl) (by kernel_rfl) (by decide +kernel) (by decide +kernel) ⟨(_, _), rfl⟩ ?_)|refine Q9 (by rfl) (by kernel_rfl) (by kernel_rfl) ?_|refine Q8 (by kernel_rfl) (by kernel_rfl) ?_)|refine QV ?_|refine QD rfl ?_|refine Qn rfl (by omega) ?_|refine Wi ?_))|(refine qM ?_;(first|refine x_op rfl (by (repeat' first|(refine Qz ?_;(first|refine Ws rfl ?_|refine Qc rfl rfl rfl ?_|refine WG rfl rfl ?_|refine Qv rfl ?_|refine W9 rfl rfl ?_|refine Qe rfl rfl ?_|refine Qj rfl rfl ?_))|exact ⟨rfl, rfl⟩)) ?_|refine x_gy rfl rfl rfl rfl (by (repeat' first|(refine Qz ?_;(first|refine Ws rfl ?_|refine Qc rfl rfl rfl ?_|refine WG rfl rfl ?_|refine Qv rfl ?_|refine W9 rfl rfl ?_|refine Qe rfl rfl ?_|refine Qj rfl rfl ?_))|exact ⟨rfl, rfl⟩)) ?_|refine qJ ?_)))
  exact e_1 (Tryz.results153) (Qg (size := 4) rfl rfl (WZ _) (Enc.len _)) (ZI rfl rfl)
 rw [if_neg h1]
 have his1 := is_no (G := G) L ⟨n0, false⟩ hL [123] (by decide) h1
 by_cases h2 : isM L 118 ⟨n0, false⟩ = true
 ·rw [if_pos h2]
  have hnd := ndM_pos L ⟨n0, false⟩ 118 h2
  generalize ndM (QH L ⟨n0, false⟩) 118 = d1 at *
  have hasg := assign_q (G := G) L hL hT E hEj r1 hE ⟨n0, false⟩ (by omega) h2
  generalize qe L E ⟨n0, false⟩ = qq at *
  rw [ec] at his1 hasg hv1 ⊢
  clear blk bln hfl
  intro g B hg
  refine Qa Tryz.func153 rfl Tryz.ntmps153 rfl (t := [(0, .ptr 0 g 0)]) rfl fun E0 hE1 => ?_
  (repeat' first|(refine Qz ?_;(first|refine Ws rfl ?_|refine WG rfl rfl ?_|(refine QK ?_;(first|refine Wh 0 (hv1) rfl rfl rfl rfl ?_|refine Wh 0 (his1) rfl rfl rfl rfl ?_|refine Wh 0 (hasg) rfl rfl rfl rfl ?_))|refine qh rfl rfl rfl rfl ?_|refine QU (fun _ _ => ?_)))|(refine We ?_;(first|refine Wb ?_|refine Zg rfl ?_|refine WI ?_))|(refine Wc ?_;(first|refine Q7 ?_|refine Qm ?_|(refine WC ?_;first|(rename_i g2 hg2 g4 hg4;refine Ql (fun p => p.1 :: p.2 :: .row g4 (Enc.enc xa) :: []) 7 [(0, true), (1, true), (2, true), (3, false), (4, true), (5, true), (6, false)] (by rfl) (by rfl) (by kernel_rfl) (by decide +kernel) (by decide +kernel) ⟨(_, _), rfl⟩ ?_)|(rename_i g2 hg2 g4 hg4;refine Ql (fun p => p.1 :: p.2 :: .row g4 (Enc.enc xE) :: []) 6 [(0, true), (1, true), (2, false), (3, true), (4, true), (5, false)] (by rfl) (by rfl) (by kernel_rfl) (by decide +kernel) (by decide +kernel) ⟨(_, _), rfl⟩ ?_)|(rename_i g2 hg2 g4 hg4 g5 hg5;refine Ql (fun p => p.1 :: p.2 :: .row g4 (Enc.enc xE) :: .row g5 (Enc.enc xa) :: []) 7 [(0, true), (1, true), (2, true), (3, false), (4, true), (5, true), (6, false)] (by rfl) (by rfl) (by kernel_rfl) (by decide +kernel) (by decide +kernel) ⟨(_, _), rfl⟩ ?_)|(refine Ql (fun p => p.1 :: p.2 :: []) 100 [(0, true)] (by rfl) (by rfl) (by kernel_rfl) (by decide +kernel) (by decide +kernel) ⟨(_, _), rfl⟩ ?_)|refine Q9 (by rfl) (by kernel_rfl) (by kernel_rfl) ?_|refine Q8 (by kernel_rfl) (by kernel_rfl) ?_)|refine QV ?_|refine QR rfl ?_|refine Qu rfl (by omega) ?_|refine Qn rfl (by omega) ?_|refine Wi ?_))|(refine qM ?_;(first|refine x_op rfl (by (repeat' first|(refine Qz ?_;(first|refine Ws rfl ?_|refine Qc rfl rfl rfl ?_|refine WG rfl rfl ?_|refine Qv rfl ?_|refine W9 rfl rfl ?_|refine Qe rfl rfl ?_|refine Qj rfl rfl ?_))|exact ⟨rfl, rfl⟩)) ?_|refine x_gy rfl rfl rfl rfl (by (repeat' first|(refine Qz ?_;(first|refine Ws rfl ?_|refine Qc rfl rfl rfl ?_|refine WG rfl rfl ?_|refine Qv rfl ?_|refine W9 rfl rfl ?_|refine Qe rfl rfl ?_|refine Qj rfl rfl ?_))|exact ⟨rfl, rfl⟩)) ?_|refine qJ ?_)))
  exact e_1 (Tryz.results153) (Qg (size := 4) rfl rfl (WZ _) (Enc.len _)) (ZI rfl rfl)
 rw [if_neg h2]
 rw [ndM_neg L _ 118 h2] at hv1
 have wd : ∀ w : List UInt8, decide ((trs L)[n0].t = w) = decide (QH L ⟨n0, false⟩ = w) := fun w => by rw [hgt]
 generalize hcur : QH L ⟨n0, false⟩ = cur at *
 rw [ec] at his1 hv1 hfl ⊢
 by_cases hIf : cur = wIf
 ·rw [if_pos hIf]
  have hqIf : decide ((trs L)[n0].t = wIf) = true := by rw [wd];exact decide_eq_true hIf
  unfold ifM
  have hel := (hE ⟨n0 + 1, false⟩ (by omega)).2
  obtain ⟨hE2, _⟩ := hE ⟨n0 + 1, false⟩ (by omega)
  simp only
  generalize (E ⟨n0 + 1, false⟩).1 = xE at *
  generalize (E ⟨n0 + 1, false⟩).2 = S1 at *
  have hbla := blk (by omega) S1 (by omega)
  have hbll := bln S1
  generalize (QW L (Wl L E q n) n S1).1 = xa at *
  generalize (QW L (Wl L E q n) n S1).2 = S2 at *
  have htk := qN (G := G) L S2 hL wElse (by decide)
  have htl2 := qc (L := L) (S := S2) wElse (by decide)
  generalize QC L wElse S2 = S3 at *
  have hblb := blk (by omega) S3 (by omega)
  generalize (QW L (Wl L E q n) n S3).1 = xb at *
  generalize (QW L (Wl L E q n) n S3).2 = S4 at *
  clear blk bln hfl
  intro g B hg
  refine Qa Tryz.func153 rfl Tryz.ntmps153 rfl (t := [(0, .ptr 0 g 0)]) rfl fun E0 hE1 => ?_
  (repeat' first|(refine Qz ?_;(first|refine Ws rfl ?_|refine WM rfl ?_|refine Qc rfl rfl rfl ?_|(refine Qw ?_;(first|refine W6 (a := (n0 : Int)) (b := 1) rfl rfl hat0 ⟨by omega, by omega⟩ ?_|refine Qt rfl rfl hqIf ?_|refine WG rfl rfl ?_))|(refine QK ?_;(first|refine Wh 0 (hv1) rfl rfl rfl rfl ?_|refine Wh 0 (his1) rfl rfl rfl rfl ?_|refine Wh 0 (hbla) rfl rfl rfl rfl ?_|refine Wh 0 (hblb) rfl rfl rfl rfl ?_|refine Wh 0 (hE2) rfl rfl rfl rfl ?_|refine Wh 0 (htk) rfl rfl rfl rfl ?_))|(refine Wr ?_;(first|refine qh rfl rfl rfl rfl ?_|refine Wg rfl rfl rfl rfl (by rfl) (by rfl) (by rfl) ?_))|refine Qe rfl rfl ?_|refine Qj rfl rfl ?_|refine QU (fun _ _ => ?_)))|(refine We ?_;(first|refine Wb ?_|refine Zg rfl ?_|refine WI ?_))|(refine Wc ?_;(first|refine Q7 ?_|refine Qm ?_|refine QM ?_|(refine WC ?_;first|(rename_i g2 hg2 g4 hg4;refine Ql (fun p => p.1 :: p.2 :: .row g4 (Enc.enc xa) :: []) 7 [(0, true), (1, true), (2, true), (3, false), (4, true), (5, true), (6, false)] (by rfl) (by rfl) (by kernel_rfl) (by decide +kernel) (by decide +kernel) ⟨(_, _), rfl⟩ ?_)|(rename_i g2 hg2 g4 hg4;refine Ql (fun p => p.1 :: p.2 :: .row g4 (Enc.enc xE) :: []) 6 [(0, true), (1, true), (2, false), (3, true), (4, true), (5, false)] (by rfl) (by rfl) (by kernel_rfl) (by decide +kernel) (by decide +kernel) ⟨(_, _), rfl⟩ ?_)|(rename_i g2 hg2 g4 hg4 g5 hg5;refine Ql (fun p => p.1 :: p.2 :: .row g4 (Enc.enc xE) :: .row g5 (Enc.enc xa) :: []) 7 [(0, true), (1, true), (2, true), (3, false), (4, true), (5, true), (6, false)] (by rfl) (by rfl) (by kernel_rfl) (by decide +kernel) (by decide +kernel) ⟨(_, _), rfl⟩ ?_)|(refine Ql (fun p => p.1 :: p.2 :: []) 100 [(0, true)] (by rfl) (by rfl) (by kernel_rfl) (by decide +kernel) (by decide +kernel) ⟨(_, _), rfl⟩ ?_)|refine Q9 (by rfl) (by kernel_rfl) (by kernel_rfl) ?_|refine Q8 (by kernel_rfl) (by kernel_rfl) ?_)|refine QV ?_|refine QD rfl ?_|refine QR rfl ?_|refine Qn rfl (by omega) ?_|refine Wi ?_))|(refine qM ?_;(first|refine x_op rfl (by (repeat' first|(refine Qz ?_;(first|refine Ws rfl ?_|refine WM rfl ?_|(refine QN ?_;(first|refine Z4 rfl rfl ?_|refine QA rfl ?_|refine Qc rfl rfl rfl ?_))|refine Qq rfl rfl (by first|assumption|omega|(simp;done)|(simp;omega)) ?_|refine WG rfl rfl ?_|refine Qv rfl ?_|refine W9 rfl rfl ?_|refine qU (x := xE) (y := xa) (z := xb) rfl rfl (by decide) ?_|(refine QS ?_;(first|refine Qe rfl rfl ?_|refine Wz rfl rfl ?_))|refine QB rfl rfl ?_|refine Qj rfl rfl ?_))|exact ⟨rfl, rfl⟩)) ?_|refine x_gy rfl rfl rfl rfl (by (repeat' first|(refine Qz ?_;(first|refine Ws rfl ?_|refine WM rfl ?_|(refine QN ?_;(first|refine Z4 rfl rfl ?_|refine QA rfl ?_|refine Qc rfl rfl rfl ?_))|refine Qq rfl rfl (by first|assumption|omega|(simp;done)|(simp;omega)) ?_|refine WG rfl rfl ?_|refine Qv rfl ?_|refine W9 rfl rfl ?_|refine qU (x := xE) (y := xa) (z := xb) rfl rfl (by decide) ?_|(refine QS ?_;(first|refine Qe rfl rfl ?_|refine Wz rfl rfl ?_))|refine QB rfl rfl ?_|refine Qj rfl rfl ?_))|exact ⟨rfl, rfl⟩)) ?_|refine qJ ?_))|(refine ZG ?_;(first|refine qL ?_|refine i_st rfl rfl (fun _ => (by (repeat' first|(refine Qz ?_;(first|refine Ws rfl ?_|refine WM rfl ?_|(refine QN ?_;(first|refine Z4 rfl rfl ?_|refine QA rfl ?_|refine Qc rfl rfl rfl ?_))|refine Qq rfl rfl (by first|assumption|omega|(simp;done)|(simp;omega)) ?_|refine WG rfl rfl ?_|refine Qv rfl ?_|refine W9 rfl rfl ?_|refine qU (x := xE) (y := xa) (z := xb) rfl rfl (by decide) ?_|(refine QS ?_;(first|refine Qe rfl rfl ?_|refine Wz rfl rfl ?_))|refine QB rfl rfl ?_|refine Qj rfl rfl ?_))|exact ⟨rfl, rfl⟩))) ?_|refine i_ef rfl ?_|refine i_ef0 ?_))|refine And.intro (Exists.intro ((_, _)) rfl) ?_)
  refine e_1 (Tryz.results153) (Qg (size := 4) rfl rfl rfl rfl) ?_
  rw [Qr]
  exact ZI (by first|rfl|(simp [Qo, Wf];try rfl)) rfl
 rw [if_neg hIf]
 have hqIf : decide ((trs L)[n0].t = wIf) = false := by rw [wd];exact decide_eq_false hIf
 by_cases hWhile : cur = wWhile
 ·rw [if_pos hWhile]
  have hqWhile : decide ((trs L)[n0].t = wWhile) = true := by rw [wd];exact decide_eq_true hWhile
  unfold whileM
  have hel := (hE ⟨n0 + 1, false⟩ (by omega)).2
  obtain ⟨hE2, _⟩ := hE ⟨n0 + 1, false⟩ (by omega)
  simp only
  generalize (E ⟨n0 + 1, false⟩).1 = xE at *
  generalize (E ⟨n0 + 1, false⟩).2 = S1 at *
  have hbla := blk (by omega) S1 (by omega)
  generalize (QW L (Wl L E q n) n S1).1 = xa at *
  generalize (QW L (Wl L E q n) n S1).2 = S2 at *
  clear blk bln hfl
  intro g B hg
  refine Qa Tryz.func153 rfl Tryz.ntmps153 rfl (t := [(0, .ptr 0 g 0)]) rfl fun E0 hE1 => ?_
  (repeat' first|(refine Qz ?_;(first|refine Ws rfl ?_|refine WM rfl ?_|refine Qc rfl rfl rfl ?_|(refine Qw ?_;(first|refine W6 (a := (n0 : Int)) (b := 1) rfl rfl hat0 ⟨by omega, by omega⟩ ?_|refine Qt rfl rfl hqIf ?_|refine Qt rfl rfl hqWhile ?_|refine WG rfl rfl ?_))|(refine QK ?_;(first|refine Wh 0 (hv1) rfl rfl rfl rfl ?_|refine Wh 0 (his1) rfl rfl rfl rfl ?_|refine Wh 0 (hbla) rfl rfl rfl rfl ?_|refine Wh 0 (hE2) rfl rfl rfl rfl ?_))|(refine Wr ?_;(first|refine qh rfl rfl rfl rfl ?_|refine Wg rfl rfl rfl rfl (by rfl) (by rfl) (by rfl) ?_))|refine Qe rfl rfl ?_|refine Qj rfl rfl ?_|refine QU (fun _ _ => ?_)))|(refine We ?_;(first|refine Wb ?_|refine Zg rfl ?_|refine WI ?_))|(refine Wc ?_;(first|refine Q7 ?_|refine Qm ?_|refine QM ?_|(refine WC ?_;first|(rename_i g2 hg2 g4 hg4;refine Ql (fun p => p.1 :: p.2 :: .row g4 (Enc.enc xa) :: []) 7 [(0, true), (1, true), (2, true), (3, false), (4, true), (5, true), (6, false)] (by rfl) (by rfl) (by kernel_rfl) (by decide +kernel) (by decide +kernel) ⟨(_, _), rfl⟩ ?_)|(rename_i g2 hg2 g4 hg4;refine Ql (fun p => p.1 :: p.2 :: .row g4 (Enc.enc xE) :: []) 6 [(0, true), (1, true), (2, false), (3, true), (4, true), (5, false)] (by rfl) (by rfl) (by kernel_rfl) (by decide +kernel) (by decide +kernel) ⟨(_, _), rfl⟩ ?_)|(rename_i g2 hg2 g4 hg4 g5 hg5;refine Ql (fun p => p.1 :: p.2 :: .row g4 (Enc.enc xE) :: .row g5 (Enc.enc xa) :: []) 7 [(0, true), (1, true), (2, true), (3, false), (4, true), (5, true), (6, false)] (by rfl) (by rfl) (by kernel_rfl) (by decide +kernel) (by decide +kernel) ⟨(_, _), rfl⟩ ?_)|(refine Ql (fun p => p.1 :: p.2 :: []) 100 [(0, true)] (by rfl) (by rfl) (by kernel_rfl) (by decide +kernel) (by decide +kernel) ⟨(_, _), rfl⟩ ?_)|refine Q9 (by rfl) (by kernel_rfl) (by kernel_rfl) ?_|refine Q8 (by kernel_rfl) (by kernel_rfl) ?_)|refine QV ?_|refine QD rfl ?_|refine QR rfl ?_|refine Qn rfl (by omega) ?_|refine Wi ?_))|(refine qM ?_;(first|refine x_op rfl (by (repeat' first|(refine Qz ?_;(first|refine Ws rfl ?_|refine WM rfl ?_|(refine QN ?_;(first|refine Z4 rfl rfl ?_|refine QA rfl ?_|refine Qc rfl rfl rfl ?_))|refine Qq rfl rfl (by first|assumption|omega|(simp;done)|(simp;omega)) ?_|refine WG rfl rfl ?_|refine Qv rfl ?_|refine W9 rfl rfl ?_|refine WO (y := xE) (z := xa) rfl rfl (by decide) ?_|(refine QS ?_;(first|refine Qe rfl rfl ?_|refine Wz rfl rfl ?_))|refine QB rfl rfl ?_|refine Qj rfl rfl ?_))|exact ⟨rfl, rfl⟩)) ?_|refine x_gy rfl rfl rfl rfl (by (repeat' first|(refine Qz ?_;(first|refine Ws rfl ?_|refine WM rfl ?_|(refine QN ?_;(first|refine Z4 rfl rfl ?_|refine QA rfl ?_|refine Qc rfl rfl rfl ?_))|refine Qq rfl rfl (by first|assumption|omega|(simp;done)|(simp;omega)) ?_|refine WG rfl rfl ?_|refine Qv rfl ?_|refine W9 rfl rfl ?_|refine WO (y := xE) (z := xa) rfl rfl (by decide) ?_|(refine QS ?_;(first|refine Qe rfl rfl ?_|refine Wz rfl rfl ?_))|refine QB rfl rfl ?_|refine Qj rfl rfl ?_))|exact ⟨rfl, rfl⟩)) ?_|refine qJ ?_))|(refine ZG ?_;(first|refine qL ?_|refine i_st rfl rfl (fun _ => (by (repeat' first|(refine Qz ?_;(first|refine Ws rfl ?_|refine WM rfl ?_|(refine QN ?_;(first|refine Z4 rfl rfl ?_|refine QA rfl ?_|refine Qc rfl rfl rfl ?_))|refine Qq rfl rfl (by first|assumption|omega|(simp;done)|(simp;omega)) ?_|refine WG rfl rfl ?_|refine Qv rfl ?_|refine W9 rfl rfl ?_|refine WO (y := xE) (z := xa) rfl rfl (by decide) ?_|(refine QS ?_;(first|refine Qe rfl rfl ?_|refine Wz rfl rfl ?_))|refine QB rfl rfl ?_|refine Qj rfl rfl ?_))|exact ⟨rfl, rfl⟩))) ?_|refine i_ef rfl ?_|refine i_ef0 ?_))|refine And.intro (Exists.intro ((_, _)) rfl) ?_)
  refine e_1 (Tryz.results153) (Qg (size := 4) rfl rfl rfl rfl) ?_
  rw [Qr]
  exact ZI (by first|rfl|(simp [Qo, Wf];try rfl)) rfl
 rw [if_neg hWhile]
 have hqWhile : decide ((trs L)[n0].t = wWhile) = false := by rw [wd];exact decide_eq_false hWhile
 by_cases hReturn : cur = wReturn
 ·rw [if_pos hReturn]
  have hqReturn : decide ((trs L)[n0].t = wReturn) = true := by rw [wd];exact decide_eq_true hReturn
  unfold oneM
  obtain ⟨hE2, _⟩ := hE ⟨n0 + 1, false⟩ (by omega)
  generalize (E ⟨n0 + 1, false⟩).1 = xE at *
  generalize (E ⟨n0 + 1, false⟩).2 = S1 at *
  clear blk bln hfl
  intro g B hg
  refine Qa Tryz.func153 rfl Tryz.ntmps153 rfl (t := [(0, .ptr 0 g 0)]) rfl fun E0 hE1 => ?_
  (repeat' first|(refine Qz ?_;(first|refine Ws rfl ?_|refine WM rfl ?_|refine Qc rfl rfl rfl ?_|(refine Qw ?_;(first|refine W6 (a := (n0 : Int)) (b := 1) rfl rfl hat0 ⟨by omega, by omega⟩ ?_|refine Qt rfl rfl hqIf ?_|refine Qt rfl rfl hqWhile ?_|refine Qt rfl rfl hqReturn ?_|refine WG rfl rfl ?_))|(refine QK ?_;(first|refine Wh 0 (hv1) rfl rfl rfl rfl ?_|refine Wh 0 (his1) rfl rfl rfl rfl ?_|refine Wh 0 (hE2) rfl rfl rfl rfl ?_))|(refine Wr ?_;(first|refine qh rfl rfl rfl rfl ?_|refine Wg rfl rfl rfl rfl (by rfl) (by rfl) (by rfl) ?_))|refine QO (z := xE) rfl rfl (by decide) ?_|refine Qe rfl rfl ?_|refine QB rfl rfl ?_|refine Qj rfl rfl ?_|refine QU (fun _ _ => ?_)))|(refine We ?_;(first|refine Wb ?_|refine Zg rfl ?_|refine WI ?_))|(refine Wc ?_;(first|refine Q7 ?_|refine Qm ?_|refine QM ?_|(refine WC ?_;first|(rename_i g2 hg2 g4 hg4;refine Ql (fun p => p.1 :: p.2 :: .row g4 (Enc.enc xa) :: []) 7 [(0, true), (1, true), (2, true), (3, false), (4, true), (5, true), (6, false)] (by rfl) (by rfl) (by kernel_rfl) (by decide +kernel) (by decide +kernel) ⟨(_, _), rfl⟩ ?_)|(rename_i g2 hg2 g4 hg4;refine Ql (fun p => p.1 :: p.2 :: .row g4 (Enc.enc xE) :: []) 6 [(0, true), (1, true), (2, false), (3, true), (4, true), (5, false)] (by rfl) (by rfl) (by kernel_rfl) (by decide +kernel) (by decide +kernel) ⟨(_, _), rfl⟩ ?_)|(rename_i g2 hg2 g4 hg4 g5 hg5;refine Ql (fun p => p.1 :: p.2 :: .row g4 (Enc.enc xE) :: .row g5 (Enc.enc xa) :: []) 7 [(0, true), (1, true), (2, true), (3, false), (4, true), (5, true), (6, false)] (by rfl) (by rfl) (by kernel_rfl) (by decide +kernel) (by decide +kernel) ⟨(_, _), rfl⟩ ?_)|(refine Ql (fun p => p.1 :: p.2 :: []) 100 [(0, true)] (by rfl) (by rfl) (by kernel_rfl) (by decide +kernel) (by decide +kernel) ⟨(_, _), rfl⟩ ?_)|refine Q9 (by rfl) (by kernel_rfl) (by kernel_rfl) ?_|refine Q8 (by kernel_rfl) (by kernel_rfl) ?_)|refine QV ?_|refine QD rfl ?_|refine QR rfl ?_|refine Qn rfl (by omega) ?_|refine Wi ?_))|(refine qM ?_;(first|refine x_op rfl (by (repeat' first|(refine Qz ?_;(first|refine Ws rfl ?_|refine WM rfl ?_|(refine QN ?_;(first|refine QA rfl ?_|refine Qc rfl rfl rfl ?_))|refine Qq rfl rfl (by first|assumption|omega|(simp;done)|(simp;omega)) ?_|refine WG rfl rfl ?_|refine Qv rfl ?_|refine W9 rfl rfl ?_|(refine QS ?_;(first|refine Qe rfl rfl ?_|refine Wz rfl rfl ?_))|refine Qj rfl rfl ?_))|exact ⟨rfl, rfl⟩)) ?_|refine x_gy rfl rfl rfl rfl (by (repeat' first|(refine Qz ?_;(first|refine Ws rfl ?_|refine WM rfl ?_|(refine QN ?_;(first|refine QA rfl ?_|refine Qc rfl rfl rfl ?_))|refine Qq rfl rfl (by first|assumption|omega|(simp;done)|(simp;omega)) ?_|refine WG rfl rfl ?_|refine Qv rfl ?_|refine W9 rfl rfl ?_|(refine QS ?_;(first|refine Qe rfl rfl ?_|refine Wz rfl rfl ?_))|refine Qj rfl rfl ?_))|exact ⟨rfl, rfl⟩)) ?_|refine qJ ?_)))
  refine e_1 (Tryz.results153) (Qg (size := 4) rfl rfl rfl rfl) ?_
  rw [Qr]
  exact ZI (by first|rfl|(simp [Qo, Wf];try rfl)) rfl
 rw [if_neg hReturn]
 have hqReturn : decide ((trs L)[n0].t = wReturn) = false := by rw [wd];exact decide_eq_false hReturn
 by_cases hThrow : cur = wThrow
 ·rw [if_pos hThrow]
  have hqThrow : decide ((trs L)[n0].t = wThrow) = true := by rw [wd];exact decide_eq_true hThrow
  unfold oneM
  obtain ⟨hE2, _⟩ := hE ⟨n0 + 1, false⟩ (by omega)
  generalize (E ⟨n0 + 1, false⟩).1 = xE at *
  generalize (E ⟨n0 + 1, false⟩).2 = S1 at *
  clear blk bln hfl
  intro g B hg
  refine Qa Tryz.func153 rfl Tryz.ntmps153 rfl (t := [(0, .ptr 0 g 0)]) rfl fun E0 hE1 => ?_
  (repeat' first|(refine Qz ?_;(first|refine Ws rfl ?_|refine WM rfl ?_|refine Qc rfl rfl rfl ?_|(refine Qw ?_;(first|refine W6 (a := (n0 : Int)) (b := 1) rfl rfl hat0 ⟨by omega, by omega⟩ ?_|refine Qt rfl rfl hqIf ?_|refine Qt rfl rfl hqWhile ?_|refine Qt rfl rfl hqReturn ?_|refine Qt rfl rfl hqThrow ?_|refine WG rfl rfl ?_))|(refine QK ?_;(first|refine Wh 0 (hv1) rfl rfl rfl rfl ?_|refine Wh 0 (his1) rfl rfl rfl rfl ?_|refine Wh 0 (hE2) rfl rfl rfl rfl ?_))|(refine Wr ?_;(first|refine qh rfl rfl rfl rfl ?_|refine Wg rfl rfl rfl rfl (by rfl) (by rfl) (by rfl) ?_))|refine QO (z := xE) rfl rfl (by decide) ?_|refine Qe rfl rfl ?_|refine QB rfl rfl ?_|refine Qj rfl rfl ?_|refine QU (fun _ _ => ?_)))|(refine We ?_;(first|refine Wb ?_|refine Zg rfl ?_|refine WI ?_))|(refine Wc ?_;(first|refine Q7 ?_|refine Qm ?_|refine QM ?_|(refine WC ?_;first|(rename_i g2 hg2 g4 hg4;refine Ql (fun p => p.1 :: p.2 :: .row g4 (Enc.enc xa) :: []) 7 [(0, true), (1, true), (2, true), (3, false), (4, true), (5, true), (6, false)] (by rfl) (by rfl) (by kernel_rfl) (by decide +kernel) (by decide +kernel) ⟨(_, _), rfl⟩ ?_)|(rename_i g2 hg2 g4 hg4;refine Ql (fun p => p.1 :: p.2 :: .row g4 (Enc.enc xE) :: []) 6 [(0, true), (1, true), (2, false), (3, true), (4, true), (5, false)] (by rfl) (by rfl) (by kernel_rfl) (by decide +kernel) (by decide +kernel) ⟨(_, _), rfl⟩ ?_)|(rename_i g2 hg2 g4 hg4 g5 hg5;refine Ql (fun p => p.1 :: p.2 :: .row g4 (Enc.enc xE) :: .row g5 (Enc.enc xa) :: []) 7 [(0, true), (1, true), (2, true), (3, false), (4, true), (5, true), (6, false)] (by rfl) (by rfl) (by kernel_rfl) (by decide +kernel) (by decide +kernel) ⟨(_, _), rfl⟩ ?_)|(refine Ql (fun p => p.1 :: p.2 :: []) 100 [(0, true)] (by rfl) (by rfl) (by kernel_rfl) (by decide +kernel) (by decide +kernel) ⟨(_, _), rfl⟩ ?_)|refine Q9 (by rfl) (by kernel_rfl) (by kernel_rfl) ?_|refine Q8 (by kernel_rfl) (by kernel_rfl) ?_)|refine QV ?_|refine QD rfl ?_|refine QR rfl ?_|refine Qn rfl (by omega) ?_|refine Wi ?_))|(refine qM ?_;(first|refine x_op rfl (by (repeat' first|(refine Qz ?_;(first|refine Ws rfl ?_|refine WM rfl ?_|(refine QN ?_;(first|refine QA rfl ?_|refine Qc rfl rfl rfl ?_))|refine Qq rfl rfl (by first|assumption|omega|(simp;done)|(simp;omega)) ?_|refine WG rfl rfl ?_|refine Qv rfl ?_|refine W9 rfl rfl ?_|(refine QS ?_;(first|refine Qe rfl rfl ?_|refine Wz rfl rfl ?_))|refine Qj rfl rfl ?_))|exact ⟨rfl, rfl⟩)) ?_|refine x_gy rfl rfl rfl rfl (by (repeat' first|(refine Qz ?_;(first|refine Ws rfl ?_|refine WM rfl ?_|(refine QN ?_;(first|refine QA rfl ?_|refine Qc rfl rfl rfl ?_))|refine Qq rfl rfl (by first|assumption|omega|(simp;done)|(simp;omega)) ?_|refine WG rfl rfl ?_|refine Qv rfl ?_|refine W9 rfl rfl ?_|(refine QS ?_;(first|refine Qe rfl rfl ?_|refine Wz rfl rfl ?_))|refine Qj rfl rfl ?_))|exact ⟨rfl, rfl⟩)) ?_|refine qJ ?_)))
  refine e_1 (Tryz.results153) (Qg (size := 4) rfl rfl rfl rfl) ?_
  rw [Qr]
  exact ZI (by first|rfl|(simp [Qo, Wf];try rfl)) rfl
 rw [if_neg hThrow]
 have hqThrow : decide ((trs L)[n0].t = wThrow) = false := by rw [wd];exact decide_eq_false hThrow
 by_cases hOut : cur = wOut
 ·rw [if_pos hOut]
  have hqOut : decide ((trs L)[n0].t = wOut) = true := by rw [wd];exact decide_eq_true hOut
  unfold oneM
  obtain ⟨hE2, _⟩ := hE ⟨n0 + 1, false⟩ (by omega)
  generalize (E ⟨n0 + 1, false⟩).1 = xE at *
  generalize (E ⟨n0 + 1, false⟩).2 = S1 at *
  clear blk bln hfl
  intro g B hg
  refine Qa Tryz.func153 rfl Tryz.ntmps153 rfl (t := [(0, .ptr 0 g 0)]) rfl fun E0 hE1 => ?_
  (repeat' first|(refine Qz ?_;(first|refine Ws rfl ?_|refine WM rfl ?_|refine Qc rfl rfl rfl ?_|(refine Qw ?_;(first|refine W6 (a := (n0 : Int)) (b := 1) rfl rfl hat0 ⟨by omega, by omega⟩ ?_|refine Qt rfl rfl hqIf ?_|refine Qt rfl rfl hqWhile ?_|refine Qt rfl rfl hqReturn ?_|refine Qt rfl rfl hqThrow ?_|refine Qt rfl rfl hqOut ?_|refine WG rfl rfl ?_))|(refine QK ?_;(first|refine Wh 0 (hv1) rfl rfl rfl rfl ?_|refine Wh 0 (his1) rfl rfl rfl rfl ?_|refine Wh 0 (hE2) rfl rfl rfl rfl ?_))|(refine Wr ?_;(first|refine qh rfl rfl rfl rfl ?_|refine Wg rfl rfl rfl rfl (by rfl) (by rfl) (by rfl) ?_))|refine QO (z := xE) rfl rfl (by decide) ?_|refine Qe rfl rfl ?_|refine QB rfl rfl ?_|refine Qj rfl rfl ?_|refine QU (fun _ _ => ?_)))|(refine We ?_;(first|refine Wb ?_|refine Zg rfl ?_|refine WI ?_))|(refine Wc ?_;(first|refine Q7 ?_|refine Qm ?_|refine QM ?_|(refine WC ?_;first|(rename_i g2 hg2 g4 hg4;refine Ql (fun p => p.1 :: p.2 :: .row g4 (Enc.enc xa) :: []) 7 [(0, true), (1, true), (2, true), (3, false), (4, true), (5, true), (6, false)] (by rfl) (by rfl) (by kernel_rfl) (by decide +kernel) (by decide +kernel) ⟨(_, _), rfl⟩ ?_)|(rename_i g2 hg2 g4 hg4;refine Ql (fun p => p.1 :: p.2 :: .row g4 (Enc.enc xE) :: []) 6 [(0, true), (1, true), (2, false), (3, true), (4, true), (5, false)] (by rfl) (by rfl) (by kernel_rfl) (by decide +kernel) (by decide +kernel) ⟨(_, _), rfl⟩ ?_)|(rename_i g2 hg2 g4 hg4 g5 hg5;refine Ql (fun p => p.1 :: p.2 :: .row g4 (Enc.enc xE) :: .row g5 (Enc.enc xa) :: []) 7 [(0, true), (1, true), (2, true), (3, false), (4, true), (5, true), (6, false)] (by rfl) (by rfl) (by kernel_rfl) (by decide +kernel) (by decide +kernel) ⟨(_, _), rfl⟩ ?_)|(refine Ql (fun p => p.1 :: p.2 :: []) 100 [(0, true)] (by rfl) (by rfl) (by kernel_rfl) (by decide +kernel) (by decide +kernel) ⟨(_, _), rfl⟩ ?_)|refine Q9 (by rfl) (by kernel_rfl) (by kernel_rfl) ?_|refine Q8 (by kernel_rfl) (by kernel_rfl) ?_)|refine QV ?_|refine QD rfl ?_|refine QR rfl ?_|refine Qn rfl (by omega) ?_|refine Wi ?_))|(refine qM ?_;(first|refine x_op rfl (by (repeat' first|(refine Qz ?_;(first|refine Ws rfl ?_|refine WM rfl ?_|(refine QN ?_;(first|refine QA rfl ?_|refine Qc rfl rfl rfl ?_))|refine Qq rfl rfl (by first|assumption|omega|(simp;done)|(simp;omega)) ?_|refine WG rfl rfl ?_|refine Qv rfl ?_|refine W9 rfl rfl ?_|(refine QS ?_;(first|refine Qe rfl rfl ?_|refine Wz rfl rfl ?_))|refine Qj rfl rfl ?_))|exact ⟨rfl, rfl⟩)) ?_|refine x_gy rfl rfl rfl rfl (by (repeat' first|(refine Qz ?_;(first|refine Ws rfl ?_|refine WM rfl ?_|(refine QN ?_;(first|refine QA rfl ?_|refine Qc rfl rfl rfl ?_))|refine Qq rfl rfl (by first|assumption|omega|(simp;done)|(simp;omega)) ?_|refine WG rfl rfl ?_|refine Qv rfl ?_|refine W9 rfl rfl ?_|(refine QS ?_;(first|refine Qe rfl rfl ?_|refine Wz rfl rfl ?_))|refine Qj rfl rfl ?_))|exact ⟨rfl, rfl⟩)) ?_|refine qJ ?_)))
  refine e_1 (Tryz.results153) (Qg (size := 4) rfl rfl rfl rfl) ?_
  rw [Qr]
  exact ZI (by first|rfl|(simp [Qo, Wf];try rfl)) rfl
 rw [if_neg hOut]
 have hqOut : decide ((trs L)[n0].t = wOut) = false := by rw [wd];exact decide_eq_false hOut
 by_cases hSkip : cur = wSkip
 ·rw [if_pos hSkip]
  have hqSkip : decide ((trs L)[n0].t = wSkip) = true := by rw [wd];exact decide_eq_true hSkip
  clear blk bln hfl
  intro g B hg
  refine Qa Tryz.func153 rfl Tryz.ntmps153 rfl (t := [(0, .ptr 0 g 0)]) rfl fun E0 hE1 => ?_
  (repeat' first|(refine Qz ?_;(first|refine Ws rfl ?_|refine WM rfl ?_|refine Qc rfl rfl rfl ?_|(refine Qw ?_;(first|refine W6 (a := (n0 : Int)) (b := 1) rfl rfl hat0 ⟨by omega, by omega⟩ ?_|refine Qt rfl rfl hqIf ?_|refine Qt rfl rfl hqWhile ?_|refine Qt rfl rfl hqReturn ?_|refine Qt rfl rfl hqThrow ?_|refine Qt rfl rfl hqOut ?_|refine Qt rfl rfl hqSkip ?_|refine WG rfl rfl ?_))|(refine QK ?_;(first|refine Wh 0 (hv1) rfl rfl rfl rfl ?_|refine Wh 0 (his1) rfl rfl rfl rfl ?_))|(refine Wr ?_;(first|refine qh rfl rfl rfl rfl ?_|refine Wg rfl rfl rfl rfl (by rfl) (by rfl) (by rfl) ?_))|refine Qe rfl rfl ?_|refine QB rfl rfl ?_|refine Qj rfl rfl ?_|refine QU (fun _ _ => ?_)))|(refine We ?_;(first|refine Wb ?_|refine Zg rfl ?_|refine WI ?_))|(refine Wc ?_;(first|refine Q7 ?_|refine Qm ?_|refine QM ?_|(refine WC ?_;first|(rename_i g2 hg2 g4 hg4;refine Ql (fun p => p.1 :: p.2 :: .row g4 (Enc.enc xa) :: []) 7 [(0, true), (1, true), (2, true), (3, false), (4, true), (5, true), (6, false)] (by rfl) (by rfl) (by kernel_rfl) (by decide +kernel) (by decide +kernel) ⟨(_, _), rfl⟩ ?_)|(rename_i g2 hg2 g4 hg4;refine Ql (fun p => p.1 :: p.2 :: .row g4 (Enc.enc xE) :: []) 6 [(0, true), (1, true), (2, false), (3, true), (4, true), (5, false)] (by rfl) (by rfl) (by kernel_rfl) (by decide +kernel) (by decide +kernel) ⟨(_, _), rfl⟩ ?_)|(rename_i g2 hg2 g4 hg4 g5 hg5;refine Ql (fun p => p.1 :: p.2 :: .row g4 (Enc.enc xE) :: .row g5 (Enc.enc xa) :: []) 7 [(0, true), (1, true), (2, true), (3, false), (4, true), (5, true), (6, false)] (by rfl) (by rfl) (by kernel_rfl) (by decide +kernel) (by decide +kernel) ⟨(_, _), rfl⟩ ?_)|(refine Ql (fun p => p.1 :: p.2 :: []) 100 [(0, true)] (by rfl) (by rfl) (by kernel_rfl) (by decide +kernel) (by decide +kernel) ⟨(_, _), rfl⟩ ?_)|refine Q9 (by rfl) (by kernel_rfl) (by kernel_rfl) ?_|refine Q8 (by kernel_rfl) (by kernel_rfl) ?_)|refine QV ?_|refine QD rfl ?_|refine QR rfl ?_|refine Qn rfl (by omega) ?_|refine Wi ?_))|(refine qM ?_;(first|refine x_op rfl (by (repeat' first|(refine Qz ?_;(first|refine Ws rfl ?_|refine WM rfl ?_|(refine QN ?_;(first|refine QA rfl ?_|refine Qc rfl rfl rfl ?_))|refine Qq rfl rfl (by first|assumption|omega|(simp;done)|(simp;omega)) ?_|refine WG rfl rfl ?_|refine Qv rfl ?_|refine W9 rfl rfl ?_|(refine QS ?_;(first|refine Qe rfl rfl ?_|refine Wz rfl rfl ?_))|refine Qj rfl rfl ?_))|exact ⟨rfl, rfl⟩)) ?_|refine x_gy rfl rfl rfl rfl (by (repeat' first|(refine Qz ?_;(first|refine Ws rfl ?_|refine WM rfl ?_|(refine QN ?_;(first|refine QA rfl ?_|refine Qc rfl rfl rfl ?_))|refine Qq rfl rfl (by first|assumption|omega|(simp;done)|(simp;omega)) ?_|refine WG rfl rfl ?_|refine Qv rfl ?_|refine W9 rfl rfl ?_|(refine QS ?_;(first|refine Qe rfl rfl ?_|refine Wz rfl rfl ?_))|refine Qj rfl rfl ?_))|exact ⟨rfl, rfl⟩)) ?_|refine qJ ?_)))
  exact e_1 (Tryz.results153) (Qg (size := 4) rfl rfl rfl rfl) (c_ceA rfl rfl)
 rw [if_neg hSkip]
 have hqSkip : decide ((trs L)[n0].t = wSkip) = false := by rw [wd];exact decide_eq_false hSkip
 by_cases hTry : cur = wTry
 ·rw [if_pos hTry]
  have hqTry : decide ((trs L)[n0].t = wTry) = true := by rw [wd];exact decide_eq_true hTry
  unfold tryM
  simp only
  have hbla := blk (by omega) ⟨n0 + 1, false⟩ (by omega)
  have hbll := bln ⟨n0 + 1, false⟩
  generalize (QW L (Wl L E q n) n ⟨n0 + 1, false⟩).1 = xa at *
  generalize (QW L (Wl L E q n) n ⟨n0 + 1, false⟩).2 = S2 at *
  have htk := qN (G := G) L S2 hL qy (by decide)
  have htl2 := qc (L := L) (S := S2) qy (by decide)
  generalize QC L qy S2 = S3 at *
  have hnb := numbered_q (G := G) L S3 hL 118 (by decide)
  have hnl := ZP L 118 S3
  generalize (Qf L 118 S3).1 = v at *
  generalize (Qf L 118 S3).2 = S4 at *
  have hblb := blk (by omega) S4 (by omega)
  generalize (QW L (Wl L E q n) n S4).1 = xb at *
  generalize (QW L (Wl L E q n) n S4).2 = S5 at *
  clear blk bln hfl
  intro g B hg
  refine Qa Tryz.func153 rfl Tryz.ntmps153 rfl (t := [(0, .ptr 0 g 0)]) rfl fun E0 hE1 => ?_
  (repeat' first|(refine Qz ?_;(first|refine Ws rfl ?_|refine WM rfl ?_|refine Qc rfl rfl rfl ?_|(refine Qw ?_;(first|refine W6 (a := (n0 : Int)) (b := 1) rfl rfl hat0 ⟨by omega, by omega⟩ ?_|refine Qt rfl rfl hqIf ?_|refine Qt rfl rfl hqWhile ?_|refine Qt rfl rfl hqReturn ?_|refine Qt rfl rfl hqThrow ?_|refine Qt rfl rfl hqOut ?_|refine Qt rfl rfl hqSkip ?_|refine Qt rfl rfl hqTry ?_|refine WG rfl rfl ?_))|(refine QK ?_;(first|refine Wh 0 (hv1) rfl rfl rfl rfl ?_|refine Wh 0 (his1) rfl rfl rfl rfl ?_|refine Wh 0 (hbla) rfl rfl rfl rfl ?_|refine Wh 0 (hblb) rfl rfl rfl rfl ?_|refine Wh 0 (htk) rfl rfl rfl rfl ?_|refine Wh 0 (hnb) rfl rfl rfl rfl ?_))|(refine Wr ?_;(first|refine qh rfl rfl rfl rfl ?_|refine Wg rfl rfl rfl rfl (by rfl) (by rfl) (by rfl) ?_))|refine Qe rfl rfl ?_|refine Qj rfl rfl ?_|refine QU (fun _ _ => ?_)))|(refine We ?_;(first|refine Wb ?_|refine Zg rfl ?_|refine WI ?_))|(refine Wc ?_;(first|refine Q7 ?_|refine Qm ?_|refine QM ?_|(refine WC ?_;first|(rename_i g2 hg2 g4 hg4;refine Ql (fun p => p.1 :: p.2 :: .row g4 (Enc.enc xa) :: []) 7 [(0, true), (1, true), (2, true), (3, false), (4, true), (5, true), (6, false)] (by rfl) (by rfl) (by kernel_rfl) (by decide +kernel) (by decide +kernel) ⟨(_, _), rfl⟩ ?_)|(rename_i g2 hg2 g4 hg4;refine Ql (fun p => p.1 :: p.2 :: .row g4 (Enc.enc xE) :: []) 6 [(0, true), (1, true), (2, false), (3, true), (4, true), (5, false)] (by rfl) (by rfl) (by kernel_rfl) (by decide +kernel) (by decide +kernel) ⟨(_, _), rfl⟩ ?_)|(rename_i g2 hg2 g4 hg4 g5 hg5;refine Ql (fun p => p.1 :: p.2 :: .row g4 (Enc.enc xE) :: .row g5 (Enc.enc xa) :: []) 7 [(0, true), (1, true), (2, true), (3, false), (4, true), (5, true), (6, false)] (by rfl) (by rfl) (by kernel_rfl) (by decide +kernel) (by decide +kernel) ⟨(_, _), rfl⟩ ?_)|(refine Ql (fun p => p.1 :: p.2 :: []) 100 [(0, true)] (by rfl) (by rfl) (by kernel_rfl) (by decide +kernel) (by decide +kernel) ⟨(_, _), rfl⟩ ?_)|refine Q9 (by rfl) (by kernel_rfl) (by kernel_rfl) ?_|refine Q8 (by kernel_rfl) (by kernel_rfl) ?_)|refine QV ?_|refine QD rfl ?_|refine QR rfl ?_|refine Qn rfl (by omega) ?_|refine Wi ?_))|(refine qM ?_;(first|refine x_op rfl (by (repeat' first|(refine Qz ?_;(first|refine Ws rfl ?_|refine WM rfl ?_|(refine QN ?_;(first|refine Z4 rfl rfl ?_|refine QA rfl ?_|refine Qc rfl rfl rfl ?_))|refine Qq rfl rfl (by first|assumption|omega|(simp;done)|(simp;omega)) ?_|refine WG rfl rfl ?_|refine Qv rfl ?_|refine W9 rfl rfl ?_|refine WO (y := xa) (z := xb) rfl rfl (by decide) ?_|(refine QS ?_;(first|refine Qe rfl rfl ?_|refine Wz rfl rfl ?_))|refine QB rfl rfl ?_|refine Qj rfl rfl ?_))|exact ⟨rfl, rfl⟩)) ?_|refine x_gy rfl rfl rfl rfl (by (repeat' first|(refine Qz ?_;(first|refine Ws rfl ?_|refine WM rfl ?_|(refine QN ?_;(first|refine Z4 rfl rfl ?_|refine QA rfl ?_|refine Qc rfl rfl rfl ?_))|refine Qq rfl rfl (by first|assumption|omega|(simp;done)|(simp;omega)) ?_|refine WG rfl rfl ?_|refine Qv rfl ?_|refine W9 rfl rfl ?_|refine WO (y := xa) (z := xb) rfl rfl (by decide) ?_|(refine QS ?_;(first|refine Qe rfl rfl ?_|refine Wz rfl rfl ?_))|refine QB rfl rfl ?_|refine Qj rfl rfl ?_))|exact ⟨rfl, rfl⟩)) ?_|refine qJ ?_))|(refine ZG ?_;(first|refine qL ?_|refine i_st rfl rfl (fun _ => (by (repeat' first|(refine Qz ?_;(first|refine Ws rfl ?_|refine WM rfl ?_|(refine QN ?_;(first|refine Z4 rfl rfl ?_|refine QA rfl ?_|refine Qc rfl rfl rfl ?_))|refine Qq rfl rfl (by first|assumption|omega|(simp;done)|(simp;omega)) ?_|refine WG rfl rfl ?_|refine Qv rfl ?_|refine W9 rfl rfl ?_|refine WO (y := xa) (z := xb) rfl rfl (by decide) ?_|(refine QS ?_;(first|refine Qe rfl rfl ?_|refine Wz rfl rfl ?_))|refine QB rfl rfl ?_|refine Qj rfl rfl ?_))|exact ⟨rfl, rfl⟩))) ?_|refine i_ef rfl ?_|refine i_ef0 ?_))|refine And.intro (Exists.intro ((_, _)) rfl) ?_)
  refine e_1 (Tryz.results153) (Qg (size := 4) rfl rfl rfl rfl) ?_
  rw [Qr]
  exact ZI (by first|rfl|(simp [Qo, Wf];try rfl)) rfl
 rw [if_neg hTry]
 have hqTry : decide ((trs L)[n0].t = wTry) = false := by rw [wd];exact decide_eq_false hTry
 by_cases hSend : cur = wSend
 ·rw [if_pos hSend]
  have hqSend : decide ((trs L)[n0].t = wSend) = true := by rw [wd];exact decide_eq_true hSend
  unfold oneM
  have hnb := numbered_q (G := G) L ⟨n0 + 1, false⟩ hL 99 (by decide)
  have hnl := ZP L 99 ⟨n0 + 1, false⟩
  generalize (Qf L 99 ⟨n0 + 1, false⟩).1 = v at *
  generalize (Qf L 99 ⟨n0 + 1, false⟩).2 = S1 at *
  obtain ⟨hE2, _⟩ := hE S1 (by omega)
  generalize (E S1).1 = xE at *
  generalize (E S1).2 = S2 at *
  clear blk bln hfl
  intro g B hg
  refine Qa Tryz.func153 rfl Tryz.ntmps153 rfl (t := [(0, .ptr 0 g 0)]) rfl fun E0 hE1 => ?_
  (repeat' first|(refine Qz ?_;(first|refine Ws rfl ?_|refine WM rfl ?_|refine Qc rfl rfl rfl ?_|(refine Qw ?_;(first|refine W6 (a := (n0 : Int)) (b := 1) rfl rfl hat0 ⟨by omega, by omega⟩ ?_|refine Qt rfl rfl hqIf ?_|refine Qt rfl rfl hqWhile ?_|refine Qt rfl rfl hqReturn ?_|refine Qt rfl rfl hqThrow ?_|refine Qt rfl rfl hqOut ?_|refine Qt rfl rfl hqSkip ?_|refine Qt rfl rfl hqTry ?_|refine Qt rfl rfl hqSend ?_|refine WG rfl rfl ?_))|(refine QK ?_;(first|refine Wh 0 (hv1) rfl rfl rfl rfl ?_|refine Wh 0 (his1) rfl rfl rfl rfl ?_|refine Wh 0 (hE2) rfl rfl rfl rfl ?_|refine Wh 0 (hnb) rfl rfl rfl rfl ?_))|(refine Wr ?_;(first|refine qh rfl rfl rfl rfl ?_|refine Wg rfl rfl rfl rfl (by rfl) (by rfl) (by rfl) ?_))|refine QO (z := xE) rfl rfl (by decide) ?_|refine Qe rfl rfl ?_|refine QB rfl rfl ?_|refine Qj rfl rfl ?_|refine QU (fun _ _ => ?_)))|(refine We ?_;(first|refine Wb ?_|refine Zg rfl ?_|refine WI ?_))|(refine Wc ?_;(first|refine Q7 ?_|refine Qm ?_|refine QM ?_|(refine WC ?_;first|(rename_i g2 hg2 g4 hg4;refine Ql (fun p => p.1 :: p.2 :: .row g4 (Enc.enc xa) :: []) 7 [(0, true), (1, true), (2, true), (3, false), (4, true), (5, true), (6, false)] (by rfl) (by rfl) (by kernel_rfl) (by decide +kernel) (by decide +kernel) ⟨(_, _), rfl⟩ ?_)|(rename_i g2 hg2 g4 hg4;refine Ql (fun p => p.1 :: p.2 :: .row g4 (Enc.enc xE) :: []) 6 [(0, true), (1, true), (2, false), (3, true), (4, true), (5, false)] (by rfl) (by rfl) (by kernel_rfl) (by decide +kernel) (by decide +kernel) ⟨(_, _), rfl⟩ ?_)|(rename_i g2 hg2 g4 hg4 g5 hg5;refine Ql (fun p => p.1 :: p.2 :: .row g4 (Enc.enc xE) :: .row g5 (Enc.enc xa) :: []) 7 [(0, true), (1, true), (2, true), (3, false), (4, true), (5, true), (6, false)] (by rfl) (by rfl) (by kernel_rfl) (by decide +kernel) (by decide +kernel) ⟨(_, _), rfl⟩ ?_)|(refine Ql (fun p => p.1 :: p.2 :: []) 100 [(0, true)] (by rfl) (by rfl) (by kernel_rfl) (by decide +kernel) (by decide +kernel) ⟨(_, _), rfl⟩ ?_)|refine Q9 (by rfl) (by kernel_rfl) (by kernel_rfl) ?_|refine Q8 (by kernel_rfl) (by kernel_rfl) ?_)|refine QV ?_|refine QD rfl ?_|refine QR rfl ?_|refine Qn rfl (by omega) ?_|refine Wi ?_))|(refine qM ?_;(first|refine x_op rfl (by (repeat' first|(refine Qz ?_;(first|refine Ws rfl ?_|refine WM rfl ?_|(refine QN ?_;(first|refine QA rfl ?_|refine Qc rfl rfl rfl ?_))|refine Qq rfl rfl (by first|assumption|omega|(simp;done)|(simp;omega)) ?_|refine WG rfl rfl ?_|refine Qv rfl ?_|refine W9 rfl rfl ?_|(refine QS ?_;(first|refine Qe rfl rfl ?_|refine Wz rfl rfl ?_))|refine Qj rfl rfl ?_))|exact ⟨rfl, rfl⟩)) ?_|refine x_gy rfl rfl rfl rfl (by (repeat' first|(refine Qz ?_;(first|refine Ws rfl ?_|refine WM rfl ?_|(refine QN ?_;(first|refine QA rfl ?_|refine Qc rfl rfl rfl ?_))|refine Qq rfl rfl (by first|assumption|omega|(simp;done)|(simp;omega)) ?_|refine WG rfl rfl ?_|refine Qv rfl ?_|refine W9 rfl rfl ?_|(refine QS ?_;(first|refine Qe rfl rfl ?_|refine Wz rfl rfl ?_))|refine Qj rfl rfl ?_))|exact ⟨rfl, rfl⟩)) ?_|refine qJ ?_)))
  refine e_1 (Tryz.results153) (Qg (size := 4) rfl rfl rfl rfl) ?_
  rw [Qr]
  exact ZI (by first|rfl|(simp [Qo, Wf];try rfl)) rfl
 rw [if_neg hSend]
 have hqSend : decide ((trs L)[n0].t = wSend) = false := by rw [wd];exact decide_eq_false hSend
 by_cases hSpawn : cur = wSpawn
 ·rw [if_pos hSpawn]
  have hqSpawn : decide ((trs L)[n0].t = wSpawn) = true := by rw [wd];exact decide_eq_true hSpawn
  have hnb := numbered_q (G := G) L ⟨n0 + 1, false⟩ hL 102 (by decide)
  have hnl := ZP L 102 ⟨n0 + 1, false⟩
  generalize (Qf L 102 ⟨n0 + 1, false⟩).1 = v at *
  generalize (Qf L 102 ⟨n0 + 1, false⟩).2 = S1 at *
  have hargs := args_q (G := G) L E r1 q hL hE S1 (by omega) (by omega)
  generalize Wv L E q S1 = aq at *
  obtain ⟨q1, q2⟩ := aq
  clear blk bln hfl
  intro g B hg
  refine Qa Tryz.func153 rfl Tryz.ntmps153 rfl (t := [(0, .ptr 0 g 0)]) rfl fun E0 hE1 => ?_
  (repeat' first|(refine Qz ?_;(first|refine Ws rfl ?_|refine WM rfl ?_|refine Qc rfl rfl rfl ?_|(refine Qw ?_;(first|refine W6 (a := (n0 : Int)) (b := 1) rfl rfl hat0 ⟨by omega, by omega⟩ ?_|refine Qt rfl rfl hqIf ?_|refine Qt rfl rfl hqWhile ?_|refine Qt rfl rfl hqReturn ?_|refine Qt rfl rfl hqThrow ?_|refine Qt rfl rfl hqOut ?_|refine Qt rfl rfl hqSkip ?_|refine Qt rfl rfl hqTry ?_|refine Qt rfl rfl hqSend ?_|refine Qt rfl rfl hqSpawn ?_|refine WG rfl rfl ?_))|(refine QK ?_;(first|refine Wh 0 (hv1) rfl rfl rfl rfl ?_|refine Wh 0 (his1) rfl rfl rfl rfl ?_|refine Wh 0 (hnb) rfl rfl rfl rfl ?_|refine Wh 0 (hargs) rfl rfl rfl rfl ?_))|(refine Wr ?_;(first|refine qh rfl rfl rfl rfl ?_|refine Wg rfl rfl rfl rfl (by rfl) (by rfl) (by rfl) ?_))|refine Qe rfl rfl ?_|refine QB rfl rfl ?_|refine Qj rfl rfl ?_|refine QU (fun _ _ => ?_)))|(refine We ?_;(first|refine Wb ?_|refine Zg rfl ?_|refine WI ?_))|(refine Wc ?_;(first|refine Q7 ?_|refine Qm ?_|refine QM ?_|(refine WC ?_;first|(rename_i g2 hg2 g4 hg4;refine Ql (fun p => p.1 :: p.2 :: .row g4 (Enc.enc xa) :: []) 7 [(0, true), (1, true), (2, true), (3, false), (4, true), (5, true), (6, false)] (by rfl) (by rfl) (by kernel_rfl) (by decide +kernel) (by decide +kernel) ⟨(_, _), rfl⟩ ?_)|(rename_i g2 hg2 g4 hg4;refine Ql (fun p => p.1 :: p.2 :: .row g4 (Enc.enc xE) :: []) 6 [(0, true), (1, true), (2, false), (3, true), (4, true), (5, false)] (by rfl) (by rfl) (by kernel_rfl) (by decide +kernel) (by decide +kernel) ⟨(_, _), rfl⟩ ?_)|(rename_i g2 hg2 g4 hg4 g5 hg5;refine Ql (fun p => p.1 :: p.2 :: .row g4 (Enc.enc xE) :: .row g5 (Enc.enc xa) :: []) 7 [(0, true), (1, true), (2, true), (3, false), (4, true), (5, true), (6, false)] (by rfl) (by rfl) (by kernel_rfl) (by decide +kernel) (by decide +kernel) ⟨(_, _), rfl⟩ ?_)|(refine Ql (fun p => p.1 :: p.2 :: []) 100 [(0, true)] (by rfl) (by rfl) (by kernel_rfl) (by decide +kernel) (by decide +kernel) ⟨(_, _), rfl⟩ ?_)|refine Q9 (by rfl) (by kernel_rfl) (by kernel_rfl) ?_|refine Q8 (by kernel_rfl) (by kernel_rfl) ?_)|refine QV ?_|refine QD rfl ?_|refine QR rfl ?_|refine Qn rfl (by omega) ?_|refine Wi ?_))|(refine qM ?_;(first|refine x_op rfl (by (repeat' first|(refine Qz ?_;(first|refine Ws rfl ?_|refine WM rfl ?_|(refine QN ?_;(first|refine QA rfl ?_|refine Qc rfl rfl rfl ?_))|refine Qq rfl rfl (by first|assumption|omega|(simp;done)|(simp;omega)) ?_|refine WG rfl rfl ?_|refine Qv rfl ?_|refine W9 rfl rfl ?_|(refine QS ?_;(first|refine Qe rfl rfl ?_|refine Wz rfl rfl ?_))|refine Qj rfl rfl ?_))|exact ⟨rfl, rfl⟩)) ?_|refine x_gy rfl rfl rfl rfl (by (repeat' first|(refine Qz ?_;(first|refine Ws rfl ?_|refine WM rfl ?_|(refine QN ?_;(first|refine QA rfl ?_|refine Qc rfl rfl rfl ?_))|refine Qq rfl rfl (by first|assumption|omega|(simp;done)|(simp;omega)) ?_|refine WG rfl rfl ?_|refine Qv rfl ?_|refine W9 rfl rfl ?_|(refine QS ?_;(first|refine Qe rfl rfl ?_|refine Wz rfl rfl ?_))|refine Qj rfl rfl ?_))|exact ⟨rfl, rfl⟩)) ?_|refine qJ ?_)))
  refine e_1 (Tryz.results153) (Qg (size := 4) rfl rfl rfl rfl) ?_
  rw [Qr]
  exact ZI (by first|rfl|(simp [Qo, Wf];try rfl)) rfl
 rw [if_neg hSpawn]
 have hqSpawn : decide ((trs L)[n0].t = wSpawn) = false := by rw [wd];exact decide_eq_false hSpawn
 clear blk bln
 intro g B hg
 refine Qa Tryz.func153 rfl Tryz.ntmps153 rfl (t := [(0, .ptr 0 g 0)]) rfl fun E0 hE1 => ?_
 (repeat' first|(refine Qz ?_;(first|refine Ws rfl ?_|refine WM rfl ?_|refine Qc rfl rfl rfl ?_|(refine Qw ?_;(first|refine W6 (a := (n0 : Int)) (b := 1) rfl rfl hat0 ⟨by omega, by omega⟩ ?_|refine s_sub_as2 (a := ((n0 + 1 : Nat) : Int)) (b := 1) rfl rfl hat1 ⟨by omega, by omega⟩ ?_|refine Qt rfl rfl hqIf ?_|refine Qt rfl rfl hqWhile ?_|refine Qt rfl rfl hqReturn ?_|refine Qt rfl rfl hqThrow ?_|refine Qt rfl rfl hqOut ?_|refine Qt rfl rfl hqSkip ?_|refine Qt rfl rfl hqTry ?_|refine Qt rfl rfl hqSend ?_|refine Qt rfl rfl hqSpawn ?_|refine WG rfl rfl ?_))|(refine QK ?_;(first|refine Wh 0 (hv1) rfl rfl rfl rfl ?_|refine Wh 0 (his1) rfl rfl rfl rfl ?_|refine Wh 0 (hfl) rfl rfl rfl rfl ?_))|(refine Wr ?_;(first|refine qh rfl rfl rfl rfl ?_|refine Wg rfl rfl rfl rfl (by rfl) (by rfl) (by rfl) ?_))|refine Qe rfl rfl ?_|refine Qj rfl rfl ?_|refine QU (fun _ _ => ?_)))|(refine We ?_;(first|refine Wb ?_|refine Zg rfl ?_|refine WI ?_))|(refine Wc ?_;(first|refine Q7 ?_|refine Qm ?_|refine QM ?_|(refine WC ?_;first|(rename_i g2 hg2 g4 hg4;refine Ql (fun p => p.1 :: p.2 :: .row g4 (Enc.enc xa) :: []) 7 [(0, true), (1, true), (2, true), (3, false), (4, true), (5, true), (6, false)] (by rfl) (by rfl) (by kernel_rfl) (by decide +kernel) (by decide +kernel) ⟨(_, _), rfl⟩ ?_)|(rename_i g2 hg2 g4 hg4;refine Ql (fun p => p.1 :: p.2 :: .row g4 (Enc.enc xE) :: []) 6 [(0, true), (1, true), (2, false), (3, true), (4, true), (5, false)] (by rfl) (by rfl) (by kernel_rfl) (by decide +kernel) (by decide +kernel) ⟨(_, _), rfl⟩ ?_)|(rename_i g2 hg2 g4 hg4 g5 hg5;refine Ql (fun p => p.1 :: p.2 :: .row g4 (Enc.enc xE) :: .row g5 (Enc.enc xa) :: []) 7 [(0, true), (1, true), (2, true), (3, false), (4, true), (5, true), (6, false)] (by rfl) (by rfl) (by kernel_rfl) (by decide +kernel) (by decide +kernel) ⟨(_, _), rfl⟩ ?_)|(refine Ql (fun p => p.1 :: p.2 :: []) 100 [(0, true)] (by rfl) (by rfl) (by kernel_rfl) (by decide +kernel) (by decide +kernel) ⟨(_, _), rfl⟩ ?_)|refine Q9 (by rfl) (by kernel_rfl) (by kernel_rfl) ?_|refine Q8 (by kernel_rfl) (by kernel_rfl) ?_)|refine QV ?_|refine QR rfl ?_|refine Qn rfl (by omega) ?_|refine Wi ?_))|(refine qM ?_;(first|refine x_op rfl (by (repeat' first|(refine Qz ?_;(first|refine Ws rfl ?_|refine WM rfl ?_|(refine QN ?_;(first|refine QA rfl ?_|refine Qc rfl rfl rfl ?_))|refine Qq rfl rfl (by first|assumption|omega|(simp;done)|(simp;omega)) ?_|refine WG rfl rfl ?_|refine Qv rfl ?_|refine W9 rfl rfl ?_|(refine QS ?_;(first|refine Qe rfl rfl ?_|refine Wz rfl rfl ?_))|refine Qj rfl rfl ?_))|exact ⟨rfl, rfl⟩)) ?_|refine x_gy rfl rfl rfl rfl (by (repeat' first|(refine Qz ?_;(first|refine Ws rfl ?_|refine WM rfl ?_|(refine QN ?_;(first|refine QA rfl ?_|refine Qc rfl rfl rfl ?_))|refine Qq rfl rfl (by first|assumption|omega|(simp;done)|(simp;omega)) ?_|refine WG rfl rfl ?_|refine Qv rfl ?_|refine W9 rfl rfl ?_|(refine QS ?_;(first|refine Qe rfl rfl ?_|refine Wz rfl rfl ?_))|refine Qj rfl rfl ?_))|exact ⟨rfl, rfl⟩)) ?_|refine qJ ?_)))
 exact e_1 (Tryz.results153) (Qg (size := 4) rfl rfl (WZ _) (Enc.len _)) (ZI rfl rfl)
theorem wkQ7 {X W0 W1 W2 : Prop} (w0 : W0 := by exact True.intro) (w1 : W1 := by exact True.intro) (w2 : W2 := by exact True.intro) (s : (Unit -> W0) -> (Unit -> W1) -> (Unit -> W2) -> Unit -> X := by (intro w0 w1 w2 _;(repeat' first|(refine Qz ?_;(first|refine Ws rfl ?_|(refine QN ?_;(first|refine Z4 rfl rfl ?_|refine Qc rfl rfl rfl ?_))|refine W6 (a := (n0 : Int)) (b := 1) rfl rfl hat0 ⟨by omega, by omega⟩ ?_|(refine QK ?_;(first|refine Zy (z := x2) rfl rfl rfl rfl rfl rfl rfl (by first|omega|(simp;omega)) (by first|omega|(simp;omega)) (fun _ => rfl) (fun _ _ => ?_)|refine Wh 0 (his1) rfl rfl rfl rfl ?_|refine Wh 0 (his2) rfl rfl rfl rfl ?_|refine Wh 0 (his3) rfl rfl rfl rfl ?_|refine Wh 0 (htk) rfl rfl rfl rfl ?_|refine Wh 0 (htk2) rfl rfl rfl rfl ?_|refine Wh 0 (hnm) rfl rfl rfl rfl ?_|refine Wh 0 (hE0) rfl rfl rfl rfl ?_|refine Wh 0 (hE2) rfl rfl rfl rfl ?_))|(refine Wr ?_;(first|refine qh rfl rfl rfl rfl ?_|refine Wg rfl rfl rfl rfl (by rfl) (by rfl) (by rfl) ?_))|refine qD (z := hd1) rfl rfl rfl rfl (fun _ _ => ?_)|refine qK rfl ?_|refine Qe rfl rfl ?_|refine QB rfl rfl ?_|refine Qj rfl rfl ?_|refine QU (fun _ _ => ?_)))|(refine We ?_;(first|refine Wb ?_|refine Zg rfl ?_|refine WI ?_))|(refine Wc ?_;(first|refine Q7 ?_|refine Qm ?_|refine QM ?_|(refine WC ?_;first|(refine Ql (fun p => p.1 :: .row g2 [.i 0, .i 0, .i 0, .nil] :: p.2 :: .row gn [.i 3, .i 0, .i 0, .ref 2 gg 0 o.length 4] :: []) 7 [(0, true), (1, true), (2, true), (3, false), (4, true), (5, false), (6, true), (7, false)] (by rfl) (by rfl) (by kernel_rfl) (by decide +kernel) (by decide +kernel) ⟨(_, _), rfl⟩ ?_)|refine Q9 (by rfl) (by kernel_rfl) (by kernel_rfl) ?_|refine Q8 (by kernel_rfl) (by kernel_rfl) ?_)|refine QV ?_|refine QD rfl ?_|refine QR rfl ?_|refine W8 rfl ?_|refine Wi ?_))|(refine ZG ?_;(first|refine qL ?_|refine i_z0 ?_|refine i_st rfl rfl (fun _ => (by (repeat' first|(refine Qz ?_;(first|refine Ws rfl ?_|refine Qc rfl rfl rfl ?_|refine QO (z := x2) rfl rfl (by decide) ?_|refine Qe rfl rfl ?_))|exact ⟨rfl, rfl⟩))) ?_|refine i_ef rfl ?_))|refine And.intro (Exists.intro ((_, _)) rfl) ?_);(all_goals (repeat (rename_i x;(fail_if_success have : Unit := x);revert x)));(first|done|exact w0 ());(first|done|exact w1 ());(first|done|exact w2 ()))) (u : (W0 \/ True) /\ (W1 \/ True) /\ (W2 \/ True) := by (refine ⟨?_, ?_, ?_⟩ <;> first|exact Or.inl True.intro|exact Or.inr True.intro)) : X := s (fun _ => w0) (fun _ => w1) (fun _ => w2) ()
theorem typed_q (L : W7) (hL : OkL L) (hT : OkT L) : ∀ (n : Nat) (S : RS), rM L S + 2 <= n -> CE Tryz.prog G 115 (fun p g => [.ptr p g 0]) (rqC L S) (.agg (Enc.enc (QY L n S).1)) (rqC L (QY L n S).2) := by
 intro n
 induction n with
 | zero => intro S h;omega
 | succ n ih =>
 intro S hn
 have hll := hL.1
 have jx : ∀ Q, rM L (QY L n Q).2 <= rM L Q := fun Q => (jr (fun i => J.typed (Ag.refl L i) n True) Q).1
 have his2 := trivial
 have his3 := trivial
 have his4 := trivial
 have htk := trivial
 have htk2 := trivial
 have hnm := trivial
 have hE0 := trivial
 have hE2 := trivial
 have hat0 := trivial
 rw [QY]
 by_cases h1 : QH L S = wInt
 ·rw [if_pos h1]
  have his1 := is_yes (G := G) L S hL wInt (by decide) h1
  obtain ⟨n0, rfl, hn0⟩ := now_mk h1 (by decide)
  have hat0 : (n0 : Int) + 1 = ((n0 + 1 : Nat) : Int) := by omega
  intro g B hg
  refine Qa Tryz.func115 rfl Tryz.ntmps115 rfl (t := [(0, .ptr 0 g 0)]) rfl fun E0 hE1 => ?_
  (refine wkQ7 ?_;intros)
  exact e_1 (Tryz.results115) (Qg (size := 4) rfl rfl rfl rfl) (c_ceA rfl rfl)
 rw [if_neg h1]
 have his1 := is_no (G := G) L S hL wInt (by decide) h1
 by_cases h2 : QH L S = wBool
 ·rw [if_pos h2]
  have his2 := is_yes (G := G) L S hL wBool (by decide) h2
  obtain ⟨n0, rfl, hn0⟩ := now_mk h2 (by decide)
  have hat0 : (n0 : Int) + 1 = ((n0 + 1 : Nat) : Int) := by omega
  intro g B hg
  refine Qa Tryz.func115 rfl Tryz.ntmps115 rfl (t := [(0, .ptr 0 g 0)]) rfl fun E0 hE1 => ?_
  (refine wkQ7 ?_;intros)
  exact e_1 (Tryz.results115) (Qg (size := 4) rfl rfl rfl rfl) (c_ceA rfl rfl)
 rw [if_neg h2]
 have his2 := is_no (G := G) L S hL wBool (by decide) h2
 by_cases h3 : QH L S = wArr
 ·rw [if_pos h3]
  have his3 := is_yes (G := G) L S hL wArr (by decide) h3
  obtain ⟨n0, rfl, hn0⟩ := now_mk h3 (by decide)
  have hat0 : (n0 : Int) + 1 = ((n0 + 1 : Nat) : Int) := by omega
  have hnx : Qi ⟨n0, false⟩ = ⟨n0 + 1, false⟩ := rfl
  rw [hnx]
  have hnm := numeral_q (G := G) L ⟨n0 + 1, false⟩ hL hT
  generalize (Qh L ⟨n0 + 1, false⟩).1 = v at *
  generalize (Qh L ⟨n0 + 1, false⟩).2 = S2 at *
  intro g B hg
  refine Qa Tryz.func115 rfl Tryz.ntmps115 rfl (t := [(0, .ptr 0 g 0)]) rfl fun E0 hE1 => ?_
  (refine wkQ7 ?_;intros)
  exact e_1 (Tryz.results115) (Qg (size := 4) rfl rfl rfl rfl) (c_ceA rfl rfl)
 rw [if_neg h3]
 have his3 := is_no (G := G) L S hL wArr (by decide) h3
 have htk := qN (G := G) L S hL wRec (by decide)
 by_cases h4 : QH L S = wRec
 case neg =>
  rw [if_neg h4]
  rw [decide_eq_false h4] at htk
  have e1 : QC L wRec S = WJ S := by unfold QC;rw [if_neg h4]
  rw [e1] at htk
  intro g B hg
  refine Qa Tryz.func115 rfl Tryz.ntmps115 rfl (t := [(0, .ptr 0 g 0)]) rfl fun E0 hE1 => ?_
  (refine wkQ7 ?_;intros)
  exact e_1 (Tryz.results115) (Qg (size := 4) rfl rfl rfl rfl) (c_ceA rfl rfl)
 rw [if_pos h4]
 rw [decide_eq_true h4] at htk
 have e1 : QC L wRec S = Qi S := by unfold QC;rw [if_pos h4]
 rw [e1] at htk
 have hrn := (Wo h4 (by decide)).1
 have htk2 := qN (G := G) L (Qi S) hL [40] (by decide)
 have hle := qc (L := L) (S := Qi S) [40] (by decide)
 generalize Qi S = S0 at *
 generalize QC L [40] S0 = S1 at *
 have hE0 := ih S1 (by omega)
 have hr1 := jx S1
 unfold ZM
 generalize hx0 : (QY L n S1).1 = hd1 at *
 generalize hS2 : (QY L n S1).2 = S2 at *
 have hels : ∀ Q, rM L Q <= rM L S1 -> CE Tryz.prog G 115 (fun p g => [.ptr p g 0]) (rqC L Q) (.agg (Enc.enc (QY L n Q).1)) (rqC L (QY L n Q).2) := fun Q hQ => ih Q (by omega)
 clear ih
 intro g B hg
 refine Qa Tryz.func115 rfl Tryz.ntmps115 rfl (t := [(0, .ptr 0 g 0)]) rfl fun E0 hE1 => ?_
 (refine wkQ7 ?_;intros)
 rename_i g2 hg2 g1 hg1 gn hgn
 have hr1000 : rM L S1 <= 1000000 := by unfold rM;split <;> omega
 refine r_loop3n (fun (o : List Nd) (Q : RS) (gg : Nat) => ⟨[(0, .ptr 0 g 0), (2, .ptr 1 g2 0), (3, .ptr 3 gn 0)], [.row g (rqC L Q), .row g2 [.i 0, .i 0, .i 0, .nil], .row gg (Wf o), .row gn [.i 3, .i 0, .i 0, .ref 2 gg 0 o.length 4]]⟩) (fun o Q gg => E0.N < gg /\ rM L Q <= rM L S1 /\ o.length + rM L Q <= rM L S1 + 1 /\ ∃ k', QJ L (QY L n) n [hd1] S2 = QJ L (QY L n) k' o Q /\ rM L Q + 1 <= k') (fun o Q gg => rM L Q) [hd1] S2 g1 ?_ ⟨hg1, hr1, by simp;omega, n, rfl, by omega⟩ ?_
 ·exact zal rfl
 clear his1 his2 his3 htk htk2 hE0
 have his1 := trivial
 have his2 := trivial
 have his3 := trivial
 have htk := trivial
 have htk2 := trivial
 have hE0 := trivial
 generalize hx2 : QJ L (QY L n) n [hd1] S2 = LL at *
 clear hx2
 intro o Q gg ⟨hgg, hq1, hq2, k', hk1, hk2⟩
 rw [hk1]
 by_cases hc : QH L Q = [44]
 ·have his1 := is_yes (G := G) L Q hL [44] (by decide) hc
  obtain ⟨hn1, hn2⟩ := Wo hc (by decide)
  obtain ⟨n0, rfl, hn0⟩ := now_mk hc (by decide)
  have hat0 : (n0 : Int) + 1 = ((n0 + 1 : Nat) : Int) := by omega
  have hrn : rM L ⟨n0 + 1, false⟩ + 1 = rM L ⟨n0, false⟩ := hn1
  have hE2 := hels ⟨n0 + 1, false⟩ (by omega)
  have hrE2 := jx ⟨n0 + 1, false⟩
  match k', hk1, hk2 with
  | k2 + 1, hk1, hk2 =>
  have hrec : QJ L (QY L n) (k2 + 1) o ⟨n0, false⟩ = QJ L (QY L n) k2 (o ++ [(QY L n ⟨n0 + 1, false⟩).1]) (QY L n ⟨n0 + 1, false⟩).2 := by rw [QJ, if_pos hc];rfl
  clear hx0 hS2 hels
  generalize hx2 : (QY L n ⟨n0 + 1, false⟩).1 = x2 at *
  generalize hS3 : (QY L n ⟨n0 + 1, false⟩).2 = S3 at *
  (refine wkQ7 ?_;intros)
  refine ⟨o ++ [x2], S3, _, ⟨by assumption, by omega, by simp;omega, k2, hrec, by omega⟩, by show rM L S3 < rM L ⟨n0, false⟩;omega, ?_⟩
  exact zal rfl
 ·have his1 := is_no (G := G) L Q hL [44] (by decide) hc
  have htk2 := qN (G := G) L Q hL [41] (by decide)
  have hend : QJ L (QY L n) k' o Q = (o, Q) := by
   cases k' with
   | zero => rfl
   | succ k2 => rw [QJ, if_neg hc]
  rw [hend]
  clear hels
  (refine wkQ7 ?_;intros)
  exact e_1 (Tryz.results115) (Qg (size := 4) rfl rfl rfl rfl) (WK (D := fun d => .agg [.i 3, .i 0, .i 0, d]) (k := 1) (.node rfl rfl rfl) rfl (by rw [Qx];rfl) (by rw [Qr];rfl) rfl)
theorem elxq (L : W7) (hL : OkL L) (hT : OkT L) (q r : Nat) (h : r + 2 <= q) : ElQ G 182 L (Wm L zNd q) r := fun Q hQ => ⟨expr_q L hL hT q Q (by omega), (jr (fun i => jX L zNd q i True) Q).1⟩
theorem wkQ8 {X W0 W1 W2 : Prop} (w0 : W0 := by exact True.intro) (w1 : W1 := by exact True.intro) (w2 : W2 := by exact True.intro) (s : (Unit -> W0) -> (Unit -> W1) -> (Unit -> W2) -> Unit -> X := by (intro w0 w1 w2 _;(repeat' first|(refine Qz ?_;(first|refine Ws rfl ?_|(refine QN ?_;(first|refine Z4 rfl rfl ?_|refine Qc rfl rfl rfl ?_))|refine W6 (a := (n0 : Int)) (b := 1) rfl rfl hat0 ⟨by omega, by omega⟩ ?_|(refine QK ?_;(first|refine Zy (z := x2) (l := ([] : List Nd)) rfl rfl rfl rfl rfl rfl rfl (by first|omega|(simp;done)|(simp;omega)) (by first|omega|(simp;done)|(simp;omega)) (fun _ => rfl) (fun _ _ => ?_)|refine Zy (z := xb) (l := ([] : List Nd)) rfl rfl rfl rfl rfl rfl rfl (by first|omega|(simp;done)|(simp;omega)) (by first|omega|(simp;done)|(simp;omega)) (fun _ => rfl) (fun _ _ => ?_)|refine Zy (z := x2) rfl rfl rfl rfl rfl rfl rfl (by first|omega|(simp;omega)) (by first|omega|(simp;omega)) (fun _ => rfl) (fun _ _ => ?_)|refine Zy (z := xb) rfl rfl rfl rfl rfl rfl rfl (by first|omega|(simp;omega)) (by first|omega|(simp;omega)) (fun _ => rfl) (fun _ _ => ?_)|refine Wh 0 (htk) rfl rfl rfl rfl ?_|refine Wh 0 (htk2) rfl rfl rfl rfl ?_|refine Wh 0 (htk3) rfl rfl rfl rfl ?_|refine Wh 0 (his1) rfl rfl rfl rfl ?_|refine Wh 0 (hnm) rfl rfl rfl rfl ?_|refine Wh 0 (hE0) rfl rfl rfl rfl ?_|refine Wh 0 (hE2) rfl rfl rfl rfl ?_|refine Wh 0 (hblk) rfl rfl rfl rfl ?_))|(refine Wr ?_;(first|refine qh rfl rfl rfl rfl ?_|refine Wg rfl rfl rfl rfl (by rfl) (by rfl) (by rfl) ?_))|refine Qe rfl rfl ?_|refine QB rfl rfl ?_|refine Qj rfl rfl ?_|refine QU (fun _ _ => ?_)))|(refine We ?_;(first|refine Wb ?_|refine Zg rfl ?_|refine WI ?_))|(refine Wc ?_;(first|refine r_ownin 2 3 4 rfl rfl (fun _ => rfl) (fun _ _ => ?_)|refine Q7 ?_|refine Qm ?_|refine QM ?_|(refine WC ?_;first|(refine Ql ((fun g2 gn gk p => p.1 :: .row g2 [.i 0, .i 0, .i 0, .nil] :: .row gn [.i 26, .i v, .i 0, .ref 3 gk 0 0 4] :: p.2 :: []) _ _ _) 7 [(0, true), (1, true), (2, true), (3, false), (4, true), (5, false), (6, true), (7, false)] (by rfl) (by rfl) (by kernel_rfl) (by decide +kernel) (by decide +kernel) ⟨(_, _), rfl⟩ ?_)|(refine Ql (fun p => p.1 :: p.2 :: []) 100 [(0, true)] (by rfl) (by rfl) (by kernel_rfl) (by decide +kernel) (by decide +kernel) ⟨(_, _), rfl⟩ ?_)|(refine Ql (fun p => p.1 :: .row g2 [.i 0, .i 0, .i 0, .nil] :: .row gn [.i 26, .i v, .i 0, .ref 3 gg 0 o.length 4] :: p.2) 7 [(0, true), (1, true), (2, true), (3, false), (4, true), (5, false), (6, true), (7, false)] (by rfl) (by rfl) (by kernel_rfl) (by decide +kernel) (by decide +kernel) ⟨(_, _), rfl⟩ ?_)|refine Q9 (by rfl) (by kernel_rfl) (by kernel_rfl) ?_|refine Q8 (by kernel_rfl) (by kernel_rfl) ?_)|refine QV ?_|refine QD rfl ?_|refine QR rfl ?_|refine W8 rfl ?_|refine Wi ?_))|(refine ZG ?_;(first|refine qL ?_|refine i_z0 ?_|refine i_st rfl rfl (fun _ => (by (repeat' first|(refine Qz ?_;(first|refine Ws rfl ?_|refine Qc rfl rfl rfl ?_|(refine ZA ?_;(first|refine QO (z := x2) rfl rfl (by decide) ?_|refine QO (z := xb) rfl rfl (by decide) ?_))|refine Qe rfl rfl ?_))|exact ⟨rfl, rfl⟩))) ?_|refine i_ef rfl ?_))|refine And.intro (Exists.intro ((_, _)) rfl) ?_);(all_goals (repeat (rename_i x;(fail_if_success have : Unit := x);revert x)));(first|done|exact w0 ());(first|done|exact w1 ());(first|done|exact w2 ()))) (u : (W0 \/ True) /\ (W1 \/ True) /\ (W2 \/ True) := by (refine ⟨?_, ?_, ?_⟩ <;> first|exact Or.inl True.intro|exact Or.inr True.intro)) : X := s (fun _ => w0) (fun _ => w1) (fun _ => w2) ()
theorem funq_q (L : W7) (hL : OkL L) (hT : OkT L) (q : Nat) (hq : L.length + 3 <= q) (hq2 : q <= 2000000) (S : RS) :
  CE Tryz.prog G 64 (fun p g => [.ptr p g 0]) (rqC L S) (.agg (Enc.enc (Za L zNd q S).1)) (rqC L (Za L zNd q S).2) := fun g B hg => by
 have hll := hL.1
 have hrl : ∀ Q : RS, rM L Q <= L.length := fun Q => by unfold rM;split <;> omega
 unfold Za funM
 dsimp only
 have htk := qN (G := G) L S hL wFun (by decide)
 generalize QC L wFun S = S1 at *
 have hnm := numeral_q (G := G) L S1 hL hT
 generalize (Qh L S1).1 = v at *
 generalize (Qh L S1).2 = S2 at *
 have hst : ElQ G 153 L (Wl L (Wm L zNd q) q q) L.length := fun Q hQ =>
  ⟨stmt_q L hL hT (Wm L zNd q) (jX L zNd q) q L.length (elxq L hL hT q _ (by omega)) (by omega) q Q (by omega) (by omega), (jr (fun i => jS (jX L zNd q) q q i True) Q).1⟩
 have heat : Eats L (Wl L (Wm L zNd q) q q) := by
  obtain ⟨q', rfl⟩ : ∃ q', q = q' + 1 := ⟨q - 1, by omega⟩
  exact eats_st (jX L zNd (q' + 1)) (q' + 1) q'
 have hblks : ∀ Q, CE Tryz.prog G 116 (fun p g => [.ptr p g 0]) (rqC L Q) (.agg (Enc.enc (QW L (Wl L (Wm L zNd q) q q) q Q).1)) (rqC L (QW L (Wl L (Wm L zNd q) q q) q Q).2) := fun Q => block_q L hL _ L.length q hst heat Q (by have := hrl Q;omega) (by have := hrl Q;omega)
 clear hst heat
 have hty : ∀ Q, CE Tryz.prog G 115 (fun p g => [.ptr p g 0]) (rqC L Q) (.agg (Enc.enc (QY L q Q).1)) (rqC L (QY L q Q).2) := fun Q => typed_q L hL hT q Q (by have := hrl Q;omega)
 have jx : ∀ Q, rM L (QY L q Q).2 <= rM L Q := fun Q => (jr (fun i => J.typed (Ag.refl L i) q True) Q).1
 generalize QW L (Wl L (Wm L zNd q) q q) q = BB at *
 have htk2 := qN (G := G) L S2 hL [40] (by decide)
 unfold Wv
 generalize QC L [40] S2 = S3 at *
 have htk3 := trivial
 have hE0 := trivial
 have hE2 := trivial
 have hat0 := trivial
 by_cases hc : QH L S3 = [41]
 ·rw [if_pos hc]
  have his1 := is_yes (G := G) L S3 hL [41] (by decide) hc
  obtain ⟨n0, rfl, hn0⟩ := now_mk hc (by decide)
  have hat0 : (n0 : Int) + 1 = ((n0 + 1 : Nat) : Int) := by omega
  have hnx : Qi ⟨n0, false⟩ = ⟨n0 + 1, false⟩ := rfl
  rw [hnx]
  have hblk := hblks ⟨n0 + 1, false⟩
  generalize (BB ⟨n0 + 1, false⟩).1 = xb at *
  generalize (BB ⟨n0 + 1, false⟩).2 = S5 at *
  clear hblks hty jx
  refine Qa Tryz.func64 rfl Tryz.ntmps64 rfl (t := [(0, .ptr 0 g 0)]) rfl fun E0 hE1 => ?_
  (refine wkQ8 ?_;intros)
  exact e_1 (Tryz.results64) (Qg (size := 4) rfl rfl rfl rfl) (WK (D := fun d => .agg [.i 26, .i v, .i 0, d]) (k := 2) (.node rfl rfl rfl) rfl (by rw [Qx];rfl) (by rw [Qr];rfl) rfl)
 ·rw [if_neg hc]
  have his1 := is_no (G := G) L S3 hL [41] (by decide) hc
  have hE0 := hty S3
  have hr1 := jx S3
  unfold ZM
  dsimp only
  generalize hx0 : (QY L q S3).1 = x2 at *
  generalize hS2 : (QY L q S3).2 = S4 at *
  have hblk := trivial
  refine Qa Tryz.func64 rfl Tryz.ntmps64 rfl (t := [(0, .ptr 0 g 0)]) rfl fun E0 hE1 => ?_
  (refine wkQ8 ?_;intros;rename_i g2 hg2 gn hgn _ _ _ _)
  rename_i g1 hg1
  have hr1000 : rM L S3 <= 1000000 := by unfold rM;split <;> omega
  refine r_loop3n (fun (o : List Nd) (Q : RS) (gg : Nat) => ⟨[(0, .ptr 0 g 0), (2, .ptr 1 g2 0), (3, .ptr 2 gn 0)], [.row g (rqC L Q), .row g2 [.i 0, .i 0, .i 0, .nil], .row gn [.i 26, .i v, .i 0, .ref 3 gg 0 o.length 4], .row gg (Wf o)]⟩) (fun o Q gg => E0.N < gg /\ rM L Q <= rM L S3 /\ o.length + rM L Q <= rM L S3 + 1 /\ ∃ k', QJ L (QY L q) q [x2] S4 = QJ L (QY L q) k' o Q /\ rM L Q + 1 <= k') (fun o Q gg => rM L Q) [x2] S4 g1 ?_ ⟨hg1, hr1, by simp;omega, q, rfl, by have := hrl S4;omega⟩ ?_
  ·exact zal rfl
  clear htk htk2 hnm his1 hE0
  have htk := trivial
  have htk2 := trivial
  have hnm := trivial
  have his1 := trivial
  have hE0 := trivial
  generalize hx2 : QJ L (QY L q) q [x2] S4 = LL at *
  clear hx2
  intro o Q gg ⟨hgg, hq1, hq3, k', hk1, hk2⟩
  rw [hk1]
  by_cases hc : QH L Q = [44]
  ·have his1 := is_yes (G := G) L Q hL [44] (by decide) hc
   obtain ⟨hn1, hn2⟩ := Wo hc (by decide)
   obtain ⟨n0, rfl, hn0⟩ := now_mk hc (by decide)
   have hat0 : (n0 : Int) + 1 = ((n0 + 1 : Nat) : Int) := by omega
   have hrn : rM L ⟨n0 + 1, false⟩ + 1 = rM L ⟨n0, false⟩ := hn1
   have hE2 := hty ⟨n0 + 1, false⟩
   have hrE2 := jx ⟨n0 + 1, false⟩
   match k', hk1, hk2 with
   | k2 + 1, hk1, hk2 =>
   have hrec : QJ L (QY L q) (k2 + 1) o ⟨n0, false⟩ = QJ L (QY L q) k2 (o ++ [(QY L q ⟨n0 + 1, false⟩).1]) (QY L q ⟨n0 + 1, false⟩).2 := by rw [QJ, if_pos hc];rfl
   clear hx0 hS2 hty hblks
   generalize hx2 : (QY L q ⟨n0 + 1, false⟩).1 = x2 at *
   generalize hS3 : (QY L q ⟨n0 + 1, false⟩).2 = S6 at *
   (refine wkQ8 ?_;intros)
   refine ⟨o ++ [x2], S6, _, ⟨by assumption, by omega, by simp;omega, k2, hrec, by omega⟩, by show rM L S6 < rM L ⟨n0, false⟩;omega, ?_⟩
   exact zal rfl
  ·have his1 := is_no (G := G) L Q hL [44] (by decide) hc
   have htk3 := qN (G := G) L Q hL [41] (by decide)
   have hend : QJ L (QY L q) k' o Q = (o, Q) := by
    cases k' with
    | zero => rfl
    | succ k2 => rw [QJ, if_neg hc]
   rw [hend]
   dsimp only
   generalize QC L [41] Q = S6 at *
   have hblk := hblks S6
   generalize (BB S6).1 = xb at *
   generalize (BB S6).2 = S7 at *
   clear hty hblks jx
   (refine wkQ8 ?_;intros)
   exact e_1 (Tryz.results64) (Qg (size := 4) rfl rfl rfl rfl) (WK (D := fun d => .agg [.i 26, .i v, .i 0, d]) (k := 2) (.node rfl rfl rfl) rfl (by rw [Qx];rfl) (by rw [Qr];rfl) rfl)
theorem wkQ9 {X W0 W1 W2 : Prop} (w0 : W0 := by exact True.intro) (w1 : W1 := by exact True.intro) (w2 : W2 := by exact True.intro) (s : (Unit -> W0) -> (Unit -> W1) -> (Unit -> W2) -> Unit -> X := by (intro w0 w1 w2 _;(repeat' first|(refine Qz ?_;(first|refine Ws rfl ?_|refine WM rfl ?_|(refine QN ?_;(first|refine Z4 rfl rfl ?_|refine Qc rfl rfl rfl ?_))|(refine Qw ?_;(first|refine Zw rfl rfl ?_|refine s_gtr rfl rfl ?_|refine WG rfl rfl ?_))|(refine QK ?_;(first|refine Zy (z := xb) rfl rfl rfl rfl rfl rfl rfl (by first|omega|(simp;omega)) (by first|omega|(simp;omega)) (fun _ => rfl) (fun _ _ => ?_)|refine Qv rfl ?_|refine Zx rfl ?_|refine WA rfl rfl (hscan) ?_|refine WA rfl rfl (hval) ?_|refine Wh 1 (htk) rfl rfl rfl rfl ?_|refine Wh 1 (hnm) rfl rfl rfl rfl ?_|refine Wh 1 (hfun) rfl rfl rfl rfl ?_))|(refine Q1 ?_;(first|refine ZO rfl rfl ?_|refine W9 rfl rfl ?_))|(refine Wr ?_;(first|refine qh rfl rfl rfl rfl ?_|refine Wg rfl rfl rfl rfl (by rfl) (by rfl) (by rfl) ?_))|refine qK rfl ?_|refine Qe rfl rfl ?_|refine Zm rfl rfl rfl ?_|refine QB rfl rfl ?_|refine Qj rfl rfl ?_|refine QU (fun _ _ => ?_)|refine ZC rfl rfl (fun _ _ => ?_)))|(refine We ?_;(first|refine Wb ?_|refine Zg rfl ?_|refine WI ?_|refine qd rfl rfl rfl rfl ?_|refine qw rfl rfl rfl rfl ?_|refine WN rfl rfl (by omega) ?_|refine WD rfl rfl (by omega) ?_))|(refine Wc ?_;(first|refine Q7 ?_|refine Qm ?_|refine QM ?_|(refine WC ?_;first|(refine Ql (fun p => p.1 :: .row gr [Qo (trs L), .i (Q.p : Nat), .i (Q.p : Nat)] :: p.2) 100 [(1, true), (2, true), (3, true), (4, true), (5, true), (6, true), (7, true), (8, true), (0, true), (9, false), (10, true)] (by rfl) (by rfl) (by kernel_rfl) (by decide +kernel) (by decide +kernel) ⟨(_, _), rfl⟩ ?_)|(refine Ql (fun p => .row g2 [.i 0, .i 0, .i 0, .nil] :: p.1 :: .row gn [.i 27, .i v, .i 0, .ref 3 gg 0 o.length 4] :: p.2) 7 [(0, true), (1, true), (2, true), (3, false), (4, true), (5, false), (6, true), (7, false)] (by rfl) (by rfl) (by kernel_rfl) (by decide +kernel) (by decide +kernel) ⟨(_, _), rfl⟩ ?_)|refine Q9 (by rfl) (by kernel_rfl) (by kernel_rfl) ?_|refine Q8 (by kernel_rfl) (by kernel_rfl) ?_)|refine QV ?_|refine QD rfl ?_|refine QR rfl ?_|refine Qu rfl (by omega) ?_|refine Qn rfl (by omega) ?_|refine W8 rfl ?_|refine Wi ?_))|(refine ZG ?_;(first|refine qL ?_|refine i_z0 ?_|refine i_st rfl rfl (fun _ => (by (repeat' first|(refine Qz ?_;(first|refine Ws rfl ?_|refine WM rfl ?_|(refine QN ?_;(first|refine QA rfl ?_|refine Qc rfl rfl rfl ?_))|refine Qq rfl rfl (by first|assumption|omega|(simp;done)|(simp;omega)) ?_|refine QO (z := xb) rfl rfl (by decide) ?_|(refine QS ?_;(first|refine Qe rfl rfl ?_|refine Wz rfl rfl ?_))|refine QB rfl rfl ?_|refine Qj rfl rfl ?_))|exact ⟨rfl, rfl⟩))) ?_|refine i_ef rfl ?_|refine i_ef0 ?_))|refine And.intro (Exists.intro ((_, _)) rfl) ?_);(all_goals (repeat (rename_i x;(fail_if_success have : Unit := x);revert x)));(first|done|exact w0 ());(first|done|exact w1 ());(first|done|exact w2 ()))) (u : (W0 \/ True) /\ (W1 \/ True) /\ (W2 \/ True) := by (refine ⟨?_, ?_, ?_⟩ <;> first|exact Or.inl True.intro|exact Or.inr True.intro)) : X := s (fun _ => w0) (fun _ => w1) (fun _ => w2) ()
theorem r06Parse_c (hV : ∀ t : Nd, Qk t <= 1000000 -> Go.Av.Pure Tryz.prog G 65 [.agg (Enc.enc t)] (.b (qX t))) (s : List UInt8) (hsl : s.length <= 1000000000) : Go.Av.Pure Tryz.prog G 24 [Q2 s] (.tup [.agg (Enc.enc (ZV zNd s).1), .i (ZV zNd s).2]) := fun B => by
 unfold ZV
 by_cases h8 : 8192 < s.length
 ·rw [if_pos h8]
  refine Qa Tryz.func24 rfl Tryz.ntmps24 rfl (t := [(0, Q2 s)]) rfl fun E hE => ?_
  (refine wkQ9 ?_;intros)
  exact e_2 (Tryz.results24) (Qg (size := 4) rfl rfl rfl rfl) (Qb rfl) (Ze (d2 := .tup [.agg [.i 0, .i 0, .i 0, .sl 4 []], .i 8192]) (fun L v h => tup_nil h) (Qd (by show _ = DV.tup [.agg (Enc.enc zNd), .i 8192];unfold zNd;rw [Qr];rfl)))
 rw [if_neg h8]
 have hscan := r_scan_c (G := G) s (by omega)
 have hT : OkT (WL s 0).1 := fun x hx => ((scan_toks s 0).1 x.1 (List.mem_map_of_mem hx)).2
 obtain ⟨hL, he, hlen, hat⟩ := scan_ok s (by omega)
 generalize (WL s 0).2 = e at *
 generalize (WL s 0).1 = L at *
 obtain ⟨q, hqq⟩ : ∃ q, q = L.length + 3 := ⟨_, rfl⟩
 rw [<- hqq]
 have hq : L.length + 3 <= q := by omega
 have hfn := fun Q => funq_q (G := G) L hL hT q hq (by omega) Q
 have hea := eats_fun L zNd q
 have hkw := kw_fun (L := L) (z := zNd) q
 have hps := fun h => Nat.le_trans (prog_size (L := L) (z := zNd) q h) (prog_in q)
 have hpa : Zi L zNd q = (Nd.mk 27 (Qh L (QC L WT ⟨0, false⟩)).1 0 (QT L (Za L zNd q) q [] (Qh L (QC L WT ⟨0, false⟩)).2).1, (QT L (Za L zNd q) q [] (Qh L (QC L WT ⟨0, false⟩)).2).2) := rfl
 rw [hpa] at hps ⊢
 clear hpa
 generalize Za L zNd q = F at *
 have htk := qN (G := G) L ⟨0, false⟩ hL WT (by decide)
 have hmt := (mm_take (L := L) (S := ⟨0, false⟩) WT (by decide)).1
 have hr0 : rM L ⟨0, false⟩ = L.length := by unfold rM;simp
 generalize QC L WT ⟨0, false⟩ = S1 at *
 have hnm := numeral_q (G := G) L S1 hL hT
 have hmn := (jr (L := L) (F := Qh L) (fun i => J.numeral (Ag.refl L i)) S1).2
 generalize (Qh L S1).1 = v at *
 generalize (Qh L S1).2 = S2 at *
 have htl : (trs L).length = L.length := trs_len L
 dsimp only at hps ⊢
 refine Qa Tryz.func24 rfl Tryz.ntmps24 rfl (t := [(0, Q2 s)]) rfl fun E hE => ?_
 (refine wkQ9 ?_;intros)
 rename_i g2 hg2 gr hgr gn hgn
 refine r_ownin 2 3 4 rfl rfl (fun _ => rfl) (fun gk hgk => ?_)
 refine r_loop3n (fun (o : List Nd) (Q : RS) (gg : Nat) => ⟨[(0, Q2 s), (2, .ptr 0 g2 0), (4, Qo (trs L)), (5, .i e), (6, .ptr 1 gr 0), (7, .ptr 2 gn 0)], [.row g2 [.i 0, .i 0, .i 0, .nil], .row gr (rqC L Q), .row gn [.i 27, .i v, .i 0, .ref 3 gg 0 o.length 4], .row gg (Wf o)]⟩) (fun o Q gg => E.N < gg /\ o.length + mM L Q <= L.length /\ ∃ k', QT L F q [] S2 = QT L F k' o Q /\ mM L Q + 1 <= k') (fun o Q gg => mM L Q) [] S2 gk ?_ ⟨hgk, by simp;omega, q, rfl, by omega⟩ ?_
 ·exact zal rfl
 intro o Q gg ⟨hgg, hq2, k', hk1, hk2⟩
 have hol : o.length <= 2000000 := by omega
 rw [hk1] at hps ⊢
 have c1 := Qx o
 cases hb : Q.bad with
 | true =>
  have hend : QT L F k' o Q = (o, Q) := by
   cases k' with
   | zero => rfl
   | succ k2 => rw [QT, if_neg (by rw [hb];simp)]
  rw [hend]
  dsimp only
  rw [if_pos hb]
  clear hps hk1 hend hfn hkw hea
  have ecell : rqC L Q = [Qo (trs L), .i (Q.p : Nat), .i (Q.p : Nat)] := by unfold rqC badI;rw [if_pos hb]
  rw [ecell]
  by_cases hpl : Q.p < L.length
  ·rw [dif_pos hpl]
   have hpl2 : Q.p < (trs L).length := by omega
   have hta : ((trs L)[Q.p].a : Int) = (L[Q.p].2 : Int) := by rw [trs_get hpl]
   (refine wkQ9 ?_;intros)
   exact e_2 (Tryz.results24) (Qg (size := 4) rfl rfl rfl rfl) (Qb rfl) (Ze (d2 := .tup [.agg [.i 0, .i 0, .i 0, .sl 4 []], .i (trs L)[Q.p].a]) (fun L v h => tup_nil h) (Qd (by rw [hta];show _ = DV.tup [.agg (Enc.enc zNd), _];unfold zNd;rw [Qr];rfl)))
  ·rw [dif_neg hpl]
   (refine wkQ9 ?_;intros)
   exact e_2 (Tryz.results24) (Qg (size := 4) rfl rfl rfl rfl) (Qb rfl) (Ze (d2 := .tup [.agg [.i 0, .i 0, .i 0, .sl 4 []], .i e]) (fun L v h => tup_nil h) (Qd (by show _ = DV.tup [.agg (Enc.enc zNd), _];unfold zNd;rw [Qr];rfl)))
 | false =>
  have hbi := bad_neg hb
  match k', hk1, hk2 with
  | k2 + 1, hk1, hk2 =>
  by_cases hpl : Q.p < L.length
  ·have hrec : QT L F (k2 + 1) o Q = QT L F k2 (o ++ [(F Q).1]) (F Q).2 := by rw [QT, if_pos ⟨hb, hpl⟩]
   have hlt := hea Q hb
   have hfun := hfn Q
   clear hps hk1 hfn hkw hea
   generalize hx2 : (F Q).1 = xb at *
   generalize hS2 : (F Q).2 = S3 at *
   (refine wkQ9 ?_;intros)
   refine ⟨o ++ [xb], S3, _, ⟨by assumption, by simp;omega, k2, hrec, by omega⟩, by omega, ?_⟩
   exact zal rfl
  ·have hend : QT L F (k2 + 1) o Q = (o, Q) := by rw [QT, if_neg (by rw [hb];simp;omega)]
   rw [hend] at hps ⊢
   dsimp only at hps ⊢
   rw [if_neg (by rw [hb];decide)]
   have hsz : Qk (.mk 27 v 0 o) <= 1000000 := by
    have := hps hb
    omega
   have hval := hV (.mk 27 v 0 o) hsz
   rw [Qr] at hval
   clear hps hk1 hend hfn hkw hea
   refine r_pubin 2 3 rfl rfl rfl c1.symm rfl rfl ?_
   by_cases hes : e < s.length
   ·rw [if_pos hes]
    (refine wkQ9 ?_;intros)
    exact e_2 (Tryz.results24) (Qg (size := 4) rfl rfl rfl rfl) (Qb rfl) (Ze (d2 := .tup [.agg [.i 0, .i 0, .i 0, .sl 4 []], .i e]) (fun L v h => tup_nil h) (Qd (by show _ = DV.tup [.agg (Enc.enc zNd), _];unfold zNd;rw [Qr];rfl)))
   ·rw [if_neg hes]
    cases hvv : qX (.mk 27 v 0 o) with
    | true =>
     rw [hvv] at hval
     rw [if_pos rfl]
     (refine wkQ9 ?_;intros)
     exact e_2 (Tryz.results24) (Qg (size := 4) rfl rfl rfl rfl) (Qb rfl) (Qd (by rw [Qr];rfl))
    | false =>
     rw [hvv] at hval
     rw [if_neg (by decide)]
     (refine wkQ9 ?_;intros)
     exact e_2 (Tryz.results24) (Qg (size := 4) rfl rfl rfl rfl) (Qb rfl) (Ze (d2 := .tup [.agg [.i 0, .i 0, .i 0, .sl 4 []], .i 0]) (fun L v h => tup_nil h) (Qd (by show _ = DV.tup [.agg (Enc.enc zNd), _];unfold zNd;rw [Qr];rfl)))
end Go.Proofs
end
section
namespace Go.Proofs
open Go.Av Go.Bl
theorem parse_z (s : List UInt8) : ZV zP s = ZV zNd s := by
 unfold ZV
 obtain ⟨h1, h2⟩ := prog_z (WL s 0).1 zNd zP ((WL s 0).1.length + 3)
 rw [h1]
 split
 ·rfl
 split
 ·rfl
 ·rename_i hb
  rw [h2 (by simpa using hb)]
theorem parse_sz (z : Nd) (s : List UInt8) : Qk (ZV z s).1 <= 256 := by
 have hz : Qk zNd <= 256 := by unfold zNd;rw [Qk, Qs];omega
 unfold ZV
 split
 ·exact hz
 split
 ·split
  ·exact hz
  ·exact hz
 split
 ·exact hz
 split
 ·rename_i h
  unfold qX at h
  simp only [Bool.and_eq_true, decide_eq_true_eq] at h
  exact h.1.1
 ·exact hz
theorem drop_blank (n : Nat) : (List.replicate n (32 : UInt8)).dropWhile spB = [] := by
 induction n with
 | zero => rfl
 | succ n ih => rw [List.replicate_succ, List.dropWhile_cons, if_pos (by decide)];exact ih
theorem scan_blank (n a : Nat) : WL (List.replicate n 32) a = ([], a + n) := by
 unfold WL
 rw [drop_blank]
 have h : Wq [] = [] := by decide
 simp [h]
theorem parse_blank (z : Nd) (n : Nat) (h : n <= 8192) : ZV z (List.replicate n 32) = (zNd, (n : Int)) := by
 unfold ZV
 rw [List.length_replicate, if_neg (by omega), scan_blank]
 rw [if_pos (by rfl), dif_neg (by show ¬ _ < 0;omega)]
 simp
theorem parse_long (z : Nd) (s : List UInt8) (h : 8192 < s.length) : ZV z s = (zNd, 8192) := by
 unfold ZV
 rw [if_pos h]
end Go.Proofs
end
section
namespace Go.Proofs
open Go.Av
variable {G : Nat -> DV}
attribute [local irreducible] OpSem WR Zc Zp ACalls ZS AClose RV
open Go.Bl
def Zl (n m : Int) (len : Nat) (most last least kids : Int) : Bool := decide (0 <= n) && decide (n <= most) && decide (0 <= m) && decide (m <= last) && decide (least <= (len : Int)) && decide ((len : Int) <= kids)
theorem between_c (k n m : Int) (ks : List Nd) (hl : ks.length <= 1000000) (most last least kids : Int) : Go.Av.Pure Tryz.prog G 117 [.agg [.i k, .i n, .i m, Qo ks], .i most, .i last, .i least, .i kids] (.b (Zl n m ks.length most last least kids)) := fun B => by
 have hpl := trivial
 unfold Zl
 refine Qa Tryz.func117 rfl Tryz.ntmps117 rfl (t := [(0, .agg [.i k, .i n, .i m, Qo ks]), (1, .i most), (2, .i last), (3, .i least), (4, .i kids)]) rfl fun E hE => ?_
 (repeat' first|(refine Qz ?_;(first|refine Ws rfl ?_|refine WM rfl ?_|refine Qc rfl rfl rfl ?_|(refine Qw ?_;(first|refine qv rfl rfl ?_|refine WG rfl rfl ?_))|refine Qv rfl ?_|(refine Q1 ?_;(first|refine ZO rfl rfl ?_|refine W9 rfl rfl ?_))|refine Qe rfl rfl ?_|refine ZC rfl rfl (fun _ _ => ?_)))|(refine We ?_;(first|refine Wb ?_|refine Zg rfl ?_|refine qd rfl rfl rfl rfl ?_|refine qw rfl rfl rfl rfl ?_|refine za rfl rfl (fun _ => ?_) (fun _ => ?_)))|(refine Wc ?_;(first|refine Q7 ?_|refine Qm ?_|refine Wi ?_)))
 all_goals exact e_1 (Tryz.results117) (Qb rfl) (Qd (by simp [*]))
def plnB (k n m : Int) (len : Nat) : Bool := (decide (k = 0) || decide (k = 1)) && decide (n = 0) && decide (m = 0) && decide ((len : Int) = 0)
theorem plainR_c (k n m : Int) (ks : List Nd) (hl : ks.length <= 1000000) : Go.Av.Pure Tryz.prog G 155 [.agg [.i k, .i n, .i m, Qo ks]] (.b (plnB k n m ks.length)) := fun B => by
 have hpl := trivial
 unfold plnB
 refine Qa Tryz.func155 rfl Tryz.ntmps155 rfl (t := [(0, .agg [.i k, .i n, .i m, Qo ks])]) rfl fun E hE => ?_
 (repeat' first|(refine Qz ?_;(first|refine Ws rfl ?_|refine WM rfl ?_|refine Qc rfl rfl rfl ?_|refine WX rfl rfl ?_|refine Qv rfl ?_|(refine Q1 ?_;(first|refine ZO rfl rfl ?_|refine W9 rfl rfl ?_))|refine Qe rfl rfl ?_|refine ZC rfl rfl (fun _ _ => ?_)))|(refine We ?_;(first|refine Wb ?_|refine Zg rfl ?_|refine qd rfl rfl rfl rfl ?_|refine qw rfl rfl rfl rfl ?_|refine za rfl rfl (fun _ => ?_) (fun _ => ?_)))|(refine Wc ?_;(first|refine Q7 ?_|refine Qm ?_|refine Wi ?_)))
 all_goals exact e_1 (Tryz.results155) (Qb rfl) (Qd (by simp [*]))
def plnN : Nd -> Bool
 | .mk k n m ks => plnB k n m ks.length
def typR : Nd -> Bool
 | .mk k n m ks => if k = 2 then ((decide (1 <= n) && decide (n <= 4)) && decide (m = 0)) && decide ((ks.length : Int) = 0) else if k = 3 then (((decide (n = 0) && decide (m = 0)) && decide (1 <= (ks.length : Int))) && decide ((ks.length : Int) <= 3)) && ks.all plnN else plnB k n m ks.length
theorem all_take {ks : List Nd} {i : Nat} (h : i < ks.length) (f : Nd -> Bool) : (ks.take (i + 1)).all f = ((ks.take i).all f && f ks[i]) := by
 rw [List.take_succ_eq_append_getElem h, List.all_append];simp
theorem plainN_c (x : Nd) (hl : Qk x <= 1000000) : Go.Av.Pure Tryz.prog G 155 [.agg (Enc.enc x)] (.b (plnN x)) := by
 obtain ⟨k, n, m, ks⟩ := x
 rw [Qk] at hl
 have := Wk ks
 rw [Qr]
 exact plainR_c k n m ks (by omega)
theorem wkVQ {X W0 W1 W2 : Prop} (w0 : W0 := by exact True.intro) (w1 : W1 := by exact True.intro) (w2 : W2 := by exact True.intro) (s : (Unit -> W0) -> (Unit -> W1) -> (Unit -> W2) -> Unit -> X := by (intro w0 w1 w2 _;(repeat' first|(refine Qz ?_;(first|refine Ws rfl ?_|refine WM rfl ?_|(refine QN ?_;(first|refine Z4 rfl rfl ?_|refine Q0 rfl ?_|refine Qc rfl rfl rfl ?_))|refine Qq rfl rfl (by first|assumption|omega|(simp;done)|(simp;omega)) ?_|(refine Qw ?_;(first|refine Zw rfl rfl ?_|refine WX rfl rfl ?_|refine ZU rfl rfl (by omega) ?_))|(refine QK ?_;(first|refine Qv rfl ?_|refine WA rfl rfl (hpl) ?_))|(refine Q1 ?_;(first|refine ZO rfl rfl ?_|refine W9 rfl rfl ?_))|refine Qe rfl rfl ?_|refine ZC rfl rfl (fun _ _ => ?_)))|(refine We ?_;(first|refine Wb ?_|refine Zg rfl ?_|refine qd rfl rfl rfl rfl ?_|refine qw rfl rfl rfl rfl ?_))|(refine Wc ?_;(first|refine Q7 ?_|refine Qm ?_|refine QM ?_|refine QV ?_|refine Qu rfl (by omega) ?_|refine Qn rfl (by omega) ?_|refine W8 rfl ?_|refine Wi ?_)));(all_goals (repeat (rename_i x;(fail_if_success have : Unit := x);revert x)));(first|done|exact w0 ());(first|done|exact w1 ());(first|done|exact w2 ()))) (u : (W0 \/ True) /\ (W1 \/ True) /\ (W2 \/ True) := by (refine ⟨?_, ?_, ?_⟩ <;> first|exact Or.inl True.intro|exact Or.inr True.intro)) : X := s (fun _ => w0) (fun _ => w1) (fun _ => w2) ()
theorem typeR_c (x : Nd) (hl : Qk x <= 1000000) : Go.Av.Pure Tryz.prog G 154 [.agg (Enc.enc x)] (.b (typR x)) := fun B => by
 obtain ⟨k, n, m, ks⟩ := x
 rw [Qk] at hl
 have hln := Wk ks
 have hps : ∀ i (h : i < ks.length), Go.Av.Pure Tryz.prog G 155 [.agg (Enc.enc ks[i])] (.b (plnN ks[i])) := fun i h => plainN_c _ (by have := QG (List.getElem_mem h);omega)
 have hpl := plainR_c (G := G) k n m ks (by omega)
 have hex := trivial
 have hxs := trivial
 have hbt := trivial
 rw [typR, Qr]
 by_cases k2 : k = 2
 ·rw [if_pos k2]
  clear hps hpl
  have hpl := trivial
  refine Qa Tryz.func154 rfl Tryz.ntmps154 rfl (t := [(0, .agg [.i k, .i n, .i m, Qo ks])]) rfl fun E hE => ?_
  (repeat' first|(refine Qz ?_;(first|refine Ws rfl ?_|refine WM rfl ?_|refine Qc rfl rfl rfl ?_|(refine Qw ?_;(first|refine qv rfl rfl ?_|refine WG rfl rfl ?_|refine WX rfl rfl ?_))|refine Qv rfl ?_|(refine Q1 ?_;(first|refine ZO rfl rfl ?_|refine W9 rfl rfl ?_))|refine Qe rfl rfl ?_|refine ZC rfl rfl (fun _ _ => ?_)))|(refine We ?_;(first|refine Wb ?_|refine Zg rfl ?_|refine qd rfl rfl rfl rfl ?_|refine qw rfl rfl rfl rfl ?_|refine za rfl rfl (fun _ => ?_) (fun _ => ?_)))|(refine Wc ?_;(first|refine Q7 ?_|refine Qm ?_|refine Qu rfl (by omega) ?_|refine Wi ?_)))
  all_goals exact e_1 (Tryz.results154) (Qb rfl) (Qd (by simp [*]))
 rw [if_neg k2]
 by_cases k3 : k = 3
 ·rw [if_pos k3]
  clear hpl
  have hpl := trivial
  refine Qa Tryz.func154 rfl Tryz.ntmps154 rfl (t := [(0, .agg [.i k, .i n, .i m, Qo ks])]) rfl fun E hE => ?_
  (repeat' first|(refine Qz ?_;(first|refine Ws rfl ?_|refine WM rfl ?_|refine Qc rfl rfl rfl ?_|(refine Qw ?_;(first|refine qv rfl rfl ?_|refine WG rfl rfl ?_|refine WX rfl rfl ?_))|refine Qv rfl ?_|(refine Q1 ?_;(first|refine ZO rfl rfl ?_|refine W9 rfl rfl ?_))|refine Qe rfl rfl ?_|refine ZC rfl rfl (fun _ _ => ?_)))|(refine We ?_;(first|refine Wb ?_|refine Zg rfl ?_|refine qd rfl rfl rfl rfl ?_|refine qw rfl rfl rfl rfl ?_|refine za rfl rfl (fun _ => ?_) (fun _ => ?_)))|(refine Wc ?_;(first|refine Q7 ?_|refine Qm ?_|refine QM ?_|refine QV ?_|refine Qu rfl (by omega) ?_|refine Qn rfl (by omega) ?_)))
  ·rename_i g1 hg1 hn hm hc
   have hf : (((decide (n = 0) && decide (m = 0)) && decide (1 <= (ks.length : Int))) && decide ((ks.length : Int) <= 3)) = decide ((ks.length : Int) <= 3) := by simp [*]
   rw [hf]
   generalize decide ((ks.length : Int) <= 3) = f0
   refine WY (fun i : Nat => ⟨[(1, .ptr 0 g1 0), (3, .b (f0 && (ks.take i).all plnN)), (4, .i i)], [.row g1 [.i k, .i n, .i m, Qo ks]]⟩) (fun i => i <= ks.length) (fun i => ks.length - i) 0 ?_ (by omega) ?_
   ·rw [show (f0 && (ks.take 0).all plnN) = f0 by simp]
    exact zal rfl
   intro i hi
   by_cases hil : i < ks.length
   ·have hpl := hps i hil
    have ht : (f0 && (ks.take (i + 1)).all plnN) = ((f0 && (ks.take i).all plnN) && plnN ks[i]) := by rw [all_take hil, Bool.and_assoc]
    clear hps
    cases hb : (f0 && (ks.take i).all plnN)
    all_goals
     rw [hb] at ht
     (refine wkVQ ?_ ?_ <;> first|exact True.intro|intros)
     all_goals
      refine ⟨i + 1, by omega, by omega, ?_⟩
      rw [ht]
      exact zal rfl
   ·have hie : i = ks.length := by omega
    subst hie
    rw [List.take_length]
    clear hps
    (refine wkVQ ?_;intros)
    all_goals exact e_1 (Tryz.results154) (Qb rfl) (Qd rfl)
  ·rename_i g1 hg1 hn hm hc
   have hf : (((decide (n = 0) && decide (m = 0)) && decide (1 <= (ks.length : Int))) && decide ((ks.length : Int) <= 3)) = false := by simp [*]
   rw [hf]
   refine WY (fun i : Nat => ⟨[(1, .ptr 0 g1 0), (3, .b (false && (ks.take i).all plnN)), (4, .i i)], [.row g1 [.i k, .i n, .i m, Qo ks]]⟩) (fun i => i <= ks.length) (fun i => ks.length - i) 0 ?_ (by omega) ?_
   ·rw [show (false && (ks.take 0).all plnN) = false by simp]
    exact zal rfl
   intro i hi
   by_cases hil : i < ks.length
   ·have hpl := hps i hil
    have ht : (false && (ks.take (i + 1)).all plnN) = ((false && (ks.take i).all plnN) && plnN ks[i]) := by rw [all_take hil, Bool.and_assoc]
    clear hps
    cases hb : (false && (ks.take i).all plnN)
    all_goals
     rw [hb] at ht
     (refine wkVQ ?_ ?_ <;> first|exact True.intro|intros)
     all_goals
      refine ⟨i + 1, by omega, by omega, ?_⟩
      rw [ht]
      exact zal rfl
   ·have hie : i = ks.length := by omega
    subst hie
    rw [List.take_length]
    clear hps
    (refine wkVQ ?_;intros)
    all_goals exact e_1 (Tryz.results154) (Qb rfl) (Qd rfl)
  ·rename_i g1 hg1 hn hm
   have hf : (((decide (n = 0) && decide (m = 0)) && decide (1 <= (ks.length : Int))) && decide ((ks.length : Int) <= 3)) = false := by simp [*]
   rw [hf]
   refine WY (fun i : Nat => ⟨[(1, .ptr 0 g1 0), (3, .b (false && (ks.take i).all plnN)), (4, .i i)], [.row g1 [.i k, .i n, .i m, Qo ks]]⟩) (fun i => i <= ks.length) (fun i => ks.length - i) 0 ?_ (by omega) ?_
   ·rw [show (false && (ks.take 0).all plnN) = false by simp]
    exact zal rfl
   intro i hi
   by_cases hil : i < ks.length
   ·have hpl := hps i hil
    have ht : (false && (ks.take (i + 1)).all plnN) = ((false && (ks.take i).all plnN) && plnN ks[i]) := by rw [all_take hil, Bool.and_assoc]
    clear hps
    cases hb : (false && (ks.take i).all plnN)
    all_goals
     rw [hb] at ht
     (refine wkVQ ?_ ?_ <;> first|exact True.intro|intros)
     all_goals
      refine ⟨i + 1, by omega, by omega, ?_⟩
      rw [ht]
      exact zal rfl
   ·have hie : i = ks.length := by omega
    subst hie
    rw [List.take_length]
    clear hps
    (refine wkVQ ?_;intros)
    all_goals exact e_1 (Tryz.results154) (Qb rfl) (Qd rfl)
  ·rename_i g1 hg1 hn
   have hf : (((decide (n = 0) && decide (m = 0)) && decide (1 <= (ks.length : Int))) && decide ((ks.length : Int) <= 3)) = false := by simp [*]
   rw [hf]
   refine WY (fun i : Nat => ⟨[(1, .ptr 0 g1 0), (3, .b (false && (ks.take i).all plnN)), (4, .i i)], [.row g1 [.i k, .i n, .i m, Qo ks]]⟩) (fun i => i <= ks.length) (fun i => ks.length - i) 0 ?_ (by omega) ?_
   ·rw [show (false && (ks.take 0).all plnN) = false by simp]
    exact zal rfl
   intro i hi
   by_cases hil : i < ks.length
   ·have hpl := hps i hil
    have ht : (false && (ks.take (i + 1)).all plnN) = ((false && (ks.take i).all plnN) && plnN ks[i]) := by rw [all_take hil, Bool.and_assoc]
    clear hps
    cases hb : (false && (ks.take i).all plnN)
    all_goals
     rw [hb] at ht
     (refine wkVQ ?_ ?_ <;> first|exact True.intro|intros)
     all_goals
      refine ⟨i + 1, by omega, by omega, ?_⟩
      rw [ht]
      exact zal rfl
   ·have hie : i = ks.length := by omega
    subst hie
    rw [List.take_length]
    clear hps
    (refine wkVQ ?_;intros)
    all_goals exact e_1 (Tryz.results154) (Qb rfl) (Qd rfl)
 ·rw [if_neg k3]
  clear hps
  refine Qa Tryz.func154 rfl Tryz.ntmps154 rfl (t := [(0, .agg [.i k, .i n, .i m, Qo ks])]) rfl fun E hE => ?_
  (refine wkVQ ?_;intros)
  all_goals exact e_1 (Tryz.results154) (Qb rfl) (Qd rfl)
def numRB (n m : Int) (len : Nat) : Bool := ((decide (-8 <= n) && decide (n <= 7)) && decide (m = 0)) && decide ((len : Int) = 0)
def exB (k n m : Int) (len : Nat) : Bool :=
 if k = 5 then Zl n m len 1 0 0 0 else if k = 6 then Zl n m len 5 0 0 0 else if k = 7 then Zl n m len 5 0 1 1 else if k = 8 then Zl n m len 5 2 0 0 else if k = 9 then Zl n m len 13 0 2 2 else if k = 10 then Zl n m len 0 0 1 1 else if k = 11 then Zl n m len 5 0 0 3 else if k = 12 then Zl n m len 2 0 0 0 else false
def exR (k n m : Int) (ks : List Nd) : Bool := if k = 4 then numRB n m ks.length else exB k n m ks.length && ks.all (Qp · 4)
theorem kidsR_all (s : Sh) (w : Int) : ∀ (ks : List Nd), (∀ i < ks.length, qu s i = w) -> Zd s (Zk ks) = ks.all (Qp · w) := by
 intro ks h
 rw [fitsF_eq]
 unfold Zd allI
 rw [Bool.eq_iff_iff, List.all_eq_true, List.all_eq_true]
 simp only [List.mem_range, List.length_map]
 constructor
 ·intro hh x hx
  obtain ⟨i, hi, rfl⟩ := List.getElem_of_mem hx
  have := hh i hi
  rw [h i hi] at this
  simpa [List.getD, hi] using this
 ·intro hh i hi
  rw [h i hi]
  have := hh ks[i] (List.getElem_mem hi)
  simpa [List.getD, hi] using this
theorem wkVR {X W0 W1 W2 : Prop} (w0 : W0 := by exact True.intro) (w1 : W1 := by exact True.intro) (w2 : W2 := by exact True.intro) (s : (Unit -> W0) -> (Unit -> W1) -> (Unit -> W2) -> Unit -> X := by (intro w0 w1 w2 _;(repeat' first|(refine Qz ?_;(first|refine Ws rfl ?_|refine WM rfl ?_|(refine QN ?_;(first|refine Z4 rfl rfl ?_|refine Q0 rfl ?_|refine Qc rfl rfl rfl ?_))|refine Qq rfl rfl (by first|assumption|omega|(simp;done)|(simp;omega)) ?_|(refine Qw ?_;(first|refine Zw rfl rfl ?_|refine WX rfl rfl ?_|refine ZU rfl rfl (by omega) ?_))|(refine QK ?_;(first|refine Qv rfl ?_|refine WA rfl rfl (hpl) ?_|refine WA rfl rfl (hxs) ?_|refine WA rfl rfl (hbt) ?_))|(refine Q1 ?_;(first|refine ZO rfl rfl ?_|refine W9 rfl rfl ?_))|refine qK rfl ?_|refine Qe rfl rfl ?_|refine ZC rfl rfl (fun _ _ => ?_)))|(refine We ?_;(first|refine Wb ?_|refine Zg rfl ?_|refine qd rfl rfl rfl rfl ?_|refine qw rfl rfl rfl rfl ?_))|(refine Wc ?_;(first|refine Q7 ?_|refine Qm ?_|refine QM ?_|refine QV ?_|refine QD rfl ?_|refine QR rfl ?_|refine Qu rfl (by omega) ?_|refine Qn rfl (by omega) ?_|refine W8 rfl ?_|refine Wi ?_)));(all_goals (repeat (rename_i x;(fail_if_success have : Unit := x);revert x)));(first|done|exact w0 ());(first|done|exact w1 ());(first|done|exact w2 ()))) (u : (W0 \/ True) /\ (W1 \/ True) /\ (W2 \/ True) := by (refine ⟨?_, ?_, ?_⟩ <;> first|exact Or.inl True.intro|exact Or.inr True.intro)) : X := s (fun _ => w0) (fun _ => w1) (fun _ => w2) ()
theorem exprs_c (ks : List Nd) (hl : ks.length <= 1000000) (h : ∀ i (hi : i < ks.length), Go.Av.Pure Tryz.prog G 205 [.agg (Enc.enc ks[i])] (.b (Qp ks[i] 4))) : Go.Av.Pure Tryz.prog G 206 [Qo ks] (.b (ks.all (Qp · 4))) := fun B => by
 have hxs := trivial
 have hbt := trivial
 refine Qa Tryz.func206 rfl Tryz.ntmps206 rfl (t := [(0, Qo ks)]) rfl fun E hE => ?_
 have hpl := trivial
 (refine wkVR ?_;intros)
 refine WY (fun i : Nat => ⟨[(0, Qo ks), (3, .i i)], []⟩) (fun i => i <= ks.length /\ (ks.take i).all (Qp · 4) = true) (fun i => ks.length - i) 0 ?_ ⟨by omega, by simp⟩ ?_
 ·exact zal rfl
 intro i ⟨hi, ha⟩
 by_cases hil : i < ks.length
 ·have hpl := h i hil
  clear h
  cases hb : Qp ks[i] 4
  ·rw [hb] at hpl
   have hf : ks.all (Qp · 4) = false := by
    rw [Bool.eq_false_iff];intro hc
    rw [List.all_eq_true] at hc
    exact absurd (hc _ (List.getElem_mem hil)) (by rw [hb];simp)
   rw [hf]
   (refine wkVR ?_;intros)
   all_goals exact e_1 (Tryz.results206) (Qb rfl) (Qd rfl)
  ·rw [hb] at hpl
   have ht := all_take hil (Qp · 4)
   (refine wkVR ?_;intros)
   refine ⟨i + 1, ⟨by omega, by rw [ht, ha, hb];rfl⟩, by omega, ?_⟩
   exact zal rfl
 ·have hie : i = ks.length := by omega
  subst hie
  rw [List.take_length] at ha
  rw [ha]
  clear h
  (refine wkVR ?_;intros)
  all_goals exact e_1 (Tryz.results206) (Qb rfl) (Qd rfl)
theorem fits4 (k n m : Int) (ks : List Nd) : Qp (.mk k n m ks) 4 = exR k n m ks := by
 rw [Qp]
 by_cases h0 : 0 <= k /\ k < 28
 ·rw [if_pos h0]
  obtain ⟨a, rfl⟩ := Int.eq_ofNat_of_zero_le h0.1
  have : a = 0 \/ a = 1 \/ a = 2 \/ a = 3 \/ a = 4 \/ a = 5 \/ a = 6 \/ a = 7 \/ a = 8 \/ a = 9 \/ a = 10 \/ a = 11 \/ a = 12 \/ a = 13 \/ a = 14 \/ a = 15 \/ a = 16 \/ a = 17 \/ a = 18 \/ a = 19 \/ a = 20 \/ a = 21 \/ a = 22 \/ a = 23 \/ a = 24 \/ a = 25 \/ a = 26 \/ a = 27 := by omega
  have key : ∀ s : Sh, (Zf s ks.length = true -> ∀ i < ks.length, qu s i = 4) -> (Zf s ks.length && Zd s (Zk ks)) = (Zf s ks.length && ks.all (Qp · 4)) := by
   intro s hs
   cases hc : Zf s ks.length
   ·rfl
   ·rw [kidsR_all s 4 ks (hs hc)]
  clear h0
  rcases this with rfl|rfl|rfl|rfl|rfl|rfl|rfl|rfl|rfl|rfl|rfl|rfl|rfl|rfl|rfl|rfl|rfl|rfl|rfl|rfl|rfl|rfl|rfl|rfl|rfl|rfl|rfl|rfl
  ·rfl
  ·rfl
  ·rfl
  ·rfl
  ·show (isB ⟨4, -8, 7, 0, [], 0, 0, 0⟩ 4 && ZD ⟨4, -8, 7, 0, [], 0, 0, 0⟩ n m && (Zf ⟨4, -8, 7, 0, [], 0, 0, 0⟩ ks.length && Zd ⟨4, -8, 7, 0, [], 0, 0, 0⟩ (Zk ks))) = numRB n m ks.length
   rw [key ⟨4, -8, 7, 0, [], 0, 0, 0⟩ (by intro hc i hi;simp only [Zf, Bool.and_eq_true, decide_eq_true_eq, List.length_nil] at hc;omega)]
   cases ks with
   | nil => rw [Bool.eq_iff_iff];simp [isB, ZD, Zf, numRB];omega
   | cons x r => rw [Bool.eq_iff_iff];simp [isB, ZD, Zf, numRB];omega
  ·show (isB ⟨4, 0, 1, 0, [], 0, 0, 0⟩ 4 && ZD ⟨4, 0, 1, 0, [], 0, 0, 0⟩ n m && (Zf ⟨4, 0, 1, 0, [], 0, 0, 0⟩ ks.length && Zd ⟨4, 0, 1, 0, [], 0, 0, 0⟩ (Zk ks))) = (Zl n m ks.length 1 0 0 0 && ks.all (Qp · 4))
   rw [key ⟨4, 0, 1, 0, [], 0, 0, 0⟩ (by intro hc i hi;simp only [Zf, Bool.and_eq_true, decide_eq_true_eq, List.length_nil] at hc;omega)]
   generalize ks.all (Qp · 4) = al
   generalize ks.length = len
   rw [Bool.eq_iff_iff];cases al <;> simp [isB, ZD, Zf, Zl] <;> omega
  ·show (isB ⟨4, 0, 5, 0, [], 0, 0, 0⟩ 4 && ZD ⟨4, 0, 5, 0, [], 0, 0, 0⟩ n m && (Zf ⟨4, 0, 5, 0, [], 0, 0, 0⟩ ks.length && Zd ⟨4, 0, 5, 0, [], 0, 0, 0⟩ (Zk ks))) = (Zl n m ks.length 5 0 0 0 && ks.all (Qp · 4))
   rw [key ⟨4, 0, 5, 0, [], 0, 0, 0⟩ (by intro hc i hi;simp only [Zf, Bool.and_eq_true, decide_eq_true_eq, List.length_nil] at hc;omega)]
   generalize ks.all (Qp · 4) = al
   generalize ks.length = len
   rw [Bool.eq_iff_iff];cases al <;> simp [isB, ZD, Zf, Zl] <;> omega
  ·show (isB ⟨4, 0, 5, 0, [4], 0, 0, 0⟩ 4 && ZD ⟨4, 0, 5, 0, [4], 0, 0, 0⟩ n m && (Zf ⟨4, 0, 5, 0, [4], 0, 0, 0⟩ ks.length && Zd ⟨4, 0, 5, 0, [4], 0, 0, 0⟩ (Zk ks))) = (Zl n m ks.length 5 0 1 1 && ks.all (Qp · 4))
   rw [key ⟨4, 0, 5, 0, [4], 0, 0, 0⟩ (by intro hc i hi;simp [Zf] at hc;(have : i = 0 := by omega);subst this;rfl)]
   generalize ks.all (Qp · 4) = al
   generalize ks.length = len
   rw [Bool.eq_iff_iff];cases al <;> simp [isB, ZD, Zf, Zl] <;> omega
  ·show (isB ⟨4, 0, 5, 2, [], 0, 0, 0⟩ 4 && ZD ⟨4, 0, 5, 2, [], 0, 0, 0⟩ n m && (Zf ⟨4, 0, 5, 2, [], 0, 0, 0⟩ ks.length && Zd ⟨4, 0, 5, 2, [], 0, 0, 0⟩ (Zk ks))) = (Zl n m ks.length 5 2 0 0 && ks.all (Qp · 4))
   rw [key ⟨4, 0, 5, 2, [], 0, 0, 0⟩ (by intro hc i hi;simp only [Zf, Bool.and_eq_true, decide_eq_true_eq, List.length_nil] at hc;omega)]
   generalize ks.all (Qp · 4) = al
   generalize ks.length = len
   rw [Bool.eq_iff_iff];cases al <;> simp [isB, ZD, Zf, Zl] <;> omega
  ·show (isB ⟨4, 0, 13, 0, [4, 4], 0, 0, 0⟩ 4 && ZD ⟨4, 0, 13, 0, [4, 4], 0, 0, 0⟩ n m && (Zf ⟨4, 0, 13, 0, [4, 4], 0, 0, 0⟩ ks.length && Zd ⟨4, 0, 13, 0, [4, 4], 0, 0, 0⟩ (Zk ks))) = (Zl n m ks.length 13 0 2 2 && ks.all (Qp · 4))
   rw [key ⟨4, 0, 13, 0, [4, 4], 0, 0, 0⟩ (by intro hc i hi;simp [Zf] at hc;(have : i = 0 \/ i = 1 := by omega);rcases this with rfl|rfl <;> rfl)]
   generalize ks.all (Qp · 4) = al
   generalize ks.length = len
   rw [Bool.eq_iff_iff];cases al <;> simp [isB, ZD, Zf, Zl] <;> omega
  ·show (isB ⟨4, 0, 0, 0, [4], 0, 0, 0⟩ 4 && ZD ⟨4, 0, 0, 0, [4], 0, 0, 0⟩ n m && (Zf ⟨4, 0, 0, 0, [4], 0, 0, 0⟩ ks.length && Zd ⟨4, 0, 0, 0, [4], 0, 0, 0⟩ (Zk ks))) = (Zl n m ks.length 0 0 1 1 && ks.all (Qp · 4))
   rw [key ⟨4, 0, 0, 0, [4], 0, 0, 0⟩ (by intro hc i hi;simp [Zf] at hc;(have : i = 0 := by omega);subst this;rfl)]
   generalize ks.all (Qp · 4) = al
   generalize ks.length = len
   rw [Bool.eq_iff_iff];cases al <;> simp [isB, ZD, Zf, Zl] <;> omega
  ·show (isB ⟨4, 0, 5, 0, [], 3, 0, 4⟩ 4 && ZD ⟨4, 0, 5, 0, [], 3, 0, 4⟩ n m && (Zf ⟨4, 0, 5, 0, [], 3, 0, 4⟩ ks.length && Zd ⟨4, 0, 5, 0, [], 3, 0, 4⟩ (Zk ks))) = (Zl n m ks.length 5 0 0 3 && ks.all (Qp · 4))
   rw [key ⟨4, 0, 5, 0, [], 3, 0, 4⟩ (by intro hc i hi;simp [Zf] at hc;simp [qu])]
   generalize ks.all (Qp · 4) = al
   generalize ks.length = len
   rw [Bool.eq_iff_iff];cases al <;> simp [isB, ZD, Zf, Zl] <;> omega
  ·show (isB ⟨4, 0, 2, 0, [], 0, 0, 0⟩ 4 && ZD ⟨4, 0, 2, 0, [], 0, 0, 0⟩ n m && (Zf ⟨4, 0, 2, 0, [], 0, 0, 0⟩ ks.length && Zd ⟨4, 0, 2, 0, [], 0, 0, 0⟩ (Zk ks))) = (Zl n m ks.length 2 0 0 0 && ks.all (Qp · 4))
   rw [key ⟨4, 0, 2, 0, [], 0, 0, 0⟩ (by intro hc i hi;simp only [Zf, Bool.and_eq_true, decide_eq_true_eq, List.length_nil] at hc;omega)]
   generalize ks.all (Qp · 4) = al
   generalize ks.length = len
   rw [Bool.eq_iff_iff];cases al <;> simp [isB, ZD, Zf, Zl] <;> omega
  ·rfl
  ·rfl
  ·rfl
  ·rfl
  ·rfl
  ·rfl
  ·rfl
  ·rfl
  ·rfl
  ·rfl
  ·rfl
  ·rfl
  ·rfl
  ·rfl
  ·rfl
 ·rw [if_neg h0]
  unfold exR exB
  repeat rw [if_neg (by omega)]
  rfl
theorem expr0_c (k n m : Int) (ks : List Nd) (hl : ks.length <= 1000000) (h : ∀ i (hi : i < ks.length), Go.Av.Pure Tryz.prog G 205 [.agg (Enc.enc ks[i])] (.b (Qp ks[i] 4))) : Go.Av.Pure Tryz.prog G 205 [.agg [.i k, .i n, .i m, Qo ks]] (.b (exR k n m ks)) := fun B => by
 unfold exR exB
 have hxs := exprs_c ks hl h
 have hbt0 := between_c (G := G) k n m ks hl
 have hpl := trivial
 clear h
 generalize ks.all (Qp · 4) = al at hxs ⊢
 by_cases k4 : k = 4
 ·rw [if_pos k4]
  clear hbt0 hxs
  have hbt := trivial
  have hxs := trivial
  unfold numRB
  refine Qa Tryz.func205 rfl Tryz.ntmps205 rfl (t := [(0, .agg [.i k, .i n, .i m, Qo ks])]) rfl fun E hE => ?_
  (repeat' first|(refine Qz ?_;(first|refine Ws rfl ?_|refine WM rfl ?_|refine Qc rfl rfl rfl ?_|(refine Qw ?_;(first|refine qv rfl rfl ?_|refine WG rfl rfl ?_|refine WX rfl rfl ?_))|refine Qv rfl ?_|(refine Q1 ?_;(first|refine ZO rfl rfl ?_|refine W9 rfl rfl ?_))|refine Qe rfl rfl ?_|refine ZC rfl rfl (fun _ _ => ?_)))|(refine We ?_;(first|refine Wb ?_|refine Zg rfl ?_|refine qd rfl rfl rfl rfl ?_|refine qw rfl rfl rfl rfl ?_|refine za rfl rfl (fun _ => ?_) (fun _ => ?_)))|(refine Wc ?_;(first|refine Q7 ?_|refine Qm ?_|refine QM ?_|refine Qu rfl (by omega) ?_|refine Wi ?_)))
  all_goals exact e_1 (Tryz.results205) (Qb rfl) (Qd (by simp [*]))
 rw [if_neg k4]
 by_cases k5 : k = 5
 ·rw [if_pos k5]
  have hbt := hbt0 1 0 0 0
  clear hbt0
  cases hb : Zl n m ks.length 1 0 0 0
  all_goals
   rw [hb] at hbt
   refine Qa Tryz.func205 rfl Tryz.ntmps205 rfl (t := [(0, .agg [.i k, .i n, .i m, Qo ks])]) rfl fun E hE => ?_
   (refine wkVR ?_ ?_ <;> first|exact True.intro|intros)
   all_goals exact e_1 (Tryz.results205) (Qb rfl) (Qd (by simp))
 rw [if_neg k5]
 by_cases k6 : k = 6
 ·rw [if_pos k6]
  have hbt := hbt0 5 0 0 0
  clear hbt0
  cases hb : Zl n m ks.length 5 0 0 0
  all_goals
   rw [hb] at hbt
   refine Qa Tryz.func205 rfl Tryz.ntmps205 rfl (t := [(0, .agg [.i k, .i n, .i m, Qo ks])]) rfl fun E hE => ?_
   (refine wkVR ?_ ?_ <;> first|exact True.intro|intros)
   all_goals exact e_1 (Tryz.results205) (Qb rfl) (Qd (by simp))
 rw [if_neg k6]
 by_cases k7 : k = 7
 ·rw [if_pos k7]
  have hbt := hbt0 5 0 1 1
  clear hbt0
  cases hb : Zl n m ks.length 5 0 1 1
  all_goals
   rw [hb] at hbt
   refine Qa Tryz.func205 rfl Tryz.ntmps205 rfl (t := [(0, .agg [.i k, .i n, .i m, Qo ks])]) rfl fun E hE => ?_
   (refine wkVR ?_ ?_ <;> first|exact True.intro|intros)
   all_goals exact e_1 (Tryz.results205) (Qb rfl) (Qd (by simp))
 rw [if_neg k7]
 by_cases k8 : k = 8
 ·rw [if_pos k8]
  have hbt := hbt0 5 2 0 0
  clear hbt0
  cases hb : Zl n m ks.length 5 2 0 0
  all_goals
   rw [hb] at hbt
   refine Qa Tryz.func205 rfl Tryz.ntmps205 rfl (t := [(0, .agg [.i k, .i n, .i m, Qo ks])]) rfl fun E hE => ?_
   (refine wkVR ?_ ?_ <;> first|exact True.intro|intros)
   all_goals exact e_1 (Tryz.results205) (Qb rfl) (Qd (by simp))
 rw [if_neg k8]
 by_cases k9 : k = 9
 ·rw [if_pos k9]
  have hbt := hbt0 13 0 2 2
  clear hbt0
  cases hb : Zl n m ks.length 13 0 2 2
  all_goals
   rw [hb] at hbt
   refine Qa Tryz.func205 rfl Tryz.ntmps205 rfl (t := [(0, .agg [.i k, .i n, .i m, Qo ks])]) rfl fun E hE => ?_
   (refine wkVR ?_ ?_ <;> first|exact True.intro|intros)
   all_goals exact e_1 (Tryz.results205) (Qb rfl) (Qd (by simp))
 rw [if_neg k9]
 by_cases k10 : k = 10
 ·rw [if_pos k10]
  have hbt := hbt0 0 0 1 1
  clear hbt0
  cases hb : Zl n m ks.length 0 0 1 1
  all_goals
   rw [hb] at hbt
   refine Qa Tryz.func205 rfl Tryz.ntmps205 rfl (t := [(0, .agg [.i k, .i n, .i m, Qo ks])]) rfl fun E hE => ?_
   (refine wkVR ?_ ?_ <;> first|exact True.intro|intros)
   all_goals exact e_1 (Tryz.results205) (Qb rfl) (Qd (by simp))
 rw [if_neg k10]
 by_cases k11 : k = 11
 ·rw [if_pos k11]
  have hbt := hbt0 5 0 0 3
  clear hbt0
  cases hb : Zl n m ks.length 5 0 0 3
  all_goals
   rw [hb] at hbt
   refine Qa Tryz.func205 rfl Tryz.ntmps205 rfl (t := [(0, .agg [.i k, .i n, .i m, Qo ks])]) rfl fun E hE => ?_
   (refine wkVR ?_ ?_ <;> first|exact True.intro|intros)
   all_goals exact e_1 (Tryz.results205) (Qb rfl) (Qd (by simp))
 rw [if_neg k11]
 by_cases k12 : k = 12
 ·rw [if_pos k12]
  have hbt := hbt0 2 0 0 0
  clear hbt0
  cases hb : Zl n m ks.length 2 0 0 0
  all_goals
   rw [hb] at hbt
   refine Qa Tryz.func205 rfl Tryz.ntmps205 rfl (t := [(0, .agg [.i k, .i n, .i m, Qo ks])]) rfl fun E hE => ?_
   (refine wkVR ?_ ?_ <;> first|exact True.intro|intros)
   all_goals exact e_1 (Tryz.results205) (Qb rfl) (Qd (by simp))
 rw [if_neg k12]
 clear hbt0
 have hbt := trivial
 refine Qa Tryz.func205 rfl Tryz.ntmps205 rfl (t := [(0, .agg [.i k, .i n, .i m, Qo ks])]) rfl fun E hE => ?_
 (refine wkVR ?_;intros)
 all_goals exact e_1 (Tryz.results205) (Qb rfl) (Qd (by simp))
theorem r05Expr_c (t : Nd) : Qk t <= 1000000 -> Go.Av.Pure Tryz.prog G 205 [.agg (Enc.enc t)] (.b (Qp t 4)) := by
 induction t using Nd.ind with
 | h k n m ks ih =>
 intro hs
 rw [Qk] at hs
 have hln := Wk ks
 rw [fits4, Qr]
 exact expr0_c k n m ks (by omega) fun i hi => ih _ (List.getElem_mem hi) (by have := QG (List.getElem_mem hi);omega)
end Go.Proofs
end
