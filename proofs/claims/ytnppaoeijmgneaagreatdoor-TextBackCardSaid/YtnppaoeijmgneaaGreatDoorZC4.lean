/-
  Part 4 of the proof: V2 LX RB TS T8 TA TL KX KP KS GM PV AS.
-/
import Derived.Test.YtnppaoeijmgneaaGreatDoorZC1
import Derived.Test.YtnppaoeijmgneaaGreatDoorZC2
import Derived.Test.YtnppaoeijmgneaaGreatDoorZC3
set_option linter.unusedSimpArgs false
set_option linter.unusedVariables false
set_option maxRecDepth 10000
set_option maxHeartbeats 4000000
section
namespace Go.Proofs
open Go.Av
variable {G : Nat -> DV}
attribute [local irreducible] OpSem Zs ZH qa ACalls qP AClose RV
open Go.Bl
instance : Enc Sh where
 enc s := [.i s.is, .i s.low, .i s.high, .i s.last, Q5 s.kids, .i s.more, .i s.least, .i s.som]
 es := 8
 len _ := rfl
 one _ d hd := by
  simp only [List.mem_cons, List.not_mem_nil, or_false] at hd
  rcases hd with rfl | rfl | rfl | rfl | rfl | rfl | rfl | rfl <;> rfl
 clo r d hd := by
  simp only [List.mem_cons, List.not_mem_nil, or_false] at hd
  rcases hd with rfl | rfl | rfl | rfl | rfl | rfl | rfl | rfl <;> first | exact Wp | exact WG _
 pos := by decide
def shapesT : DV := .ep (Wq shapesL)
theorem shape_at {k : Int} (h0 : 0 <= k) (h1 : k < 28) : ∃ is low high last kids more least som, shapesL.getD k.toNat noSh = ⟨is, low, high, last, kids, more, least, som⟩ /\ kids.length <= 3 /\ (k = 26 -> is = 1 /\ low = 0 /\ high = 3 /\ last = 0) /\
  partD ((Wq shapesL).drop (k.toNat * 8)) 0 8 = some [.i is, .i low, .i high, .i last, Q5 kids, .i more, .i least, .i som] := by
 have : k = 0 \/ k = 1 \/ k = 2 \/ k = 3 \/ k = 4 \/ k = 5 \/ k = 6 \/ k = 7 \/ k = 8 \/ k = 9 \/ k = 10 \/ k = 11 \/ k = 12 \/ k = 13 \/ k = 14 \/ k = 15 \/ k = 16 \/ k = 17 \/ k = 18 \/ k = 19 \/ k = 20 \/ k = 21 \/ k = 22 \/ k = 23 \/ k = 24 \/ k = 25 \/ k = 26 \/ k = 27 := by omega
 rcases this with rfl | rfl | rfl | rfl | rfl | rfl | rfl | rfl | rfl | rfl | rfl | rfl | rfl | rfl | rfl | rfl | rfl | rfl | rfl | rfl | rfl | rfl | rfl | rfl | rfl | rfl | rfl | rfl <;> exact ⟨_, _, _, _, _, _, _, _, rfl, by decide, by decide, rfl⟩
theorem fits_c (hG0 : G 0 = shapesT) (t : Nd) : Qs t <= 1000000 -> ∀ w, Go.Av.Pure Tryz.prog G 75 [.agg (Enc.enc t), .i w] (.b (Wr t w)) := by
 induction t using Nd.ind with
 | h k n m ks ih =>
 intro hsz w B
 have hse : Qs (.mk k n m ks) = 1 + QC ks := by rw [Qs]
 rw [hse] at hsz
 have hln := Zn ks
 have hx : ∀ x ∈ ks, ∀ w, Go.Av.Pure Tryz.prog G 75 [.agg (Enc.enc x), .i w] (.b (Wr x w)) := fun x hx w => ih x hx (by have := Wz hx; omega) w
 clear ih
 rw [Wr, fitsF_eq, QI]
 have hml : (ks.map Wr).length = ks.length := List.length_map _
 by_cases hk : 0 <= k /\ k < 28
 case neg =>
  rw [if_neg hk]
  clear hx
  refine Qa Tryz.func75 rfl Tryz.ntmps75 rfl (t := [(0, .agg [.i k, .i n, .i m, Q5 ks]), (1, .i w)]) rfl fun E hE => ?_
  (repeat' first | (refine Qi ?_; (first | refine QM rfl ?_ | refine QR rfl ?_ | refine Qc rfl rfl rfl ?_ | (refine Qj ?_; (first | refine Q9 rfl rfl ?_ | refine Zt rfl rfl ?_)) | (refine Wh ?_; (first | refine W6 rfl rfl ?_ | refine WK rfl rfl ?_)) | refine Qd rfl rfl ?_ | refine Wi rfl rfl (fun _ _ => ?_))) | (refine Qn ?_; (first | refine Ql ?_ | refine QN rfl ?_ | refine WJ rfl rfl rfl rfl ?_ | refine Zd rfl rfl rfl rfl ?_ | refine qO rfl rfl (fun _ => ?_) (fun _ => ?_))) | (refine Qm ?_; (first | refine Qo ?_ | refine Qb ?_ | refine Qv rfl ?_ | refine Qh rfl (by omega) ?_ | refine Qx ?_)))
  all_goals exact e_1 (Tryz.results75) (QH rfl) (Za (σ := []) (r := [_]) ⟨rfl, rfl⟩)
 rw [if_pos hk]
 obtain ⟨is, low, high, last, kids, more, least, som, hs, hkl, h26, hpart⟩ := shape_at hk.1 hk.2
 rw [hs]
 clear hs
 by_cases hI : isB ⟨is, low, high, last, kids, more, least, som⟩ w = true
 case neg =>
  have hI2 : is ≠ w /\ ¬ (is = 3 /\ w = 2) /\ ¬ (is = 6 /\ w = 5) := by
   have : ¬ ((is = w \/ (is = 3 /\ w = 2)) \/ (is = 6 /\ w = 5)) := by simpa [isB] using hI
   omega
  rw [show isB ⟨is, low, high, last, kids, more, least, som⟩ w = false by simpa using hI, Bool.false_and, Bool.false_and]
  clear hx hI h26
  refine Qa Tryz.func75 rfl Tryz.ntmps75 rfl (t := [(0, .agg [.i k, .i n, .i m, Q5 ks]), (1, .i w)]) rfl fun E hE => ?_
  (repeat' first | (refine Qi ?_; (first | refine QM rfl ?_ | refine QR rfl ?_ | (refine QO ?_; (first | refine ZF rfl hpart rfl ?_ | refine Qc rfl rfl rfl ?_)) | refine qk (cs := Wq shapesL) hG0 rfl (by omega) (by omega) ?_ | (refine Qj ?_; (first | refine Q9 rfl rfl ?_ | refine Zt rfl rfl ?_ | refine QY rfl rfl ?_)) | (refine Wh ?_; (first | refine W6 rfl rfl ?_ | refine WK rfl rfl ?_)) | refine Ws rfl rfl rfl rfl ?_ | (refine g_unOp ?_; (first | refine s_not_d rfl ?_ | refine Zq rfl ?_)) | refine Qd rfl rfl ?_ | refine Qq (fun _ _ => ?_) | refine Wi rfl rfl (fun _ _ => ?_))) | (refine Qn ?_; (first | refine Ql ?_ | refine QN rfl ?_ | refine QJ ?_ | refine WJ rfl rfl rfl rfl ?_ | refine Zd rfl rfl rfl rfl ?_ | refine Wg rfl rfl (by omega) ?_ | refine QZ rfl rfl (by omega) ?_ | refine qO rfl rfl (fun _ => ?_) (fun _ => ?_))) | (refine Qm ?_; (first | refine Qo ?_ | refine Qb ?_ | refine QB ?_ | refine Qv rfl ?_ | refine Qg rfl (by omega) ?_ | refine Qx ?_)))
  all_goals exact e_1 (Tryz.results75) (QH rfl) (Za (σ := []) (r := [_, _]) ⟨rfl, rfl⟩)
 rw [hI, Bool.true_and]
 have hI3 : is = w \/ (is ≠ w /\ is = 3 /\ w = 2) \/ (is ≠ w /\ is ≠ 3 /\ is = 6 /\ w = 5) := by
  have : (is = w \/ (is = 3 /\ w = 2)) \/ (is = 6 /\ w = 5) := by simpa [isB] using hI
  omega
 clear hI
 have hrng : rngB ⟨is, low, high, last, kids, more, least, som⟩ n m = true ↔ (low <= n /\ n <= high) /\ 0 <= m /\ m <= last := by simp [rngB]
 have hcnt : cntB ⟨is, low, high, last, kids, more, least, som⟩ ks.length = true ↔ least <= (ks.length : Int) - (kids.length : Int) /\ (ks.length : Int) - (kids.length : Int) <= more := by simp [cntB]
 have hkd : kidsB ⟨is, low, high, last, kids, more, least, som⟩ (ks.map Wr) = allI (fun i => (ks.map Wr).getD i noF (if i < kids.length then kids.getD i 0 else som)) ks.length := by unfold kidsB; rw [hml]; rfl
 have hfun0 := fun (h : 0 <= n /\ n <= 3) => funFits_c (G := G) k n m ks (by omega) h hx
 have hl2 : ∀ (i : Nat) (h : i < ks.length), ∀ w, Go.Av.Pure Tryz.prog G 75 [.agg (Enc.enc ks[i]), .i w] (.b ((ks.map Wr).getD i noF w)) := fun i h w => by
  rw [Z5 ks Wr h]
  exact hx _ (List.getElem_mem h) w
 clear hx
 generalize ks.map Wr = fs at *
 rcases hI3 with hI3 | hI3 | hI3
 ·by_cases hr : (low <= n /\ n <= high) /\ 0 <= m /\ m <= last
  case neg =>
   rw [show rngB ⟨is, low, high, last, kids, more, least, som⟩ n m = false from Bool.eq_false_iff.2 fun h => hr (hrng.1 h), Bool.false_and]
   clear hl2 hfun0 hrng hcnt hkd h26
   refine Qa Tryz.func75 rfl Tryz.ntmps75 rfl (t := [(0, .agg [.i k, .i n, .i m, Q5 ks]), (1, .i w)]) rfl fun E hE => ?_
   (repeat' first | (refine Qi ?_; (first | refine QM rfl ?_ | refine QR rfl ?_ | (refine QO ?_; (first | refine ZF rfl hpart rfl ?_ | refine Qc rfl rfl rfl ?_)) | refine qk (cs := Wq shapesL) hG0 rfl (by omega) (by omega) ?_ | (refine Qj ?_; (first | refine Q9 rfl rfl ?_ | refine ZV rfl rfl ?_ | refine Zt rfl rfl ?_ | refine QY rfl rfl ?_)) | (refine Wh ?_; (first | refine W6 rfl rfl ?_ | refine WK rfl rfl ?_)) | refine Ws rfl rfl rfl rfl ?_ | refine Zq rfl ?_ | refine Qd rfl rfl ?_ | refine Qq (fun _ _ => ?_) | refine Wi rfl rfl (fun _ _ => ?_))) | (refine Qn ?_; (first | refine Ql ?_ | refine QN rfl ?_ | refine QJ ?_ | refine WJ rfl rfl rfl rfl ?_ | refine Zd rfl rfl rfl rfl ?_ | refine o_gu rfl rfl rfl rfl rfl ?_ | refine Wg rfl rfl (by omega) ?_ | refine QZ rfl rfl (by omega) ?_ | refine qO rfl rfl (fun _ => ?_) (fun _ => ?_))) | (refine Qm ?_; (first | refine Qo ?_ | refine Qb ?_ | refine QB ?_ | refine Qv rfl ?_ | refine Qh rfl (by omega) ?_ | refine Qg rfl (by omega) ?_ | refine Qx ?_)))
   all_goals exact e_1 (Tryz.results75) (QH rfl) (Za (σ := []) (r := [_, _]) ⟨rfl, rfl⟩)
  rw [hrng.2 hr, Bool.true_and]
  by_cases k26 : k = 26
  ·rw [if_pos k26]
   obtain ⟨e1, e2, e3, e4⟩ := h26 k26
   have hfun := hfun0 ⟨by omega, by omega⟩
   clear hl2 hfun0 hrng hcnt hkd h26
   refine Qa Tryz.func75 rfl Tryz.ntmps75 rfl (t := [(0, .agg [.i k, .i n, .i m, Q5 ks]), (1, .i w)]) rfl fun E hE => ?_
   (repeat' first | (refine Qi ?_; (first | refine QM rfl ?_ | refine QR rfl ?_ | (refine QO ?_; (first | refine W2 rfl rfl ?_ | refine ZF rfl hpart rfl ?_ | refine Qc rfl rfl rfl ?_)) | refine qk (cs := Wq shapesL) hG0 rfl (by omega) (by omega) ?_ | (refine Qj ?_; (first | refine Q9 rfl rfl ?_ | refine ZV rfl rfl ?_ | refine Zt rfl rfl ?_ | refine QY rfl rfl ?_)) | refine W5 rfl rfl (hfun) ?_ | (refine Wh ?_; (first | refine W6 rfl rfl ?_ | refine WK rfl rfl ?_)) | refine Ws rfl rfl rfl rfl ?_ | refine Zq rfl ?_ | refine Qd rfl rfl ?_ | refine Qq (fun _ _ => ?_) | refine Wi rfl rfl (fun _ _ => ?_))) | (refine Qn ?_; (first | refine Ql ?_ | refine QN rfl ?_ | refine QJ ?_ | refine WJ rfl rfl rfl rfl ?_ | refine Zd rfl rfl rfl rfl ?_ | refine o_gu rfl rfl rfl rfl rfl ?_ | refine Wg rfl rfl (by omega) ?_ | refine QZ rfl rfl (by omega) ?_)) | (refine Qm ?_; (first | refine Qo ?_ | refine Qb ?_ | refine QB ?_ | refine Qh rfl (by omega) ?_ | refine Qg rfl (by omega) ?_ | refine Qx ?_)))
   exact e_1 (Tryz.results75) (QH rfl) (Za (σ := []) (r := [_, _]) ⟨rfl, rfl⟩)
  rw [if_neg k26]
  by_cases hc : least <= (ks.length : Int) - (kids.length : Int) /\ (ks.length : Int) - (kids.length : Int) <= more
  case neg =>
   rw [show cntB ⟨is, low, high, last, kids, more, least, som⟩ ks.length = false from Bool.eq_false_iff.2 fun h => hc (hcnt.1 h), Bool.false_and]
   clear hl2 hfun0 hrng hcnt hkd h26
   refine Qa Tryz.func75 rfl Tryz.ntmps75 rfl (t := [(0, .agg [.i k, .i n, .i m, Q5 ks]), (1, .i w)]) rfl fun E hE => ?_
   (repeat' first | (refine Qi ?_; (first | refine QM rfl ?_ | refine QR rfl ?_ | (refine QO ?_; (first | refine ZF rfl hpart rfl ?_ | refine Qc rfl rfl rfl ?_)) | refine qk (cs := Wq shapesL) hG0 rfl (by omega) (by omega) ?_ | (refine Qj ?_; (first | refine Q9 rfl rfl ?_ | refine ZV rfl rfl ?_ | refine Zt rfl rfl ?_ | refine QY rfl rfl ?_ | refine Wt rfl rfl (by omega) ?_)) | refine Q2 rfl ?_ | (refine Wh ?_; (first | refine W6 rfl rfl ?_ | refine WK rfl rfl ?_)) | refine Ws rfl rfl rfl rfl ?_ | refine Zq rfl ?_ | refine Qd rfl rfl ?_ | refine Qq (fun _ _ => ?_) | refine Wi rfl rfl (fun _ _ => ?_))) | (refine Qn ?_; (first | refine Ql ?_ | refine QN rfl ?_ | refine QJ ?_ | refine WJ rfl rfl rfl rfl ?_ | refine Zd rfl rfl rfl rfl ?_ | refine o_gu rfl rfl rfl rfl rfl ?_ | refine Wg rfl rfl (by omega) ?_ | refine QZ rfl rfl (by omega) ?_ | refine qO rfl rfl (fun _ => ?_) (fun _ => ?_))) | (refine Qm ?_; (first | refine Qo ?_ | refine Qb ?_ | refine QB ?_ | refine Qv rfl ?_ | refine Qh rfl (by omega) ?_ | refine Qg rfl (by omega) ?_ | refine Qx ?_)))
   all_goals exact e_1 (Tryz.results75) (QH rfl) (Za (σ := []) (r := [_, _]) ⟨rfl, rfl⟩)
  rw [hcnt.2 hc, Bool.true_and, hkd]
  clear hfun0 hrng hcnt hkd h26
  refine Qa Tryz.func75 rfl Tryz.ntmps75 rfl (t := [(0, .agg [.i k, .i n, .i m, Q5 ks]), (1, .i w)]) rfl fun E hE => ?_
  (repeat' first | (refine Qi ?_; (first | refine QM rfl ?_ | refine QR rfl ?_ | (refine QO ?_; (first | refine ZF rfl hpart rfl ?_ | refine Qc rfl rfl rfl ?_)) | refine qk (cs := Wq shapesL) hG0 rfl (by omega) (by omega) ?_ | (refine Qj ?_; (first | refine Q9 rfl rfl ?_ | refine ZV rfl rfl ?_ | refine Zt rfl rfl ?_ | refine QY rfl rfl ?_ | refine Wt rfl rfl (by omega) ?_)) | refine Q2 rfl ?_ | (refine Wh ?_; (first | refine W6 rfl rfl ?_ | refine WK rfl rfl ?_)) | refine Ws rfl rfl rfl rfl ?_ | refine Zq rfl ?_ | refine Qd rfl rfl ?_ | refine Qq (fun _ _ => ?_) | refine Wi rfl rfl (fun _ _ => ?_))) | (refine Qn ?_; (first | refine Ql ?_ | refine QN rfl ?_ | refine QJ ?_ | refine WJ rfl rfl rfl rfl ?_ | refine Zd rfl rfl rfl rfl ?_ | refine o_gu rfl rfl rfl rfl rfl ?_ | refine Wg rfl rfl (by omega) ?_ | refine QZ rfl rfl (by omega) ?_)) | (refine Qm ?_; (first | refine Qo ?_ | refine Qb ?_ | refine Qe ?_ | refine QB ?_ | refine Qg rfl (by omega) ?_)))
  rename_i g1 hg1 g2 hg2
  refine qm (fun (i : Nat) => ⟨[(2, .ptr 0 g1 0), (4, .b false), (5, .ptr 1 g2 0), (96, Q5 ks), (97, .i ks.length), (98, .i i)], [.row g1 [.i k, .i n, .i m, Q5 ks], .row g2 [.i is, .i low, .i high, .i last, Q5 kids, .i more, .i least, .i som]]⟩) (fun i => i <= ks.length /\ ∀ j, j < i -> fs.getD j noF (if j < kids.length then kids.getD j 0 else som) = true) (fun i => ks.length - i) 0 ?_ ⟨by omega, fun j hj => by omega⟩ ?_
  ·exact zal rfl
  intro i ⟨hi, hall⟩
  by_cases hil : i < ks.length
  ·by_cases hik : i < kids.length
   ·have hgd : kids.getD i 0 = kids[i] := by rw [List.getD_eq_getElem?_getD, List.getElem?_eq_getElem hik]; rfl
    have hfi := hl2 i hil kids[i]
    cases hbi : fs.getD i noF kids[i] with
    | false =>
     have hA : allI (fun i => fs.getD i noF (if i < kids.length then kids.getD i 0 else som)) ks.length = false := by
      rw [Bool.eq_false_iff]
      intro h
      have := allI_iff.1 h i hil
      rw [if_pos hik, hgd, hbi] at this; cases this
     rw [hA]
     rw [hbi] at hfi
     clear hl2 hall
     (repeat' first | (refine Qi ?_; (first | refine QM rfl ?_ | refine QR rfl ?_ | (refine QO ?_; (first | refine W2 rfl rfl ?_ | refine Wo rfl ?_ | refine Q4 rfl ?_ | refine Qc rfl rfl rfl ?_)) | refine Q1 rfl rfl (by first | assumption | omega | (simp; done) | (simp; omega)) ?_ | refine Q9 rfl rfl ?_ | (refine Qu ?_; (first | refine Q2 rfl ?_ | refine W5 rfl rfl (hfi) ?_)) | refine Ws rfl rfl rfl rfl ?_ | refine Zq rfl ?_ | refine Qd rfl rfl ?_ | refine Qq (fun _ _ => ?_))) | (refine Qn ?_; (first | refine Ql ?_ | refine QN rfl ?_ | refine QJ ?_)) | (refine Qm ?_; (first | refine Qo ?_ | refine Qb ?_ | refine Qe ?_ | refine QB ?_ | refine Qv rfl ?_ | refine Qh rfl (by omega) ?_ | refine Qx ?_)))
     all_goals exact e_1 (Tryz.results75) (QH rfl) (Za (σ := []) ⟨rfl, rfl⟩)
    | true =>
     rw [hbi] at hfi
     clear hl2
     (repeat' first | (refine Qi ?_; (first | refine QM rfl ?_ | refine QR rfl ?_ | (refine QO ?_; (first | refine W2 rfl rfl ?_ | refine Wo rfl ?_ | refine Q4 rfl ?_ | refine Qc rfl rfl rfl ?_)) | refine Q1 rfl rfl (by first | assumption | omega | (simp; done) | (simp; omega)) ?_ | (refine Qj ?_; (first | refine Q9 rfl rfl ?_ | refine Zh rfl rfl (by omega) ?_)) | (refine Qu ?_; (first | refine Q2 rfl ?_ | refine W5 rfl rfl (hfi) ?_)) | refine Ws rfl rfl rfl rfl ?_ | refine Zq rfl ?_ | refine Qd rfl rfl ?_ | refine Qq (fun _ _ => ?_))) | (refine Qn ?_; (first | refine Ql ?_ | refine QN rfl ?_ | refine QJ ?_)) | (refine Qm ?_; (first | refine Qo ?_ | refine Qb ?_ | refine Qe ?_ | refine QB ?_ | refine Qy rfl ?_ | refine Qh rfl (by omega) ?_)))
     refine ⟨i + 1, ⟨by omega, fun j hj => ?_⟩, by omega, ?_⟩
     ·rcases Nat.lt_or_ge j i with h | h
      ·exact hall j h
      ·have : j = i := by omega
       subst this; rw [if_pos hik, hgd]; exact hbi
     ·exact zal rfl
   ·have hfi := hl2 i hil som
    cases hbi : fs.getD i noF som with
    | false =>
     have hA : allI (fun i => fs.getD i noF (if i < kids.length then kids.getD i 0 else som)) ks.length = false := by
      rw [Bool.eq_false_iff]
      intro h
      have := allI_iff.1 h i hil
      rw [if_neg hik, hbi] at this; cases this
     rw [hA]
     rw [hbi] at hfi
     clear hl2 hall
     (repeat' first | (refine Qi ?_; (first | refine QM rfl ?_ | refine QR rfl ?_ | (refine QO ?_; (first | refine W2 rfl rfl ?_ | refine Q4 rfl ?_ | refine Qc rfl rfl rfl ?_)) | refine Q1 rfl rfl (by first | assumption | omega | (simp; done) | (simp; omega)) ?_ | refine Q9 rfl rfl ?_ | (refine Qu ?_; (first | refine Q2 rfl ?_ | refine W5 rfl rfl (hfi) ?_)) | refine Ws rfl rfl rfl rfl ?_ | refine Zq rfl ?_ | refine Qd rfl rfl ?_ | refine Qq (fun _ _ => ?_))) | (refine Qn ?_; (first | refine Ql ?_ | refine QN rfl ?_ | refine QJ ?_)) | (refine Qm ?_; (first | refine Qo ?_ | refine Qb ?_ | refine Qe ?_ | refine QB ?_ | refine Qv rfl ?_ | refine Qh rfl (by omega) ?_ | refine Qg rfl (by omega) ?_ | refine Qx ?_)))
     all_goals exact e_1 (Tryz.results75) (QH rfl) (Za (σ := []) ⟨rfl, rfl⟩)
    | true =>
     rw [hbi] at hfi
     clear hl2
     (repeat' first | (refine Qi ?_; (first | refine QM rfl ?_ | refine QR rfl ?_ | (refine QO ?_; (first | refine W2 rfl rfl ?_ | refine Q4 rfl ?_ | refine Qc rfl rfl rfl ?_)) | refine Q1 rfl rfl (by first | assumption | omega | (simp; done) | (simp; omega)) ?_ | (refine Qj ?_; (first | refine Q9 rfl rfl ?_ | refine Zh rfl rfl (by omega) ?_)) | (refine Qu ?_; (first | refine Q2 rfl ?_ | refine W5 rfl rfl (hfi) ?_)) | refine Ws rfl rfl rfl rfl ?_ | refine Zq rfl ?_ | refine Qd rfl rfl ?_ | refine Qq (fun _ _ => ?_))) | (refine Qn ?_; (first | refine Ql ?_ | refine QN rfl ?_ | refine QJ ?_)) | (refine Qm ?_; (first | refine Qo ?_ | refine Qb ?_ | refine Qe ?_ | refine QB ?_ | refine Qy rfl ?_ | refine Qh rfl (by omega) ?_ | refine Qg rfl (by omega) ?_)))
     refine ⟨i + 1, ⟨by omega, fun j hj => ?_⟩, by omega, ?_⟩
     ·rcases Nat.lt_or_ge j i with h | h
      ·exact hall j h
      ·have : j = i := by omega
       subst this; rw [if_neg hik]; exact hbi
     ·exact zal rfl
  ·have hiv : i = ks.length := by omega
   subst hiv
   have hA : allI (fun i => fs.getD i noF (if i < kids.length then kids.getD i 0 else som)) ks.length = true := allI_iff.2 hall
   rw [hA]
   clear hl2 hall
   (repeat' first | (refine Qi ?_; (first | refine QR rfl ?_ | refine Q9 rfl rfl ?_)) | (refine Qn ?_; (first | refine Ql ?_ | refine QN rfl ?_)) | (refine Qm ?_; (first | refine Qo ?_ | refine Qb ?_ | refine Qg rfl (by omega) ?_ | refine WS rfl ?_ | refine Qx ?_)))
   exact e_1 (Tryz.results75) (QH rfl) (Za (σ := []) (r := [_, _]) ⟨rfl, rfl⟩)
 ·by_cases hr : (low <= n /\ n <= high) /\ 0 <= m /\ m <= last
  case neg =>
   rw [show rngB ⟨is, low, high, last, kids, more, least, som⟩ n m = false from Bool.eq_false_iff.2 fun h => hr (hrng.1 h), Bool.false_and]
   clear hl2 hfun0 hrng hcnt hkd h26
   refine Qa Tryz.func75 rfl Tryz.ntmps75 rfl (t := [(0, .agg [.i k, .i n, .i m, Q5 ks]), (1, .i w)]) rfl fun E hE => ?_
   (repeat' first | (refine Qi ?_; (first | refine QM rfl ?_ | refine QR rfl ?_ | (refine QO ?_; (first | refine ZF rfl hpart rfl ?_ | refine Qc rfl rfl rfl ?_)) | refine qk (cs := Wq shapesL) hG0 rfl (by omega) (by omega) ?_ | (refine Qj ?_; (first | refine Q9 rfl rfl ?_ | refine ZV rfl rfl ?_ | refine Zt rfl rfl ?_ | refine QY rfl rfl ?_)) | (refine Wh ?_; (first | refine W6 rfl rfl ?_ | refine WK rfl rfl ?_)) | refine Ws rfl rfl rfl rfl ?_ | refine Zq rfl ?_ | refine Qd rfl rfl ?_ | refine Qq (fun _ _ => ?_) | refine Wi rfl rfl (fun _ _ => ?_))) | (refine Qn ?_; (first | refine Ql ?_ | refine QN rfl ?_ | refine QJ ?_ | refine WJ rfl rfl rfl rfl ?_ | refine Zd rfl rfl rfl rfl ?_ | refine o_gu rfl rfl rfl rfl rfl ?_ | refine Wg rfl rfl (by omega) ?_ | refine QZ rfl rfl (by omega) ?_ | refine qO rfl rfl (fun _ => ?_) (fun _ => ?_))) | (refine Qm ?_; (first | refine Qo ?_ | refine Qb ?_ | refine QB ?_ | refine Qv rfl ?_ | refine Qh rfl (by omega) ?_ | refine Qg rfl (by omega) ?_ | refine Qx ?_)))
   all_goals exact e_1 (Tryz.results75) (QH rfl) (Za (σ := []) (r := [_, _]) ⟨rfl, rfl⟩)
  rw [hrng.2 hr, Bool.true_and]
  by_cases k26 : k = 26
  ·rw [if_pos k26]
   exfalso
   have := h26 k26
   omega
  rw [if_neg k26]
  by_cases hc : least <= (ks.length : Int) - (kids.length : Int) /\ (ks.length : Int) - (kids.length : Int) <= more
  case neg =>
   rw [show cntB ⟨is, low, high, last, kids, more, least, som⟩ ks.length = false from Bool.eq_false_iff.2 fun h => hc (hcnt.1 h), Bool.false_and]
   clear hl2 hfun0 hrng hcnt hkd h26
   refine Qa Tryz.func75 rfl Tryz.ntmps75 rfl (t := [(0, .agg [.i k, .i n, .i m, Q5 ks]), (1, .i w)]) rfl fun E hE => ?_
   (repeat' first | (refine Qi ?_; (first | refine QM rfl ?_ | refine QR rfl ?_ | (refine QO ?_; (first | refine ZF rfl hpart rfl ?_ | refine Qc rfl rfl rfl ?_)) | refine qk (cs := Wq shapesL) hG0 rfl (by omega) (by omega) ?_ | (refine Qj ?_; (first | refine Q9 rfl rfl ?_ | refine ZV rfl rfl ?_ | refine Zt rfl rfl ?_ | refine QY rfl rfl ?_ | refine Wt rfl rfl (by omega) ?_)) | refine Q2 rfl ?_ | (refine Wh ?_; (first | refine W6 rfl rfl ?_ | refine WK rfl rfl ?_)) | refine Ws rfl rfl rfl rfl ?_ | refine Zq rfl ?_ | refine Qd rfl rfl ?_ | refine Qq (fun _ _ => ?_) | refine Wi rfl rfl (fun _ _ => ?_))) | (refine Qn ?_; (first | refine Ql ?_ | refine QN rfl ?_ | refine QJ ?_ | refine WJ rfl rfl rfl rfl ?_ | refine Zd rfl rfl rfl rfl ?_ | refine o_gu rfl rfl rfl rfl rfl ?_ | refine Wg rfl rfl (by omega) ?_ | refine QZ rfl rfl (by omega) ?_ | refine qO rfl rfl (fun _ => ?_) (fun _ => ?_))) | (refine Qm ?_; (first | refine Qo ?_ | refine Qb ?_ | refine QB ?_ | refine Qv rfl ?_ | refine Qh rfl (by omega) ?_ | refine Qg rfl (by omega) ?_ | refine Qx ?_)))
   all_goals exact e_1 (Tryz.results75) (QH rfl) (Za (σ := []) (r := [_, _]) ⟨rfl, rfl⟩)
  rw [hcnt.2 hc, Bool.true_and, hkd]
  clear hfun0 hrng hcnt hkd h26
  refine Qa Tryz.func75 rfl Tryz.ntmps75 rfl (t := [(0, .agg [.i k, .i n, .i m, Q5 ks]), (1, .i w)]) rfl fun E hE => ?_
  (repeat' first | (refine Qi ?_; (first | refine QM rfl ?_ | refine QR rfl ?_ | (refine QO ?_; (first | refine ZF rfl hpart rfl ?_ | refine Qc rfl rfl rfl ?_)) | refine qk (cs := Wq shapesL) hG0 rfl (by omega) (by omega) ?_ | (refine Qj ?_; (first | refine Q9 rfl rfl ?_ | refine ZV rfl rfl ?_ | refine Zt rfl rfl ?_ | refine QY rfl rfl ?_ | refine Wt rfl rfl (by omega) ?_)) | refine Q2 rfl ?_ | (refine Wh ?_; (first | refine W6 rfl rfl ?_ | refine WK rfl rfl ?_)) | refine Ws rfl rfl rfl rfl ?_ | refine Zq rfl ?_ | refine Qd rfl rfl ?_ | refine Qq (fun _ _ => ?_) | refine Wi rfl rfl (fun _ _ => ?_))) | (refine Qn ?_; (first | refine Ql ?_ | refine QN rfl ?_ | refine QJ ?_ | refine WJ rfl rfl rfl rfl ?_ | refine Zd rfl rfl rfl rfl ?_ | refine o_gu rfl rfl rfl rfl rfl ?_ | refine Wg rfl rfl (by omega) ?_ | refine QZ rfl rfl (by omega) ?_)) | (refine Qm ?_; (first | refine Qo ?_ | refine Qb ?_ | refine Qe ?_ | refine QB ?_ | refine Qg rfl (by omega) ?_)))
  rename_i g1 hg1 g2 hg2
  refine qm (fun (i : Nat) => ⟨[(2, .ptr 0 g1 0), (4, .b false), (5, .ptr 1 g2 0), (96, Q5 ks), (97, .i ks.length), (98, .i i)], [.row g1 [.i k, .i n, .i m, Q5 ks], .row g2 [.i is, .i low, .i high, .i last, Q5 kids, .i more, .i least, .i som]]⟩) (fun i => i <= ks.length /\ ∀ j, j < i -> fs.getD j noF (if j < kids.length then kids.getD j 0 else som) = true) (fun i => ks.length - i) 0 ?_ ⟨by omega, fun j hj => by omega⟩ ?_
  ·exact zal rfl
  intro i ⟨hi, hall⟩
  by_cases hil : i < ks.length
  ·by_cases hik : i < kids.length
   ·have hgd : kids.getD i 0 = kids[i] := by rw [List.getD_eq_getElem?_getD, List.getElem?_eq_getElem hik]; rfl
    have hfi := hl2 i hil kids[i]
    cases hbi : fs.getD i noF kids[i] with
    | false =>
     have hA : allI (fun i => fs.getD i noF (if i < kids.length then kids.getD i 0 else som)) ks.length = false := by
      rw [Bool.eq_false_iff]
      intro h
      have := allI_iff.1 h i hil
      rw [if_pos hik, hgd, hbi] at this; cases this
     rw [hA]
     rw [hbi] at hfi
     clear hl2 hall
     (repeat' first | (refine Qi ?_; (first | refine QM rfl ?_ | refine QR rfl ?_ | (refine QO ?_; (first | refine W2 rfl rfl ?_ | refine Wo rfl ?_ | refine Q4 rfl ?_ | refine Qc rfl rfl rfl ?_)) | refine Q1 rfl rfl (by first | assumption | omega | (simp; done) | (simp; omega)) ?_ | refine Q9 rfl rfl ?_ | (refine Qu ?_; (first | refine Q2 rfl ?_ | refine W5 rfl rfl (hfi) ?_)) | refine Ws rfl rfl rfl rfl ?_ | refine Zq rfl ?_ | refine Qd rfl rfl ?_ | refine Qq (fun _ _ => ?_))) | (refine Qn ?_; (first | refine Ql ?_ | refine QN rfl ?_ | refine QJ ?_)) | (refine Qm ?_; (first | refine Qo ?_ | refine Qb ?_ | refine Qe ?_ | refine QB ?_ | refine Qv rfl ?_ | refine Qh rfl (by omega) ?_ | refine Qx ?_)))
     all_goals exact e_1 (Tryz.results75) (QH rfl) (Za (σ := []) ⟨rfl, rfl⟩)
    | true =>
     rw [hbi] at hfi
     clear hl2
     (repeat' first | (refine Qi ?_; (first | refine QM rfl ?_ | refine QR rfl ?_ | (refine QO ?_; (first | refine W2 rfl rfl ?_ | refine Wo rfl ?_ | refine Q4 rfl ?_ | refine Qc rfl rfl rfl ?_)) | refine Q1 rfl rfl (by first | assumption | omega | (simp; done) | (simp; omega)) ?_ | (refine Qj ?_; (first | refine Q9 rfl rfl ?_ | refine Zh rfl rfl (by omega) ?_)) | (refine Qu ?_; (first | refine Q2 rfl ?_ | refine W5 rfl rfl (hfi) ?_)) | refine Ws rfl rfl rfl rfl ?_ | refine Zq rfl ?_ | refine Qd rfl rfl ?_ | refine Qq (fun _ _ => ?_))) | (refine Qn ?_; (first | refine Ql ?_ | refine QN rfl ?_ | refine QJ ?_)) | (refine Qm ?_; (first | refine Qo ?_ | refine Qb ?_ | refine Qe ?_ | refine QB ?_ | refine Qy rfl ?_ | refine Qh rfl (by omega) ?_)))
     refine ⟨i + 1, ⟨by omega, fun j hj => ?_⟩, by omega, ?_⟩
     ·rcases Nat.lt_or_ge j i with h | h
      ·exact hall j h
      ·have : j = i := by omega
       subst this; rw [if_pos hik, hgd]; exact hbi
     ·exact zal rfl
   ·have hfi := hl2 i hil som
    cases hbi : fs.getD i noF som with
    | false =>
     have hA : allI (fun i => fs.getD i noF (if i < kids.length then kids.getD i 0 else som)) ks.length = false := by
      rw [Bool.eq_false_iff]
      intro h
      have := allI_iff.1 h i hil
      rw [if_neg hik, hbi] at this; cases this
     rw [hA]
     rw [hbi] at hfi
     clear hl2 hall
     (repeat' first | (refine Qi ?_; (first | refine QM rfl ?_ | refine QR rfl ?_ | (refine QO ?_; (first | refine W2 rfl rfl ?_ | refine Q4 rfl ?_ | refine Qc rfl rfl rfl ?_)) | refine Q1 rfl rfl (by first | assumption | omega | (simp; done) | (simp; omega)) ?_ | refine Q9 rfl rfl ?_ | (refine Qu ?_; (first | refine Q2 rfl ?_ | refine W5 rfl rfl (hfi) ?_)) | refine Ws rfl rfl rfl rfl ?_ | refine Zq rfl ?_ | refine Qd rfl rfl ?_ | refine Qq (fun _ _ => ?_))) | (refine Qn ?_; (first | refine Ql ?_ | refine QN rfl ?_ | refine QJ ?_)) | (refine Qm ?_; (first | refine Qo ?_ | refine Qb ?_ | refine Qe ?_ | refine QB ?_ | refine Qv rfl ?_ | refine Qh rfl (by omega) ?_ | refine Qg rfl (by omega) ?_ | refine Qx ?_)))
     all_goals exact e_1 (Tryz.results75) (QH rfl) (Za (σ := []) ⟨rfl, rfl⟩)
    | true =>
     rw [hbi] at hfi
     clear hl2
     (repeat' first | (refine Qi ?_; (first | refine QM rfl ?_ | refine QR rfl ?_ | (refine QO ?_; (first | refine W2 rfl rfl ?_ | refine Q4 rfl ?_ | refine Qc rfl rfl rfl ?_)) | refine Q1 rfl rfl (by first | assumption | omega | (simp; done) | (simp; omega)) ?_ | (refine Qj ?_; (first | refine Q9 rfl rfl ?_ | refine Zh rfl rfl (by omega) ?_)) | (refine Qu ?_; (first | refine Q2 rfl ?_ | refine W5 rfl rfl (hfi) ?_)) | refine Ws rfl rfl rfl rfl ?_ | refine Zq rfl ?_ | refine Qd rfl rfl ?_ | refine Qq (fun _ _ => ?_))) | (refine Qn ?_; (first | refine Ql ?_ | refine QN rfl ?_ | refine QJ ?_)) | (refine Qm ?_; (first | refine Qo ?_ | refine Qb ?_ | refine Qe ?_ | refine QB ?_ | refine Qy rfl ?_ | refine Qh rfl (by omega) ?_ | refine Qg rfl (by omega) ?_)))
     refine ⟨i + 1, ⟨by omega, fun j hj => ?_⟩, by omega, ?_⟩
     ·rcases Nat.lt_or_ge j i with h | h
      ·exact hall j h
      ·have : j = i := by omega
       subst this; rw [if_neg hik]; exact hbi
     ·exact zal rfl
  ·have hiv : i = ks.length := by omega
   subst hiv
   have hA : allI (fun i => fs.getD i noF (if i < kids.length then kids.getD i 0 else som)) ks.length = true := allI_iff.2 hall
   rw [hA]
   clear hl2 hall
   (repeat' first | (refine Qi ?_; (first | refine QR rfl ?_ | refine Q9 rfl rfl ?_)) | (refine Qn ?_; (first | refine Ql ?_ | refine QN rfl ?_)) | (refine Qm ?_; (first | refine Qo ?_ | refine Qb ?_ | refine Qg rfl (by omega) ?_ | refine WS rfl ?_ | refine Qx ?_)))
   exact e_1 (Tryz.results75) (QH rfl) (Za (σ := []) (r := [_, _]) ⟨rfl, rfl⟩)
 ·by_cases hr : (low <= n /\ n <= high) /\ 0 <= m /\ m <= last
  case neg =>
   rw [show rngB ⟨is, low, high, last, kids, more, least, som⟩ n m = false from Bool.eq_false_iff.2 fun h => hr (hrng.1 h), Bool.false_and]
   clear hl2 hfun0 hrng hcnt hkd h26
   refine Qa Tryz.func75 rfl Tryz.ntmps75 rfl (t := [(0, .agg [.i k, .i n, .i m, Q5 ks]), (1, .i w)]) rfl fun E hE => ?_
   (repeat' first | (refine Qi ?_; (first | refine QM rfl ?_ | refine QR rfl ?_ | (refine QO ?_; (first | refine ZF rfl hpart rfl ?_ | refine Qc rfl rfl rfl ?_)) | refine qk (cs := Wq shapesL) hG0 rfl (by omega) (by omega) ?_ | (refine Qj ?_; (first | refine Q9 rfl rfl ?_ | refine ZV rfl rfl ?_ | refine Zt rfl rfl ?_ | refine QY rfl rfl ?_)) | (refine Wh ?_; (first | refine W6 rfl rfl ?_ | refine WK rfl rfl ?_)) | refine Ws rfl rfl rfl rfl ?_ | refine s_not_d rfl ?_ | refine Qd rfl rfl ?_ | refine Qq (fun _ _ => ?_) | refine Wi rfl rfl (fun _ _ => ?_))) | (refine Qn ?_; (first | refine Ql ?_ | refine QN rfl ?_ | refine QJ ?_ | refine WJ rfl rfl rfl rfl ?_ | refine Zd rfl rfl rfl rfl ?_ | refine Wg rfl rfl (by omega) ?_ | refine QZ rfl rfl (by omega) ?_ | refine qO rfl rfl (fun _ => ?_) (fun _ => ?_))) | (refine Qm ?_; (first | refine Qo ?_ | refine Qb ?_ | refine QB ?_ | refine Qv rfl ?_ | refine Qh rfl (by omega) ?_ | refine Qg rfl (by omega) ?_ | refine Qx ?_)))
   all_goals exact e_1 (Tryz.results75) (QH rfl) (Za (σ := []) (r := [_, _]) ⟨rfl, rfl⟩)
  rw [hrng.2 hr, Bool.true_and]
  by_cases k26 : k = 26
  ·rw [if_pos k26]
   exfalso
   have := h26 k26
   omega
  rw [if_neg k26]
  by_cases hc : least <= (ks.length : Int) - (kids.length : Int) /\ (ks.length : Int) - (kids.length : Int) <= more
  case neg =>
   rw [show cntB ⟨is, low, high, last, kids, more, least, som⟩ ks.length = false from Bool.eq_false_iff.2 fun h => hc (hcnt.1 h), Bool.false_and]
   clear hl2 hfun0 hrng hcnt hkd h26
   refine Qa Tryz.func75 rfl Tryz.ntmps75 rfl (t := [(0, .agg [.i k, .i n, .i m, Q5 ks]), (1, .i w)]) rfl fun E hE => ?_
   (repeat' first | (refine Qi ?_; (first | refine QM rfl ?_ | refine QR rfl ?_ | (refine QO ?_; (first | refine ZF rfl hpart rfl ?_ | refine Qc rfl rfl rfl ?_)) | refine qk (cs := Wq shapesL) hG0 rfl (by omega) (by omega) ?_ | (refine Qj ?_; (first | refine Q9 rfl rfl ?_ | refine ZV rfl rfl ?_ | refine Zt rfl rfl ?_ | refine QY rfl rfl ?_ | refine Wt rfl rfl (by omega) ?_)) | refine Q2 rfl ?_ | (refine Wh ?_; (first | refine W6 rfl rfl ?_ | refine WK rfl rfl ?_)) | refine Ws rfl rfl rfl rfl ?_ | refine s_not_d rfl ?_ | refine Qd rfl rfl ?_ | refine Qq (fun _ _ => ?_) | refine Wi rfl rfl (fun _ _ => ?_))) | (refine Qn ?_; (first | refine Ql ?_ | refine QN rfl ?_ | refine QJ ?_ | refine WJ rfl rfl rfl rfl ?_ | refine Zd rfl rfl rfl rfl ?_ | refine Wg rfl rfl (by omega) ?_ | refine QZ rfl rfl (by omega) ?_ | refine qO rfl rfl (fun _ => ?_) (fun _ => ?_))) | (refine Qm ?_; (first | refine Qo ?_ | refine Qb ?_ | refine QB ?_ | refine Qv rfl ?_ | refine Qh rfl (by omega) ?_ | refine Qg rfl (by omega) ?_ | refine Qx ?_)))
   all_goals exact e_1 (Tryz.results75) (QH rfl) (Za (σ := []) (r := [_, _]) ⟨rfl, rfl⟩)
  rw [hcnt.2 hc, Bool.true_and, hkd]
  clear hfun0 hrng hcnt hkd h26
  refine Qa Tryz.func75 rfl Tryz.ntmps75 rfl (t := [(0, .agg [.i k, .i n, .i m, Q5 ks]), (1, .i w)]) rfl fun E hE => ?_
  (repeat' first | (refine Qi ?_; (first | refine QM rfl ?_ | refine QR rfl ?_ | (refine QO ?_; (first | refine ZF rfl hpart rfl ?_ | refine Qc rfl rfl rfl ?_)) | refine qk (cs := Wq shapesL) hG0 rfl (by omega) (by omega) ?_ | (refine Qj ?_; (first | refine Q9 rfl rfl ?_ | refine ZV rfl rfl ?_ | refine Zt rfl rfl ?_ | refine QY rfl rfl ?_ | refine Wt rfl rfl (by omega) ?_)) | refine Q2 rfl ?_ | (refine Wh ?_; (first | refine W6 rfl rfl ?_ | refine WK rfl rfl ?_)) | refine Ws rfl rfl rfl rfl ?_ | refine s_not_d rfl ?_ | refine Qd rfl rfl ?_ | refine Qq (fun _ _ => ?_) | refine Wi rfl rfl (fun _ _ => ?_))) | (refine Qn ?_; (first | refine Ql ?_ | refine QN rfl ?_ | refine QJ ?_ | refine WJ rfl rfl rfl rfl ?_ | refine Zd rfl rfl rfl rfl ?_ | refine Wg rfl rfl (by omega) ?_ | refine QZ rfl rfl (by omega) ?_)) | (refine Qm ?_; (first | refine Qo ?_ | refine Qb ?_ | refine Qe ?_ | refine QB ?_ | refine Qg rfl (by omega) ?_)))
  rename_i g1 hg1 g2 hg2
  refine qm (fun (i : Nat) => ⟨[(2, .ptr 0 g1 0), (4, .b false), (5, .ptr 1 g2 0), (96, Q5 ks), (97, .i ks.length), (98, .i i)], [.row g1 [.i k, .i n, .i m, Q5 ks], .row g2 [.i is, .i low, .i high, .i last, Q5 kids, .i more, .i least, .i som]]⟩) (fun i => i <= ks.length /\ ∀ j, j < i -> fs.getD j noF (if j < kids.length then kids.getD j 0 else som) = true) (fun i => ks.length - i) 0 ?_ ⟨by omega, fun j hj => by omega⟩ ?_
  ·exact zal rfl
  intro i ⟨hi, hall⟩
  by_cases hil : i < ks.length
  ·by_cases hik : i < kids.length
   ·have hgd : kids.getD i 0 = kids[i] := by rw [List.getD_eq_getElem?_getD, List.getElem?_eq_getElem hik]; rfl
    have hfi := hl2 i hil kids[i]
    cases hbi : fs.getD i noF kids[i] with
    | false =>
     have hA : allI (fun i => fs.getD i noF (if i < kids.length then kids.getD i 0 else som)) ks.length = false := by
      rw [Bool.eq_false_iff]
      intro h
      have := allI_iff.1 h i hil
      rw [if_pos hik, hgd, hbi] at this; cases this
     rw [hA]
     rw [hbi] at hfi
     clear hl2 hall
     (repeat' first | (refine Qi ?_; (first | refine QM rfl ?_ | refine QR rfl ?_ | (refine QO ?_; (first | refine W2 rfl rfl ?_ | refine Wo rfl ?_ | refine Q4 rfl ?_ | refine Qc rfl rfl rfl ?_)) | refine Q1 rfl rfl (by first | assumption | omega | (simp; done) | (simp; omega)) ?_ | refine Q9 rfl rfl ?_ | (refine Qu ?_; (first | refine Q2 rfl ?_ | refine W5 rfl rfl (hfi) ?_)) | refine Ws rfl rfl rfl rfl ?_ | refine Zq rfl ?_ | refine Qd rfl rfl ?_ | refine Qq (fun _ _ => ?_))) | (refine Qn ?_; (first | refine Ql ?_ | refine QN rfl ?_ | refine QJ ?_)) | (refine Qm ?_; (first | refine Qo ?_ | refine Qb ?_ | refine Qe ?_ | refine QB ?_ | refine Qv rfl ?_ | refine Qh rfl (by omega) ?_ | refine Qx ?_)))
     all_goals exact e_1 (Tryz.results75) (QH rfl) (Za (σ := []) ⟨rfl, rfl⟩)
    | true =>
     rw [hbi] at hfi
     clear hl2
     (repeat' first | (refine Qi ?_; (first | refine QM rfl ?_ | refine QR rfl ?_ | (refine QO ?_; (first | refine W2 rfl rfl ?_ | refine Wo rfl ?_ | refine Q4 rfl ?_ | refine Qc rfl rfl rfl ?_)) | refine Q1 rfl rfl (by first | assumption | omega | (simp; done) | (simp; omega)) ?_ | (refine Qj ?_; (first | refine Q9 rfl rfl ?_ | refine Zh rfl rfl (by omega) ?_)) | (refine Qu ?_; (first | refine Q2 rfl ?_ | refine W5 rfl rfl (hfi) ?_)) | refine Ws rfl rfl rfl rfl ?_ | refine Zq rfl ?_ | refine Qd rfl rfl ?_ | refine Qq (fun _ _ => ?_))) | (refine Qn ?_; (first | refine Ql ?_ | refine QN rfl ?_ | refine QJ ?_)) | (refine Qm ?_; (first | refine Qo ?_ | refine Qb ?_ | refine Qe ?_ | refine QB ?_ | refine Qy rfl ?_ | refine Qh rfl (by omega) ?_)))
     refine ⟨i + 1, ⟨by omega, fun j hj => ?_⟩, by omega, ?_⟩
     ·rcases Nat.lt_or_ge j i with h | h
      ·exact hall j h
      ·have : j = i := by omega
       subst this; rw [if_pos hik, hgd]; exact hbi
     ·exact zal rfl
   ·have hfi := hl2 i hil som
    cases hbi : fs.getD i noF som with
    | false =>
     have hA : allI (fun i => fs.getD i noF (if i < kids.length then kids.getD i 0 else som)) ks.length = false := by
      rw [Bool.eq_false_iff]
      intro h
      have := allI_iff.1 h i hil
      rw [if_neg hik, hbi] at this; cases this
     rw [hA]
     rw [hbi] at hfi
     clear hl2 hall
     (repeat' first | (refine Qi ?_; (first | refine QM rfl ?_ | refine QR rfl ?_ | (refine QO ?_; (first | refine W2 rfl rfl ?_ | refine Q4 rfl ?_ | refine Qc rfl rfl rfl ?_)) | refine Q1 rfl rfl (by first | assumption | omega | (simp; done) | (simp; omega)) ?_ | refine Q9 rfl rfl ?_ | (refine Qu ?_; (first | refine Q2 rfl ?_ | refine W5 rfl rfl (hfi) ?_)) | refine Ws rfl rfl rfl rfl ?_ | refine Zq rfl ?_ | refine Qd rfl rfl ?_ | refine Qq (fun _ _ => ?_))) | (refine Qn ?_; (first | refine Ql ?_ | refine QN rfl ?_ | refine QJ ?_)) | (refine Qm ?_; (first | refine Qo ?_ | refine Qb ?_ | refine Qe ?_ | refine QB ?_ | refine Qv rfl ?_ | refine Qh rfl (by omega) ?_ | refine Qg rfl (by omega) ?_ | refine Qx ?_)))
     all_goals exact e_1 (Tryz.results75) (QH rfl) (Za (σ := []) ⟨rfl, rfl⟩)
    | true =>
     rw [hbi] at hfi
     clear hl2
     (repeat' first | (refine Qi ?_; (first | refine QM rfl ?_ | refine QR rfl ?_ | (refine QO ?_; (first | refine W2 rfl rfl ?_ | refine Q4 rfl ?_ | refine Qc rfl rfl rfl ?_)) | refine Q1 rfl rfl (by first | assumption | omega | (simp; done) | (simp; omega)) ?_ | (refine Qj ?_; (first | refine Q9 rfl rfl ?_ | refine Zh rfl rfl (by omega) ?_)) | (refine Qu ?_; (first | refine Q2 rfl ?_ | refine W5 rfl rfl (hfi) ?_)) | refine Ws rfl rfl rfl rfl ?_ | refine Zq rfl ?_ | refine Qd rfl rfl ?_ | refine Qq (fun _ _ => ?_))) | (refine Qn ?_; (first | refine Ql ?_ | refine QN rfl ?_ | refine QJ ?_)) | (refine Qm ?_; (first | refine Qo ?_ | refine Qb ?_ | refine Qe ?_ | refine QB ?_ | refine Qy rfl ?_ | refine Qh rfl (by omega) ?_ | refine Qg rfl (by omega) ?_)))
     refine ⟨i + 1, ⟨by omega, fun j hj => ?_⟩, by omega, ?_⟩
     ·rcases Nat.lt_or_ge j i with h | h
      ·exact hall j h
      ·have : j = i := by omega
       subst this; rw [if_neg hik]; exact hbi
     ·exact zal rfl
  ·have hiv : i = ks.length := by omega
   subst hiv
   have hA : allI (fun i => fs.getD i noF (if i < kids.length then kids.getD i 0 else som)) ks.length = true := allI_iff.2 hall
   rw [hA]
   clear hl2 hall
   (repeat' first | (refine Qi ?_; (first | refine QR rfl ?_ | refine Q9 rfl rfl ?_)) | (refine Qn ?_; (first | refine Ql ?_ | refine QN rfl ?_)) | (refine Qm ?_; (first | refine Qo ?_ | refine Qb ?_ | refine Qg rfl (by omega) ?_ | refine WS rfl ?_ | refine Qx ?_)))
   exact e_1 (Tryz.results75) (QH rfl) (Za (σ := []) (r := [_, _]) ⟨rfl, rfl⟩)
theorem valid_c (hG0 : G 0 = shapesT) (t : Nd) (hsz : Qs t <= 1000000) : Go.Av.Pure Tryz.prog G 31 [.agg (Enc.enc t)] (.b (qF t)) := fun B => by
 have hsiz := trSize_c (G := G) t (by omega)
 have hdep := trDepth_c (G := G) t (by omega)
 have hfit := fits_c hG0 t hsz 0
 unfold qF
 by_cases h1 : Qs t <= 256
 ·by_cases h2 : QS t <= 16
  ·rw [decide_eq_true h1, decide_eq_true h2, Bool.true_and, Bool.true_and]
   refine Qa Tryz.func31 rfl Tryz.ntmps31 rfl (t := [(0, .agg (Enc.enc t))]) rfl fun E hE => ?_
   (repeat' first | (refine Qi ?_; (first | refine QM rfl ?_ | refine QR rfl ?_ | refine W2 rfl rfl ?_ | refine Wu rfl rfl ?_ | (refine Qu ?_; (first | refine W5 rfl rfl (hsiz) ?_ | refine W5 rfl rfl (hdep) ?_ | refine W5 rfl rfl (hfit) ?_)) | refine W6 rfl rfl ?_ | refine Wi rfl rfl (fun _ _ => ?_))) | (refine Qn ?_; (first | refine Ql ?_ | refine QN rfl ?_ | refine WJ rfl rfl rfl rfl ?_ | refine Wg rfl rfl (by omega) ?_)) | (refine Qm ?_; (first | refine Qo ?_ | refine Qb ?_ | refine Qx ?_)))
   all_goals exact e_1 (Tryz.results31) (QH rfl) (Za (σ := []) (r := [_]) ⟨rfl, rfl⟩)
  ·rw [decide_eq_true h1, decide_eq_false h2, Bool.true_and, Bool.false_and]
   refine Qa Tryz.func31 rfl Tryz.ntmps31 rfl (t := [(0, .agg (Enc.enc t))]) rfl fun E hE => ?_
   (repeat' first | (refine Qi ?_; (first | refine QM rfl ?_ | refine QR rfl ?_ | refine W2 rfl rfl ?_ | refine Wu rfl rfl ?_ | (refine Qu ?_; (first | refine W5 rfl rfl (hsiz) ?_ | refine W5 rfl rfl (hdep) ?_)) | (refine Wh ?_; (first | refine W6 rfl rfl ?_ | refine WK rfl rfl ?_)) | refine Wi rfl rfl (fun _ _ => ?_))) | (refine Qn ?_; (first | refine Ql ?_ | refine QN rfl ?_ | refine WJ rfl rfl rfl rfl ?_ | refine Zd rfl rfl rfl rfl ?_ | refine Wg rfl rfl (by omega) ?_ | refine QZ rfl rfl (by omega) ?_)) | (refine Qm ?_; (first | refine Qo ?_ | refine Qb ?_ | refine Qx ?_)))
   all_goals exact e_1 (Tryz.results31) (QH rfl) (Za (σ := []) (r := [_]) ⟨rfl, rfl⟩)
 ·rw [decide_eq_false h1, Bool.false_and, Bool.false_and]
  refine Qa Tryz.func31 rfl Tryz.ntmps31 rfl (t := [(0, .agg (Enc.enc t))]) rfl fun E hE => ?_
  (repeat' first | (refine Qi ?_; (first | refine QM rfl ?_ | refine QR rfl ?_ | refine W2 rfl rfl ?_ | refine Wu rfl rfl ?_ | refine W5 rfl rfl (hsiz) ?_ | refine WK rfl rfl ?_ | refine Wi rfl rfl (fun _ _ => ?_))) | (refine Qn ?_; (first | refine Ql ?_ | refine QN rfl ?_ | refine Zd rfl rfl rfl rfl ?_ | refine QZ rfl rfl (by omega) ?_)) | (refine Qm ?_; (first | refine Qo ?_ | refine Qb ?_ | refine Qx ?_)))
  all_goals exact e_1 (Tryz.results31) (QH rfl) (Za (σ := []) (r := [_]) ⟨rfl, rfl⟩)
end Go.Proofs
end
section
namespace Go.Proofs
open Go.Av Go.Bl
theorem scan_nil {s : List UInt8} {a : Nat} (h : W0 (s.dropWhile spB) = []) : Zz s a = ([], a + (s.length - (s.dropWhile spB).length)) := by
 rw [Zz]; simp only; rw [dif_pos h]
theorem scan_cons {s r t : List UInt8} {a b : Nat} (hr : s.dropWhile spB = r) (ht : W0 r = t) (h : t ≠ []) (hb : b = a + (s.length - r.length)) :
  Zz s a = ((t, b) :: (Zz (r.drop t.length) (b + t.length)).1, (Zz (r.drop t.length) (b + t.length)).2) := by
 subst hr ht hb
 rw [Zz]; simp only; rw [dif_neg h]
theorem first_space {b : UInt8} {q : List UInt8} (h : spB b = true) : W0 (b :: q) = [] := by
 have hb : b = 32 \/ b = 10 := by
  unfold spB at h
  simpa using h
 rcases hb with rfl | rfl <;> rfl
theorem first_nil : W0 [] = [] := rfl
def Hd (r : List UInt8) : Prop := ∀ b ∈ r.head?, spB b = false
theorem hd_first {r : List UInt8} (h : W0 r ≠ []) : Hd r := by
 cases r with
 | nil => exact absurd first_nil h
 | cons b q =>
  intro b' hb
  have : b = b' := by simpa using hb
  subst this
  cases hs : spB b with
  | false => rfl
  | true => exact absurd (first_space hs) h
theorem dw_app {sp r : List UInt8} (h : sp.all spB = true) (hr : Hd r) : (sp ++ r).dropWhile spB = r := by
 induction sp with
 | nil =>
  cases r with
  | nil => rfl
  | cons b q =>
   have hb := hr b (by simp)
   show (b :: q).dropWhile spB = b :: q
   rw [List.dropWhile_cons, if_neg (by rw [hb]; simp)]
 | cons b q ih =>
  simp only [List.all_cons, Bool.and_eq_true] at h
  rw [List.cons_append, List.dropWhile_cons, if_pos h.1]
  exact ih h.2
theorem dw_all' {sp : List UInt8} (h : sp.all spB = true) : sp.dropWhile spB = [] := by
 have := dw_app (r := []) h (fun b hb => by cases hb)
 simpa using this
def Z1 (s : List UInt8) (ts : List (List UInt8)) : Prop := ∀ a, (Zz s a).1.map (·.1) = ts /\ (Zz s a).2 = a + s.length
theorem lex_end {sp : List UInt8} (h : sp.all spB = true) : Z1 sp [] := fun a => by
 rw [scan_nil (by rw [dw_all' h]; rfl), dw_all' h]
 exact ⟨rfl, by simp⟩
theorem lex_cons {sp t r : List UInt8} {ts : List (List UInt8)} (h : sp.all spB = true) (ht : t ≠ []) (hf : W0 (t ++ r) = t) (hr : Z1 r ts) : Z1 (sp ++ (t ++ r)) (t :: ts) := fun a => by
 have hd : Hd (t ++ r) := hd_first (by rw [hf]; exact ht)
 have e := scan_cons (a := a) (dw_app h hd) hf ht rfl
 rw [e, List.drop_left]
 obtain ⟨h1, h2⟩ := hr (a + ((sp ++ (t ++ r)).length - (t ++ r).length) + t.length)
 refine ⟨by rw [List.map_cons, h1], ?_⟩
 show (Zz r _).2 = _
 rw [h2]
 simp only [List.length_append]; omega
def Nx (r : List UInt8) : Prop := ∀ b ∈ r.head?, letB b = false /\ digB b = false
theorem WQ {b : UInt8} {r : List UInt8} (h : (letB b || digB b) = false) : Nx (b :: r) := fun b' hb => by
 have : b = b' := by simpa using hb
 subst this
 simpa using h
theorem take_run {p : UInt8 -> Bool} {w r : List UInt8} (hw : w.all p = true) (hr : ∀ b ∈ r.head?, p b = false) : (w ++ r).takeWhile p = w := by
 induction w with
 | nil =>
  cases r with
  | nil => rfl
  | cons b q => rw [List.nil_append, List.takeWhile_cons, if_neg (by rw [hr b (by simp)]; simp)]
 | cons b q ih =>
  simp only [List.all_cons, Bool.and_eq_true] at hw
  rw [List.cons_append, List.takeWhile_cons, if_pos hw.1, ih hw.2]
theorem tw_mem {p : UInt8 -> Bool} : ∀ {l : List UInt8} {x : UInt8}, x ∈ l.takeWhile p -> p x = true
 | b :: r, x, h => by
  by_cases hb : p b = true
  ·rw [List.takeWhile_cons, if_pos hb] at h
   rcases List.mem_cons.1 h with rfl | h
   ·exact hb
   ·exact tw_mem h
  ·rw [List.takeWhile_cons, if_neg hb] at h; cases h
theorem run_nx {a : UInt8} {r : List UInt8} (h : Nx r) : ∀ b ∈ r.head?, runB a b = false := fun b hb => by
 obtain ⟨h1, h2⟩ := h b hb
 unfold runB
 rw [h1, h2]; simp
theorem first_word {w r : List UInt8} (hw : w ≠ []) (h0 : letB (w.getD 0 0) = true) (ha : w.all (fun b => digB b || letB b) = true) (hr : Nx r) : W0 (w ++ r) = w := by
 cases w with
 | nil => exact absurd rfl hw
 | cons b q =>
  have h0 : letB b = true := h0
  have hp : preM (b :: q ++ r) = b :: q := by
   unfold preM
   refine take_run ?_ (run_nx hr)
   rw [List.all_eq_true] at ha ⊢
   intro x hx
   have := ha x hx
   show runB b x = true
   unfold runB
   rw [h0]
   simpa using this
  unfold W0
  rw [hp, if_pos (by simp), if_pos]
  show (letB b || _) = true
  rw [h0]; rfl
theorem num_dig {w : List UInt8} (h : qH w = true) : w ≠ [] /\ w.all digB = true := by
 unfold qH at h
 simp only [Bool.and_eq_true, decide_eq_true_eq] at h
 exact ⟨by rintro rfl; simp at h, h.2⟩
theorem first_num {w r : List UInt8} (hw : qH w = true) (hr : Nx r) : W0 (w ++ r) = w := by
 obtain ⟨h1, h2⟩ := num_dig hw
 cases w with
 | nil => exact absurd rfl h1
 | cons b q =>
  have hp : preM (b :: q ++ r) = b :: q := by
   unfold preM
   refine take_run ?_ (run_nx hr)
   rw [List.all_eq_true] at h2 ⊢
   intro x hx
   show runB b x = true
   unfold runB
   rw [h2 x hx]; rfl
  unfold W0
  rw [hp, if_pos (by simp), if_pos (by rw [hw]; simp)]
theorem first_sign1 (c : UInt8) (r : List UInt8) (hc : [40, 41, 123, 125, 91, 93, 44, 46, 43, 45, 42, 47, 37, 94, 33].contains c = true) : W0 ([c] ++ r) = [c] := by
 have : c = 40 \/ c = 41 \/ c = 123 \/ c = 125 \/ c = 91 \/ c = 93 \/ c = 44 \/ c = 46 \/ c = 43 \/ c = 45 \/ c = 42 \/ c = 47 \/ c = 37 \/ c = 94 \/ c = 33 := by simpa using hc
 rcases this with rfl | rfl | rfl | rfl | rfl | rfl | rfl | rfl | rfl | rfl | rfl | rfl | rfl | rfl | rfl <;> rfl
theorem first_signs (t r : List UInt8) (b : UInt8) (hb : spB b = true) (ht : t ∈ signsT) : W0 (t ++ b :: r) = t := by
 have hb : b = 32 \/ b = 10 := by
  unfold spB at hb
  simpa using hb
 unfold signsT at ht
 simp only [List.mem_cons, List.not_mem_nil, or_false] at ht
 rcases hb with rfl | rfl <;> rcases ht with rfl | rfl | rfl | rfl | rfl | rfl | rfl | rfl | rfl | rfl | rfl | rfl | rfl | rfl | rfl | rfl | rfl | rfl | rfl | rfl | rfl | rfl | rfl | rfl <;> rfl
theorem first_signs_end (t : List UInt8) (ht : t ∈ signsT) : W0 (t ++ []) = t := by
 unfold signsT at ht
 simp only [List.mem_cons, List.not_mem_nil, or_false] at ht
 rcases ht with rfl | rfl | rfl | rfl | rfl | rfl | rfl | rfl | rfl | rfl | rfl | rfl | rfl | rfl | rfl | rfl | rfl | rfl | rfl | rfl | rfl | rfl | rfl | rfl <;> rfl
theorem sp_nx {y : List UInt8} (hy : ∀ b ∈ y.head?, spB b = true) : Nx y := fun b hb => by
 have h := hy b hb
 have hb : b = 32 \/ b = 10 := by
  unfold spB at h
  simpa using h
 rcases hb with rfl | rfl <;> exact ⟨rfl, rfl⟩
theorem sign_mem {u : List UInt8} (h : signM u ≠ []) : signM u ∈ signsT /\ signM u <+: u := by
 unfold signM at h ⊢
 cases hf : signsT.find? (fun t => Lib.hasPrefix u t) with
 | none => rw [hf] at h; exact absurd rfl h
 | some t =>
  have h2 := List.find?_some hf
  exact ⟨List.mem_of_find?_eq_some hf, List.isPrefixOf_iff_prefix.1 h2⟩
theorem first_stop {u t y : List UInt8} (h : W0 u = t) (ht : t ≠ []) (hy : ∀ b ∈ y.head?, spB b = true) : W0 (t ++ y) = t := by
 unfold W0 at h
 split at h
 ·rename_i h0
  split at h
  ·rename_i h1
   rw [h] at h1
   have hall : t.all (runB (u.getD 0 0)) = true := by
    rw [<- h]; unfold preM
    rw [List.all_eq_true]
    intro x hx
    exact tw_mem hx
   have h00 : t.getD 0 0 = u.getD 0 0 := by
    unfold preM at h
    have := List.takeWhile_prefix (l := u) (runB (u.getD 0 0))
    rw [h] at this
    obtain ⟨q, hq⟩ := this
    cases t with
    | nil => exact absurd rfl ht
    | cons b r => rw [<- hq]; rfl
   rw [<- h00] at h1 hall
   have hp : preM (t ++ y) = t := by
    unfold preM
    rw [show (t ++ y).getD 0 0 = t.getD 0 0 by cases t with | nil => exact absurd rfl ht | cons b r => rfl]
    exact take_run hall (run_nx (sp_nx hy))
   unfold W0
   rw [hp, show (t ++ y).getD 0 0 = t.getD 0 0 by cases t with | nil => exact absurd rfl ht | cons b r => rfl, if_pos (by cases t with | nil => exact absurd rfl ht | cons b r => simp), if_pos h1]
  ·exact absurd h.symm ht
 ·obtain ⟨h1, h2⟩ := sign_mem (u := u) (by rw [h]; exact ht)
  rw [h] at h1
  cases y with
  | nil => exact first_signs_end t h1
  | cons b r => exact first_signs t r b (hy b (by simp)) h1
theorem signs_le {t : List UInt8} (h : t ∈ signsT) : 1 <= t.length /\ t.length <= 2 := by
 have : ∀ t ∈ signsT, 1 <= t.length /\ t.length <= 2 := by decide
 exact this t h
end Go.Proofs
end
section
namespace Go.Proofs
open Go.Av
variable {G : Nat -> DV}
attribute [local irreducible] OpSem Zs ZH qa ACalls qP AClose RV
open Go.Bl
def parseM (z : Nd) (s : List UInt8) : Nd × Int :=
 if 8192 < s.length then (zNd, 8192)
 else if (qo (Zz s 0).1 z ((Zz s 0).1.length + 3)).2.bad = true then
  (if h : (qo (Zz s 0).1 z ((Zz s 0).1.length + 3)).2.p < (Zz s 0).1.length then (zNd, ((Zz s 0).1[(qo (Zz s 0).1 z ((Zz s 0).1.length + 3)).2.p].2 : Int)) else (zNd, ((Zz s 0).2 : Int)))
 else if (Zz s 0).2 < s.length then (zNd, ((Zz s 0).2 : Int))
 else if qF (qo (Zz s 0).1 z ((Zz s 0).1.length + 3)).1 = true then ((qo (Zz s 0).1 z ((Zz s 0).1.length + 3)).1, -1) else (zNd, 0)
theorem tup_nil {L : Lay} {a b c d : DV} {es : Nat} {v : Value} (h : VRep L (.tup [.agg [a, b, c, .sc (.slice none 0 0)], d]) v) : VRep L (.tup [.agg [a, b, c, .sl es []], d]) v := by
 cases h with | tup _ vs hl hg =>
 refine .tup _ _ hl fun j e hj => ?_
 match j with
 | 0 => simp at hj; subst hj; exact agg4_nil (hg 0 _ rfl)
 | j + 1 => exact hg (j + 1) e hj
theorem scan_ok (s : List UInt8) (hs : s.length <= 8192) : OkL (Zz s 0).1 /\ (Zz s 0).2 <= s.length /\ (Zz s 0).1.length <= s.length /\ ∀ x ∈ (Zz s 0).1, x.2 <= s.length := by
 have key : ∀ (n : Nat) (u : List UInt8) (a : Nat), u.length = n -> ((Zz u a).2 <= a + u.length /\ (Zz u a).1.length <= u.length /\ ∀ x ∈ (Zz u a).1, x.1 ≠ [] /\ x.1.length <= u.length /\ x.2 <= a + u.length) := by
  intro n
  induction n using Nat.strongRecOn with
  | _ n ih =>
  intro u a hu
  have hd := (List.dropWhile_sublist (l := u) spB).length_le
  by_cases hf : W0 (u.dropWhile spB) = []
  ·rw [scan_nil hf]
   refine ⟨by show a + (u.length - (u.dropWhile spB).length) <= a + u.length; omega, Nat.zero_le _, fun x hx => by cases hx⟩
  ·have hle := firstM_le (u.dropWhile spB)
   have hpos : 1 <= (W0 (u.dropWhile spB)).length := by
    cases hq : W0 (u.dropWhile spB) with
    | nil => exact absurd hq hf
    | cons b q => simp
   rw [scan_cons rfl rfl hf rfl]
   have hdl : ((u.dropWhile spB).drop (W0 (u.dropWhile spB)).length).length = (u.dropWhile spB).length - (W0 (u.dropWhile spB)).length := List.length_drop
   obtain ⟨i1, i2, i3⟩ := ih _ (by rw [hdl]; omega) ((u.dropWhile spB).drop (W0 (u.dropWhile spB)).length) (a + (u.length - (u.dropWhile spB).length) + (W0 (u.dropWhile spB)).length) rfl
   rw [hdl] at i1 i2 i3
   refine ⟨by dsimp only; omega, by rw [List.length_cons]; omega, fun x hx => ?_⟩
   rcases List.mem_cons.1 hx with rfl | hx
   ·exact ⟨hf, by dsimp only; omega, by dsimp only; omega⟩
   ·obtain ⟨j1, j2, j3⟩ := i3 x hx
    exact ⟨j1, by omega, by omega⟩
 obtain ⟨h1, h2, h3⟩ := key _ s 0 rfl
 exact ⟨⟨by omega, fun x hx => ⟨(h3 x hx).1, by have := (h3 x hx).2.1; omega⟩⟩, by omega, h2, fun x hx => by have := (h3 x hx).2.2; omega⟩
theorem parse_c (hG0 : G 0 = shapesT) (hG1 : G 1 = spaceT) (s : List UInt8) (hsl : s.length <= 1000000000) : Go.Av.Pure Tryz.prog G 23 [W1 s] (.tup [.agg (Enc.enc (parseM zP s).1), .i (parseM zP s).2]) := fun B => by
 unfold parseM
 by_cases h8 : 8192 < s.length
 ·rw [if_pos h8]
  refine Qa Tryz.func23 rfl Tryz.ntmps23 rfl (t := [(0, W1 s)]) rfl fun E hE => ?_
  (repeat' first | (refine Qi ?_; (first | refine QM rfl ?_ | refine QR rfl ?_ | refine ZV rfl rfl ?_ | refine WA rfl ?_ | refine Ws rfl rfl rfl rfl ?_ | refine Qp rfl rfl ?_ | refine Qq (fun _ _ => ?_))) | (refine Qn ?_; (first | refine Ql ?_ | refine QN rfl ?_ | refine QJ ?_)) | (refine Qm ?_; (first | refine Qo ?_ | refine Qb ?_ | refine Qh rfl (by omega) ?_ | refine Qx ?_)))
  exact e_2 (Tryz.results23) (Qr (size := 4) rfl rfl rfl rfl) (QH rfl) (c_conv (d2 := .tup [.agg [.i 0, .i 0, .i 0, .sl 4 []], .i 8192]) (fun L v h => tup_nil h) (Q8 (by show _ = DV.tup [.agg (Enc.enc zNd), .i 8192]; unfold zNd; rw [QI]; rfl)))
 rw [if_neg h8]
 have hscan := scan_c (G := G) hG1 s (by omega)
 obtain ⟨hL, he, hlen, hat⟩ := scan_ok s (by omega)
 generalize (Zz s 0).2 = e at *
 generalize (Zz s 0).1 = L at *
 obtain ⟨q, hqq⟩ : ∃ q, q = L.length + 3 := ⟨_, rfl⟩
 rw [<- hqq]
 have hq : L.length + 3 <= q := by omega
 have hfn := fun Q => fun_rc (G := G) hG1 L hL q hq (by omega) Q
 have hea := eats_fun L zP q
 have hkw := kw_fun (L := L) (z := zP) q
 have hps := fun h => Nat.le_trans (prog_size (L := L) (z := zP) q h) (prog_in q)
 have hpa : qo L zP q = (Nd.mk 27 (QA L (Q3 L ZK ⟨0, false⟩)).1 0 (WU L (qe L zP q) q [] (QA L (Q3 L ZK ⟨0, false⟩)).2).1, (WU L (qe L zP q) q [] (QA L (Q3 L ZK ⟨0, false⟩)).2).2) := rfl
 rw [hpa] at hps ⊢
 clear hpa
 generalize qe L zP q = F at *
 have htk := take_c (G := G) L ⟨0, false⟩ hL ZK (by decide)
 have hmt := (mm_take (L := L) (S := ⟨0, false⟩) ZK (by decide)).1
 have hr0 : rM L ⟨0, false⟩ = L.length := by unfold rM; simp
 generalize Q3 L ZK ⟨0, false⟩ = S1 at *
 have hnm := qz (G := G) L S1 hL
 have hmn := (jr (L := L) (F := QA L) (fun i => J.numeral (Ag.refl L i)) S1).2
 generalize (QA L S1).1 = v at *
 generalize (QA L S1).2 = S2 at *
 have htl : (tks L).length = L.length := by simp [tks]
 dsimp only at hps ⊢
 refine Qa Tryz.func23 rfl Tryz.ntmps23 rfl (t := [(0, W1 s)]) rfl fun E hE => ?_
 (repeat' first | (refine Qi ?_; (first | refine QM rfl ?_ | refine QR rfl ?_ | refine ZV rfl rfl ?_ | (refine Qu ?_; (first | refine WA rfl ?_ | refine W5 rfl rfl (hscan) ?_ | refine QT 1 (htk) rfl rfl rfl rfl ?_ | refine QT 1 (hnm) rfl rfl rfl rfl ?_)) | refine Ws rfl rfl rfl rfl ?_ | refine ZM rfl rfl rfl ?_ | refine Qp rfl rfl ?_ | refine Qq (fun _ _ => ?_) | refine Wi rfl rfl (fun _ _ => ?_))) | (refine Qn ?_; (first | refine Ql ?_ | refine QN rfl ?_ | refine QJ ?_)) | (refine Qm ?_; (first | refine Qo ?_ | refine Qb ?_ | refine Qe ?_ | refine QB ?_ | refine Qg rfl (by omega) ?_)))
 rename_i g2 hg2 gr hgr gn hgn
 refine r_ownin 2 3 4 rfl rfl (fun _ => rfl) (fun gk hgk => ?_)
 refine r_loop3n (fun (o : List Nd) (Q : RS) (gg : Nat) => ⟨[(0, W1 s), (2, .ptr 0 g2 0), (4, Q5 (tks L)), (5, .i e), (6, .ptr 1 gr 0), (7, .ptr 2 gn 0)], [.row g2 [.i 0, .i 0, .i 0, .nil], .row gr (rdC L Q), .row gn [.i 27, .i v, .i 0, .ref 3 gg 0 o.length 4], .row gg (Wq o)]⟩) (fun o Q gg => E.N < gg /\ o.length + mM L Q <= L.length /\ ∃ k', WU L F q [] S2 = WU L F k' o Q /\ mM L Q + 1 <= k') (fun o Q gg => mM L Q) [] S2 gk ?_ ⟨hgk, by simp; omega, q, rfl, by omega⟩ ?_
 ·exact zal rfl
 intro o Q gg ⟨hgg, hq2, k', hk1, hk2⟩
 have hol : o.length <= 2000000 := by omega
 rw [hk1] at hps ⊢
 have c1 := We o
 cases hb : Q.bad with
 | true =>
  have hend : WU L F k' o Q = (o, Q) := by
   cases k' with
   | zero => rfl
   | succ k2 => rw [WU, if_neg (by rw [hb]; simp)]
  rw [hend]
  dsimp only
  rw [if_pos hb]
  clear hps hk1 hend hfn hkw hea
  have ecell : rdC L Q = [Q5 (tks L), .i (Q.p : Nat), .i (Q.p : Nat)] := by unfold rdC badI; rw [if_pos hb]
  rw [ecell]
  by_cases hpl : Q.p < L.length
  ·rw [dif_pos hpl]
   have hpl2 : Q.p < (tks L).length := by omega
   have hta : ((tks L)[Q.p].a : Int) = (L[Q.p].2 : Int) := by rw [tks_get hpl]
   (repeat' first | (refine Qi ?_; (first | refine QM rfl ?_ | refine QR rfl ?_ | refine Qc rfl rfl rfl ?_ | (refine Qj ?_; (first | refine Q9 rfl rfl ?_ | refine Zt rfl rfl ?_)) | refine Q2 rfl ?_ | (refine Wh ?_; (first | refine W6 rfl rfl ?_ | refine WK rfl rfl ?_)) | refine Ws rfl rfl rfl rfl ?_ | refine Qd rfl rfl ?_ | refine Qf rfl rfl ?_)) | (refine Qn ?_; (first | refine Ql ?_ | refine QN rfl ?_ | refine WJ rfl rfl rfl rfl ?_ | refine Zd rfl rfl rfl rfl ?_)) | (refine Qm ?_; (first | refine Qo ?_ | refine Qb ?_ | refine Qe ?_ | (refine WO ?_; first | (refine Qz (fun p => p.1 :: .row gr [Q5 (tks L), .i (Q.p : Nat), .i (Q.p : Nat)] :: p.2) 100 [(1, true), (2, true), (3, true), (4, true), (5, true), (6, true), (7, true), (8, true), (0, true), (9, false), (10, true)] (by rfl) (by rfl) (by kernel_rfl) (by decide +kernel) (by decide +kernel) ⟨(_, _), rfl⟩ ?_) | (refine Qz (fun p => .row g2 [.i 0, .i 0, .i 0, .nil] :: p.1 :: .row gn [.i 27, .i v, .i 0, .ref 3 gg 0 o.length 4] :: p.2) 7 [(0, true), (1, true), (2, true), (3, false), (4, true), (5, false), (6, true), (7, false)] (by rfl) (by rfl) (by kernel_rfl) (by decide +kernel) (by decide +kernel) ⟨(_, _), rfl⟩ ?_) | refine Wn (by rfl) (by kernel_rfl) (by kernel_rfl) ?_ | refine Wm (by kernel_rfl) (by kernel_rfl) ?_) | refine Qy rfl ?_ | refine Qh rfl (by omega) ?_ | refine WS rfl ?_ | refine Qx ?_)) | (refine W9 ?_; (first | refine ZO ?_ | refine i_st rfl rfl (fun _ => (by (repeat' first | (refine Qi ?_; (first | refine QM rfl ?_ | refine QR rfl ?_ | (refine QO ?_; (first | refine Wo rfl ?_ | refine Qc rfl rfl rfl ?_)) | refine Q1 rfl rfl (by first | assumption | omega | (simp; done) | (simp; omega)) ?_ | (refine g_fieldAddr ?_; (first | refine Qd rfl rfl ?_ | refine s_fld_ep rfl rfl ?_)) | refine Qp rfl rfl ?_ | refine Qf rfl rfl ?_)) | exact ⟨rfl, rfl⟩))) ?_ | refine i_ef0 ?_)) | refine And.intro (Exists.intro ((_, _)) rfl) ?_)
   exact e_2 (Tryz.results23) (Qr (size := 4) rfl rfl rfl rfl) (QH rfl) (c_conv (d2 := .tup [.agg [.i 0, .i 0, .i 0, .sl 4 []], .i (tks L)[Q.p].a]) (fun L v h => tup_nil h) (Q8 (by rw [hta]; show _ = DV.tup [.agg (Enc.enc zNd), _]; unfold zNd; rw [QI]; rfl)))
  ·rw [dif_neg hpl]
   (repeat' first | (refine Qi ?_; (first | refine QM rfl ?_ | refine QR rfl ?_ | refine Qc rfl rfl rfl ?_ | (refine Qj ?_; (first | refine Q9 rfl rfl ?_ | refine Zt rfl rfl ?_)) | refine Q2 rfl ?_ | (refine Wh ?_; (first | refine W6 rfl rfl ?_ | refine WK rfl rfl ?_)) | refine Ws rfl rfl rfl rfl ?_ | refine Qd rfl rfl ?_ | refine Qp rfl rfl ?_ | refine Qf rfl rfl ?_)) | (refine Qn ?_; (first | refine Ql ?_ | refine QN rfl ?_ | refine QJ ?_ | refine WJ rfl rfl rfl rfl ?_ | refine Zd rfl rfl rfl rfl ?_)) | (refine Qm ?_; (first | refine Qo ?_ | refine Qb ?_ | refine Qe ?_ | refine Qv rfl ?_ | refine Qy rfl ?_ | refine Qg rfl (by omega) ?_ | refine WS rfl ?_ | refine Qx ?_)))
   exact e_2 (Tryz.results23) (Qr (size := 4) rfl rfl rfl rfl) (QH rfl) (c_conv (d2 := .tup [.agg [.i 0, .i 0, .i 0, .sl 4 []], .i e]) (fun L v h => tup_nil h) (Q8 (by show _ = DV.tup [.agg (Enc.enc zNd), _]; unfold zNd; rw [QI]; rfl)))
 | false =>
  have hbi := bad_neg hb
  match k', hk1, hk2 with
  | k2 + 1, hk1, hk2 =>
  by_cases hpl : Q.p < L.length
  ·have hrec : WU L F (k2 + 1) o Q = WU L F k2 (o ++ [(F Q).1]) (F Q).2 := by rw [WU, if_pos ⟨hb, hpl⟩]
   have hlt := hea Q hb
   have hfun := hfn Q
   clear hps hk1 hfn hkw hea
   generalize hx2 : (F Q).1 = xb at *
   generalize hS2 : (F Q).2 = S3 at *
   (repeat' first | (refine Qi ?_; (first | refine QM rfl ?_ | refine Qc rfl rfl rfl ?_ | refine Q9 rfl rfl ?_ | (refine Qu ?_; (first | refine ZG (z := xb) rfl rfl rfl rfl rfl rfl rfl (by first | omega | (simp; omega)) (by first | omega | (simp; omega)) (fun _ => rfl) (fun _ _ => ?_) | refine Q2 rfl ?_ | refine QT 1 (hfun) rfl rfl rfl rfl ?_)) | refine W6 rfl rfl ?_ | refine QD rfl rfl rfl rfl (by rfl) (by rfl) (by rfl) ?_ | refine Qd rfl rfl ?_ | refine Qf rfl rfl ?_)) | (refine Qn ?_; (first | refine Ql ?_ | refine QN rfl ?_ | refine WJ rfl rfl rfl rfl ?_ | refine Wg rfl rfl (by omega) ?_)) | (refine Qm ?_; (first | refine Qo ?_ | refine Qb ?_ | refine Qe ?_ | (refine WO ?_; first | (refine Qz (fun p => p.1 :: .row gr [Q5 (tks L), .i (Q.p : Nat), .i (Q.p : Nat)] :: p.2) 100 [(1, true), (2, true), (3, true), (4, true), (5, true), (6, true), (7, true), (8, true), (0, true), (9, false), (10, true)] (by rfl) (by rfl) (by kernel_rfl) (by decide +kernel) (by decide +kernel) ⟨(_, _), rfl⟩ ?_) | (refine Qz (fun p => .row g2 [.i 0, .i 0, .i 0, .nil] :: p.1 :: .row gn [.i 27, .i v, .i 0, .ref 3 gg 0 o.length 4] :: p.2) 7 [(0, true), (1, true), (2, true), (3, false), (4, true), (5, false), (6, true), (7, false)] (by rfl) (by rfl) (by kernel_rfl) (by decide +kernel) (by decide +kernel) ⟨(_, _), rfl⟩ ?_) | refine Wn (by rfl) (by kernel_rfl) (by kernel_rfl) ?_ | refine Wm (by kernel_rfl) (by kernel_rfl) ?_) | refine QB ?_ | refine Qh rfl (by omega) ?_)) | (refine W9 ?_; (first | refine ZO ?_ | refine i_z0 ?_ | refine i_st rfl rfl (fun _ => (by (repeat' first | (refine Qi ?_; (first | refine QM rfl ?_ | refine Qc rfl rfl rfl ?_ | refine Q0 (z := xb) rfl rfl (by decide) ?_ | refine Qd rfl rfl ?_)) | exact ⟨rfl, rfl⟩))) ?_ | refine i_ef rfl ?_)) | refine And.intro (Exists.intro ((_, _)) rfl) ?_)
   refine ⟨o ++ [xb], S3, _, ⟨by assumption, by simp; omega, k2, hrec, by omega⟩, by omega, ?_⟩
   exact zal rfl
  ·have hend : WU L F (k2 + 1) o Q = (o, Q) := by rw [WU, if_neg (by rw [hb]; simp; omega)]
   rw [hend] at hps ⊢
   dsimp only at hps ⊢
   rw [if_neg (by rw [hb]; decide)]
   have hsz : Qs (.mk 27 v 0 o) <= 1000000 := by
    have := hps hb
    omega
   have hval := valid_c hG0 (.mk 27 v 0 o) hsz
   rw [QI] at hval
   clear hps hk1 hend hfn hkw hea
   refine r_pubin 2 3 rfl rfl rfl c1.symm rfl rfl ?_
   by_cases hes : e < s.length
   ·rw [if_pos hes]
    (repeat' first | (refine Qi ?_; (first | refine QM rfl ?_ | refine QR rfl ?_ | refine Qc rfl rfl rfl ?_ | (refine Qj ?_; (first | refine Q9 rfl rfl ?_ | refine Zt rfl rfl ?_)) | (refine Qu ?_; (first | refine Q2 rfl ?_ | refine WA rfl ?_)) | (refine Wh ?_; (first | refine W6 rfl rfl ?_ | refine WK rfl rfl ?_)) | refine Ws rfl rfl rfl rfl ?_ | refine Qd rfl rfl ?_ | refine Qp rfl rfl ?_ | refine Qf rfl rfl ?_)) | (refine Qn ?_; (first | refine Ql ?_ | refine QN rfl ?_ | refine QJ ?_ | refine WJ rfl rfl rfl rfl ?_ | refine Zd rfl rfl rfl rfl ?_ | refine Wg rfl rfl (by omega) ?_ | refine QZ rfl rfl (by omega) ?_)) | (refine Qm ?_; (first | refine Qo ?_ | refine Qb ?_ | refine Qe ?_ | refine Qy rfl ?_ | refine Qh rfl (by omega) ?_ | refine Qg rfl (by omega) ?_ | refine WS rfl ?_ | refine Qx ?_)))
    exact e_2 (Tryz.results23) (Qr (size := 4) rfl rfl rfl rfl) (QH rfl) (c_conv (d2 := .tup [.agg [.i 0, .i 0, .i 0, .sl 4 []], .i e]) (fun L v h => tup_nil h) (Q8 (by show _ = DV.tup [.agg (Enc.enc zNd), _]; unfold zNd; rw [QI]; rfl)))
   ·rw [if_neg hes]
    cases hvv : qF (.mk 27 v 0 o) with
    | true =>
     rw [hvv] at hval
     rw [if_pos rfl]
     (repeat' first | (refine Qi ?_; (first | refine QM rfl ?_ | refine QR rfl ?_ | (refine QO ?_; (first | refine W2 rfl rfl ?_ | refine Qc rfl rfl rfl ?_)) | (refine Qj ?_; (first | refine Q9 rfl rfl ?_ | refine Zt rfl rfl ?_)) | (refine Qu ?_; (first | refine Q2 rfl ?_ | refine WA rfl ?_ | refine W5 rfl rfl (hval) ?_)) | (refine Wh ?_; (first | refine W6 rfl rfl ?_ | refine WK rfl rfl ?_)) | refine Ws rfl rfl rfl rfl ?_ | refine Zq rfl ?_ | refine Qd rfl rfl ?_ | refine Qf rfl rfl ?_)) | (refine Qn ?_; (first | refine Ql ?_ | refine QN rfl ?_ | refine QJ ?_ | refine WJ rfl rfl rfl rfl ?_ | refine Zd rfl rfl rfl rfl ?_ | refine Wg rfl rfl (by omega) ?_ | refine QZ rfl rfl (by omega) ?_)) | (refine Qm ?_; (first | refine Qo ?_ | refine Qb ?_ | refine Qe ?_ | refine QB ?_ | refine Qy rfl ?_ | refine Qg rfl (by omega) ?_ | refine WS rfl ?_ | refine Qx ?_)))
     exact e_2 (Tryz.results23) (Qr (size := 4) rfl rfl rfl rfl) (QH rfl) (Q8 (by rw [QI]; rfl))
    | false =>
     rw [hvv] at hval
     rw [if_neg (by decide)]
     (repeat' first | (refine Qi ?_; (first | refine QM rfl ?_ | refine QR rfl ?_ | (refine QO ?_; (first | refine W2 rfl rfl ?_ | refine Qc rfl rfl rfl ?_)) | (refine Qj ?_; (first | refine Q9 rfl rfl ?_ | refine Zt rfl rfl ?_)) | (refine Qu ?_; (first | refine Q2 rfl ?_ | refine WA rfl ?_ | refine W5 rfl rfl (hval) ?_)) | (refine Wh ?_; (first | refine W6 rfl rfl ?_ | refine WK rfl rfl ?_)) | refine Ws rfl rfl rfl rfl ?_ | refine Zq rfl ?_ | refine Qd rfl rfl ?_ | refine Qp rfl rfl ?_ | refine Qf rfl rfl ?_)) | (refine Qn ?_; (first | refine Ql ?_ | refine QN rfl ?_ | refine QJ ?_ | refine WJ rfl rfl rfl rfl ?_ | refine Zd rfl rfl rfl rfl ?_ | refine Wg rfl rfl (by omega) ?_ | refine QZ rfl rfl (by omega) ?_)) | (refine Qm ?_; (first | refine Qo ?_ | refine Qb ?_ | refine Qe ?_ | refine Qv rfl ?_ | refine Qy rfl ?_ | refine Qg rfl (by omega) ?_ | refine WS rfl ?_ | refine Qx ?_)))
     exact e_2 (Tryz.results23) (Qr (size := 4) rfl rfl rfl rfl) (QH rfl) (c_conv (d2 := .tup [.agg [.i 0, .i 0, .i 0, .sl 4 []], .i 0]) (fun L v h => tup_nil h) (Q8 (by show _ = DV.tup [.agg (Enc.enc zNd), _]; unfold zNd; rw [QI]; rfl)))
end Go.Proofs
end
section
namespace Go.Proofs
open Go.Av Go.Bl
def simT : Nd -> List UInt8
 | .mk k n m ks =>
  if k = 14 then (if QU m ks.length 1 = true then [118] ++ Lib.itoa n ++ [32, 61, 32] ++ Zp (ks.map exT) else []) else
  if k = 15 then (if QU m ks.length 2 = true then [118] ++ Lib.itoa n ++ [91] ++ (ks.map exT).getD 0 [] ++ [93, 32, 61, 32] ++ (ks.map exT).getD 1 [] else []) else
  if k = 16 then (if ks.length = 1 then [118] ++ Lib.itoa n ++ [46] ++ Lib.itoa m ++ [32, 61, 32] ++ Zp (ks.map exT) else []) else
  if k = 19 then (if WX n m ks.length 1 = true then [114, 101, 116, 117, 114, 110, 32] ++ Zp (ks.map exT) else []) else
  if k = 20 then (if WX n m ks.length 1 = true then [116, 104, 114, 111, 119, 32] ++ Zp (ks.map exT) else []) else
  if k = 24 then (if WX n m ks.length 1 = true then [111, 117, 116, 32] ++ Zp (ks.map exT) else []) else
  if k = 25 then (if WX n m ks.length 0 = true then [115, 107, 105, 112] else []) else
  if k = 22 then (if QU m ks.length 1 = true then [115, 101, 110, 100, 32, 99] ++ Lib.itoa n ++ [32] ++ Zp (ks.map exT) else []) else
  if k = 23 then (if QU m ks.length (-1) = true then [115, 112, 97, 119, 110, 32, 102] ++ Lib.itoa n ++ [40] ++ Zp (ks.map exT) ++ [41] else []) else []
def simOk : Nd -> Bool
 | .mk k n m ks =>
  if k = 14 then QU m ks.length 1 && Zf n && ks.all qg else if k = 15 then QU m ks.length 2 && Zf n && ks.all qg else if k = 16 then decide (ks.length = 1) && Zf n && Zf m && ks.all qg else
  if k = 19 then WX n m ks.length 1 && ks.all qg else if k = 20 then WX n m ks.length 1 && ks.all qg else if k = 24 then WX n m ks.length 1 && ks.all qg else if k = 25 then WX n m ks.length 0 else
  if k = 22 then QU m ks.length 1 && Zf n && ks.all qg else if k = 23 then QU m ks.length (-1) && Zf n && ks.all qg else false
theorem exs_len {ks : List Nd} (h : okL ks) : ∀ x ∈ ks, (exT x).length + 2 <= 60 * Qs x := fun x hx => exT_len x (WY h hx)
theorem getD2_len {ks : List Nd} (h : okL ks) (h2 : ks.length = 2) : ((ks.map exT).getD 0 []).length + ((ks.map exT).getD 1 []).length <= 60 * QC ks := by
 match ks, h2 with
 | [a, b], _ =>
  have ha := exs_len h a (by simp)
  have hb := exs_len h b (by simp)
  simp only [List.map_cons, List.map_nil, List.getD_cons_zero, List.getD_cons_succ, QC]; omega
theorem simT_len (t : Nd) (hok : okN t) : (simT t).length <= 60 * Qs t := by
 obtain ⟨k, n, m, ks⟩ := t
 rw [okN] at hok
 have hn := Zy hok.1.2.1
 have hm := Zy hok.1.2.2
 have hs := qh exT ks (exs_len hok.2)
 have h2 : QU m ks.length 2 = true -> ((ks.map exT).getD 0 []).length + ((ks.map exT).getD 1 []).length <= 60 * QC ks := fun h => getD2_len hok.2 (by simp [QU] at h; omega)
 rw [simT]
 rw [Qs]
 repeat' split
 all_goals (try have h2 := h2 (by assumption)); simp only [List.length_append, List.length_cons, List.length_nil]; omega
def ZZ (i : Nat) (s : List UInt8) : List UInt8 := Lib.repeatL [32, 32] i ++ s ++ [10]
theorem Wc (i : Nat) (s : List UInt8) : (ZZ i s).length = 2 * i + s.length + 1 := by
 unfold ZZ
 rw [List.length_append, List.length_append, Lib.repeatL_length]
 show i * 2 + s.length + 1 = _
 omega
abbrev sOpen : List UInt8 := [123]
abbrev sClose : List UInt8 := [125]
abbrev sElse : List UInt8 := [125, 32, 101, 108, 115, 101, 32, 123]
abbrev sIf : List UInt8 := [105, 102, 32]
abbrev sWhile : List UInt8 := [119, 104, 105, 108, 101, 32]
abbrev sTry : List UInt8 := [116, 114, 121, 32, 123]
abbrev sCatch : List UInt8 := [125, 32, 99, 97, 116, 99, 104, 32, 118]
abbrev sBr : List UInt8 := [32, 123]
mutual
def stT : Nd -> Nat -> List UInt8
 | .mk k n m ks, i =>
  if k = 13 then ZZ i sOpen ++ (if WX n m ks.length (-1) = true then stTs ks (i + 1) else []) ++ ZZ i sClose else
  if k = 17 /\ WX n m ks.length 3 = true then ZZ i (sIf ++ (ks.map exT).getD 0 [] ++ sBr) ++ (inTs ks i).getD 1 [] ++ ZZ i sElse ++ (inTs ks i).getD 2 [] ++ ZZ i sClose else
  if k = 18 /\ WX n m ks.length 2 = true then ZZ i (sWhile ++ (ks.map exT).getD 0 [] ++ sBr) ++ (inTs ks i).getD 1 [] ++ ZZ i sClose else
  if k = 21 /\ QU m ks.length 2 = true then ZZ i sTry ++ (inTs ks i).getD 0 [] ++ ZZ i (sCatch ++ Lib.itoa n ++ sBr) ++ (inTs ks i).getD 1 [] ++ ZZ i sClose else
  ZZ i (simT (.mk k n m ks))
def stTs : List Nd -> Nat -> List UInt8
 | [], _ => []
 | x :: r, i => stT x i ++ stTs r i
def inT : Nd -> Nat -> List UInt8
 | .mk k n m ks, i => if (decide (k = 13) && WX n m ks.length (-1)) = true then stTs ks (i + 1) else []
def inTs : List Nd -> Nat -> List (List UInt8)
 | [], _ => []
 | x :: r, i => inT x i :: inTs r i
end
theorem inTs_eq (i : Nat) : ∀ ks, inTs ks i = ks.map fun x => inT x i
 | [] => rfl
 | x :: r => by rw [inTs, inTs_eq i r]; rfl
mutual
def stOk : Nd -> Bool
 | .mk k n m ks =>
  if k = 13 then WX n m ks.length (-1) && qG ks else
  if k = 17 then WX n m ks.length 3 && (ks.map qg).getD 0 false && (inOks ks).getD 1 false && (inOks ks).getD 2 false else
  if k = 18 then WX n m ks.length 2 && (ks.map qg).getD 0 false && (inOks ks).getD 1 false else
  if k = 21 then QU m ks.length 2 && Zf n && (inOks ks).getD 0 false && (inOks ks).getD 1 false else simOk (.mk k n m ks)
def qG : List Nd -> Bool
 | [] => true
 | x :: r => stOk x && qG r
def inOk : Nd -> Bool
 | .mk k n m ks => decide (k = 13) && WX n m ks.length (-1) && qG ks
def inOks : List Nd -> List Bool
 | [] => []
 | x :: r => inOk x :: inOks r
end
theorem inOks_eq : ∀ ks, inOks ks = ks.map inOk
 | [] => rfl
 | x :: r => by rw [inOks, inOks_eq r]; rfl
theorem stOks_eq : ∀ ks, qG ks = ks.all stOk
 | [] => rfl
 | x :: r => by rw [qG, stOks_eq r]; rfl
theorem stTs_app (a b : List Nd) (i : Nat) : stTs (a ++ b) i = stTs a i ++ stTs b i := by
 induction a with
 | nil => simp [stTs]
 | cons x r ih => rw [List.cons_append, stTs, stTs, ih, List.append_assoc]
theorem stTs_take {ks : List Nd} {j : Nat} (h : j < ks.length) (i : Nat) : stTs (ks.take (j + 1)) i = stTs (ks.take j) i ++ stT ks[j] i := by
 rw [List.take_succ_eq_append_getElem h, stTs_app, stTs, stTs, List.append_nil]
theorem stOks_take {ks : List Nd} {j : Nat} (h : j < ks.length) : qG (ks.take (j + 1)) = (qG (ks.take j) && stOk ks[j]) := by
 rw [stOks_eq, stOks_eq, List.take_succ_eq_append_getElem h, List.all_append]; simp
def bnd (i s : Nat) : Nat := (6 * (i + s) + 100) * s
theorem stTs_len {C : Nat} : ∀ (ks : List Nd) (i : Nat), (∀ x ∈ ks, (stT x i).length <= C * Qs x) -> (stTs ks i).length <= C * QC ks
 | [], i, _ => by simp [stTs]
 | x :: r, i, h => by
  have h1 := h x (by simp)
  have h2 := stTs_len r i fun y hy => h y (by simp [hy])
  rw [stTs, QC, List.length_append, Nat.mul_add]; omega
theorem getD_map_le {ks : List Nd} {f : Nd -> List UInt8} {C : Nat} (h : ∀ x ∈ ks, (f x).length <= C * Qs x) (j : Nat) (hj : j < ks.length) : ((ks.map f).getD j []).length <= C * Qs ks[j] := by
 rw [List.getD_eq_getElem?_getD, List.getElem?_map, List.getElem?_eq_getElem hj]
 exact h _ (List.getElem_mem hj)
theorem st_len (t : Nd) : okN t -> ∀ i, (stT t i).length <= bnd i (Qs t) /\ (inT t i).length <= (6 * (i + Qs t) + 100) * (Qs t - 1) := by
 induction t using Nd.ind with
 | h k n m ks ih =>
 intro hok0 i
 have hsim := simT_len (.mk k n m ks) hok0
 have hok := hok0
 rw [okN] at hok
 have hn := Zy hok.1.2.1
 rw [Qs] at hsim ⊢
 have hin : (stTs ks (i + 1)).length <= (6 * (i + (1 + QC ks)) + 100) * QC ks := by
  refine stTs_len ks (i + 1) fun x hx => ?_
  refine Nat.le_trans (ih x hx (WY hok.2 hx) (i + 1)).1 (Nat.mul_le_mul ?_ (Nat.le_refl _))
  have := Wz hx; omega
 have hC : (6 * (i + (1 + QC ks)) + 100) * (1 + QC ks) = (6 * (i + (1 + QC ks)) + 100) + (6 * (i + (1 + QC ks)) + 100) * QC ks := by rw [Nat.mul_add, Nat.mul_one]
 have hex : ∀ x ∈ ks, (exT x).length <= (6 * (i + (1 + QC ks)) + 100) * Qs x := fun x hx => by
  have := exs_len hok.2 x hx
  have : 60 * Qs x <= (6 * (i + (1 + QC ks)) + 100) * Qs x := Nat.mul_le_mul (by omega) (Nat.le_refl _)
  omega
 have hib : ∀ x ∈ ks, (inT x i).length <= (6 * (i + (1 + QC ks)) + 100) * Qs x := fun x hx => by
  refine Nat.le_trans (ih x hx (WY hok.2 hx) i).2 (Nat.mul_le_mul ?_ (by omega))
  have := Wz hx; omega
 have h60 : 60 * (1 + QC ks) <= 60 + (6 * (i + (1 + QC ks)) + 100) * QC ks := by
  have : 60 * QC ks <= (6 * (i + (1 + QC ks)) + 100) * QC ks := Nat.mul_le_mul (by omega) (Nat.le_refl _)
  omega
 have h2 : ks.length = 2 -> ((6 * (i + (1 + QC ks)) + 100) * Qs (ks.getD 0 (.mk 0 0 0 [])) + (6 * (i + (1 + QC ks)) + 100) * Qs (ks.getD 1 (.mk 0 0 0 []))) <= (6 * (i + (1 + QC ks)) + 100) * QC ks := fun h => by
  match ks, h with
  | [a, b], _ =>
   rw [<- Nat.mul_add]
   refine Nat.mul_le_mul (Nat.le_refl _) ?_
   show Qs a + Qs b <= _
   rw [QC, QC, QC]; omega
 have h3 : ks.length = 3 -> ((6 * (i + (1 + QC ks)) + 100) * Qs (ks.getD 0 (.mk 0 0 0 [])) + (6 * (i + (1 + QC ks)) + 100) * Qs (ks.getD 1 (.mk 0 0 0 [])) + (6 * (i + (1 + QC ks)) + 100) * Qs (ks.getD 2 (.mk 0 0 0 []))) <= (6 * (i + (1 + QC ks)) + 100) * QC ks := fun h => by
  match ks, h with
  | [a, b, c], _ =>
   rw [<- Nat.mul_add, <- Nat.mul_add]
   refine Nat.mul_le_mul (Nat.le_refl _) ?_
   show Qs a + Qs b + Qs c <= _
   rw [QC, QC, QC, QC]; omega
 have gx : ∀ j, j < ks.length -> ((ks.map exT).getD j []).length <= (6 * (i + (1 + QC ks)) + 100) * Qs (ks.getD j (.mk 0 0 0 [])) := fun j hj => by
  have := getD_map_le hex j hj
  rwa [List.getD_eq_getElem?_getD (l := ks), List.getElem?_eq_getElem hj]
 have gi : ∀ j, j < ks.length -> ((inTs ks i).getD j []).length <= (6 * (i + (1 + QC ks)) + 100) * Qs (ks.getD j (.mk 0 0 0 [])) := fun j hj => by
  rw [inTs_eq]
  have := getD_map_le hib j hj
  rwa [List.getD_eq_getElem?_getD (l := ks), List.getElem?_eq_getElem hj]
 refine ⟨?_, ?_⟩
 ·rw [stT]
  unfold bnd
  rw [hC]
  generalize (6 * (i + (1 + QC ks)) + 100) * QC ks = W at *
  clear ih hex hib hok hok0
  split
  ·split
   ·simp only [List.length_append, Wc, List.length_cons, List.length_nil]; omega
   ·simp only [List.length_append, Wc, List.length_cons, List.length_nil]; omega
  split
  ·rename_i h
   have hl : ks.length = 3 := by have := h.2; simp [WX, QU] at this; omega
   have e0 := gx 0 (by omega)
   have e1 := gi 1 (by omega)
   have e2 := gi 2 (by omega)
   have := h3 hl
   simp only [List.length_append, Wc, List.length_cons, List.length_nil]; omega
  split
  ·rename_i h
   have hl : ks.length = 2 := by have := h.2; simp [WX, QU] at this; omega
   have e0 := gx 0 (by omega)
   have e1 := gi 1 (by omega)
   have := h2 hl
   simp only [List.length_append, Wc, List.length_cons, List.length_nil]; omega
  split
  ·rename_i h
   have hl : ks.length = 2 := by have := h.2; simp [QU] at this; omega
   have e0 := gi 0 (by omega)
   have e1 := gi 1 (by omega)
   have := h2 hl
   simp only [List.length_append, Wc, List.length_cons, List.length_nil]; omega
  ·rw [Wc]; omega
 ·rw [inT]
  split
  ·rw [Nat.add_sub_cancel_left]; exact hin
  ·simp
def funT : Nd -> List UInt8
 | .mk k n m ks =>
  if (decide (k = 26) && decide (0 < ks.length) && QU m ks.length (-1)) = true then
   ZZ 0 ([102, 117, 110, 32] ++ Lib.itoa n ++ [32, 40] ++ Zp ((ks.take (ks.length - 1)).map typT) ++ [41, 32, 123]) ++ (inT (ks.getD (ks.length - 1) (.mk 0 0 0 [])) 0 ++ ZZ 0 sClose)
  else []
def qN : Nd -> Bool
 | .mk k n m ks => decide (k = 26) && decide (0 < ks.length) && QU m ks.length (-1) && Zf n && (ks.take (ks.length - 1)).all typOk && inOk (ks.getD (ks.length - 1) (.mk 0 0 0 []))
def prT : Nd -> List UInt8
 | .mk k n m ks =>
  if k = 27 then ZZ 0 ([112, 114, 111, 103, 114, 97, 109, 32] ++ Lib.itoa n) ++ (ks.map funT).flatten else
  if k = 26 then funT (.mk k n m ks) else if 0 <= k /\ k <= 3 then typT (.mk k n m ks) else if 4 <= k /\ k <= 12 then exT (.mk k n m ks) else stT (.mk k n m ks) 0
def prOk : Nd -> Bool
 | .mk k n m ks =>
  if k = 27 then QU m ks.length (-1) && Zf n && ks.all qN else
  if k = 26 then qN (.mk k n m ks) else if 0 <= k /\ k <= 3 then typOk (.mk k n m ks) else if 4 <= k /\ k <= 12 then qg (.mk k n m ks) else stOk (.mk k n m ks)
def WW (t : Nd) : List UInt8 := if prOk t = true then prT t else []
theorem qt (f : Nd -> List UInt8) {M : Nat} (ks : List Nd) (j : Nat) (h : ∀ x ∈ ks, (f x).length + 2 <= M * Qs x) : (Zp ((ks.take j).map f)).length <= M * QC (ks.take j) := qh f _ fun x hx => h x (List.mem_of_mem_take hx)
theorem sizeL_last {ks : List Nd} (h : 0 < ks.length) : QC (ks.take (ks.length - 1)) + Qs (ks.getD (ks.length - 1) (.mk 0 0 0 [])) = QC ks := by
 have h1 := qx ks (ks.length - 1) (by omega)
 rw [show ks.length - 1 + 1 = ks.length by omega, List.take_length] at h1
 rw [List.getD_eq_getElem?_getD, List.getElem?_eq_getElem (show ks.length - 1 < ks.length by omega)]
 exact h1.symm
theorem last_mem {ks : List Nd} (h : 0 < ks.length) : ks.getD (ks.length - 1) (.mk 0 0 0 []) ∈ ks := by
 rw [List.getD_eq_getElem?_getD, List.getElem?_eq_getElem (show ks.length - 1 < ks.length by omega)]
 exact List.getElem_mem _
theorem funT_len (t : Nd) (hok : okN t) (hs : Qs t <= 1000000) : (funT t).length <= 7000000 * Qs t := by
 obtain ⟨k, n, m, ks⟩ := t
 rw [okN] at hok
 rw [Qs] at hs ⊢
 have hn := Zy hok.1.2.1
 rw [funT]
 split
 ·rename_i h
  have hk : 0 < ks.length := by simp at h; omega
  have hl := sizeL_last hk
  have hb := (st_len _ (WY hok.2 (last_mem hk)) 0).2
  have hc := qt typT (M := 30) ks (ks.length - 1) fun x hx => typT_len x (WY hok.2 hx)
  generalize ks.getD (ks.length - 1) (.mk 0 0 0 []) = b at *
  have hb2 : (6 * (0 + Qs b) + 100) * (Qs b - 1) <= 7000000 * (Qs b - 1) := Nat.mul_le_mul (by omega) (Nat.le_refl _)
  simp only [List.length_append, Wc, List.length_cons, List.length_nil]
  omega
 ·simp
theorem funs_len : ∀ (ks : List Nd), okL ks -> QC ks <= 1000000 -> ((ks.map funT).flatten).length <= 7000000 * QC ks
 | [], _, _ => by simp
 | x :: r, h, hs => by
  rw [okL] at h
  rw [QC] at hs
  have h1 := funT_len x h.1 (by omega)
  have h2 := funs_len r h.2 (by omega)
  rw [List.map_cons, List.flatten_cons, List.length_append, QC, Nat.mul_add]; omega
theorem flatten_take {ks : List Nd} {j : Nat} (f : Nd -> List UInt8) (h : j < ks.length) : ((ks.take (j + 1)).map f).flatten = ((ks.take j).map f).flatten ++ f ks[j] := by
 rw [List.take_succ_eq_append_getElem h, List.map_append, List.flatten_append]; simp
abbrev Tok := List UInt8
def WN : List (List Tok) -> List Tok
 | [] => []
 | [x] => x
 | x :: y :: r => x ++ [44] :: WN (y :: r)
mutual
def typK : Nd -> List Tok
 | .mk k n m ks => if k = 0 then [wInt] else if k = 1 then [wBool] else if k = 2 then [wArr, Lib.itoa n] else wRec :: [40] :: (WN (typKs ks) ++ [[41]])
def typKs : List Nd -> List (List Tok)
 | [] => []
 | x :: r => typK x :: typKs r
end
theorem typKs_eq : ∀ ks, typKs ks = ks.map typK
 | [] => rfl
 | x :: r => by rw [typKs, typKs_eq r]; rfl
mutual
def exK : Nd -> List Tok
 | .mk k n m ks =>
  if k = 4 then (if n < 0 then [[45], Lib.itoa (-n)] else [Lib.itoa n]) else if k = 5 then (if n = 1 then [wTrue] else [wFalse]) else if k = 6 then [118 :: Lib.itoa n] else
  if k = 7 then (118 :: Lib.itoa n) :: [91] :: (WN (exKs ks) ++ [[93]]) else if k = 8 then [118 :: Lib.itoa n, [46], Lib.itoa m] else
  if k = 9 then [40] :: ((exKs ks).getD 0 [] ++ opTexts.getD n.toNat [] :: ((exKs ks).getD 1 [] ++ [[41]])) else
  if k = 10 then [33] :: WN (exKs ks) else if k = 11 then (102 :: Lib.itoa n) :: [40] :: (WN (exKs ks) ++ [[41]]) else [wRecv, 99 :: Lib.itoa n]
def exKs : List Nd -> List (List Tok)
 | [] => []
 | x :: r => exK x :: exKs r
end
theorem exKs_eq : ∀ ks, exKs ks = ks.map exK
 | [] => rfl
 | x :: r => by rw [exKs, exKs_eq r]; rfl
def simK : Nd -> List Tok
 | .mk k n m ks =>
  if k = 14 then (118 :: Lib.itoa n) :: [61] :: WN (ks.map exK) else
  if k = 15 then (118 :: Lib.itoa n) :: [91] :: ((ks.map exK).getD 0 [] ++ [93] :: [61] :: (ks.map exK).getD 1 []) else
  if k = 16 then (118 :: Lib.itoa n) :: [46] :: Lib.itoa m :: [61] :: WN (ks.map exK) else
  if k = 19 then wReturn :: WN (ks.map exK) else
  if k = 20 then wThrow :: WN (ks.map exK) else
  if k = 24 then wOut :: WN (ks.map exK) else
  if k = 25 then [wSkip] else
  if k = 22 then wSend :: (99 :: Lib.itoa n) :: WN (ks.map exK) else wSpawn :: (102 :: Lib.itoa n) :: [40] :: (WN (ks.map exK) ++ [[41]])
mutual
def stK : Nd -> List Tok
 | .mk k n m ks =>
  if k = 13 then [123] :: (stsK ks ++ [[125]]) else
  if k = 17 then wIf :: ((ks.map exK).getD 0 [] ++ [123] :: ((insK ks).getD 1 [] ++ [125] :: wElse :: [123] :: ((insK ks).getD 2 [] ++ [[125]]))) else
  if k = 18 then wWhile :: ((ks.map exK).getD 0 [] ++ [123] :: ((insK ks).getD 1 [] ++ [[125]])) else
  if k = 21 then wTry :: [123] :: ((insK ks).getD 0 [] ++ [125] :: qj :: (118 :: Lib.itoa n) :: [123] :: ((insK ks).getD 1 [] ++ [[125]])) else simK (.mk k n m ks)
def stsK : List Nd -> List Tok
 | [] => []
 | x :: r => stK x ++ stsK r
def inK : Nd -> List Tok
 | .mk k n m ks => stsK ks
def insK : List Nd -> List (List Tok)
 | [] => []
 | x :: r => inK x :: insK r
end
theorem insK_eq : ∀ ks, insK ks = ks.map inK
 | [] => rfl
 | x :: r => by rw [insK, insK_eq r]; rfl
def funK : Nd -> List Tok
 | .mk k n m ks => wFun :: Lib.itoa n :: [40] :: (WN ((ks.take (ks.length - 1)).map typK) ++ [41] :: [123] :: (inK (ks.getD (ks.length - 1) (.mk 0 0 0 [])) ++ [[125]]))
def progK : Nd -> List Tok
 | .mk k n m ks => ZK :: Lib.itoa n :: (ks.map funK).flatten
def d3 (n : Nat) : List UInt8 := if n < 10 then [UInt8.ofNat (48 + n)] else if n < 100 then [UInt8.ofNat (48 + n / 10), UInt8.ofNat (48 + n % 10)] else [UInt8.ofNat (48 + n / 100), UInt8.ofNat (48 + n / 10 % 10), UInt8.ofNat (48 + n % 10)]
theorem dec_d3 {n : Nat} (h : n <= 999) : Lib.decDigits n = d3 n := by
 unfold d3
 by_cases h1 : n < 10
 ·rw [if_pos h1, Lib.decDigits, dif_pos h1]
 rw [if_neg h1, Lib.decDigits, dif_neg h1]
 by_cases h2 : n < 100
 ·rw [if_pos h2, Lib.decDigits, dif_pos (show n / 10 < 10 by omega)]; rfl
 ·rw [if_neg h2, Lib.decDigits, dif_neg (show ¬ n / 10 < 10 by omega), Lib.decDigits, dif_pos (show n / 10 / 10 < 10 by omega), show n / 10 / 10 = n / 100 by omega]; rfl
theorem d3_all : ∀ n : Fin 1000, qH (d3 n.val) = true /\ valM (d3 n.val) = n.val := by decide +kernel
theorem Wx {n : Int} (h : Zf n = true) : qH (Lib.itoa n) = true /\ valM (Lib.itoa n) = n := by
 have h : 0 <= n /\ n <= 999 := by simpa [Zf] using h
 have e : Lib.itoa n = Lib.decDigits n.toNat := by unfold Lib.itoa; rw [if_neg (by omega)]
 have := d3_all ⟨n.toNat, by omega⟩
 rw [e, dec_d3 (by omega)]
 refine ⟨this.1, this.2.trans ?_⟩
 show ((n.toNat : Nat) : Int) = n
 omega
theorem itoa_neg {n : Int} (h : n < 0) : Lib.itoa n = 45 :: Lib.itoa (-n) := by
 unfold Lib.itoa
 rw [if_pos h, if_neg (by omega), show n.natAbs = (-n).toNat by omega]
/-! Texts in front of texts. -/
theorem Zu {b : UInt8} {r : List UInt8} {ts : List Tok} (hb : spB b = true) (h : Z1 r ts) : Z1 (b :: r) ts := fun a => by
 have hd : (b :: r).dropWhile spB = r.dropWhile spB := by rw [List.dropWhile_cons, if_pos hb]
 have hl : (r.dropWhile spB).length <= r.length := (List.dropWhile_sublist _).length_le
 obtain ⟨h1, h2⟩ := h (a + 1)
 by_cases hf : W0 (r.dropWhile spB) = []
 ·rw [scan_nil hf] at h1 h2
  rw [scan_nil (by rw [hd]; exact hf), hd]
  refine ⟨h1, ?_⟩
  simp only [List.length_cons] at h2 ⊢; omega
 ·have e : a + ((b :: r).length - (r.dropWhile spB).length) = a + 1 + (r.length - (r.dropWhile spB).length) := by rw [List.length_cons]; omega
  rw [scan_cons rfl rfl hf rfl] at h1 h2
  rw [scan_cons hd rfl hf rfl, e]
  refine ⟨h1, ?_⟩
  simp only [List.length_cons] at h2 ⊢; omega
theorem qr {c : UInt8} {r : List UInt8} {ts : List Tok} (hc : [40, 41, 123, 125, 91, 93, 44, 46, 43, 45, 42, 47, 37, 94, 33].contains c = true) (h : Z1 r ts) : Z1 (c :: r) ([c] :: ts) := lex_cons (sp := []) (t := [c]) rfl (by simp) (first_sign1 c r hc) h
theorem lex_sg {t : Tok} {b : UInt8} {r : List UInt8} {ts : List Tok} (hb : spB b = true) (ht : t ∈ signsT) (h : Z1 r ts) : Z1 (t ++ b :: r) (t :: ts) :=
 lex_cons (sp := []) rfl (by have := signs_le ht; rintro rfl; simp at this) (first_signs t r b hb ht) (Zu hb h)
theorem Zi {w r : List UInt8} {ts : List Tok} (hw : (letB (w.getD 0 0) && w.all (fun b => digB b || letB b)) = true) (hr : Nx r) (h : Z1 r ts) : Z1 (w ++ r) (w :: ts) := by
 simp only [Bool.and_eq_true] at hw
 have hne : w ≠ [] := by rintro rfl; exact absurd hw.1 (by decide)
 exact lex_cons (sp := []) rfl hne (first_word hne hw.1 hw.2 hr) h
theorem lex_num {w r : List UInt8} {ts : List Tok} (hw : qH w = true) (hr : Nx r) (h : Z1 r ts) : Z1 (w ++ r) (w :: ts) := lex_cons (sp := []) rfl (num_dig hw).1 (first_num hw hr) h
theorem lex_vn {c : UInt8} {w r : List UInt8} {ts : List Tok} (hc : letB c = true) (hw : qH w = true) (hr : Nx r) (h : Z1 r ts) : Z1 (c :: (w ++ r)) ((c :: w) :: ts) := by
 refine Zi (w := c :: w) ?_ hr h
 have := (num_dig hw).2
 rw [List.all_eq_true] at this
 simp only [List.getD_cons_zero, hc, Bool.true_and, List.all_cons, Bool.or_true, List.all_eq_true]
 intro x hx; rw [this x hx]; rfl
def Cx (s : List UInt8) (k : List Tok) : Prop := ∀ r ts, Nx r -> Z1 r ts -> Z1 (s ++ r) (k ++ ts)
theorem lex_commas (f : Nd -> List UInt8) (fK : Nd -> List Tok) : ∀ ks : List Nd, (∀ x ∈ ks, Cx (f x) (fK x)) -> Cx (Zp (ks.map f)) (WN (ks.map fK))
 | [], _ => fun r ts _ h => h
 | [x], hx => fun r ts hr h => by
  show Z1 (Lib.join [f x] comma ++ r) (fK x ++ ts)
  rw [Lib.join_one]
  exact hx x (by simp) r ts hr h
 | x :: y :: q, hx => fun r ts hr h => by
  have hc : Zp ((x :: y :: q).map f) = f x ++ comma ++ Zp ((y :: q).map f) := by
   show Lib.join (f x :: f y :: q.map f) comma = f x ++ comma ++ Lib.join (f y :: q.map f) comma
   rw [Lib.join_cons, Lib.join_cons]
   simp [Lib.joinTail]
  have hk : WN ((x :: y :: q).map fK) = fK x ++ [44] :: WN ((y :: q).map fK) := rfl
  have ih := lex_commas f fK (y :: q) (fun z hz => hx z (by simp [hz])) r ts hr h
  rw [hc, hk, List.append_assoc, List.append_assoc, List.append_assoc]
  exact hx x (by simp) _ _ (WQ rfl) (qr (c := 44) rfl (Zu (b := 32) rfl ih))
theorem lex_typ (t : Nd) : typOk t = true -> Cx (typT t) (typK t) := by
 induction t using Nd.ind with
 | h k n m ks ih =>
 intro hok r ts hr h
 rw [typOk, typOks_eq] at hok
 rw [typT, typK, typTs_eq, typKs_eq]
 by_cases k0 : k = 0
 ·rw [if_pos k0, if_pos k0]; exact Zi (w := wInt) rfl hr h
 by_cases k1 : k = 1
 ·rw [if_neg k0, if_neg k0, if_pos k1, if_pos k1]; exact Zi (w := wBool) rfl hr h
 rw [if_neg (by omega)] at hok
 rw [if_neg k0, if_neg k0, if_neg k1, if_neg k1]
 by_cases k2 : k = 2
 ·rw [if_pos k2] at hok ⊢
  rw [if_pos k2]
  simp only [Bool.and_eq_true] at hok
  have hn := (Wx hok.2).1
  rw [List.append_assoc]
  exact Zi (w := wArr) rfl (WQ rfl) (Zu (b := 32) rfl (lex_num hn hr h))
 rw [if_neg k2] at hok ⊢
 rw [if_neg k2]
 by_cases k3 : k = 3
 ·rw [if_pos k3] at hok ⊢
  simp only [Bool.and_eq_true, List.all_eq_true] at hok
  have hc := lex_commas typT typK ks (fun x hx => ih x hx (hok.2 x hx)) (41 :: r) ([41] :: ts) (WQ rfl) (qr rfl h)
  simp only [List.append_assoc, List.cons_append, List.nil_append] at hc ⊢
  exact Zi (w := wRec) rfl (WQ rfl) (Zu (b := 32) rfl (qr (c := 40) rfl hc))
 ·rw [if_neg k3] at hok; cases hok
theorem lex_op {n : Int} (h0 : 0 <= n) (h1 : n < 14) {r : List UInt8} {ts : List Tok} (h : Z1 r ts) : Z1 (opTexts.getD n.toNat [] ++ 32 :: r) (opTexts.getD n.toNat [] :: ts) := by
 refine lex_sg (b := 32) rfl ?_ h
 have : ∀ i : Fin 14, opTexts.getD i.val [] ∈ signsT := by decide
 exact this ⟨n.toNat, by omega⟩
theorem lex_ex (t : Nd) : qg t = true -> Cx (exT t) (exK t) := by
 induction t using Nd.ind with
 | h k n m ks ih =>
 intro hok r ts hr h
 rw [qg, exOks_eq] at hok
 rw [exT, exK, exTs_eq, exKs_eq]
 have hcs : ks.all qg = true -> Cx (Zp (ks.map exT)) (WN (ks.map exK)) := fun ha => by
  rw [List.all_eq_true] at ha
  exact lex_commas exT exK ks fun x hx => ih x hx (ha x hx)
 by_cases k4 : k = 4
 ·rw [if_pos k4] at hok ⊢
  rw [if_pos k4]
  simp only [Bool.and_eq_true] at hok
  by_cases hn : n < 0
  ·rw [if_pos hn, itoa_neg hn]
   rw [if_pos hn] at hok
   have hs : Zf (-n) = true := by simp [Zf]; simp at hok; omega
   exact qr (c := 45) rfl (lex_num (Wx hs).1 hr h)
  ·rw [if_neg hn] at hok ⊢
   exact lex_num (Wx hok.2).1 hr h
 rw [if_neg k4] at hok ⊢
 rw [if_neg k4]
 by_cases k5 : k = 5
 ·rw [if_pos k5, if_pos k5]
  by_cases hn : n = 1
  ·rw [if_pos hn, if_pos hn]; exact Zi (w := wTrue) rfl hr h
  ·rw [if_neg hn, if_neg hn]; exact Zi (w := wFalse) rfl hr h
 rw [if_neg k5] at hok ⊢
 rw [if_neg k5]
 by_cases k6 : k = 6
 ·rw [if_pos k6] at hok ⊢
  rw [if_pos k6]
  simp only [Bool.and_eq_true] at hok
  exact lex_vn (c := 118) rfl (Wx hok.2).1 hr h
 rw [if_neg k6] at hok ⊢
 rw [if_neg k6]
 by_cases k7 : k = 7
 ·rw [if_pos k7] at hok ⊢
  rw [if_pos k7]
  simp only [Bool.and_eq_true] at hok
  have hc := hcs hok.2 (93 :: r) ([93] :: ts) (WQ rfl) (qr rfl h)
  simp only [List.append_assoc, List.cons_append, List.nil_append] at hc ⊢
  exact lex_vn (c := 118) rfl (Wx hok.1.2).1 (WQ rfl) (qr (c := 91) rfl hc)
 rw [if_neg k7] at hok ⊢
 rw [if_neg k7]
 by_cases k8 : k = 8
 ·rw [if_pos k8] at hok ⊢
  rw [if_pos k8]
  simp only [Bool.and_eq_true] at hok
  simp only [List.append_assoc, List.cons_append, List.nil_append]
  exact lex_vn (c := 118) rfl (Wx hok.1.2).1 (WQ rfl) (qr (c := 46) rfl (lex_num (Wx hok.2).1 hr h))
 rw [if_neg k8] at hok ⊢
 rw [if_neg k8]
 by_cases k9 : k = 9
 ·rw [if_pos k9] at hok ⊢
  rw [if_pos k9]
  simp only [Bool.and_eq_true] at hok
  rw [if_pos (by simp [hok.1.1, hok.1.2])]
  have h2 : ks.length = 2 := by have := hok.1.1; simp [QU] at this; omega
  match ks, h2 with
  | [x, y], _ =>
   have ha := hok.2
   simp only [List.all_cons, List.all_nil, Bool.and_true, Bool.and_eq_true] at ha
   have hx := ih x (by simp) ha.1
   have hy := ih y (by simp) ha.2
   simp only [decide_eq_true_eq] at hok
   simp only [List.map_cons, List.map_nil, List.getD_cons_zero, List.getD_cons_succ, List.append_assoc, List.cons_append, List.nil_append]
   exact qr (c := 40) rfl (hx _ _ (WQ rfl) (Zu (b := 32) rfl (lex_op hok.1.2.1 hok.1.2.2 (hy _ _ (WQ rfl) (qr (c := 41) rfl h)))))
 rw [if_neg k9] at hok ⊢
 rw [if_neg k9]
 by_cases k10 : k = 10
 ·rw [if_pos k10] at hok ⊢
  rw [if_pos k10]
  simp only [Bool.and_eq_true] at hok
  exact qr (c := 33) rfl (hcs hok.2 r ts hr h)
 rw [if_neg k10] at hok ⊢
 rw [if_neg k10]
 by_cases k11 : k = 11
 ·rw [if_pos k11] at hok ⊢
  rw [if_pos k11]
  simp only [Bool.and_eq_true] at hok
  have hc := hcs hok.2 (41 :: r) ([41] :: ts) (WQ rfl) (qr rfl h)
  simp only [List.append_assoc, List.cons_append, List.nil_append] at hc ⊢
  exact lex_vn (c := 102) rfl (Wx hok.1.2).1 (WQ rfl) (qr (c := 40) rfl hc)
 rw [if_neg k11] at hok ⊢
 rw [if_neg k11]
 by_cases k12 : k = 12
 ·rw [if_pos k12] at hok ⊢
  simp only [Bool.and_eq_true] at hok
  exact Zi (w := wRecv) rfl (WQ rfl) (Zu (b := 32) rfl (lex_vn (c := 99) rfl (Wx hok.2).1 hr h))
 ·rw [if_neg k12] at hok; cases hok
theorem lex_exs {ks : List Nd} (ha : ks.all qg = true) : Cx (Zp (ks.map exT)) (WN (ks.map exK)) := by
 rw [List.all_eq_true] at ha
 exact lex_commas exT exK ks fun x hx => lex_ex x (ha x hx)
theorem lex_eq {r : List UInt8} {ts : List Tok} (h : Z1 r ts) : Z1 (61 :: 32 :: r) ([61] :: ts) := lex_sg (t := [61]) (b := 32) rfl (by decide) h
theorem lex_sim (t : Nd) : simOk t = true -> Cx (simT t) (simK t) := by
 obtain ⟨k, n, m, ks⟩ := t
 intro hok r ts hr h
 rw [simOk] at hok
 rw [simT, simK]
 by_cases k14 : k = 14
 ·rw [if_pos k14] at hok ⊢
  rw [if_pos k14]
  simp only [Bool.and_eq_true] at hok
  rw [if_pos hok.1.1]
  simp only [List.append_assoc, List.cons_append, List.nil_append]
  exact lex_vn (c := 118) rfl (Wx hok.1.2).1 (WQ rfl) (Zu (b := 32) rfl (lex_eq (lex_exs hok.2 r ts hr h)))
 rw [if_neg k14] at hok ⊢
 rw [if_neg k14]
 by_cases k15 : k = 15
 ·rw [if_pos k15] at hok ⊢
  rw [if_pos k15]
  simp only [Bool.and_eq_true] at hok
  rw [if_pos hok.1.1]
  have h2 : ks.length = 2 := by have := hok.1.1; simp [QU] at this; omega
  match ks, h2 with
  | [x, y], _ =>
   have ha := hok.2
   simp only [List.all_cons, List.all_nil, Bool.and_true, Bool.and_eq_true] at ha
   simp only [List.map_cons, List.map_nil, List.getD_cons_zero, List.getD_cons_succ, List.append_assoc, List.cons_append, List.nil_append]
   exact lex_vn (c := 118) rfl (Wx hok.1.2).1 (WQ rfl) (qr (c := 91) rfl (lex_ex x ha.1 _ _ (WQ rfl) (qr (c := 93) rfl (Zu (b := 32) rfl (lex_eq (lex_ex y ha.2 r ts hr h))))))
 rw [if_neg k15] at hok ⊢
 rw [if_neg k15]
 by_cases k16 : k = 16
 ·rw [if_pos k16] at hok ⊢
  rw [if_pos k16]
  simp only [Bool.and_eq_true, decide_eq_true_eq] at hok
  rw [if_pos hok.1.1.1]
  simp only [List.append_assoc, List.cons_append, List.nil_append]
  exact lex_vn (c := 118) rfl (Wx hok.1.1.2).1 (WQ rfl) (qr (c := 46) rfl (lex_num (Wx hok.1.2).1 (WQ rfl) (Zu (b := 32) rfl (lex_eq (lex_exs hok.2 r ts hr h)))))
 rw [if_neg k16] at hok ⊢
 rw [if_neg k16]
 by_cases k19 : k = 19
 ·rw [if_pos k19] at hok ⊢
  rw [if_pos k19]
  simp only [Bool.and_eq_true] at hok
  rw [if_pos hok.1]
  exact Zi (w := wReturn) rfl (WQ rfl) (Zu (b := 32) rfl (lex_exs hok.2 r ts hr h))
 rw [if_neg k19] at hok ⊢
 rw [if_neg k19]
 by_cases k20 : k = 20
 ·rw [if_pos k20] at hok ⊢
  rw [if_pos k20]
  simp only [Bool.and_eq_true] at hok
  rw [if_pos hok.1]
  exact Zi (w := wThrow) rfl (WQ rfl) (Zu (b := 32) rfl (lex_exs hok.2 r ts hr h))
 rw [if_neg k20] at hok ⊢
 rw [if_neg k20]
 by_cases k24 : k = 24
 ·rw [if_pos k24] at hok ⊢
  rw [if_pos k24]
  simp only [Bool.and_eq_true] at hok
  rw [if_pos hok.1]
  exact Zi (w := wOut) rfl (WQ rfl) (Zu (b := 32) rfl (lex_exs hok.2 r ts hr h))
 rw [if_neg k24] at hok ⊢
 rw [if_neg k24]
 by_cases k25 : k = 25
 ·rw [if_pos k25] at hok ⊢
  rw [if_pos k25]
  rw [if_pos hok]
  exact Zi (w := wSkip) rfl hr h
 rw [if_neg k25] at hok ⊢
 rw [if_neg k25]
 by_cases k22 : k = 22
 ·rw [if_pos k22] at hok ⊢
  rw [if_pos k22]
  simp only [Bool.and_eq_true] at hok
  rw [if_pos hok.1.1]
  simp only [List.append_assoc, List.cons_append, List.nil_append]
  exact Zi (w := wSend) rfl (WQ rfl) (Zu (b := 32) rfl (lex_vn (c := 99) rfl (Wx hok.1.2).1 (WQ rfl) (Zu (b := 32) rfl (lex_exs hok.2 r ts hr h))))
 rw [if_neg k22] at hok ⊢
 rw [if_neg k22]
 by_cases k23 : k = 23
 ·rw [if_pos k23] at hok ⊢
  simp only [Bool.and_eq_true] at hok
  rw [if_pos hok.1.1]
  have hc := lex_exs hok.2 (41 :: r) ([41] :: ts) (WQ rfl) (qr rfl h)
  simp only [List.append_assoc, List.cons_append, List.nil_append] at hc ⊢
  exact Zi (w := wSpawn) rfl (WQ rfl) (Zu (b := 32) rfl (lex_vn (c := 102) rfl (Wx hok.1.2).1 (WQ rfl) (qr (c := 40) rfl hc)))
 ·rw [if_neg k23] at hok; cases hok
theorem lex_ind : ∀ (i : Nat) {r : List UInt8} {ts : List Tok}, Z1 r ts -> Z1 (Lib.repeatL [32, 32] i ++ r) ts
 | 0, r, ts, h => h
 | i + 1, r, ts, h => Zu (b := 32) rfl (Zu (b := 32) rfl (lex_ind i h))
theorem ZT {s : List UInt8} {k : List Tok} (hs : Cx s k) (i : Nat) {r : List UInt8} {ts : List Tok} (h : Z1 r ts) : Z1 (ZZ i s ++ r) (k ++ ts) := by
 unfold ZZ
 rw [List.append_assoc, List.append_assoc]
 exact lex_ind i (hs _ _ (WQ rfl) (Zu (b := 10) rfl h))
theorem cx_open : Cx sOpen [[123]] := fun r ts _ h => qr (c := 123) rfl h
theorem cx_close : Cx sClose [[125]] := fun r ts _ h => qr (c := 125) rfl h
theorem cx_else : Cx sElse [[125], wElse, [123]] := fun r ts _ h => qr (c := 125) rfl (Zu (b := 32) rfl (Zi (w := wElse) rfl (WQ rfl) (Zu (b := 32) rfl (qr (c := 123) rfl h))))
theorem cx_try : Cx sTry [wTry, [123]] := fun r ts _ h => Zi (w := wTry) rfl (WQ rfl) (Zu (b := 32) rfl (qr (c := 123) rfl h))
theorem cx_if {s : List UInt8} {k : List Tok} (hs : Cx s k) : Cx (sIf ++ s ++ sBr) (wIf :: (k ++ [[123]])) := fun r ts _ h => by
 have := Zi (w := wIf) rfl (WQ rfl) (Zu (b := 32) rfl (hs _ _ (WQ rfl) (Zu (b := 32) rfl (qr (c := 123) rfl h))))
 simpa only [List.append_assoc, List.cons_append, List.nil_append] using this
theorem cx_while {s : List UInt8} {k : List Tok} (hs : Cx s k) : Cx (sWhile ++ s ++ sBr) (wWhile :: (k ++ [[123]])) := fun r ts _ h => by
 have := Zi (w := wWhile) rfl (WQ rfl) (Zu (b := 32) rfl (hs _ _ (WQ rfl) (Zu (b := 32) rfl (qr (c := 123) rfl h))))
 simpa only [List.append_assoc, List.cons_append, List.nil_append] using this
theorem cx_catch {n : Int} (hn : Zf n = true) : Cx (sCatch ++ Lib.itoa n ++ sBr) [[125], qj, 118 :: Lib.itoa n, [123]] := fun r ts _ h => by
 rw [List.append_assoc, List.append_assoc]
 exact qr (c := 125) rfl (Zu (b := 32) rfl (Zi (w := qj) rfl (WQ rfl) (Zu (b := 32) rfl (lex_vn (c := 118) rfl (Wx hn).1 (WQ rfl) (Zu (b := 32) rfl (qr (c := 123) rfl h))))))
def Cs (s : Nat -> List UInt8) (k : List Tok) : Prop := ∀ i r ts, Z1 r ts -> Z1 (s i ++ r) (k ++ ts)
theorem lex_st (t : Nd) : (stOk t = true -> Cs (stT t) (stK t)) /\ (inOk t = true -> Cs (inT t) (inK t)) := by
 induction t using Nd.ind with
 | h k n m ks ih =>
 have hsts : ∀ ks : List Nd, (∀ x ∈ ks, stOk x = true -> Cs (stT x) (stK x)) -> qG ks = true -> Cs (stTs ks) (stsK ks) := by
  intro ks
  induction ks with
  | nil => intro _ _ i r ts h; exact h
  | cons x q ihq =>
   intro hx ho i r ts h
   rw [qG] at ho
   simp only [Bool.and_eq_true] at ho
   rw [stTs, stsK, List.append_assoc, List.append_assoc]
   exact hx x (by simp) ho.1 i _ _ (ihq (fun y hy => hx y (by simp [hy])) ho.2 i r ts h)
 have hkid := hsts ks fun x hx => (ih x hx).1
 constructor
 ·intro hok i r ts h
  rw [stOk, inOks_eq] at hok
  rw [stT, stK, inTs_eq, insK_eq]
  by_cases k13 : k = 13
  ·rw [if_pos k13] at hok ⊢
   rw [if_pos k13]
   simp only [Bool.and_eq_true] at hok
   rw [if_pos hok.1, List.append_assoc, List.append_assoc, List.cons_append, List.append_assoc]
   exact ZT cx_open i (hkid hok.2 (i + 1) _ _ (ZT cx_close i h))
  rw [if_neg k13] at hok ⊢
  rw [if_neg k13]
  by_cases k17 : k = 17
  ·rw [if_pos k17] at hok
   simp only [Bool.and_eq_true] at hok
   rw [if_pos ⟨k17, hok.1.1.1⟩, if_pos k17]
   have h3 : ks.length = 3 := by have := hok.1.1.1; simp [WX, QU] at this; omega
   match ks, h3 with
   | [x, y, z], _ =>
    simp only [List.map_cons, List.map_nil, List.getD_cons_zero, List.getD_cons_succ] at hok ⊢
    have hy := (ih y (by simp)).2 hok.1.2
    have hz := (ih z (by simp)).2 hok.2
    have := ZT (cx_if (lex_ex x hok.1.1.2)) i (hy i _ _ (ZT cx_else i (hz i _ _ (ZT cx_close i h))))
    simpa only [List.append_assoc, List.cons_append, List.nil_append] using this
  rw [if_neg k17] at hok
  rw [if_neg (fun h => k17 h.1), if_neg k17]
  by_cases k18 : k = 18
  ·rw [if_pos k18] at hok
   simp only [Bool.and_eq_true] at hok
   rw [if_pos ⟨k18, hok.1.1⟩, if_pos k18]
   have h3 : ks.length = 2 := by have := hok.1.1; simp [WX, QU] at this; omega
   match ks, h3 with
   | [x, y], _ =>
    simp only [List.map_cons, List.map_nil, List.getD_cons_zero, List.getD_cons_succ] at hok ⊢
    have hy := (ih y (by simp)).2 hok.2
    have := ZT (cx_while (lex_ex x hok.1.2)) i (hy i _ _ (ZT cx_close i h))
    simpa only [List.append_assoc, List.cons_append, List.nil_append] using this
  rw [if_neg k18] at hok
  rw [if_neg (fun h => k18 h.1), if_neg k18]
  by_cases k21 : k = 21
  ·rw [if_pos k21] at hok
   simp only [Bool.and_eq_true] at hok
   rw [if_pos ⟨k21, hok.1.1.1⟩, if_pos k21]
   have h3 : ks.length = 2 := by have := hok.1.1.1; simp [QU] at this; omega
   match ks, h3 with
   | [x, y], _ =>
    simp only [List.map_cons, List.map_nil, List.getD_cons_zero, List.getD_cons_succ] at hok ⊢
    have hx := (ih x (by simp)).2 hok.1.2
    have hy := (ih y (by simp)).2 hok.2
    have := ZT cx_try i (hx i _ _ (ZT (cx_catch hok.1.1.2) i (hy i _ _ (ZT cx_close i h))))
    simpa only [List.append_assoc, List.cons_append, List.nil_append] using this
  rw [if_neg k21] at hok
  rw [if_neg (fun h => k21 h.1), if_neg k21]
  exact ZT (lex_sim _ hok) i h
 ·intro hok i r ts h
  rw [inOk] at hok
  simp only [Bool.and_eq_true] at hok
  rw [inT, inK, if_pos (by simp only [Bool.and_eq_true]; exact hok.1)]
  exact hkid hok.2 (i + 1) r ts h
theorem lex_fun (t : Nd) (hok : qN t = true) {r : List UInt8} {ts : List Tok} (h : Z1 r ts) : Z1 (funT t ++ r) (funK t ++ ts) := by
 obtain ⟨k, n, m, ks⟩ := t
 rw [qN] at hok
 simp only [Bool.and_eq_true] at hok
 obtain ⟨⟨⟨⟨⟨h1, h2⟩, h3⟩, h4⟩, h5⟩, h6⟩ := hok
 rw [funT, funK, if_pos (by simp only [Bool.and_eq_true]; exact ⟨⟨h1, h2⟩, h3⟩)]
 have hin := (lex_st _).2 h6
 generalize ks.getD (ks.length - 1) (.mk 0 0 0 []) = b at *
 generalize ks.take (ks.length - 1) = tl at *
 rw [List.all_eq_true] at h5
 have hc : Cx ([102, 117, 110, 32] ++ Lib.itoa n ++ [32, 40] ++ Zp (tl.map typT) ++ [41, 32, 123]) (wFun :: Lib.itoa n :: [40] :: (WN (tl.map typK) ++ [[41], [123]])) := fun r ts hr h => by
  have := lex_commas typT typK tl (fun x hx => lex_typ x (h5 x hx)) _ _ (WQ rfl) (qr (c := 41) rfl (Zu (b := 32) rfl (qr (c := 123) rfl h)))
  have := Zi (w := wFun) rfl (WQ rfl) (Zu (b := 32) rfl (lex_num (Wx h4).1 (WQ rfl) (Zu (b := 32) rfl (qr (c := 40) rfl this))))
  simpa only [List.append_assoc, List.cons_append, List.nil_append] using this
 have := ZT hc 0 (hin 0 _ _ (ZT cx_close 0 h))
 simpa only [List.append_assoc, List.cons_append, List.nil_append] using this
theorem lex_prog {n m : Int} {ks : List Nd} (hok : prOk (.mk 27 n m ks) = true) : Z1 (WW (.mk 27 n m ks)) (progK (.mk 27 n m ks)) := by
 unfold WW
 rw [if_pos hok]
 rw [prOk, if_pos rfl] at hok
 simp only [Bool.and_eq_true, List.all_eq_true] at hok
 rw [prT, if_pos rfl, progK]
 have hfs : ∀ ks : List Nd, (∀ x ∈ ks, qN x = true) -> Z1 (ks.map funT).flatten (ks.map funK).flatten := by
  intro ks
  induction ks with
  | nil => intro _; exact lex_end rfl
  | cons x q ih =>
   intro hx
   rw [List.map_cons, List.flatten_cons, List.map_cons, List.flatten_cons]
   exact lex_fun x (hx x (by simp)) (ih fun y hy => hx y (by simp [hy]))
 have hc : Cx ([112, 114, 111, 103, 114, 97, 109, 32] ++ Lib.itoa n) [ZK, Lib.itoa n] := fun r ts hr h => by
  rw [List.append_assoc]
  exact Zi (w := ZK) rfl (WQ rfl) (Zu (b := 32) rfl (lex_num (Wx hok.1.2).1 hr h))
 exact ZT hc 0 (hfs ks hok.2)
section
variable {L : ZC} {z : Nd}
def At (L : ZC) (p : Nat) (ks : List Tok) : Prop := (L.drop p).map (·.1) = ks
theorem Q7 {p : Nat} {t : Tok} {ks : List Tok} (h : At L p (t :: ks)) : Q6 L ⟨p, false⟩ = t /\ At L (p + 1) ks := by
 unfold At at *
 have hp : p < L.length := by
  rcases Nat.lt_or_ge p L.length with h1 | h1
  ·exact h1
  ·rw [List.drop_eq_nil_of_le h1] at h; cases h
 rw [List.drop_eq_getElem_cons hp, List.map_cons, List.cons.injEq] at h
 refine ⟨?_, h.2⟩
 unfold Q6
 rw [List.getD_eq_getElem?_getD, List.getElem?_eq_getElem hp]
 exact h.1
theorem at_app : ∀ {a : List Tok} {p : Nat} {ks : List Tok}, At L p (a ++ ks) -> At L (p + a.length) ks
 | [], p, ks, h => h
 | t :: a, p, ks, h => by
  have := at_app (Q7 h).2
  rw [List.length_cons, show p + (a.length + 1) = p + 1 + a.length by omega]; exact this
theorem at_nil {p : Nat} (h : At L p []) : Q6 L ⟨p, false⟩ = [] /\ L.length <= p := by
 unfold At at h
 have h1 : L.drop p = [] := by simpa using h
 have h2 : L.length <= p := by
  rcases Nat.lt_or_ge p L.length with h3 | h3
  ·rw [List.drop_eq_getElem_cons h3] at h1; cases h1
  ·exact h3
 refine ⟨?_, h2⟩
 unfold Q6
 rw [List.getD_eq_getElem?_getD, List.getElem?_eq_none h2]; rfl
theorem rd_take {p : Nat} {s : Tok} {ks : List Tok} (h : At L p (s :: ks)) : Q3 L s ⟨p, false⟩ = ⟨p + 1, false⟩ := by
 unfold Q3
 rw [if_pos (Q7 h).1]; rfl
theorem rd_num {p : Nat} {w : Tok} {ks : List Tok} (h : At L p (w :: ks)) (hw : qH w = true) : QA L ⟨p, false⟩ = (valM w, ⟨p + 1, false⟩) := by
 unfold QA
 rw [(Q7 h).1, if_pos hw]; rfl
theorem is_vn {p : Nat} {c : UInt8} {w : Tok} {ks : List Tok} (h : At L p ((c :: w) :: ks)) (hw : qH w = true) : isM L c ⟨p, false⟩ = true := by
 unfold isM
 rw [(Q7 h).1]
 show (Lib.hasPrefix (c :: w) [c] && qH w) = true
 rw [hw, Bool.and_true]
 unfold Lib.hasPrefix
 simp [List.isPrefixOf]
theorem is_ne {p : Nat} {c d : UInt8} {w : Tok} {ks : List Tok} (h : At L p ((d :: w) :: ks)) (hd : (c == d) = false) : isM L c ⟨p, false⟩ = false := by
 unfold isM
 rw [(Q7 h).1]
 unfold Lib.hasPrefix
 simp only [List.isPrefixOf, hd, Bool.false_and]
theorem rd_vn {p : Nat} {c : UInt8} {w : Tok} {ks : List Tok} (h : At L p ((c :: w) :: ks)) (hw : qH w = true) : Qk L c ⟨p, false⟩ = (valM w, ⟨p + 1, false⟩) := by
 unfold Qk
 rw [if_pos (is_vn h hw), (Q7 h).1]; rfl
def Fol (ks : List Tok) : Prop := ∀ t ∈ ks.head?, t ≠ [91] /\ t ≠ [46]
theorem qE {t : Tok} {ks : List Tok} (h1 : t ≠ [91]) (h2 : t ≠ [46]) : Fol (t :: ks) := fun t' ht => by
 have : t = t' := by simpa using ht
 subst this; exact ⟨h1, h2⟩
def RdF (L : ZC) (F : Rd1) (t : Nd) (k : List Tok) : Prop := ∀ p ks, At L p (k ++ ks) -> Fol ks -> F ⟨p, false⟩ = (t, ⟨p + k.length, false⟩)
def tailK (fK : Nd -> List Tok) (r : List Nd) : List Tok := (r.map fun y => [44] :: fK y).flatten
theorem tailK_cons (fK : Nd -> List Tok) (y : Nd) (r : List Nd) : tailK fK (y :: r) = [44] :: (fK y ++ tailK fK r) := by
 unfold tailK; rw [List.map_cons, List.flatten_cons, List.cons_append]
theorem qi (fK : Nd -> List Tok) : ∀ (x : Nd) (r : List Nd), WN ((x :: r).map fK) = fK x ++ tailK fK r
 | x, [] => by simp [WN, tailK]
 | x, y :: r => by
  have ih := qi fK y r
  rw [tailK_cons, <- ih]; rfl
theorem tailK_mem (fK : Nd -> List Tok) : ∀ {r : List Nd} {x : Nd}, x ∈ r -> (fK x).length <= (tailK fK r).length
 | w :: r, x, h => by
  rw [tailK_cons, List.length_cons, List.length_append]
  rcases List.mem_cons.1 h with rfl | h
  ·omega
  ·have := tailK_mem fK h; omega
theorem qB (fK : Nd -> List Tok) : ∀ {ks : List Nd} {x : Nd}, x ∈ ks -> (fK x).length <= (WN (ks.map fK)).length
 | y :: r, x, h => by
  rw [qi, List.length_append]
  rcases List.mem_cons.1 h with rfl | h
  ·omega
  ·have := tailK_mem fK h
   omega
theorem commasK_len (fK : Nd -> List Tok) (hf : ∀ x, 1 <= (fK x).length) : ∀ ks : List Nd, ks.length <= (WN (ks.map fK)).length
 | [] => Nat.zero_le _
 | x :: r => by
  have ht : ∀ r : List Nd, r.length <= (tailK fK r).length := by
   intro r
   induction r with
   | nil => exact Nat.zero_le _
   | cons y r ih => rw [tailK_cons, List.length_cons, List.length_cons, List.length_append]; omega
  have := ht r
  have := hf x
  rw [qi, List.length_cons, List.length_append]; omega
theorem fol_tail (fK : Nd -> List Tok) (r : List Nd) (ks : List Tok) : Fol (tailK fK r ++ [41] :: ks) := by
 cases r with
 | nil => exact qE (by decide) (by decide)
 | cons y r => rw [tailK_cons]; exact qE (by decide) (by decide)
theorem rd_loop {E : Rd1} (fK : Nd -> List Tok) : ∀ (r : List Nd) (k : Nat) (o : List Nd) (p : Nat) (ks : List Tok), (∀ x ∈ r, RdF L E x (fK x)) -> r.length <= k -> At L p (tailK fK r ++ [41] :: ks) -> Wf L E k o ⟨p, false⟩ = (o ++ r, ⟨p + (tailK fK r).length, false⟩)
 | [], k, o, p, ks, _, _, h => by
  have hn := (Q7 (t := [41]) h).1
  rw [List.append_nil]
  cases k with
  | zero => rfl
  | succ k => rw [Wf, if_neg (by rw [hn]; decide)]; rfl
 | y :: r, k + 1, o, p, ks, hE, hk, h => by
  rw [tailK_cons, List.cons_append, List.append_assoc] at h
  obtain ⟨hn, h1⟩ := Q7 h
  have he := hE y (by simp) (p + 1) _ h1 (fol_tail fK r ks)
  have h2 := at_app h1
  have ih := rd_loop fK r k (o ++ [y]) (p + 1 + (fK y).length) ks (fun x hx => hE x (by simp [hx])) (by simpa using hk) h2
  rw [Wf, if_pos hn]
  show Wf L E k (o ++ [(E ⟨p + 1, false⟩).1]) (E ⟨p + 1, false⟩).2 = _
  rw [he, ih, tailK_cons, List.append_assoc, List.length_cons, List.length_append]
  congr 2
  omega
theorem rd_list {E : Rd1} (fK : Nd -> List Tok) {x : Nd} {r : List Nd} {k p : Nat} {ks : List Tok} (hE : ∀ y ∈ x :: r, RdF L E y (fK y)) (hk : r.length <= k) (h : At L p (WN ((x :: r).map fK) ++ [41] :: ks)) : ZD L E k ⟨p, false⟩ = (x :: r, ⟨p + (WN ((x :: r).map fK)).length + 1, false⟩) := by
 rw [qi, List.append_assoc] at h
 have he := hE x (by simp) p _ h (fol_tail fK r ks)
 have h1 := at_app h
 have hl := rd_loop fK r k [x] _ ks (fun y hy => hE y (by simp [hy])) hk h1
 have h2 := at_app h1
 unfold ZD
 rw [he]
 show ((Wf L E k [x] ⟨p + (fK x).length, false⟩).1, Q3 L [41] (Wf L E k [x] ⟨p + (fK x).length, false⟩).2) = _
 rw [hl]
 show ([x] ++ r, Q3 L [41] ⟨p + (fK x).length + (tailK fK r).length, false⟩) = _
 rw [rd_take h2, qi, List.length_append, show p + ((fK x).length + (tailK fK r).length) + 1 = p + (fK x).length + (tailK fK r).length + 1 by omega]; rfl
def FrK (k : List Tok) : Prop := ∃ t r, k = t :: r /\ t ≠ [41] /\ t ≠ [125] /\ t ≠ [91] /\ t ≠ [46]
theorem rd_args {E : Rd1} (fK : Nd -> List Tok) {q : List Nd} {k p : Nat} {ks : List Tok} (hE : ∀ y ∈ q, RdF L E y (fK y)) (hf : ∀ y ∈ q, FrK (fK y)) (hk : q.length <= k + 1) (h : At L p ([40] :: (WN (q.map fK) ++ [41] :: ks))) : WP L E k ⟨p, false⟩ = (q, ⟨p + (WN (q.map fK)).length + 2, false⟩) := by
 have ht := rd_take h
 have h1 := (Q7 h).2
 unfold WP
 rw [ht]
 cases q with
 | nil => rw [if_pos (Q7 (t := [41]) h1).1]; rfl
 | cons x r =>
  obtain ⟨t, r', hfx, hne, _⟩ := hf x (by simp)
  have hn : Q6 L ⟨p + 1, false⟩ = t := by
   rw [qi, hfx] at h1
   exact (Q7 h1).1
  rw [if_neg (by rw [hn]; exact hne), rd_list fK hE (by simpa using hk) h1]
  congr 2
  omega
theorem num_ne {w : Tok} (h : qH w = true) (c : UInt8) (hc : digB c = false) : w ≠ [c] := by
 rintro rfl
 have := (num_dig h).2
 simp [hc] at this
theorem fr_num {w : Tok} {r : List Tok} (h : qH w = true) : FrK (w :: r) := ⟨w, r, rfl, num_ne h _ rfl, num_ne h _ rfl, num_ne h _ rfl, num_ne h _ rfl⟩
theorem fr_c {c : UInt8} {w : Tok} {r : List Tok} (h1 : (c != 41 && c != 125 && c != 91 && c != 46) = true) : FrK ((c :: w) :: r) := by
 simp only [Bool.and_eq_true, bne_iff_ne, ne_eq] at h1
 exact ⟨_, r, rfl, by simp [h1], by simp [h1], by simp [h1], by simp [h1]⟩
theorem fr_typ (t : Nd) (h : typOk t = true) : FrK (typK t) := by
 obtain ⟨k, n, m, ks⟩ := t
 rw [typK]
 repeat' split
 all_goals exact fr_c (by decide)
theorem fr_ex (t : Nd) (h : qg t = true) : FrK (exK t) := by
 obtain ⟨k, n, m, ks⟩ := t
 rw [qg] at h
 rw [exK]
 by_cases k4 : k = 4
 ·rw [if_pos k4] at h ⊢
  simp only [Bool.and_eq_true] at h
  by_cases hn : n < 0
  ·rw [if_pos hn]; exact fr_c (by decide)
  ·rw [if_neg hn] at h ⊢
   exact fr_num (Wx h.2).1
 rw [if_neg k4]
 repeat' split
 all_goals exact fr_c (by decide)
theorem fr_len {k : List Tok} (h : FrK k) : 1 <= k.length := by obtain ⟨t, r, rfl, _⟩ := h; simp
theorem fr_fol {k ks : List Tok} (h : FrK k) : Fol (k ++ ks) := by
 obtain ⟨t, r, rfl, _, _, h1, h2⟩ := h
 exact qE h1 h2
theorem typK_pos (t : Nd) : 1 <= (typK t).length := by
 obtain ⟨k, n, m, ks⟩ := t
 rw [typK]
 repeat' split
 all_goals simp
theorem exK_pos (t : Nd) : 1 <= (exK t).length := by
 obtain ⟨k, n, m, ks⟩ := t
 rw [exK]
 repeat' split
 all_goals simp
theorem rd_typ (t : Nd) : typOk t = true -> ∀ n, (typK t).length < n -> RdF L (WL L n) t (typK t) := by
 induction t using Nd.ind with
 | h k n m ks ih =>
 intro hok f hf p q h hq
 cases f with
 | zero => omega
 | succ f =>
 rw [typOk, typOks_eq] at hok
 rw [typK, typKs_eq] at hf h ⊢
 rw [WL]
 by_cases k0 : k = 0
 ·rw [if_pos k0] at h ⊢
  rw [if_pos (by simp [k0])] at hok
  have hn := (Q7 h).1
  rw [if_pos hn]
  have : n = 0 /\ m = 0 /\ ks = [] := by simpa [WX, QU] using hok
  obtain ⟨rfl, rfl, rfl⟩ := this
  rw [k0]; rfl
 rw [if_neg k0] at h ⊢
 by_cases k1 : k = 1
 ·rw [if_pos k1] at h ⊢
  rw [if_pos (by simp [k1])] at hok
  have hn := (Q7 h).1
  rw [if_neg (by rw [hn]; decide), if_pos hn]
  have : n = 0 /\ m = 0 /\ ks = [] := by simpa [WX, QU] using hok
  obtain ⟨rfl, rfl, rfl⟩ := this
  rw [k1]; rfl
 rw [if_neg (by omega)] at hok
 rw [if_neg k1] at h ⊢
 by_cases k2 : k = 2
 ·rw [if_pos k2] at h hok ⊢
  obtain ⟨hn, h1⟩ := Q7 h
  simp only [Bool.and_eq_true] at hok
  obtain ⟨i1, i2⟩ := Wx hok.2
  rw [if_neg (by rw [hn]; decide), if_neg (by rw [hn]; decide), if_pos hn]
  have hr := rd_num h1 i1
  have : m = 0 /\ ks = [] := by simpa [QU] using hok.1
  obtain ⟨rfl, rfl⟩ := this
  show (Nd.mk 2 (QA L ⟨p + 1, false⟩).1 0 [], (QA L ⟨p + 1, false⟩).2) = _
  rw [hr, i2, k2]; rfl
 rw [if_neg k0, if_neg k1, if_neg k2] at hf
 rw [if_neg k2] at h hok ⊢
 by_cases k3 : k = 3
 ·rw [if_pos k3] at hok
  simp only [Bool.and_eq_true, List.all_eq_true, decide_eq_true_eq] at hok
  simp only [List.cons_append, List.append_assoc, List.nil_append] at h
  obtain ⟨hn, h1⟩ := Q7 h
  have hr := rd_take h1
  have h2 := (Q7 h1).2
  rw [if_neg (by rw [hn]; decide), if_neg (by rw [hn]; decide), if_neg (by rw [hn]; decide), if_pos hn]
  have : n = 0 /\ m = 0 := by have := hok.1.1; simp [WX, QU] at this; exact this
  obtain ⟨rfl, rfl⟩ := this
  simp only [List.length_cons, List.length_append, List.length_nil] at hf
  have hcl := commasK_len typK typK_pos ks
  cases ks with
  | nil => simp at hok
  | cons x r =>
  have hl := rd_list (E := WL L f) (k := f) typK (fun y hy => ih y hy (hok.2 y hy) f (by have := qB typK hy; omega)) (by rw [List.length_cons] at hcl; omega) h2
  show (Nd.mk 3 0 0 (ZD L (WL L f) f (Q3 L [40] ⟨p + 1, false⟩)).1, (ZD L (WL L f) f (Q3 L [40] ⟨p + 1, false⟩)).2) = _
  rw [hr, hl, k3]
  simp only [List.length_cons, List.length_append, List.length_nil]
  congr 2
  omega
 ·rw [if_neg k3] at hok; cases hok
theorem op_idx {n : Int} (h0 : 0 <= n) (h1 : n < 14) : qp (opTexts.getD n.toNat []) = n := by
 have : ∀ i : Fin 14, qp (opTexts.getD i.val []) = (i.val : Int) := by decide
 have := this ⟨n.toNat, by omega⟩
 rw [this]
 show ((n.toNat : Nat) : Int) = n
 omega
theorem op_ne {n : Int} (h0 : 0 <= n) (h1 : n < 14) : opTexts.getD n.toNat [] ≠ [91] /\ opTexts.getD n.toNat [] ≠ [46] := by
 have : ∀ i : Fin 14, opTexts.getD i.val [] ≠ [91] /\ opTexts.getD i.val [] ≠ [46] := by decide
 exact this ⟨n.toNat, by omega⟩
theorem lets_num {c : UInt8} {w : Tok} (hc : digB c = false) : qH (c :: w) = false := by
 unfold qH; simp [hc]
theorem exs_rd {E : Rd1} {q : List Nd} (h : ∀ x ∈ q, RdF L E x (exK x)) (hok : ∀ x ∈ q, qg x = true) {k p : Nat} {ks : List Tok} (hk : q.length <= k + 1) (ha : At L p ([40] :: (WN (q.map exK) ++ [41] :: ks))) : WP L E k ⟨p, false⟩ = (q, ⟨p + (WN (q.map exK)).length + 2, false⟩) := rd_args exK h (fun y hy => fr_ex y (hok y hy)) hk ha
theorem var_rd {E : Rd1} {v : Nd} {k : Int} {n m : Int} {ks : List Nd} (hv : v = .mk k n m ks) (hok : qg v = true) (hk : k = 6 \/ k = 7 \/ k = 8) (hE : ∀ x ∈ ks, RdF L E x (exK x)) : ∀ p q, At L p (exK v ++ q) -> Fol q -> Wy L E ⟨p, false⟩ = (v, ⟨p + (exK v).length, false⟩) := by
 intro p q h hq
 subst hv
 rw [qg, exOks_eq] at hok
 rw [exK, exKs_eq] at h ⊢
 unfold Wy varTail
 rcases hk with rfl | rfl | rfl
 ·simp only [show ¬ (6 : Int) = 4 by decide, show ¬ (6 : Int) = 5 by decide, if_false, if_true, Bool.and_eq_true] at h hok ⊢
  obtain ⟨i1, i2⟩ := Wx hok.2
  have hr := rd_vn h i1
  have h1 := (Q7 h).2
  rw [hr, i2]
  have : m = 0 /\ ks = [] := by simpa [QU] using hok.1
  obtain ⟨rfl, rfl⟩ := this
  have hne : Q6 L ⟨p + 1, false⟩ ≠ [91] /\ Q6 L ⟨p + 1, false⟩ ≠ [46] := by
   cases q with
   | nil => rw [(at_nil h1).1]; decide
   | cons t q => rw [(Q7 h1).1]; exact hq t (by simp)
  rw [if_neg hne.1, if_neg hne.2]; rfl
 ·simp only [show ¬ (7 : Int) = 4 by decide, show ¬ (7 : Int) = 5 by decide, show ¬ (7 : Int) = 6 by decide, if_false, if_true, Bool.and_eq_true] at h hok ⊢
  obtain ⟨i1, i2⟩ := Wx hok.1.2
  simp only [List.cons_append, List.append_assoc, List.nil_append] at h
  have hr := rd_vn h i1
  have h1 := (Q7 h).2
  rw [hr, i2]
  have : m = 0 /\ ks.length = 1 := by have := hok.1.1; simp [QU] at this; omega
  obtain ⟨rfl, hl⟩ := this
  match ks, hl with
  | [x], _ =>
   obtain ⟨hn, h2⟩ := Q7 h1
   rw [if_pos hn]
   have he := hE x (by simp) (p + 1 + 1) ([93] :: q) h2 (qE (by decide) (by decide))
   have h3 : At L (p + 1 + 1 + (exK x).length) ([93] :: q) := at_app h2
   show (Nd.mk 7 n 0 [(E ⟨p + 1 + 1, false⟩).1], Q3 L [93] (E ⟨p + 1 + 1, false⟩).2) = _
   rw [he]
   show (Nd.mk 7 n 0 [x], Q3 L [93] ⟨p + 1 + 1 + (exK x).length, false⟩) = _
   rw [rd_take (s := [93]) h3]
   show _ = (Nd.mk 7 n 0 [x], RS.mk (p + ((118 :: Lib.itoa n) :: [91] :: (exK x ++ [[93]])).length) false)
   simp only [List.length_cons, List.length_append, List.length_nil]
   congr 2
   omega
 ·simp only [show ¬ (8 : Int) = 4 by decide, show ¬ (8 : Int) = 5 by decide, show ¬ (8 : Int) = 6 by decide, show ¬ (8 : Int) = 7 by decide, if_false, if_true, Bool.and_eq_true, decide_eq_true_eq] at h hok ⊢
  obtain ⟨i1, i2⟩ := Wx hok.1.2
  obtain ⟨j1, j2⟩ := Wx hok.2
  have hr := rd_vn h i1
  have h1 := (Q7 h).2
  rw [hr, i2]
  have : ks = [] := List.eq_nil_of_length_eq_zero hok.1.1
  subst this
  obtain ⟨hn, h2⟩ := Q7 h1
  rw [if_neg (by rw [hn]; decide), if_pos hn]
  show (Nd.mk 8 n (QA L ⟨p + 1 + 1, false⟩).1 [], (QA L ⟨p + 1 + 1, false⟩).2) = _
  rw [rd_num h2 j1, j2]; rfl
theorem rd_ex (t : Nd) : qg t = true -> ∀ n, (exK t).length < n -> RdF L (WB L z n) t (exK t) := by
 induction t using Nd.ind with
 | h k n m ks ih =>
 intro hok f hf p q h hq
 cases f with
 | zero => omega
 | succ f =>
 have hok0 := hok
 have h0 := h
 rw [qg, exOks_eq] at hok
 rw [WB]
 have hkid : ks.all qg = true -> (∀ x ∈ ks, (exK x).length < f) -> ∀ x ∈ ks, RdF L (WB L z f) x (exK x) := fun ha hl x hx => ih x hx (by rw [List.all_eq_true] at ha; exact ha x hx) f (hl x hx)
 by_cases k6 : k = 6 \/ k = 7 \/ k = 8
 ·have hkl : ∀ x ∈ ks, RdF L (WB L z f) x (exK x) := by
   rcases k6 with rfl | rfl | rfl
   ·have : ks = [] := by simp [QU] at hok; exact hok.1.2
    subst this; intro x hx; cases hx
   ·have h2 : ks.all qg = true := by
     simp only [show ¬ (7 : Int) = 4 by decide, show ¬ (7 : Int) = 5 by decide, show ¬ (7 : Int) = 6 by decide, if_false, if_true, Bool.and_eq_true] at hok
     exact hok.2
    refine hkid h2 fun x hx => ?_
    rw [exK, exKs_eq] at hf
    simp only [show ¬ (7 : Int) = 4 by decide, show ¬ (7 : Int) = 5 by decide, show ¬ (7 : Int) = 6 by decide, if_false, if_true, List.length_cons, List.length_append, List.length_nil] at hf
    have := qB exK hx
    omega
   ·have : ks = [] := by
     simp only [show ¬ (8 : Int) = 4 by decide, show ¬ (8 : Int) = 5 by decide, show ¬ (8 : Int) = 6 by decide, show ¬ (8 : Int) = 7 by decide, if_false, if_true, Bool.and_eq_true, decide_eq_true_eq] at hok
     exact List.eq_nil_of_length_eq_zero hok.1.1
    subst this; intro x hx; cases hx
  have hv := var_rd (E := WB L z f) rfl hok0 k6 hkl p q h hq
  have hsmall : Zf n = true := by
   rcases k6 with rfl | rfl | rfl <;> simp at hok <;> simp [hok]
  obtain ⟨i1, i2⟩ := Wx hsmall
  obtain ⟨r', hr'⟩ : ∃ r', exK (.mk k n m ks) ++ q = (118 :: Lib.itoa n) :: r' := by
   rw [exK]
   rcases k6 with rfl | rfl | rfl <;> exact ⟨_, rfl⟩
  rw [hr'] at h
  rw [if_neg (by rw [(Q7 h).1, lets_num (by decide)]; decide), if_pos (is_vn h i1)]
  exact hv
 rw [exK, exKs_eq] at hf h ⊢
 by_cases k4 : k = 4
 ·rw [if_pos k4] at hok h ⊢
  simp only [Bool.and_eq_true] at hok
  have : m = 0 /\ ks = [] := by have := hok.1; simpa [QU] using this
  obtain ⟨rfl, rfl⟩ := this
  by_cases hn : n < 0
  ·rw [if_pos hn] at hok h ⊢
   have hs : Zf (-n) = true := by simp [Zf]; simp at hok; omega
   obtain ⟨i1, i2⟩ := Wx hs
   obtain ⟨e, h1⟩ := Q7 h
   rw [if_neg (by rw [e]; decide), if_neg (by rw [is_ne h (by decide)]; decide), if_neg (by rw [is_ne h (by decide)]; decide), if_pos e]
   have hn2 : Q6 L (Qt ⟨p, false⟩) = Lib.itoa (-n) := (Q7 h1).1
   have h48 : Lib.itoa (-n) ≠ [48] := by
    intro he
    rw [he] at i2
    have : valM [48] = 0 := by decide
    omega
   rw [if_neg (by rw [hn2]; exact h48)]
   show (Nd.mk 4 (-(QA L ⟨p + 1, false⟩).1) 0 [], (QA L ⟨p + 1, false⟩).2) = _
   rw [rd_num h1 i1, i2, k4]
   show (Nd.mk 4 (- -n) 0 [], _) = _
   rw [Int.neg_neg]; rfl
  ·rw [if_neg hn] at hok h ⊢
   obtain ⟨i1, i2⟩ := Wx hok.2
   rw [if_pos (by rw [(Q7 h).1]; exact i1), rd_num h i1, i2, k4]; rfl
 rw [if_neg k4] at hok hf h ⊢
 by_cases k5 : k = 5
 ·rw [if_pos k5] at hok h ⊢
  simp only [Bool.and_eq_true, Bool.or_eq_true, decide_eq_true_eq] at hok
  have : m = 0 /\ ks = [] := by have := hok.1; simpa [QU] using this
  obtain ⟨rfl, rfl⟩ := this
  by_cases hn : n = 1
  ·rw [if_pos hn] at h ⊢
   have e := (Q7 h).1
   rw [if_neg (by rw [e]; decide), if_neg (by rw [is_ne h (by decide)]; decide), if_neg (by rw [is_ne h (by decide)]; decide), if_neg (by rw [e]; decide), if_pos e, k5, hn]; rfl
  ·rw [if_neg hn] at h ⊢
   have e := (Q7 h).1
   have h00 : n = 0 := by
    rcases hok.2 with h' | h'
    ·exact h'
    ·exact absurd h' hn
   have hnf : qH wFalse = false := by decide
   have hif : isM L 102 ⟨p, false⟩ = false := by
    unfold isM; rw [e]; decide
   rw [if_neg (by rw [e]; decide), if_neg (by rw [is_ne h (by decide)]; decide), if_neg (by rw [hif]; decide), if_neg (by rw [e]; decide), if_neg (by rw [e]; decide), if_pos e, k5, h00]; rfl
 rw [if_neg k5] at hok hf h ⊢
 rw [if_neg (fun e => k6 (.inl e))] at hok hf h ⊢
 rw [if_neg (fun e => k6 (.inr (.inl e)))] at hok hf h ⊢
 rw [if_neg (fun e => k6 (.inr (.inr e)))] at hok hf h ⊢
 by_cases k9 : k = 9
 ·rw [if_pos k9] at hok hf h ⊢
  simp only [Bool.and_eq_true, decide_eq_true_eq] at hok
  have : m = 0 /\ ks.length = 2 := by have := hok.1.1; simp [QU] at this; omega
  obtain ⟨rfl, h2⟩ := this
  match ks, h2 with
  | [x, y], _ =>
   simp only [List.map_cons, List.map_nil, List.getD_cons_zero, List.getD_cons_succ, List.append_assoc, List.cons_append, List.nil_append, List.length_cons, List.length_append, List.length_nil] at h hf
   have hx := hkid hok.2 (fun x' hx' => by simp at hx'; rcases hx' with rfl | rfl <;> omega) x (by simp)
   have hy := hkid hok.2 (fun x' hx' => by simp at hx'; rcases hx' with rfl | rfl <;> omega) y (by simp)
   obtain ⟨e, h1⟩ := Q7 h
   have ho := op_ne hok.1.2.1 hok.1.2.2
   have ex := hx (p + 1) _ h1 (qE ho.1 ho.2)
   have h2 := at_app h1
   obtain ⟨e2, h3⟩ := Q7 h2
   have ey := hy _ _ h3 (qE (by decide) (by decide))
   have h4 := at_app h3
   have et := rd_take h4
   have hoi := op_idx hok.1.2.1 hok.1.2.2
   rw [if_neg (by rw [e]; decide), if_neg (by rw [is_ne h (by decide)]; decide), if_neg (by rw [is_ne h (by decide)]; decide), if_neg (by rw [e]; decide), if_neg (by rw [e]; decide), if_neg (by rw [e]; decide), if_pos e]
   unfold Z9
   show (if qp (Q6 L (WB L z f ⟨p + 1, false⟩).2) < 0 then _ else _) = _
   rw [show Qt ⟨p, false⟩ = ⟨p + 1, false⟩ from rfl, ex]
   show (if qp (Q6 L ⟨p + 1 + (exK x).length, false⟩) < 0 then _ else _) = _
   rw [e2, hoi, if_neg (by omega)]
   show (Nd.mk 9 n 0 [x, (WB L z f ⟨p + 1 + (exK x).length + 1, false⟩).1], Q3 L [41] (WB L z f ⟨p + 1 + (exK x).length + 1, false⟩).2) = _
   rw [ey]
   show (Nd.mk 9 n 0 [x, y], Q3 L [41] ⟨p + 1 + (exK x).length + 1 + (exK y).length, false⟩) = _
   rw [et, k9]
   simp only [List.map_cons, List.map_nil, List.getD_cons_zero, List.getD_cons_succ, List.length_cons, List.length_append, List.length_nil]
   congr 2
   omega
 rw [if_neg k9] at hok hf h ⊢
 by_cases k10 : k = 10
 ·rw [if_pos k10] at hok hf h ⊢
  simp only [Bool.and_eq_true, decide_eq_true_eq] at hok
  have : n = 0 /\ m = 0 /\ ks.length = 1 := by have := hok.1; simp [WX, QU] at this; omega
  obtain ⟨rfl, rfl, h2⟩ := this
  match ks, h2 with
  | [x], _ =>
   have hx := hkid hok.2 (fun x' hx' => by
    have h1 := qB exK hx'
    have h2 : (WN ([x].map exK)).length + 1 < f + 1 := hf
    omega) x (by simp)
   obtain ⟨e, h1⟩ := Q7 h
   have ex := hx (p + 1) q h1 hq
   rw [if_neg (by rw [e]; decide), if_neg (by rw [is_ne h (by decide)]; decide), if_neg (by rw [is_ne h (by decide)]; decide), if_neg (by rw [e]; decide), if_neg (by rw [e]; decide), if_neg (by rw [e]; decide), if_neg (by rw [e]; decide), if_pos e]
   rw [show Qt ⟨p, false⟩ = ⟨p + 1, false⟩ from rfl, ex, k10]
   show (Nd.mk 10 0 0 [x], RS.mk (p + 1 + (exK x).length) false) = (Nd.mk 10 0 0 [x], RS.mk (p + ((exK x).length + 1)) false)
   rw [show p + 1 + (exK x).length = p + ((exK x).length + 1) by omega]
 rw [if_neg k10] at hok hf h ⊢
 by_cases k11 : k = 11
 ·rw [if_pos k11] at hok hf h ⊢
  simp only [Bool.and_eq_true, decide_eq_true_eq] at hok
  have : m = 0 := by have := hok.1.1; simpa [QU] using this
  subst this
  obtain ⟨i1, i2⟩ := Wx hok.1.2
  simp only [List.append_assoc, List.cons_append, List.nil_append] at h
  have e := (Q7 h).1
  have hr := rd_vn h i1
  have h1 := (Q7 h).2
  simp only [List.length_cons, List.length_append, List.length_nil] at hf
  have hcl := commasK_len exK exK_pos ks
  have hall := hok.2
  rw [List.all_eq_true] at hall
  have ha := exs_rd (k := f) (hkid hok.2 fun x hx => by have := qB exK hx; omega) hall (by omega) h1
  rw [if_neg (by rw [e, lets_num (by decide)]; decide), if_neg (by rw [is_ne h (by decide)]; decide), if_pos (is_vn h i1), hr, i2]
  show (Nd.mk 11 n 0 (WP L (WB L z f) f ⟨p + 1, false⟩).1, (WP L (WB L z f) f ⟨p + 1, false⟩).2) = _
  rw [ha, k11]
  simp only [List.length_cons, List.length_append, List.length_nil]
  congr 2
  omega
 rw [if_neg k11] at hok hf h ⊢
 by_cases k12 : k = 12
 ·rw [if_pos k12] at hok
  simp only [Bool.and_eq_true] at hok
  have : m = 0 /\ ks = [] := by have := hok.1; simpa [QU] using this
  obtain ⟨rfl, rfl⟩ := this
  obtain ⟨i1, i2⟩ := Wx hok.2
  obtain ⟨e, h1⟩ := Q7 h
  rw [if_neg (by rw [e]; decide), if_neg (by rw [is_ne h (by decide)]; decide), if_neg (by rw [is_ne h (by decide)]; decide), if_neg (by rw [e]; decide), if_neg (by rw [e]; decide), if_neg (by rw [e]; decide), if_neg (by rw [e]; decide), if_neg (by rw [e]; decide), if_pos e]
  show (Nd.mk 12 (Qk L 99 ⟨p + 1, false⟩).1 0 [], (Qk L 99 ⟨p + 1, false⟩).2) = _
  rw [rd_vn h1 i1, i2, k12]; rfl
 ·rw [if_neg k12] at hok; cases hok
end
section
variable {L : ZC} {z : Nd}
theorem pos_eq {α : Type} {t : α} {a b : Nat} (h : a = b) : (t, RS.mk a false) = (t, RS.mk b false) := by rw [h]
theorem fr_st (t : Nd) (h : stOk t = true) : FrK (stK t) := by
 obtain ⟨k, n, m, ks⟩ := t
 rw [stK]
 repeat' split
 all_goals try exact fr_c (by decide)
 rw [simK]
 repeat' split
 all_goals exact fr_c (by decide)
theorem stsK_mem : ∀ {ks : List Nd} {x : Nd}, x ∈ ks -> (stK x).length <= (stsK ks).length
 | y :: r, x, h => by
  rw [stsK, List.length_append]
  rcases List.mem_cons.1 h with rfl | h
  ·omega
  ·have := stsK_mem h; omega
theorem stsK_len : ∀ {ks : List Nd}, qG ks = true -> ks.length <= (stsK ks).length
 | [], _ => Nat.zero_le _
 | y :: r, h => by
  rw [qG] at h
  simp only [Bool.and_eq_true] at h
  have h1 := fr_len (fr_st y h.1)
  have h2 := stsK_len h.2
  rw [stsK, List.length_append, List.length_cons]; omega
theorem stOks_mem : ∀ {ks : List Nd} {x : Nd}, qG ks = true -> x ∈ ks -> stOk x = true
 | y :: r, x, h, hx => by
  rw [qG] at h
  simp only [Bool.and_eq_true] at h
  rcases List.mem_cons.1 hx with rfl | hx
  ·exact h.1
  ·exact stOks_mem h.2 hx
theorem rd_bloop {T : Rd1} : ∀ (r : List Nd) (k : Nat) (o : List Nd) (p : Nat) (ks : List Tok), qG r = true -> (∀ x ∈ r, RdF L T x (stK x)) -> r.length < k -> At L p (stsK r ++ [125] :: ks) -> Wv L T k o ⟨p, false⟩ = (o ++ r, ⟨p + (stsK r).length + 1, false⟩)
 | [], k + 1, o, p, ks, _, _, _, h => by
  have hn := (Q7 (t := [125]) h).1
  rw [List.append_nil, Wv, if_neg (by simp), if_pos hn]; rfl
 | y :: r, k + 1, o, p, ks, hok, hT, hk, h => by
  rw [qG] at hok
  simp only [Bool.and_eq_true] at hok
  rw [stsK, List.append_assoc] at h
  have hfr := fr_st y hok.1
  have hfol : Fol (stsK r ++ [125] :: ks) := by
   cases r with
   | nil => exact qE (by decide) (by decide)
   | cons w r =>
    rw [stsK, List.append_assoc]
    have := hok.2
    rw [qG] at this
    simp only [Bool.and_eq_true] at this
    exact fr_fol (fr_st w this.1)
  have he := hT y (by simp) p _ h hfol
  have hn : Q6 L ⟨p, false⟩ ≠ [125] := by
   obtain ⟨t, q, e, h1, h2, _⟩ := hfr
   rw [e] at h
   rw [(Q7 h).1]; exact h2
  have ih := rd_bloop r k (o ++ [y]) _ ks hok.2 (fun x hx => hT x (by simp [hx])) (by simpa using hk) (at_app h)
  rw [Wv, if_neg (by simp), if_neg hn, he, ih, List.append_assoc, stsK, List.length_append, show p + ((stK y).length + (stsK r).length) + 1 = p + (stK y).length + (stsK r).length + 1 by omega]; rfl
theorem rd_block {T : Rd1} {x : Nd} {k p : Nat} {ks : List Tok} (hx : inOk x = true) (hT : ∀ n m l, x = .mk 13 n m l -> ∀ y ∈ l, RdF L T y (stK y)) (hk : (inK x).length < k) (h : At L p ([123] :: (inK x ++ [125] :: ks))) : Wl L T k ⟨p, false⟩ = (x, ⟨p + (inK x).length + 2, false⟩) := by
 obtain ⟨kk, n, m, l⟩ := x
 rw [inOk] at hx
 simp only [Bool.and_eq_true, decide_eq_true_eq] at hx
 obtain ⟨⟨rfl, hb⟩, hs⟩ := hx
 have : n = 0 /\ m = 0 := by simp [WX, QU] at hb; exact hb
 obtain ⟨rfl, rfl⟩ := this
 rw [inK] at h hk ⊢
 have ht := rd_take h
 have hl := stsK_len hs
 have hb := rd_bloop l k [] (p + 1) ks hs (hT _ _ _ rfl) (by omega) (Q7 h).2
 unfold Wl
 rw [ht, hb, show p + 1 + (stsK l).length + 1 = p + (stsK l).length + 2 by omega]; rfl
theorem one_rd {E : Rd1} {x : Nd} {k n : Int} {p : Nat} {q : List Tok} (hE : RdF L E x (exK x)) (h : At L p (exK x ++ q)) (hq : Fol q) : oneM E k n ⟨p, false⟩ = (.mk k n 0 [x], ⟨p + (exK x).length, false⟩) := by
 unfold oneM; rw [hE p q h hq]
theorem rd_sim {E : Rd1} {t : Nd} {f q : Nat} (hE : ∀ x, qg x = true -> (exK x).length < q -> RdF L E x (exK x)) (hok : simOk t = true) (hlen : (simK t).length < q) : RdF L (WF L E q (f + 1)) t (simK t) := by
 intro p r h hr
 obtain ⟨k, n, m, ks⟩ := t
 rw [simOk] at hok
 rw [simK] at h hlen ⊢
 rw [WF]
 have one : ∀ l : List Nd, l.length = 1 -> ∃ x, l = [x] := fun l hl => by
  match l, hl with | [x], _ => exact ⟨x, rfl⟩
 have asg : ∀ (v x : Nd) (kv nv mv : Int) (kvs : List Nd), v = .mk kv nv mv kvs -> qg v = true -> (kv = 6 \/ kv = 7 \/ kv = 8) -> (∀ y ∈ kvs, RdF L E y (exK y)) -> RdF L E x (exK x) -> At L p (exK v ++ [61] :: (exK x ++ r)) -> qu L E ⟨p, false⟩ = (setM v x, ⟨p + (exK v).length + 1 + (exK x).length, false⟩) := by
  intro v x kv nv mv kvs hv hvo hk hkv hx ha
  have e1 := var_rd (E := E) hv hvo hk hkv p _ ha (qE (by decide) (by decide))
  have h1 := at_app ha
  have e2 := rd_take h1
  have e3 := hx _ r (Q7 h1).2 hr
  unfold qu
  rw [e1]
  show (setM v (E (Q3 L [61] ⟨p + (exK v).length, false⟩)).1, (E (Q3 L [61] ⟨p + (exK v).length, false⟩)).2) = _
  rw [e2, e3]
 by_cases k14 : k = 14
 ·rw [if_pos k14] at hok h hlen ⊢
  simp only [Bool.and_eq_true] at hok
  have : m = 0 /\ ks.length = 1 := by have := hok.1.1; simp [QU] at this; omega
  obtain ⟨rfl, hl⟩ := this
  obtain ⟨x, rfl⟩ := one ks hl
  have hxo : qg x = true := by simpa using hok.2
  have hx := hE x hxo (by simp only [List.map_cons, List.map_nil, WN, List.length_cons] at hlen; omega)
  obtain ⟨i1, i2⟩ := Wx hok.1.2
  have e6 : exK (.mk 6 n 0 []) = [118 :: Lib.itoa n] := by rw [exK]; rfl
  have ha := asg (.mk 6 n 0 []) x 6 n 0 [] rfl (by rw [qg]; simp [QU, hok.1.2]) (.inl rfl) (fun y hy => by cases hy) hx (by rw [e6]; exact h)
  have e := (Q7 h).1
  rw [if_neg (by rw [e]; simp), if_pos (is_vn h i1), ha, e6, k14]
  show (Nd.mk 14 n 0 [x], RS.mk (p + 1 + 1 + (exK x).length) false) = (Nd.mk 14 n 0 [x], RS.mk (p + ((exK x).length + 1 + 1)) false)
  rw [show p + 1 + 1 + (exK x).length = p + ((exK x).length + 1 + 1) by omega]
 rw [if_neg k14] at hok h hlen ⊢
 by_cases k15 : k = 15
 ·rw [if_pos k15] at hok h hlen ⊢
  simp only [Bool.and_eq_true] at hok
  have : m = 0 /\ ks.length = 2 := by have := hok.1.1; simp [QU] at this; omega
  obtain ⟨rfl, hl⟩ := this
  match ks, hl with
  | [x, y], _ =>
   have hxo : qg x = true /\ qg y = true := by simpa using hok.2
   simp only [List.map_cons, List.map_nil, List.getD_cons_zero, List.getD_cons_succ, List.length_cons, List.length_append] at hlen
   simp only [List.map_cons, List.map_nil, List.getD_cons_zero, List.getD_cons_succ, List.cons_append, List.append_assoc] at h
   have hx := hE x hxo.1 (by omega)
   have hy := hE y hxo.2 (by omega)
   obtain ⟨i1, i2⟩ := Wx hok.1.2
   have e6 : exK (.mk 7 n 0 [x]) = (118 :: Lib.itoa n) :: [91] :: (exK x ++ [[93]]) := by rw [exK]; rfl
   have ha := asg (.mk 7 n 0 [x]) y 7 n 0 [x] rfl (by rw [qg]; simp [QU, hok.1.2, exOks, hxo.1]) (.inr (.inl rfl)) (fun w hw => by rw [List.mem_singleton.1 hw]; exact hx) hy (by rw [e6]; simp only [List.cons_append, List.append_assoc, List.nil_append]; exact h)
   have e := (Q7 h).1
   rw [if_neg (by rw [e]; simp), if_pos (is_vn h i1), ha, e6, k15]
   simp only [List.map_cons, List.map_nil, List.getD_cons_zero, List.getD_cons_succ, List.length_cons, List.length_append, List.length_nil]
   show (Nd.mk 15 n 0 [x, y], _) = _
   exact pos_eq (by omega)
 rw [if_neg k15] at hok h hlen ⊢
 by_cases k16 : k = 16
 ·rw [if_pos k16] at hok h hlen ⊢
  simp only [Bool.and_eq_true, decide_eq_true_eq] at hok
  obtain ⟨x, rfl⟩ := one ks hok.1.1.1
  have hxo : qg x = true := by simpa using hok.2
  have hx := hE x hxo (by simp only [List.map_cons, List.map_nil, WN, List.length_cons] at hlen; omega)
  obtain ⟨i1, i2⟩ := Wx hok.1.1.2
  have e6 : exK (.mk 8 n m []) = [118 :: Lib.itoa n, [46], Lib.itoa m] := by rw [exK]; rfl
  have ha := asg (.mk 8 n m []) x 8 n m [] rfl (by rw [qg]; simp [hok.1.1.2, hok.1.2]) (.inr (.inr rfl)) (fun y hy => by cases hy) hx (by rw [e6]; exact h)
  have e := (Q7 h).1
  rw [if_neg (by rw [e]; simp), if_pos (is_vn h i1), ha, e6, k16]
  show (Nd.mk 16 n m [x], RS.mk (p + 1 + 1 + 1 + 1 + (exK x).length) false) = (Nd.mk 16 n m [x], RS.mk (p + ((exK x).length + 1 + 1 + 1 + 1)) false)
  rw [show p + 1 + 1 + 1 + 1 + (exK x).length = p + ((exK x).length + 1 + 1 + 1 + 1) by omega]
 rw [if_neg k16] at hok h hlen ⊢
 have kw1 : ∀ (kk : Int) (w : Tok), k = kk -> (WX n m ks.length 1 && ks.all qg) = true -> At L p ((w :: WN (ks.map exK)) ++ r) -> (w :: WN (ks.map exK)).length < q -> oneM E kk 0 (Qt ⟨p, false⟩) = (Nd.mk k n m ks, ⟨p + (w :: WN (ks.map exK)).length, false⟩) := by
  intro kk w hk hb ha hl
  simp only [Bool.and_eq_true] at hb
  have : n = 0 /\ m = 0 /\ ks.length = 1 := by have := hb.1; simp [WX, QU] at this; omega
  obtain ⟨rfl, rfl, hl1⟩ := this
  obtain ⟨x, rfl⟩ := one ks hl1
  have hxo : qg x = true := by simpa using hb.2
  have hx := hE x hxo (by simp only [List.map_cons, List.map_nil, WN, List.length_cons] at hl; omega)
  have e1 := (Q7 ha).2
  show oneM E kk 0 ⟨p + 1, false⟩ = _
  rw [one_rd (k := kk) (n := 0) hx e1 hr, hk]
  show (Nd.mk kk 0 0 [x], RS.mk (p + 1 + (exK x).length) false) = (Nd.mk kk 0 0 [x], RS.mk (p + ((exK x).length + 1)) false)
  rw [show p + 1 + (exK x).length = p + ((exK x).length + 1) by omega]
 by_cases k19 : k = 19
 ·rw [if_pos k19] at hok h hlen ⊢
  have e := (Q7 h).1
  rw [if_neg (by rw [e]; decide), if_neg (by rw [is_ne h (by decide)]; decide), if_neg (by rw [e]; decide), if_neg (by rw [e]; decide), if_pos e]
  exact kw1 19 wReturn k19 hok h hlen
 rw [if_neg k19] at hok h hlen ⊢
 by_cases k20 : k = 20
 ·rw [if_pos k20] at hok h hlen ⊢
  have e := (Q7 h).1
  rw [if_neg (by rw [e]; decide), if_neg (by rw [is_ne h (by decide)]; decide), if_neg (by rw [e]; decide), if_neg (by rw [e]; decide), if_neg (by rw [e]; decide), if_pos e]
  exact kw1 20 wThrow k20 hok h hlen
 rw [if_neg k20] at hok h hlen ⊢
 by_cases k24 : k = 24
 ·rw [if_pos k24] at hok h hlen ⊢
  have e := (Q7 h).1
  rw [if_neg (by rw [e]; decide), if_neg (by rw [is_ne h (by decide)]; decide), if_neg (by rw [e]; decide), if_neg (by rw [e]; decide), if_neg (by rw [e]; decide), if_neg (by rw [e]; decide), if_pos e]
  exact kw1 24 wOut k24 hok h hlen
 rw [if_neg k24] at hok h hlen ⊢
 by_cases k25 : k = 25
 ·rw [if_pos k25] at hok h hlen ⊢
  have e := (Q7 h).1
  rw [if_neg (by rw [e]; decide), if_neg (by rw [is_ne h (by decide)]; decide), if_neg (by rw [e]; decide), if_neg (by rw [e]; decide), if_neg (by rw [e]; decide), if_neg (by rw [e]; decide), if_neg (by rw [e]; decide), if_pos e]
  have : n = 0 /\ m = 0 /\ ks = [] := by simpa [WX, QU] using hok
  obtain ⟨rfl, rfl, rfl⟩ := this
  rw [k25]; rfl
 rw [if_neg k25] at hok h hlen ⊢
 by_cases k22 : k = 22
 ·rw [if_pos k22] at hok h hlen ⊢
  simp only [Bool.and_eq_true] at hok
  have : m = 0 /\ ks.length = 1 := by have := hok.1.1; simp [QU] at this; omega
  obtain ⟨rfl, hl⟩ := this
  obtain ⟨x, rfl⟩ := one ks hl
  have hxo : qg x = true := by simpa using hok.2
  have hx := hE x hxo (by simp only [List.map_cons, List.map_nil, WN, List.length_cons] at hlen; omega)
  obtain ⟨i1, i2⟩ := Wx hok.1.2
  obtain ⟨e, h1⟩ := Q7 h
  have hv := rd_vn h1 i1
  have h2 := (Q7 h1).2
  rw [if_neg (by rw [e]; decide), if_neg (by rw [is_ne h (by decide)]; decide), if_neg (by rw [e]; decide), if_neg (by rw [e]; decide), if_neg (by rw [e]; decide), if_neg (by rw [e]; decide), if_neg (by rw [e]; decide), if_neg (by rw [e]; decide), if_neg (by rw [e]; decide), if_pos e]
  show oneM E 22 (Qk L 99 ⟨p + 1, false⟩).1 (Qk L 99 ⟨p + 1, false⟩).2 = _
  rw [hv, i2]
  show oneM E 22 n ⟨p + 1 + 1, false⟩ = _
  rw [one_rd (k := 22) (n := n) hx h2 hr, k22]
  show (Nd.mk 22 n 0 [x], RS.mk (p + 1 + 1 + (exK x).length) false) = (Nd.mk 22 n 0 [x], RS.mk (p + ((exK x).length + 1 + 1)) false)
  rw [show p + 1 + 1 + (exK x).length = p + ((exK x).length + 1 + 1) by omega]
 rw [if_neg k22] at hok h hlen ⊢
 by_cases k23 : k = 23
 ·rw [if_pos k23] at hok
  simp only [Bool.and_eq_true] at hok
  have : m = 0 := by have := hok.1.1; simp [QU] at this; omega
  subst this
  obtain ⟨i1, i2⟩ := Wx hok.1.2
  simp only [List.cons_append, List.append_assoc, List.nil_append] at h
  simp only [List.length_cons, List.length_append, List.length_nil] at hlen
  obtain ⟨e, h1⟩ := Q7 h
  have hv := rd_vn h1 i1
  have h2 := (Q7 h1).2
  have hall := hok.2
  rw [List.all_eq_true] at hall
  have hcl := commasK_len exK exK_pos ks
  have ha := exs_rd (k := q) (fun x hx => hE x (hall x hx) (by have := qB exK hx; omega)) hall (by omega) h2
  have hsp : ¬ (wSpawn : Tok) = wSend := by decide
  rw [if_neg (by rw [e]; decide), if_neg (by rw [is_ne h (by decide)]; decide), if_neg (by rw [e]; decide), if_neg (by rw [e]; decide), if_neg (by rw [e]; decide), if_neg (by rw [e]; decide), if_neg (by rw [e]; decide), if_neg (by rw [e]; decide), if_neg (by rw [e]; decide), if_neg (by rw [e]; decide), if_pos e]
  show (Nd.mk 23 (Qk L 102 ⟨p + 1, false⟩).1 0 (WP L E q (Qk L 102 ⟨p + 1, false⟩).2).1, (WP L E q (Qk L 102 ⟨p + 1, false⟩).2).2) = _
  rw [hv, i2]
  show (Nd.mk 23 n 0 (WP L E q ⟨p + 1 + 1, false⟩).1, (WP L E q ⟨p + 1 + 1, false⟩).2) = _
  rw [ha, k23]
  simp only [List.length_cons, List.length_append, List.length_nil]
  exact pos_eq (by omega)
 ·rw [if_neg k23] at hok; cases hok
theorem rd_st {E : Rd1} {q : Nat} (hE : ∀ x, qg x = true -> (exK x).length < q -> RdF L E x (exK x)) (t : Nd) :
  (stOk t = true -> (stK t).length < q -> ∀ n, (stK t).length < n -> RdF L (WF L E q n) t (stK t)) /\
  (inOk t = true -> (inK t).length < q -> ∀ n, (inK t).length < n -> ∀ p ks, At L p ([123] :: (inK t ++ [125] :: ks)) -> Wl L (WF L E q n) n ⟨p, false⟩ = (t, ⟨p + (inK t).length + 2, false⟩)) := by
 induction t using Nd.ind with
 | h k n m ks ih =>
 have hkid : ∀ f, (stsK ks).length < f -> (stsK ks).length < q -> qG ks = true -> ∀ y ∈ ks, RdF L (WF L E q f) y (stK y) := fun f h1 h2 ho y hy => by
  have := stsK_mem hy
  exact (ih y hy).1 (stOks_mem ho hy) (by omega) f (by omega)
 have hin : inOk (.mk k n m ks) = true -> (inK (.mk k n m ks)).length < q -> ∀ f, (inK (.mk k n m ks)).length < f -> ∀ p r, At L p ([123] :: (inK (.mk k n m ks) ++ [125] :: r)) -> Wl L (WF L E q f) f ⟨p, false⟩ = (.mk k n m ks, ⟨p + (inK (.mk k n m ks)).length + 2, false⟩) := by
  intro ho hq f hf p r h
  refine rd_block ho (fun n' m' l hl => ?_) hf h
  cases hl
  rw [inOk] at ho
  simp only [Bool.and_eq_true] at ho
  rw [inK] at hq hf
  exact hkid f hf hq ho.2
 refine ⟨?_, hin⟩
 intro hok hlq f hf p r h hr
 cases f with
 | zero => omega
 | succ f =>
 rw [stOk, inOks_eq] at hok
 rw [stK, insK_eq] at hlq hf h ⊢
 by_cases k13 : k = 13
 ·rw [if_pos k13] at hok hlq hf h ⊢
  simp only [List.cons_append, List.append_assoc, List.nil_append] at h
  simp only [List.length_cons, List.length_append, List.length_nil] at hlq hf
  have e := (Q7 h).1
  have hio : inOk (.mk k n m ks) = true := by
   rw [inOk, k13]; simpa using hok
  have := hin hio (by rw [inK]; omega) f (by rw [inK]; omega) p r h
  rw [WF, if_pos e, this, inK]
  simp only [List.length_cons, List.length_append, List.length_nil]
  congr 2
 rw [if_neg k13] at hok hlq hf h ⊢
 by_cases k17 : k = 17
 ·rw [if_pos k17] at hok hlq hf h ⊢
  simp only [Bool.and_eq_true] at hok
  have : n = 0 /\ m = 0 /\ ks.length = 3 := by have := hok.1.1.1; simp [WX, QU] at this; omega
  obtain ⟨rfl, rfl, h3⟩ := this
  match ks, h3 with
  | [c, a, b], _ =>
   simp only [List.map_cons, List.map_nil, List.getD_cons_zero, List.getD_cons_succ, List.cons_append, List.append_assoc, List.nil_append, List.length_cons, List.length_append, List.length_nil] at hok hlq hf h ⊢
   obtain ⟨e, h1⟩ := Q7 h
   have ec := hE c hok.1.1.2 (by omega) _ _ h1 (qE (by decide) (by decide))
   have h2 := at_app h1
   have ea := (ih a (by simp)).2 hok.1.2 (by omega) f (by omega) _ _ h2
   have h3 := at_app (Q7 h2).2
   have h4 := (Q7 h3).2
   have et := rd_take h4
   have h5 := (Q7 h4).2
   have eb := (ih b (by simp)).2 hok.2 (by omega) f (by omega) _ _ h5
   rw [WF, if_neg (by rw [e]; decide), if_neg (by rw [is_ne h (by decide)]; decide), if_pos e]
   unfold ifM
   rw [show Qt ⟨p, false⟩ = ⟨p + 1, false⟩ from rfl, ec]
   simp only
   rw [ea]
   simp only
   rw [show p + 1 + (exK c).length + (inK a).length + 2 = p + 1 + (exK c).length + 1 + (inK a).length + 1 by omega, et]
   rw [eb, k17]
   exact pos_eq (by omega)
 rw [if_neg k17] at hok hlq hf h ⊢
 by_cases k18 : k = 18
 ·rw [if_pos k18] at hok hlq hf h ⊢
  simp only [Bool.and_eq_true] at hok
  have : n = 0 /\ m = 0 /\ ks.length = 2 := by have := hok.1.1; simp [WX, QU] at this; omega
  obtain ⟨rfl, rfl, h3⟩ := this
  match ks, h3 with
  | [c, a], _ =>
   simp only [List.map_cons, List.map_nil, List.getD_cons_zero, List.getD_cons_succ, List.cons_append, List.append_assoc, List.nil_append, List.length_cons, List.length_append, List.length_nil] at hok hlq hf h ⊢
   obtain ⟨e, h1⟩ := Q7 h
   have ec := hE c hok.1.2 (by omega) _ _ h1 (qE (by decide) (by decide))
   have h2 := at_app h1
   have ea := (ih a (by simp)).2 hok.2 (by omega) f (by omega) _ _ h2
   rw [WF, if_neg (by rw [e]; decide), if_neg (by rw [is_ne h (by decide)]; decide), if_neg (by rw [e]; decide), if_pos e]
   unfold whileM
   rw [show Qt ⟨p, false⟩ = ⟨p + 1, false⟩ from rfl, ec]
   simp only
   rw [ea, k18]
   exact pos_eq (by omega)
 rw [if_neg k18] at hok hlq hf h ⊢
 by_cases k21 : k = 21
 ·rw [if_pos k21] at hok hlq hf h ⊢
  simp only [Bool.and_eq_true] at hok
  have : m = 0 /\ ks.length = 2 := by have := hok.1.1.1; simp [QU] at this; omega
  obtain ⟨rfl, h3⟩ := this
  match ks, h3 with
  | [a, b], _ =>
   simp only [List.map_cons, List.map_nil, List.getD_cons_zero, List.getD_cons_succ, List.cons_append, List.append_assoc, List.nil_append, List.length_cons, List.length_append, List.length_nil] at hok hlq hf h ⊢
   obtain ⟨i1, i2⟩ := Wx hok.1.1.2
   obtain ⟨e, h1⟩ := Q7 h
   have ea := (ih a (by simp)).2 hok.1.2 (by omega) f (by omega) _ _ h1
   have h3 := at_app (Q7 h1).2
   have h4 := (Q7 h3).2
   have et := rd_take h4
   have h5 := (Q7 h4).2
   have ev := rd_vn h5 i1
   have h6 := (Q7 h5).2
   have eb := (ih b (by simp)).2 hok.2 (by omega) f (by omega) _ _ h6
   rw [WF, if_neg (by rw [e]; decide), if_neg (by rw [is_ne h (by decide)]; decide), if_neg (by rw [e]; decide), if_neg (by rw [e]; decide), if_neg (by rw [e]; decide), if_neg (by rw [e]; decide), if_neg (by rw [e]; decide), if_neg (by rw [e]; decide), if_pos e]
   unfold tryM
   rw [show Qt ⟨p, false⟩ = ⟨p + 1, false⟩ from rfl, ea]
   simp only
   rw [show p + 1 + (inK a).length + 2 = p + 1 + 1 + (inK a).length + 1 by omega, et]
   rw [ev, i2]
   simp only
   rw [eb, k21]
   exact pos_eq (by omega)
 rw [if_neg k21] at hok hlq hf h ⊢
 exact rd_sim hE hok hlq p r h hr
theorem rd_fun {q : Nat} (t : Nd) (hok : qN t = true) (hq : (funK t).length < q) (p : Nat) (r : List Tok) (h : At L p (funK t ++ r)) : qe L z q ⟨p, false⟩ = (t, ⟨p + (funK t).length, false⟩) := by
 obtain ⟨k, n, m, ks⟩ := t
 rw [qN] at hok
 simp only [Bool.and_eq_true, decide_eq_true_eq] at hok
 obtain ⟨⟨⟨⟨⟨h1, h2⟩, h3⟩, h4⟩, h5⟩, h6⟩ := hok
 have : m = 0 := by simp [QU] at h3; exact h3
 subst this
 obtain ⟨i1, i2⟩ := Wx h4
 have hks : ks = ks.take (ks.length - 1) ++ [ks.getD (ks.length - 1) (.mk 0 0 0 [])] := by
  rw [List.getD_eq_getElem?_getD, List.getElem?_eq_getElem (show ks.length - 1 < ks.length by omega), Option.getD_some, <- List.take_succ_eq_append_getElem, show ks.length - 1 + 1 = ks.length by omega, List.take_length]
 rw [funK] at hq h ⊢
 generalize ks.getD (ks.length - 1) (.mk 0 0 0 []) = b at *
 generalize ks.take (ks.length - 1) = tl at *
 subst hks
 subst h1
 simp only [List.cons_append, List.append_assoc, List.nil_append, List.length_cons, List.length_append, List.length_nil] at hq h ⊢
 rw [List.all_eq_true] at h5
 have a0 := rd_take h
 have g1 := (Q7 h).2
 have a1 := rd_num g1 i1
 have g2 := (Q7 g1).2
 have hcl := commasK_len typK typK_pos tl
 have a2 := rd_args (E := WL L q) (k := q) typK (fun y hy => rd_typ y (h5 y hy) q (by have := qB typK hy; omega)) (fun y hy => fr_typ y (h5 y hy)) (by omega) g2
 have g3 := at_app (Q7 g2).2
 have g4 := (Q7 g3).2
 have hEx : ∀ x, qg x = true -> (exK x).length < q -> RdF L (WB L z q) x (exK x) := fun x hx hl => rd_ex x hx q hl
 have a3 := (rd_st hEx b).2 h6 (by omega) q (by omega) _ _ g4
 unfold qe funM
 rw [a0, a1]
 simp only
 rw [a2]
 simp only
 rw [show p + 1 + 1 + (WN (tl.map typK)).length + 2 = p + 1 + 1 + 1 + (WN (tl.map typK)).length + 1 by omega, a3, i2]
 simp only
 exact pos_eq (by omega)
theorem rd_ploop {q : Nat} : ∀ (l : List Nd) (k : Nat) (o : List Nd) (p : Nat), l.all qN = true -> (∀ x ∈ l, (funK x).length < q) -> l.length < k -> At L p (l.map funK).flatten -> WU L (qe L z q) k o ⟨p, false⟩ = (o ++ l, ⟨p + (l.map funK).flatten.length, false⟩)
 | [], k + 1, o, p, _, _, _, h => by
  have := (at_nil (L := L) (p := p) h).2
  rw [WU, if_neg (by simp; omega), List.append_nil]; rfl
 | x :: r, k + 1, o, p, ho, hq, hk, h => by
  simp only [List.all_cons, Bool.and_eq_true] at ho
  rw [List.map_cons, List.flatten_cons] at h
  have hx := rd_fun (z := z) x ho.1 (hq x (by simp)) p _ h
  have hpl : p < L.length := by
   rcases Nat.lt_or_ge p L.length with h1 | h1
   ·exact h1
   ·unfold At at h
    rw [List.drop_eq_nil_of_le h1] at h
    obtain ⟨kk, n, m, ks⟩ := x
    rw [funK] at h
    simp at h
  have ih := rd_ploop r k (o ++ [x]) _ ho.2 (fun y hy => hq y (by simp [hy])) (by simpa using hk) (at_app h)
  rw [WU, if_pos ⟨rfl, hpl⟩, hx]
  show WU L (qe L z q) k (o ++ [x]) ⟨p + (funK x).length, false⟩ = _
  rw [ih, List.append_assoc, List.map_cons, List.flatten_cons, List.length_append, Nat.add_assoc]; rfl
theorem funs_mem : ∀ {ks : List Nd} {x : Nd}, x ∈ ks -> (funK x).length <= (ks.map funK).flatten.length
 | y :: r, x, hx => by
  rw [List.map_cons, List.flatten_cons, List.length_append]
  rcases List.mem_cons.1 hx with rfl | hx
  ·omega
  ·have := funs_mem hx; omega
theorem funs_cnt : ∀ ks : List Nd, ks.length <= (ks.map funK).flatten.length
 | [] => Nat.zero_le _
 | y :: r => by
  rw [List.map_cons, List.flatten_cons, List.length_append, List.length_cons]
  have : 1 <= (funK y).length := by obtain ⟨k, n, m, l⟩ := y; rw [funK]; simp
  have := funs_cnt r
  omega
theorem rd_prog {q : Nat} {n m : Int} {ks : List Nd} (hok : prOk (.mk 27 n m ks) = true) (hL : L.map (·.1) = progK (.mk 27 n m ks)) (hq : L.length < q) : qo L z q = (.mk 27 n m ks, ⟨L.length, false⟩) := by
 rw [prOk, if_pos rfl] at hok
 simp only [Bool.and_eq_true] at hok
 have : m = 0 := by have := hok.1.1; simp [QU] at this; exact this
 subst this
 obtain ⟨i1, i2⟩ := Wx hok.1.2
 have hlen : L.length = (progK (.mk 27 n 0 ks)).length := by rw [<- hL, List.length_map]
 have h0 : At L 0 (progK (.mk 27 n 0 ks)) := hL
 rw [progK] at h0 hlen
 have a0 := rd_take h0
 have g1 := (Q7 h0).2
 have a1 := rd_num g1 i1
 have g2 := (Q7 g1).2
 have hmem : ∀ x ∈ ks, (funK x).length <= (ks.map funK).flatten.length := fun x hx => funs_mem hx
 have hkl := funs_cnt ks
 simp only [List.length_cons] at hlen
 have a2 := rd_ploop (z := z) (q := q) ks q [] 2 hok.2 (fun x hx => by have := hmem x hx; omega) (by omega) g2
 unfold qo
 rw [a0, a1]
 simp only
 rw [a2, i2]
 simp only [List.nil_append]
 rw [hlen, show 2 + (ks.map funK).flatten.length = (ks.map funK).flatten.length + 1 + 1 by omega]
end
theorem Wa {k n m : Int} {ks : List Nd} {w : Int} (s : Sh) (hs : shapesL.getD k.toNat noSh = s) (hk : 0 <= k /\ k < 28 /\ k ≠ 26) (hi : isB s w = true) (hn : s.low <= n /\ n <= s.high) (hm : 0 <= m /\ m <= s.last) (hc : s.least <= (ks.length : Int) - (s.kids.length : Int) /\ (ks.length : Int) - (s.kids.length : Int) <= s.more) (hw : ∀ i (h : i < ks.length), Wr ks[i] (wantK s i) = true) : Wr (.mk k n m ks) w = true := by
 rw [Wr, if_pos ⟨hk.1, hk.2.1⟩, if_neg hk.2.2, hs, hi, fitsF_eq]
 have h1 : rngB s n m = true := by unfold rngB; simp [hn, hm]
 have h2 : cntB s ks.length = true := by unfold cntB; simp [hc]
 have h3 : kidsB s (ks.map Wr) = true := by
  unfold kidsB
  rw [allI_iff]
  intro i hi
  rw [List.length_map] at hi
  rw [Z5 ks Wr hi]
  exact hw i hi
 rw [h1, h2, h3]; rfl
theorem kids1 {x : Nd} {s : Sh} (h : Wr x (wantK s 0) = true) : ∀ i (h : i < [x].length), Wr [x][i] (wantK s i) = true := fun i hi => by
 match i, hi with
 | 0, _ => exact h
theorem kids2 {x y : Nd} {s : Sh} (h : Wr x (wantK s 0) = true) (h2 : Wr y (wantK s 1) = true) : ∀ i (h : i < [x, y].length), Wr [x, y][i] (wantK s i) = true := fun i hi => by
 match i, hi with
 | 0, _ => exact h
 | 1, _ => exact h2
theorem kids3 {x y z : Nd} {s : Sh} (h : Wr x (wantK s 0) = true) (h2 : Wr y (wantK s 1) = true) (h3 : Wr z (wantK s 2) = true) : ∀ i (h : i < [x, y, z].length), Wr [x, y, z][i] (wantK s i) = true := fun i hi => by
 match i, hi with
 | 0, _ => exact h
 | 1, _ => exact h2
 | 2, _ => exact h3
theorem Z0 {s : Sh} : ∀ i (h : i < ([] : List Nd).length), Wr ([] : List Nd)[i] (wantK s i) = true := fun i hi => by simp at hi
theorem kidsA {ks : List Nd} {s : Sh} (hk : s.kids = []) (h : ∀ x ∈ ks, Wr x s.som = true) : ∀ i (h : i < ks.length), Wr ks[i] (wantK s i) = true := fun i hi => by
 unfold wantK
 rw [hk, if_neg (by simp)]
 exact h _ (List.getElem_mem hi)
theorem W7 {x : Nd} : QV [x] = QS x := by simp [QV]
theorem Ze {x y : Nd} : QV [x, y] = max (QS x) (QS y) := by simp [QV]
theorem sizeL1 {x : Nd} : QC [x] = Qs x := by simp [QC]
theorem Wj {ks : List Nd} {D : Nat} (h : ∀ x ∈ ks, QS x <= D) : QV ks <= D := by
 induction ks with
 | nil => simp [QV]
 | cons x r ih =>
  have h1 := h x (by simp)
  have h2 := ih fun y hy => h y (by simp [hy])
  rw [QV]; omega
theorem fit_block {t : Nd} (h : Wr t 6 = true) : Wr t 5 = true := by
 obtain ⟨k, n, m, ks⟩ := t
 rw [Wr] at h ⊢
 split at h
 ·rename_i hk
  rw [if_pos hk]
  simp only [Bool.and_eq_true] at h ⊢
  refine ⟨⟨?_, h.1.2⟩, h.2⟩
  have h1 := h.1.1
  unfold isB at h1 ⊢
  simp only [Bool.or_eq_true, Bool.and_eq_true, decide_eq_true_eq] at h1 ⊢
  rcases h1 with (h1 | ⟨_, h1⟩) | ⟨_, h1⟩
  ·exact .inr ⟨h1, trivial⟩
  ·exact absurd h1 (by decide)
  ·exact absurd h1 (by decide)
 ·cases h
theorem fit_rng {k : Int} (h : 0 <= k /\ k < 28) : -8 <= (shapesL.getD k.toNat noSh).low /\ (shapesL.getD k.toNat noSh).high <= 13 /\ (shapesL.getD k.toNat noSh).last <= 2 := by
 have : ∀ i : Fin 28, -8 <= (shapesL.getD i.val noSh).low /\ (shapesL.getD i.val noSh).high <= 13 /\ (shapesL.getD i.val noSh).last <= 2 := by decide
 exact this ⟨k.toNat, by omega⟩
theorem okL_of {ks : List Nd} (h : ∀ x ∈ ks, okN x) : okL ks := by
 induction ks with
 | nil => rw [okL]; trivial
 | cons x r ih => rw [okL]; exact ⟨h x (by simp), ih fun y hy => h y (by simp [hy])⟩
theorem fit_ok (t : Nd) : ∀ w, Wr t w = true -> okN t := by
 induction t using Nd.ind with
 | h k n m ks ih =>
 intro w h
 rw [Wr] at h
 split at h
 ·rename_i hk
  have hr := fit_rng hk
  simp only [Bool.and_eq_true] at h
  obtain ⟨⟨_, h1⟩, h2⟩ := h
  unfold rngB at h1
  simp only [Bool.and_eq_true, decide_eq_true_eq] at h1
  rw [okN]
  refine ⟨⟨⟨by omega, by omega⟩, ⟨by omega, by omega⟩, ⟨by omega, by omega⟩⟩, okL_of fun x hx => ?_⟩
  obtain ⟨i, hi, rfl⟩ := List.getElem_of_mem hx
  rw [fitsF_eq] at h2
  split at h2
  ·unfold funB at h2
   simp only [Bool.and_eq_true, List.length_map] at h2
   by_cases hl : i = ks.length - 1
   ·have h3 := h2.1.2
    rw [Z5 ks Wr (by omega)] at h3
    subst hl
    exact ih _ hx 6 h3
   ·have h3 := allI_iff.1 h2.2 i (by omega)
    rw [Z5 ks Wr hi] at h3
    exact ih _ hx _ h3
  ·simp only [Bool.and_eq_true] at h2
   have h3 := h2.2
   unfold kidsB at h3
   rw [List.length_map] at h3
   have h4 := allI_iff.1 h3 i hi
   rw [Z5 ks Wr hi] at h4
   exact ih _ hx _ h4
 ·cases h
abbrev GenF := Int -> Int -> Nd × Int × Int
theorem ZQ {pre : Int -> Int -> Prop} {R : Int -> Int -> Nd × Int × Int -> Prop} (h : ∀ a L, pre a L -> ∃ t, R a L t) : ∃ E : GenF, ∀ a L, pre a L -> R a L (E a L) := by
 classical
 refine ⟨fun a L => if h' : pre a L then Classical.choose (h a L h') else (.mk 0 0 0 [], 0, 0), fun a L h' => ?_⟩
 dsimp only
 rw [dif_pos h']
 exact Classical.choose_spec (h a L h')
def ZB (E : GenF) : Nat -> Int -> Int -> List Nd × Int × Int
 | 0, a, L => ([], a, L)
 | n + 1, a, L => ((E a L).1 :: (ZB E n (E a L).2.1 (E a L).2.2).1, (ZB E n (E a L).2.1 (E a L).2.2).2)
def runP (E : GenF) : Nat -> Int -> Int -> List Nd × Int × Int
 | 0, a, L => ([], a, L)
 | n + 1, a, L => if 0 < L then ((E a L).1 :: (runP E n (E a L).2.1 (E a L).2.2).1, (runP E n (E a L).2.1 (E a L).2.2).2) else ([], a, L)
theorem WD (E : GenF) : ∀ n a L, (ZB E n a L).1.length = n
 | 0, a, L => rfl
 | n + 1, a, L => by rw [ZB, List.length_cons, WD E n]
theorem runP_len (E : GenF) : ∀ n a L, (runP E n a L).1.length <= n
 | 0, a, L => Nat.le_refl _
 | n + 1, a, L => by
  rw [runP]
  split
  ·have := runP_len E n (E a L).2.1 (E a L).2.2
   rw [List.length_cons]; omega
  ·exact Nat.zero_le _
structure FitI (s : Sh) (n m : Int) (ks : List Nd) (w : Int) : Prop where
 is : s.is = w \/ (s.is = 3 /\ w = 2) \/ (s.is = 6 /\ w = 5)
 low : s.low <= n
 high : n <= s.high
 mlow : 0 <= m
 mhigh : m <= s.last
 least : s.least <= (ks.length : Int) - (s.kids.length : Int)
 more : (ks.length : Int) - (s.kids.length : Int) <= s.more
 kid : ∀ i (h : i < ks.length), Wr ks[i] (wantK s i) = true
theorem fit_inv {k n m w : Int} {ks : List Nd} (h : Wr (.mk k n m ks) w = true) (hk : k ≠ 26) : FitI (shapesL.getD k.toNat noSh) n m ks w := by
 rw [Wr] at h
 split at h
 ·simp only [Bool.and_eq_true] at h
  obtain ⟨⟨h0, h1⟩, h2, h3⟩ := h
  unfold isB at h0
  unfold rngB at h1
  unfold cntB at h2
  unfold kidsB at h3
  simp only [Bool.and_eq_true, Bool.or_eq_true, decide_eq_true_eq] at h0 h1 h2
  rw [fitsF_eq, List.length_map] at h3
  refine ⟨by omega, h1.1.1, h1.1.2, h1.2.1, h1.2.2, h2.1, h2.2, fun i hi => ?_⟩
  have := allI_iff.1 h3 i hi
  rw [Z5 ks Wr hi] at this
  exact this
 ·cases h
theorem kids_all {s : Sh} {n m w : Int} {ks : List Nd} (h : FitI s n m ks w) (c : Int) (hw : ∀ i, i < ks.length -> wantK s i = c) : ∀ x ∈ ks, Wr x c = true := fun x hx => by
 obtain ⟨i, hi, rfl⟩ := List.getElem_of_mem hx
 have := h.kid i hi
 rw [hw i hi] at this
 exact this
theorem map_getDb (ks : List Nd) (f : Nd -> Bool) {i : Nat} (h : i < ks.length) : (ks.map f).getD i false = f ks[i] := by
 rw [List.getD_eq_getElem?_getD, List.getElem?_map, List.getElem?_eq_getElem h]; rfl
theorem fit_k {k n m w : Int} {ks : List Nd} (h : Wr (.mk k n m ks) w = true) : 0 <= k /\ k < 28 := by
 rw [Wr] at h
 split at h
 ·assumption
 ·cases h
theorem fit_typ (t : Nd) : ∀ w, (w = 2 \/ w = 3) -> Wr t w = true -> typOk t = true := by
 induction t using Nd.ind with
 | h k n m ks ih =>
 intro w hw h
 have hk := fit_k h
 by_cases h26 : k = 26
 ·subst h26
  rw [Wr, if_pos (by decide)] at h
  simp only [Bool.and_eq_true] at h
  have := h.1.1
  unfold isB at this
  simp [shapesL] at this
  omega
 have hf := fit_inv h h26
 have hkk : k = 0 \/ k = 1 \/ k = 2 \/ k = 3 \/ (4 <= k /\ k <= 27) := by omega
 rw [typOk]
 rcases hkk with rfl | rfl | rfl | rfl | h4
 ·have hl : ks.length = 0 := by have := hf.least; have := hf.more; simp [shapesL] at this; simp_all
  obtain rfl : ks = [] := List.eq_nil_of_length_eq_zero hl
  obtain ⟨h0, h1, h2, h3, h4, h5, h6, h7⟩ := hf
  simp [shapesL] at h0 h1 h2 h3 h4 h5 h6
  simp [WX, QU]; omega
 ·have hl : ks.length = 0 := by have := hf.least; have := hf.more; simp [shapesL] at this; simp_all
  obtain rfl : ks = [] := List.eq_nil_of_length_eq_zero hl
  obtain ⟨h0, h1, h2, h3, h4, h5, h6, h7⟩ := hf
  simp [shapesL] at h0 h1 h2 h3 h4 h5 h6
  simp [WX, QU]; omega
 ·have hl : ks.length = 0 := by have := hf.least; have := hf.more; simp [shapesL] at this; simp_all
  obtain rfl : ks = [] := List.eq_nil_of_length_eq_zero hl
  obtain ⟨h0, h1, h2, h3, h4, h5, h6, h7⟩ := hf
  simp [shapesL] at h0 h1 h2 h3 h4 h5 h6
  simp [WX, QU, Zf]; omega
 ·have ha := kids_all hf 3 fun i _ => by show (if i < 0 then _ else (3 : Int)) = 3; rw [if_neg (by omega)]
  obtain ⟨h0, h1, h2, h3, h4, h5, h6, h7⟩ := hf
  simp [shapesL] at h0 h1 h2 h3 h4 h5 h6
  have hl : 0 < ks.length := by omega
  rw [if_neg (by omega), if_neg (by omega), if_pos rfl, typOks_eq]
  have : ks.all typOk = true := by rw [List.all_eq_true]; exact fun x hx => ih x hx 3 (.inr rfl) (ha x hx)
  rw [this]
  simp [WX, QU, hl]; omega
 ·exfalso
  have h0 := hf.is
  have hs : ∀ j : Fin 28, 4 <= j.val -> ((shapesL.getD j.val noSh).is ≠ 2 /\ (shapesL.getD j.val noSh).is ≠ 3) := by decide
  have := hs ⟨k.toNat, by omega⟩ (by show 4 <= k.toNat; omega)
  dsimp only at this
  omega
theorem fit_is {k n m w : Int} {ks : List Nd} (h : Wr (.mk k n m ks) w = true) : (shapesL.getD k.toNat noSh).is = w \/ ((shapesL.getD k.toNat noSh).is = 3 /\ w = 2) \/ ((shapesL.getD k.toNat noSh).is = 6 /\ w = 5) := by
 rw [Wr] at h
 split at h
 ·simp only [Bool.and_eq_true] at h
  have := h.1.1
  unfold isB at this
  simp only [Bool.and_eq_true, Bool.or_eq_true, decide_eq_true_eq] at this
  omega
 ·cases h
theorem kind_is {k n m w : Int} {ks : List Nd} (h : Wr (.mk k n m ks) w = true) : (w = 4 -> 4 <= k /\ k <= 12) /\ (w = 6 -> k = 13) /\ (w = 5 -> 13 <= k /\ k <= 25) /\ (w = 1 -> k = 26) /\ (w = 0 -> k = 27) := by
 have hk := fit_k h
 have h0 := fit_is h
 have hs : ∀ j : Fin 28, ((shapesL.getD j.val noSh).is = 4 -> 4 <= j.val /\ j.val <= 12) /\ ((shapesL.getD j.val noSh).is = 6 -> j.val = 13) /\ ((shapesL.getD j.val noSh).is = 5 -> 13 <= j.val /\ j.val <= 25) /\ ((shapesL.getD j.val noSh).is = 1 -> j.val = 26) /\ ((shapesL.getD j.val noSh).is = 0 -> j.val = 27) := by decide
 have := hs ⟨k.toNat, by omega⟩
 dsimp only at this
 obtain ⟨a1, a2, a3, a4, a5⟩ := this
 refine ⟨fun hw => ?_, fun hw => ?_, fun hw => ?_, fun hw => ?_, fun hw => ?_⟩
 ·have := a1 (by omega); omega
 ·have := a2 (by omega); omega
 ·by_cases h6 : (shapesL.getD k.toNat noSh).is = 6
  ·have := a2 h6; omega
  ·have := a3 (by omega); omega
 ·have := a4 (by omega); omega
 ·have := a5 (by omega); omega
theorem fit_ex (t : Nd) : Wr t 4 = true -> qg t = true := by
 induction t using Nd.ind with
 | h k n m ks ih =>
 intro h
 have hk := (kind_is h).1 rfl
 have hf := fit_inv h (by omega)
 have hkk : k = 4 \/ k = 5 \/ k = 6 \/ k = 7 \/ k = 8 \/ k = 9 \/ k = 10 \/ k = 11 \/ k = 12 := by omega
 have hall : (∀ i, i < ks.length -> wantK (shapesL.getD k.toNat noSh) i = 4) -> exOks ks = true := fun hw => by
  rw [exOks_eq, List.all_eq_true]
  exact fun x hx => ih x hx (kids_all hf 4 hw x hx)
 rw [qg]
 rcases hkk with rfl | rfl | rfl | rfl | rfl | rfl | rfl | rfl | rfl
 ·have hl : ks.length = 0 := by have := hf.least; have := hf.more; simp [shapesL] at this; simp_all
  obtain rfl : ks = [] := List.eq_nil_of_length_eq_zero hl
  obtain ⟨h0, h1, h2, h3, h4, h5, h6, h7⟩ := hf
  simp [shapesL] at h0 h1 h2 h3 h4 h5 h6
  by_cases hn : n < 0
  ·simp [QU, Zf, hn]; omega
  ·simp [QU, Zf, hn]; omega
 ·have hl : ks.length = 0 := by have := hf.least; have := hf.more; simp [shapesL] at this; simp_all
  obtain rfl : ks = [] := List.eq_nil_of_length_eq_zero hl
  obtain ⟨h0, h1, h2, h3, h4, h5, h6, h7⟩ := hf
  simp [shapesL] at h0 h1 h2 h3 h4 h5 h6
  simp [QU, Zf]; omega
 ·have hl : ks.length = 0 := by have := hf.least; have := hf.more; simp [shapesL] at this; simp_all
  obtain rfl : ks = [] := List.eq_nil_of_length_eq_zero hl
  obtain ⟨h0, h1, h2, h3, h4, h5, h6, h7⟩ := hf
  simp [shapesL] at h0 h1 h2 h3 h4 h5 h6
  simp [QU, Zf]; omega
 ·have hl : ks.length = 1 := by have := hf.least; have := hf.more; simp [shapesL] at *; omega
  have := hall fun i hi => by (have : i = 0 := by omega); subst this; rfl
  obtain ⟨h0, h1, h2, h3, h4, h5, h6, h7⟩ := hf
  simp [shapesL] at h0 h1 h2 h3 h4 h5 h6
  simp [QU, Zf, this]; omega
 ·have hl : ks.length = 0 := by have := hf.least; have := hf.more; simp [shapesL] at this; simp_all
  obtain rfl : ks = [] := List.eq_nil_of_length_eq_zero hl
  obtain ⟨h0, h1, h2, h3, h4, h5, h6, h7⟩ := hf
  simp [shapesL] at h0 h1 h2 h3 h4 h5 h6
  simp [QU, Zf]
  omega
 ·have hl : ks.length = 2 := by have := hf.least; have := hf.more; simp [shapesL] at *; omega
  have := hall fun i hi => by (have : i = 0 \/ i = 1 := by omega); rcases this with rfl | rfl <;> rfl
  obtain ⟨h0, h1, h2, h3, h4, h5, h6, h7⟩ := hf
  simp [shapesL] at h0 h1 h2 h3 h4 h5 h6
  simp [QU, Zf, this]; omega
 ·have hl : ks.length = 1 := by have := hf.least; have := hf.more; simp [shapesL] at *; omega
  have := hall fun i hi => by (have : i = 0 := by omega); subst this; rfl
  obtain ⟨h0, h1, h2, h3, h4, h5, h6, h7⟩ := hf
  simp [shapesL] at h0 h1 h2 h3 h4 h5 h6
  simp [WX, QU, Zf, this]; omega
 ·have := hall fun i hi => by show (if i < 0 then _ else (4 : Int)) = 4; rw [if_neg (by omega)]
  obtain ⟨h0, h1, h2, h3, h4, h5, h6, h7⟩ := hf
  simp [shapesL] at h0 h1 h2 h3 h4 h5 h6
  simp [QU, Zf, this]; omega
 ·have hl : ks.length = 0 := by have := hf.least; have := hf.more; simp [shapesL] at this; simp_all
  obtain rfl : ks = [] := List.eq_nil_of_length_eq_zero hl
  obtain ⟨h0, h1, h2, h3, h4, h5, h6, h7⟩ := hf
  simp [shapesL] at h0 h1 h2 h3 h4 h5 h6
  simp [QU, Zf]; omega
theorem fit_st (t : Nd) : (Wr t 5 = true -> stOk t = true) /\ (Wr t 6 = true -> inOk t = true) := by
 induction t using Nd.ind with
 | h k n m ks ih =>
 have hblk : ∀ w, k = 13 -> Wr (.mk k n m ks) w = true -> WX n m ks.length (-1) = true /\ qG ks = true := fun w hk h => by
  have hf := fit_inv h (by omega)
  subst hk
  have ha := kids_all hf 5 fun i _ => by show (if i < 0 then _ else (5 : Int)) = 5; rw [if_neg (by omega)]
  obtain ⟨h0, h1, h2, h3, h4, h5, h6, h7⟩ := hf
  simp [shapesL] at h0 h1 h2 h3 h4 h5 h6
  refine ⟨by simp [WX, QU]; omega, ?_⟩
  have : ∀ ks : List Nd, (∀ x ∈ ks, stOk x = true) -> qG ks = true := by
   intro ks
   induction ks with
   | nil => intro _; rfl
   | cons x r ihr => intro h; rw [qG, h x (by simp), ihr fun y hy => h y (by simp [hy])]; rfl
  exact this ks fun x hx => (ih x hx).1 (ha x hx)
 refine ⟨fun h => ?_, fun h => ?_⟩
 ·have hk := (kind_is h).2.2.1 rfl
  have hf := fit_inv h (by omega)
  have hkk : k = 13 \/ k = 14 \/ k = 15 \/ k = 16 \/ k = 17 \/ k = 18 \/ k = 19 \/ k = 20 \/ k = 21 \/ k = 22 \/ k = 23 \/ k = 24 \/ k = 25 := by omega
  have hall : (∀ i, i < ks.length -> wantK (shapesL.getD k.toNat noSh) i = 4) -> ks.all qg = true := fun hw => by
   rw [List.all_eq_true]
   exact fun x hx => fit_ex x (kids_all hf 4 hw x hx)
  rw [stOk]
  rcases hkk with rfl | rfl | rfl | rfl | rfl | rfl | rfl | rfl | rfl | rfl | rfl | rfl | rfl
  ·obtain ⟨b1, b2⟩ := hblk 5 rfl h
   rw [if_pos rfl, b1, b2]; rfl
  ·have hl : ks.length = 1 := by have := hf.least; have := hf.more; simp [shapesL] at *; omega
   have := hall fun i hi => by (have : i = 0 := by omega); subst this; rfl
   obtain ⟨h0, h1, h2, h3, h4, h5, h6, h7⟩ := hf
   simp [shapesL] at h0 h1 h2 h3 h4 h5 h6
   simp only [simOk, this]
   simp [QU, Zf]; omega
  ·have hl : ks.length = 2 := by have := hf.least; have := hf.more; simp [shapesL] at *; omega
   have := hall fun i hi => by (have : i = 0 \/ i = 1 := by omega); rcases this with rfl | rfl <;> rfl
   obtain ⟨h0, h1, h2, h3, h4, h5, h6, h7⟩ := hf
   simp [shapesL] at h0 h1 h2 h3 h4 h5 h6
   simp only [simOk, this]
   simp [QU, Zf]; omega
  ·have hl : ks.length = 1 := by have := hf.least; have := hf.more; simp [shapesL] at *; omega
   have := hall fun i hi => by (have : i = 0 := by omega); subst this; rfl
   obtain ⟨h0, h1, h2, h3, h4, h5, h6, h7⟩ := hf
   simp [shapesL] at h0 h1 h2 h3 h4 h5 h6
   simp only [simOk, this]
   simp [QU, Zf]; omega
  ·have hl : ks.length = 3 := by have := hf.least; have := hf.more; simp [shapesL] at *; omega
   have k0 : qg ks[0] = true := fit_ex _ (hf.kid 0 (by omega))
   have k1 : inOk ks[1] = true := (ih _ (List.getElem_mem _)).2 (hf.kid 1 (by omega))
   have k2 : inOk ks[2] = true := (ih _ (List.getElem_mem _)).2 (hf.kid 2 (by omega))
   obtain ⟨h0, h1, h2, h3, h4, h5, h6, h7⟩ := hf
   simp [shapesL] at h0 h1 h2 h3 h4 h5 h6
   rw [if_neg (by omega), if_pos rfl, inOks_eq, map_getDb ks qg (i := 0) (by omega), map_getDb ks inOk (i := 1) (by omega), map_getDb ks inOk (i := 2) (by omega), k0, k1, k2]
   simp [WX, QU]; omega
  ·have hl : ks.length = 2 := by have := hf.least; have := hf.more; simp [shapesL] at *; omega
   have k0 : qg ks[0] = true := fit_ex _ (hf.kid 0 (by omega))
   have k1 : inOk ks[1] = true := (ih _ (List.getElem_mem _)).2 (hf.kid 1 (by omega))
   obtain ⟨h0, h1, h2, h3, h4, h5, h6, h7⟩ := hf
   simp [shapesL] at h0 h1 h2 h3 h4 h5 h6
   rw [if_neg (by omega), if_neg (by omega), if_pos rfl, inOks_eq, map_getDb ks qg (i := 0) (by omega), map_getDb ks inOk (i := 1) (by omega), k0, k1]
   simp [WX, QU]; omega
  ·have hl : ks.length = 1 := by have := hf.least; have := hf.more; simp [shapesL] at *; omega
   have := hall fun i hi => by (have : i = 0 := by omega); subst this; rfl
   obtain ⟨h0, h1, h2, h3, h4, h5, h6, h7⟩ := hf
   simp [shapesL] at h0 h1 h2 h3 h4 h5 h6
   simp only [simOk, this]
   simp [WX, QU, Zf]; omega
  ·have hl : ks.length = 1 := by have := hf.least; have := hf.more; simp [shapesL] at *; omega
   have := hall fun i hi => by (have : i = 0 := by omega); subst this; rfl
   obtain ⟨h0, h1, h2, h3, h4, h5, h6, h7⟩ := hf
   simp [shapesL] at h0 h1 h2 h3 h4 h5 h6
   simp only [simOk, this]
   simp [WX, QU, Zf]; omega
  ·have hl : ks.length = 2 := by have := hf.least; have := hf.more; simp [shapesL] at *; omega
   have k0 : inOk ks[0] = true := (ih _ (List.getElem_mem _)).2 (hf.kid 0 (by omega))
   have k1 : inOk ks[1] = true := (ih _ (List.getElem_mem _)).2 (hf.kid 1 (by omega))
   obtain ⟨h0, h1, h2, h3, h4, h5, h6, h7⟩ := hf
   simp [shapesL] at h0 h1 h2 h3 h4 h5 h6
   rw [if_neg (by omega), if_neg (by omega), if_neg (by omega), if_pos rfl, inOks_eq, map_getDb ks inOk (i := 0) (by omega), map_getDb ks inOk (i := 1) (by omega), k0, k1]
   simp [QU, Zf]; omega
  ·have hl : ks.length = 1 := by have := hf.least; have := hf.more; simp [shapesL] at *; omega
   have := hall fun i hi => by (have : i = 0 := by omega); subst this; rfl
   obtain ⟨h0, h1, h2, h3, h4, h5, h6, h7⟩ := hf
   simp [shapesL] at h0 h1 h2 h3 h4 h5 h6
   simp only [simOk, this]
   simp [QU, Zf]; omega
  ·have := hall fun i hi => by show (if i < 0 then _ else (4 : Int)) = 4; rw [if_neg (by omega)]
   obtain ⟨h0, h1, h2, h3, h4, h5, h6, h7⟩ := hf
   simp [shapesL] at h0 h1 h2 h3 h4 h5 h6
   simp only [simOk, this]
   simp [QU, Zf]; omega
  ·have hl : ks.length = 1 := by have := hf.least; have := hf.more; simp [shapesL] at *; omega
   have := hall fun i hi => by (have : i = 0 := by omega); subst this; rfl
   obtain ⟨h0, h1, h2, h3, h4, h5, h6, h7⟩ := hf
   simp [shapesL] at h0 h1 h2 h3 h4 h5 h6
   simp only [simOk, this]
   simp [WX, QU, Zf]; omega
  ·have hl : ks.length = 0 := by have := hf.least; have := hf.more; simp [shapesL] at this; simp_all
   obtain rfl : ks = [] := List.eq_nil_of_length_eq_zero hl
   obtain ⟨h0, h1, h2, h3, h4, h5, h6, h7⟩ := hf
   simp [shapesL] at h0 h1 h2 h3 h4 h5 h6
   simp only [simOk]
   simp [WX, QU, Zf]; omega
 ·have hk := (kind_is h).2.1 rfl
  obtain ⟨b1, b2⟩ := hblk 6 hk h
  rw [inOk, b1, b2, decide_eq_true hk]; rfl
theorem fit_funok (t : Nd) (h : Wr t 1 = true) : qN t = true := by
 obtain ⟨k, n, m, ks⟩ := t
 have hk := (kind_is h).2.2.2.1 rfl
 subst hk
 rw [Wr, if_pos (by decide), if_pos rfl, fitsF_eq] at h
 simp only [Bool.and_eq_true] at h
 obtain ⟨⟨_, h1⟩, h2⟩ := h
 unfold rngB at h1
 unfold funB at h2
 simp only [Bool.and_eq_true, decide_eq_true_eq, List.length_map] at h1 h2
 simp [shapesL] at h1
 obtain ⟨⟨⟨c1, c2⟩, c3⟩, c4⟩ := h2
 have hl : 0 < ks.length := by
  by_cases h0 : ks.length = 0
  ·omega
  ·omega
 rw [Z5 ks Wr (by omega)] at c3
 rw [qN]
 have d1 : inOk (ks.getD (ks.length - 1) (.mk 0 0 0 [])) = true := by
  rw [List.getD_eq_getElem?_getD, List.getElem?_eq_getElem (show ks.length - 1 < ks.length by omega)]
  exact (fit_st _).2 c3
 have d2 : (ks.take (ks.length - 1)).all typOk = true := by
  rw [List.all_eq_true]
  intro x hx
  obtain ⟨i, hi, rfl⟩ := List.getElem_of_mem hx
  rw [List.length_take] at hi
  have h3 := allI_iff.1 c4 i (by omega)
  rw [Z5 ks Wr (by omega)] at h3
  rw [List.getElem_take]
  refine fit_typ _ _ ?_ h3
  split <;> simp
 rw [d1, d2, decide_eq_true hl]
 simp [QU, Zf]; omega
theorem fit_pr (t : Nd) (h : Wr t 0 = true) : prOk t = true := by
 obtain ⟨k, n, m, ks⟩ := t
 have hk := (kind_is h).2.2.2.2 rfl
 have hf := fit_inv h (by omega)
 subst hk
 have ha := kids_all hf 1 fun i _ => by show (if i < 0 then _ else (1 : Int)) = 1; rw [if_neg (by omega)]
 obtain ⟨h0, h1, h2, h3, h4, h5, h6, h7⟩ := hf
 simp [shapesL] at h0 h1 h2 h3 h4 h5 h6
 rw [prOk, if_pos rfl]
 have : ks.all qN = true := by rw [List.all_eq_true]; exact fun x hx => fit_funok x (ha x hx)
 rw [this]
 simp [QU, Zf]; omega
theorem valid_pr {t : Nd} (h : qF t = true) : prOk t = true := by
 unfold qF at h
 simp only [Bool.and_eq_true] at h
 exact fit_pr t h.2
def Li (l : List UInt8) : Prop := ∀ b ∈ l, b.toNat < 128 /\ b ≠ 10
theorem qd {a b : List UInt8} (ha : Li a) (hb : Li b) : Li (a ++ b) := fun x hx => (List.mem_append.1 hx).elim (ha x) (hb x)
theorem li_nil : Li [] := fun x hx => by cases hx
theorem li_cons {x : UInt8} {b : List UInt8} (hx : (decide (x.toNat < 128) && decide (x ≠ 10)) = true) (hb : Li b) : Li (x :: b) := fun y hy => by
 rcases List.mem_cons.1 hy with rfl | hy
 ·simpa using hx
 ·exact hb y hy
theorem ZN {l : List UInt8} (h : (l.all fun x => decide (x.toNat < 128) && decide (x ≠ 10)) = true) : Li l := fun b hb => by
 rw [List.all_eq_true] at h
 simpa using h b hb
theorem li_dec (u : Nat) : Li (Lib.decDigits u) := by
 rw [Lib.decDigits_eq]
 intro b hb
 obtain ⟨t, _, rfl⟩ := List.mem_map.1 hb
 unfold Lib.dg
 have h : u / 10 ^ (Lib.nDigits u - 1 - t) % 10 < 10 := Nat.mod_lt _ (by decide)
 generalize u / 10 ^ (Lib.nDigits u - 1 - t) % 10 = d at *
 have e : (UInt8.ofNat (48 + d)).toNat = 48 + d := by
  rw [UInt8.toNat_ofNat']; omega
 refine ⟨by omega, fun h10 => ?_⟩
 rw [h10] at e
 have : (10 : UInt8).toNat = 10 := rfl
 omega
theorem li_itoa (n : Int) : Li (Lib.itoa n) := by
 unfold Lib.itoa
 split
 ·exact li_cons (by decide) (li_dec _)
 ·exact li_dec _
theorem li_commas : ∀ l : List (List UInt8), (∀ x ∈ l, Li x) -> Li (Zp l)
 | [], _ => by show Li (Lib.join [] comma); rw [Lib.join_nil]; exact li_nil
 | x :: r, h => by
  show Li (Lib.join (x :: r) comma)
  rw [Lib.join_cons]
  refine qd (h x (by simp)) ?_
  unfold Lib.joinTail
  intro b hb
  obtain ⟨y, hy, hby⟩ := List.mem_flatten.1 hb
  obtain ⟨z, hz, rfl⟩ := List.mem_map.1 hy
  exact qd (ZN (by decide)) (h z (by simp [hz])) b hby
theorem li_typ (t : Nd) : Li (typT t) := by
 induction t using Nd.ind with
 | h k n m ks ih =>
 rw [typT, typTs_eq]
 repeat' split
 ·exact ZN (by decide)
 ·exact ZN (by decide)
 ·exact qd (ZN (by decide)) (li_itoa n)
 ·refine qd (qd (ZN (by decide)) (li_commas _ fun x hx => ?_)) (ZN (by decide))
  obtain ⟨y, hy, rfl⟩ := List.mem_map.1 hx
  exact ih y hy
 ·exact li_nil
theorem li_op (i : Nat) : Li (opTexts.getD i []) := by
 rcases Nat.lt_or_ge i 14 with h | h
 ·have : ∀ j : Fin 14, (opTexts.getD j.val []).all (fun x => decide (x.toNat < 128) && decide (x ≠ 10)) = true := by decide
  exact ZN (this ⟨i, h⟩)
 ·rw [List.getD_eq_getElem?_getD, List.getElem?_eq_none (by simpa [opTexts] using h)]; exact li_nil
theorem li_getD {l : List (List UInt8)} (h : ∀ x ∈ l, Li x) (i : Nat) : Li (l.getD i []) := by
 rw [List.getD_eq_getElem?_getD]
 cases hx : l[i]? with
 | none => exact li_nil
 | some x => exact h x (List.mem_of_getElem? hx)
theorem li_ex (t : Nd) : Li (exT t) := by
 induction t using Nd.ind with
 | h k n m ks ih =>
 rw [exT, exTs_eq]
 have hk : ∀ x ∈ ks.map exT, Li x := fun x hx => by obtain ⟨y, hy, rfl⟩ := List.mem_map.1 hx; exact ih y hy
 have hc := li_commas _ hk
 have h0 := li_getD hk 0
 have h1 := li_getD hk 1
 have hop := li_op n.toNat
 have hn := li_itoa n
 have hm := li_itoa m
 repeat' split
 all_goals repeat' first | assumption | exact li_nil | exact ZN (by decide) | refine qd ?_ ?_
theorem li_exs (ks : List Nd) : ∀ x ∈ ks.map exT, Li x := fun x hx => by obtain ⟨y, hy, rfl⟩ := List.mem_map.1 hx; exact li_ex y
theorem li_sim (t : Nd) : Li (simT t) := by
 obtain ⟨k, n, m, ks⟩ := t
 rw [simT]
 have hk := li_exs ks
 have hc := li_commas _ hk
 have h0 := li_getD hk 0
 have h1 := li_getD hk 1
 have hn := li_itoa n
 have hm := li_itoa m
 repeat' split
 all_goals repeat' first | assumption | exact li_nil | exact ZN (by decide) | refine qd ?_ ?_
def nlC (l : List UInt8) : Nat := l.countP (· == 10)
theorem nl_app (a b : List UInt8) : nlC (a ++ b) = nlC a + nlC b := List.countP_append
theorem nl_li {l : List UInt8} (h : Li l) : nlC l = 0 := by
 unfold nlC
 rw [List.countP_eq_zero]
 intro b hb
 simpa using (h b hb).2
theorem nl_le (l : List UInt8) : nlC l <= l.length := List.countP_le_length
theorem li_rep (i : Nat) : Li (Lib.repeatL [32, 32] i) := by
 induction i with
 | zero => exact li_nil
 | succ i ih => exact qd (a := [32, 32]) (ZN (by decide)) ih
def Asc (l : List UInt8) : Prop := ∀ b ∈ l, b.toNat < 128
theorem ZL {a b : List UInt8} (ha : Asc a) (hb : Asc b) : Asc (a ++ b) := fun x hx => (List.mem_append.1 hx).elim (ha x) (hb x)
theorem asc_nil : Asc [] := fun x hx => (by cases hx)
theorem li_asc {l : List UInt8} (h : Li l) : Asc l := fun b hb => (h b hb).1
theorem qq {s : List UInt8} (h : Li s) (i : Nat) : Asc (ZZ i s) /\ nlC (ZZ i s) = 1 := by
 unfold ZZ
 have h1 := qd (li_rep i) h
 refine ⟨ZL (li_asc h1) (fun b hb => by simp at hb; subst hb; decide), ?_⟩
 rw [nl_app, nl_li h1]; rfl
theorem st_asc (t : Nd) : ∀ i, (Asc (stT t i) /\ nlC (stT t i) = nlC (stT t 0)) /\ (Asc (inT t i) /\ nlC (inT t i) = nlC (inT t 0)) := by
 induction t using Nd.ind with
 | h k n m ks ih =>
 have hsts : ∀ ks : List Nd, (∀ x ∈ ks, ∀ i, Asc (stT x i) /\ nlC (stT x i) = nlC (stT x 0)) -> ∀ i j, Asc (stTs ks i) /\ nlC (stTs ks i) = nlC (stTs ks j) := by
  intro ks
  induction ks with
  | nil => intro _ i j; exact ⟨by rw [stTs]; exact asc_nil, by rw [stTs, stTs]⟩
  | cons x r ihr =>
   intro h i j
   have h1 := h x (by simp) i
   have h1' := h x (by simp) j
   have h2 := ihr (fun y hy => h y (by simp [hy])) i j
   rw [stTs, stTs, nl_app, nl_app]
   exact ⟨ZL h1.1 h2.1, by rw [h1.2, h1'.2, h2.2]⟩
 have hk := hsts ks fun x hx i => (ih x hx i).1
 have hin : ∀ j i, Asc ((ks.map fun x => inT x i).getD j []) /\ nlC ((ks.map fun x => inT x i).getD j []) = nlC ((ks.map fun x => inT x 0).getD j []) := fun j i => by
  rw [List.getD_eq_getElem?_getD, List.getD_eq_getElem?_getD, List.getElem?_map, List.getElem?_map]
  cases hx : ks[j]? with
  | none => exact ⟨asc_nil, rfl⟩
  | some x => exact (ih x (List.mem_of_getElem? hx) i).2
 have hex := li_exs ks
 have hie : Li (sIf ++ (ks.map exT).getD 0 [] ++ sBr) := qd (qd (ZN (by decide)) (li_getD hex 0)) (ZN (by decide))
 have hwe : Li (sWhile ++ (ks.map exT).getD 0 [] ++ sBr) := qd (qd (ZN (by decide)) (li_getD hex 0)) (ZN (by decide))
 have hce : Li (sCatch ++ Lib.itoa n ++ sBr) := qd (qd (ZN (by decide)) (li_itoa n)) (ZN (by decide))
 have lo := fun i => qq (s := sOpen) (ZN (by decide)) i
 have lc := fun i => qq (s := sClose) (ZN (by decide)) i
 have le := fun i => qq (s := sElse) (ZN (by decide)) i
 have lt := fun i => qq (s := sTry) (ZN (by decide)) i
 have l1 := fun i => qq hie i
 have l2 := fun i => qq hwe i
 have l3 := fun i => qq hce i
 have l4 := fun i => qq (li_sim (.mk k n m ks)) i
 intro i
 constructor
 ·rw [stT, stT, inTs_eq, inTs_eq]
  by_cases k13 : k = 13
  ·rw [if_pos k13, if_pos k13]
   split
   ·simp only [nl_app]
    exact ⟨ZL (ZL (lo i).1 (hk (i + 1) 0).1) (lc i).1, by rw [(lo i).2, (lo 0).2, (lc i).2, (lc 0).2, (hk (i + 1) (0 + 1)).2]⟩
   ·simp only [nl_app]
    exact ⟨ZL (ZL (lo i).1 asc_nil) (lc i).1, by rw [(lo i).2, (lo 0).2, (lc i).2, (lc 0).2]⟩
  rw [if_neg k13, if_neg k13]
  split
  ·simp only [nl_app]
   exact ⟨ZL (ZL (ZL (ZL (l1 i).1 (hin 1 i).1) (le i).1) (hin 2 i).1) (lc i).1, by rw [(l1 i).2, (l1 0).2, (hin 1 i).2, (le i).2, (le 0).2, (hin 2 i).2, (lc i).2, (lc 0).2]⟩
  split
  ·simp only [nl_app]
   exact ⟨ZL (ZL (l2 i).1 (hin 1 i).1) (lc i).1, by rw [(l2 i).2, (l2 0).2, (hin 1 i).2, (lc i).2, (lc 0).2]⟩
  split
  ·simp only [nl_app]
   exact ⟨ZL (ZL (ZL (ZL (lt i).1 (hin 0 i).1) (l3 i).1) (hin 1 i).1) (lc i).1, by rw [(lt i).2, (lt 0).2, (hin 0 i).2, (l3 i).2, (l3 0).2, (hin 1 i).2, (lc i).2, (lc 0).2]⟩
  ·exact ⟨(l4 i).1, by rw [(l4 i).2, (l4 0).2]⟩
 ·rw [inT, inT]
  split
  ·exact hk (i + 1) (0 + 1)
  ·exact ⟨asc_nil, rfl⟩
theorem fun_asc (t : Nd) : Asc (funT t) := by
 obtain ⟨k, n, m, ks⟩ := t
 rw [funT]
 split
 ·have hc : Li (Zp ((ks.take (ks.length - 1)).map typT)) := li_commas _ fun x hx => by obtain ⟨y, _, rfl⟩ := List.mem_map.1 hx; exact li_typ y
  exact ZL (qq (qd (qd (qd (qd (ZN (by decide)) (li_itoa n)) (ZN (by decide))) hc) (ZN (by decide))) 0).1 (ZL (st_asc _ 0).2.1 (qq (s := sClose) (ZN (by decide)) 0).1)
 ·exact asc_nil
theorem pr_asc (t : Nd) : Asc (prT t) := by
 obtain ⟨k, n, m, ks⟩ := t
 rw [prT]
 split
 ·refine ZL (qq (qd (ZN (by decide)) (li_itoa n)) 0).1 fun b hb => ?_
  obtain ⟨y, hy, hby⟩ := List.mem_flatten.1 hb
  obtain ⟨z, _, rfl⟩ := List.mem_map.1 hy
  exact fun_asc z b hby
 split
 ·exact fun_asc _
 split
 ·exact li_asc (li_typ _)
 split
 ·exact li_asc (li_ex _)
 ·exact (st_asc _ 0).1.1
theorem print_asc (t : Nd) : Asc (WW t) := by
 unfold WW
 split
 ·exact pr_asc t
 ·exact asc_nil
theorem prT_len (t : Nd) (hok : okN t) (hs : Qs t <= 1000000) : (prT t).length <= 7000000 * Qs t := by
 have h1 := typT_len t hok
 have h2 := exT_len t hok
 have h3 := (st_len t hok 0).1
 have h4 := funT_len t hok hs
 have hb : bnd 0 (Qs t) <= 7000000 * Qs t := by
  unfold bnd
  exact Nat.mul_le_mul (by omega) (Nat.le_refl _)
 obtain ⟨k, n, m, ks⟩ := t
 rw [prT]
 rw [okN] at hok
 have hn := Zy hok.1.2.1
 have hse : Qs (.mk k n m ks) = 1 + QC ks := by rw [Qs]
 have hf := funs_len ks hok.2 (by omega)
 repeat' split
 ·rw [List.length_append, Wc, List.length_append, hse]
  simp only [List.length_cons, List.length_nil]; omega
 ·exact h4
 ·omega
 ·omega
 ·omega
theorem print_len (t : Nd) (hok : okN t) (hs : Qs t <= 1000000) : (WW t).length <= 7000000 * Qs t := by
 unfold WW
 split
 ·exact prT_len t hok hs
 ·simp
end Go.Proofs
end
