/-
  Part 4 of the proof: V1 V2 LX RB TS T8 TA TL KX KP KS GM.
-/
import Derived.Test.YtnppaoeijmgneaaGreatDoorZA1
import Derived.Test.YtnppaoeijmgneaaGreatDoorZA2
import Derived.Test.YtnppaoeijmgneaaGreatDoorZA3
set_option linter.unusedSimpArgs false
set_option linter.unusedVariables false
set_option maxRecDepth 10000
set_option maxHeartbeats 4000000
section
namespace Go.Proofs
open Go.Av
variable {G : Nat -> DV}
attribute [local irreducible] OpSem ZA ZV Z8 ACalls AEnd AClose RV
open Go.Bl
theorem s_sub_as {P : Program} {G : Nat -> DV} {B : Nat} {f : Operand -> DV} {σ : List ABlk} {K : DV -> List ABlk -> Prop} {dst : Option Tmp} {type : TypeId} {pos : String} {after : Array Edge} {gd : Option (Nat × Bool)} {t t' : TypeId} {x y : Operand} {a b c : Int} (hx : f x = .sc (.int .i64 a)) (hy : f y = .sc (.int .i64 b)) (hc : a - b = c) (h : -9223372036854775808 <= c /\ c <= 9223372036854775807)
  (k : K (.sc (.int .i64 c)) σ) : OpSem P G B ⟨dst, .binOp .sub t x y t', type, pos, after, gd⟩ f σ K :=
 W1 hx hy (by rw [hc]; exact h) (by rw [hc]; exact k)
theorem funFits_c (k n m : Int) (ks : List Nd) (hl : ks.length <= 1048576) (hn : 0 <= n /\ n <= 3) (hx : ∀ x ∈ ks, ∀ w, Go.Av.Pure Tryz.prog G 75 [.agg (Enc.enc x), .i w] (.b (WF x w))) :
  Go.Av.Pure Tryz.prog G 123 [.agg [.i k, .i n, .i m, Wi ks]] (.b (funB n (ks.map WF))) := fun B => by
 have hml : (ks.map WF).length = ks.length := List.length_map _
 by_cases h0 : ks.length = 0
 ·have hF : funB n (ks.map WF) = false := by
   unfold funB
   rw [hml, decide_eq_false (by omega : ¬ n <= (ks.length : Int) - 1)]; rfl
  have hvs : (ks.length : Int) - 1 = -1 := by omega
  rw [hF]
  refine Qa Tryz.func123 rfl Tryz.ntmps123 rfl (t := [(0, .agg [.i k, .i n, .i m, Wi ks])]) rfl fun E hE => ?_
  (repeat' first | (refine Qo ?_; (first | (refine Qj ?_; refine QU rfl ?_) | (refine Qd ?_; refine Q5 rfl ?_) | (refine Ql ?_; refine Qf rfl rfl rfl ?_) | (refine Qh ?_; (first | refine s_sub_as rfl rfl hvs ⟨by omega, by omega⟩ ?_ | refine Wh rfl rfl ?_)) | (refine Qk ?_; refine Q6 rfl ?_) | (refine QJ ?_; refine Ze rfl rfl ?_) | (refine Qb ?_; refine Qg rfl rfl ?_) | (refine Wx ?_; refine Ww rfl rfl (fun _ _ => ?_)))) | (refine Qv ?_; (first | refine Qu ?_ | refine QY rfl ?_ | refine Zl rfl rfl rfl rfl ?_ | refine Wv rfl rfl (by omega) ?_)) | (refine Qs ?_; (first | refine Qw ?_ | refine Qc ?_ | refine QB rfl ?_ | refine QM ?_)))
  exact e_1 (Tryz.results123) (QQ rfl) (Zi (σ := []) (r := [_]) ⟨rfl, rfl⟩)
 obtain ⟨v, hv⟩ : ∃ v : Nat, ks.length = v + 1 := ⟨ks.length - 1, by omega⟩
 have hvs : (ks.length : Int) - 1 = (v : Int) := by omega
 have hvk : v < ks.length := by omega
 have hfl : (ks.map WF).getD v noF = WF ks[v] := qc ks WF hvk
 have hlast := hx _ (List.getElem_mem hvk) 6
 have hfun : funB n (ks.map WF) = (((decide (n <= (v : Int)) && decide ((v : Int) <= 6)) && WF ks[v] 6) && allI (fun i => (ks.map WF).getD i noF (if (i : Int) < n then 3 else 2)) v) := by
  unfold funB
  rw [hml, hvs, show ks.length - 1 = v by omega, hfl]
 by_cases hc : n <= (v : Int) /\ (v : Int) <= 6
 case neg =>
  have hF : funB n (ks.map WF) = false := by
   rw [hfun]
   rcases Classical.not_and_iff_not_or_not.1 hc with h | h
   ·rw [decide_eq_false h]; rfl
   ·rw [decide_eq_false h, Bool.and_false]; rfl
  rw [hF]
  refine Qa Tryz.func123 rfl Tryz.ntmps123 rfl (t := [(0, .agg [.i k, .i n, .i m, Wi ks])]) rfl fun E hE => ?_
  (repeat' first | (refine Qo ?_; (first | (refine Qj ?_; refine QU rfl ?_) | (refine Qd ?_; refine Q5 rfl ?_) | (refine Ql ?_; refine Qf rfl rfl rfl ?_) | (refine Qh ?_; (first | refine s_sub_as rfl rfl hvs ⟨by omega, by omega⟩ ?_ | refine Wh rfl rfl ?_ | refine ZM rfl rfl ?_)) | (refine Qk ?_; refine Q6 rfl ?_) | (refine QJ ?_; (first | refine Ze rfl rfl ?_ | refine WZ rfl rfl ?_)) | (refine Qb ?_; refine Qg rfl rfl ?_) | (refine Wx ?_; refine Ww rfl rfl (fun _ _ => ?_)))) | (refine Qv ?_; (first | refine Qu ?_ | refine QY rfl ?_ | refine WX rfl rfl rfl rfl ?_ | refine Zl rfl rfl rfl rfl ?_ | refine Wv rfl rfl (by omega) ?_ | refine qW rfl rfl (fun _ => ?_) (fun _ => ?_))) | (refine Qs ?_; (first | refine Qw ?_ | refine Qc ?_ | refine QB rfl ?_ | refine QM ?_)))
  all_goals exact e_1 (Tryz.results123) (QQ rfl) (Zi (σ := []) (r := [_]) ⟨rfl, rfl⟩)
 cases hb : WF ks[v] 6 with
 | false =>
  have hF : funB n (ks.map WF) = false := by rw [hfun, hb]; simp
  rw [hF]
  rw [hb] at hlast
  refine Qa Tryz.func123 rfl Tryz.ntmps123 rfl (t := [(0, .agg [.i k, .i n, .i m, Wi ks])]) rfl fun E hE => ?_
  (repeat' first | (refine Qo ?_; (first | (refine Qj ?_; refine QU rfl ?_) | (refine Qd ?_; refine Q5 rfl ?_) | (refine Ql ?_; (first | refine Wj rfl ?_ | refine Qf rfl rfl rfl ?_)) | (refine QN ?_; refine Q9 rfl rfl (by first | assumption | omega | (simp; done) | (simp; omega)) ?_) | (refine Qh ?_; (first | refine s_sub_as rfl rfl hvs ⟨by omega, by omega⟩ ?_ | refine Wh rfl rfl ?_ | refine ZM rfl rfl ?_)) | (refine Qk ?_; (first | refine Q6 rfl ?_ | refine W5 rfl rfl (hlast) ?_)) | (refine QJ ?_; refine WZ rfl rfl ?_) | (refine WQ ?_; refine Zv rfl ?_) | (refine Qb ?_; refine Qg rfl rfl ?_) | (refine Wx ?_; refine Ww rfl rfl (fun _ _ => ?_)))) | (refine Qv ?_; (first | refine Qu ?_ | refine QY rfl ?_ | refine WX rfl rfl rfl rfl ?_ | refine We rfl rfl (by omega) ?_)) | (refine Qs ?_; (first | refine Qw ?_ | refine Qc ?_ | refine QB rfl ?_ | refine QM ?_)))
  all_goals exact e_1 (Tryz.results123) (QQ rfl) (Zi (σ := []) (r := [_]) ⟨rfl, rfl⟩)
 | true =>
  rw [hb] at hlast
  rw [hfun, hb, decide_eq_true hc.1, decide_eq_true hc.2, Bool.and_true, Bool.and_true, Bool.true_and]
  have hl2 : ∀ (i : Nat) (h : i < (ks.take v).length), ∀ w, Go.Av.Pure Tryz.prog G 75 [.agg (Enc.enc (ks.take v)[i]), .i w] (.b ((ks.map WF).getD i noF w)) := fun i h w => by
   have hi : i < ks.length := by rw [List.length_take] at h; omega
   rw [qc ks WF hi, List.getElem_take]
   exact hx _ (List.getElem_mem hi) w
  have htl : (ks.take v).length = v := by rw [List.length_take]; omega
  clear hx hfun hfl
  generalize (fun (i : Nat) (w : Int) => (ks.map WF).getD i noF w) = ff at *
  refine Qa Tryz.func123 rfl Tryz.ntmps123 rfl (t := [(0, .agg [.i k, .i n, .i m, Wi ks])]) rfl fun E hE => ?_
  (repeat' first | (refine Qo ?_; (first | (refine Qj ?_; refine QU rfl ?_) | (refine Qd ?_; refine Q5 rfl ?_) | (refine Ql ?_; (first | refine Wj rfl ?_ | refine Qf rfl rfl rfl ?_)) | (refine QN ?_; refine Q9 rfl rfl (by first | assumption | omega | (simp; done) | (simp; omega)) ?_) | (refine Qh ?_; (first | refine s_sub_as rfl rfl hvs ⟨by omega, by omega⟩ ?_ | refine Wh rfl rfl ?_ | refine ZM rfl rfl ?_)) | (refine Qk ?_; (first | refine Q6 rfl ?_ | refine W5 rfl rfl (hlast) ?_)) | (refine QJ ?_; refine WZ rfl rfl ?_) | (refine WQ ?_; refine Zv rfl ?_) | (refine Qb ?_; refine Qg rfl rfl ?_) | (refine Zx ?_; refine s_slice_hn rfl rfl (by omega) ?_) | (refine Wx ?_; refine Ww rfl rfl (fun _ _ => ?_)))) | (refine Qv ?_; (first | refine Qu ?_ | refine QY rfl ?_ | refine WX rfl rfl rfl rfl ?_ | refine We rfl rfl (by omega) ?_)) | (refine Qs ?_; (first | refine Qw ?_ | refine Qc ?_ | refine Qm ?_ | refine QR ?_ | refine QH rfl ?_)))
  rename_i g1 hg1
  generalize hfs : ks.map WF = fs at *
  generalize hlt : ks.take v = l at *
  refine Z5 (fun (i : Nat) => ⟨[(1, .ptr 0 g1 0), (2, .b false), (31, Wi l), (32, .i l.length), (33, .i i)], [.row g1 [.i k, .i n, .i m, Wi ks]]⟩) (fun i => i <= v /\ ∀ j, j < i -> fs.getD j noF (if (j : Int) < n then 3 else 2) = true) (fun i => v - i) 0 ?_ ⟨by omega, fun j hj => by omega⟩ ?_
  ·exact zal rfl
  intro i ⟨hi, hall⟩
  by_cases hil : i < v
  ·by_cases hin : (i : Int) < n
   ·have hfi := hl2 i (by omega) 3
    cases hbi : fs.getD i noF 3 with
    | false =>
     have hA : allI (fun i => fs.getD i noF (if (i : Int) < n then 3 else 2)) v = false := by
      rw [Bool.eq_false_iff]
      intro h
      have := allI_iff.1 h i hil
      rw [if_pos hin, hbi] at this; cases this
     rw [hA]
     rw [hbi] at hfi
     clear hl2
     (repeat' first | (refine Qo ?_; (first | (refine Qj ?_; refine QU rfl ?_) | (refine Qd ?_; refine Q5 rfl ?_) | (refine Ql ?_; (first | refine Qi rfl rfl (by first | assumption | exact Enc.len _ | rfl) ?_ | refine Wj rfl ?_ | refine Qf rfl rfl rfl ?_)) | (refine QN ?_; refine Q9 rfl rfl (by first | assumption | omega | (simp; done) | (simp; omega)) ?_) | (refine Qh ?_; refine Wh rfl rfl ?_) | (refine Qk ?_; refine W5 rfl rfl (hfi) ?_) | (refine Qx ?_; refine Qe rfl rfl rfl (by first | assumption | exact Enc.len _ | rfl) (by first | assumption | exact Enc.len _ | rfl) rfl ?_) | (refine WQ ?_; refine Zv rfl ?_) | (refine Qb ?_; refine Qg rfl rfl ?_) | (refine QG ?_; refine QD (fun _ _ => ?_)))) | (refine Qv ?_; (first | refine Qu ?_ | refine QY rfl ?_ | refine Q1 ?_)) | (refine Qs ?_; (first | refine Qw ?_ | refine Qc ?_ | refine Qm ?_ | refine QR ?_ | refine QB rfl ?_ | refine Qr rfl (by omega) ?_ | refine QM ?_)))
     all_goals exact e_1 (Tryz.results123) (QQ rfl) (Zi (σ := []) ⟨rfl, rfl⟩)
    | true =>
     rw [hbi] at hfi
     clear hl2
     (repeat' first | (refine Qo ?_; (first | (refine Qj ?_; refine QU rfl ?_) | (refine Qd ?_; refine Q5 rfl ?_) | (refine Ql ?_; (first | refine Qi rfl rfl (by first | assumption | exact Enc.len _ | rfl) ?_ | refine Wj rfl ?_ | refine Qf rfl rfl rfl ?_)) | (refine QN ?_; refine Q9 rfl rfl (by first | assumption | omega | (simp; done) | (simp; omega)) ?_) | (refine Qh ?_; (first | refine Wh rfl rfl ?_ | refine Zr rfl rfl (by omega) ?_)) | (refine Qk ?_; refine W5 rfl rfl (hfi) ?_) | (refine Qx ?_; refine Qe rfl rfl rfl (by first | assumption | exact Enc.len _ | rfl) (by first | assumption | exact Enc.len _ | rfl) rfl ?_) | (refine WQ ?_; refine Zv rfl ?_) | (refine Qb ?_; refine Qg rfl rfl ?_) | (refine QG ?_; refine QD (fun _ _ => ?_)))) | (refine Qv ?_; (first | refine Qu ?_ | refine QY rfl ?_ | refine Q1 ?_)) | (refine Qs ?_; (first | refine Qw ?_ | refine Qc ?_ | refine Qm ?_ | refine QR ?_ | refine QH rfl ?_ | refine Qr rfl (by omega) ?_)))
     refine ⟨i + 1, ⟨by omega, fun j hj => ?_⟩, by omega, ?_⟩
     ·rcases Nat.lt_or_ge j i with h | h
      ·exact hall j h
      ·have : j = i := by omega
       subst this; rw [if_pos hin]; exact hbi
     ·exact zal rfl
   ·have hfi := hl2 i (by omega) 2
    cases hbi : fs.getD i noF 2 with
    | false =>
     have hA : allI (fun i => fs.getD i noF (if (i : Int) < n then 3 else 2)) v = false := by
      rw [Bool.eq_false_iff]
      intro h
      have := allI_iff.1 h i hil
      rw [if_neg hin, hbi] at this; cases this
     rw [hA]
     rw [hbi] at hfi
     clear hl2
     (repeat' first | (refine Qo ?_; (first | (refine Qj ?_; refine QU rfl ?_) | (refine Qd ?_; refine Q5 rfl ?_) | (refine Ql ?_; (first | refine Qi rfl rfl (by first | assumption | exact Enc.len _ | rfl) ?_ | refine Wj rfl ?_ | refine Qf rfl rfl rfl ?_)) | (refine QN ?_; refine Q9 rfl rfl (by first | assumption | omega | (simp; done) | (simp; omega)) ?_) | (refine Qh ?_; refine Wh rfl rfl ?_) | (refine Qk ?_; refine W5 rfl rfl (hfi) ?_) | (refine Qx ?_; refine Qe rfl rfl rfl (by first | assumption | exact Enc.len _ | rfl) (by first | assumption | exact Enc.len _ | rfl) rfl ?_) | (refine WQ ?_; refine Zv rfl ?_) | (refine Qb ?_; refine Qg rfl rfl ?_) | (refine QG ?_; refine QD (fun _ _ => ?_)))) | (refine Qv ?_; (first | refine Qu ?_ | refine QY rfl ?_ | refine Q1 ?_)) | (refine Qs ?_; (first | refine Qw ?_ | refine Qc ?_ | refine Qm ?_ | refine QR ?_ | refine QB rfl ?_ | refine Qr rfl (by omega) ?_ | refine Qn rfl (by omega) ?_ | refine QM ?_)))
     all_goals exact e_1 (Tryz.results123) (QQ rfl) (Zi (σ := []) ⟨rfl, rfl⟩)
    | true =>
     rw [hbi] at hfi
     clear hl2
     (repeat' first | (refine Qo ?_; (first | (refine Qj ?_; refine QU rfl ?_) | (refine Qd ?_; refine Q5 rfl ?_) | (refine Ql ?_; (first | refine Qi rfl rfl (by first | assumption | exact Enc.len _ | rfl) ?_ | refine Wj rfl ?_ | refine Qf rfl rfl rfl ?_)) | (refine QN ?_; refine Q9 rfl rfl (by first | assumption | omega | (simp; done) | (simp; omega)) ?_) | (refine Qh ?_; (first | refine Wh rfl rfl ?_ | refine Zr rfl rfl (by omega) ?_)) | (refine Qk ?_; refine W5 rfl rfl (hfi) ?_) | (refine Qx ?_; refine Qe rfl rfl rfl (by first | assumption | exact Enc.len _ | rfl) (by first | assumption | exact Enc.len _ | rfl) rfl ?_) | (refine WQ ?_; refine Zv rfl ?_) | (refine Qb ?_; refine Qg rfl rfl ?_) | (refine QG ?_; refine QD (fun _ _ => ?_)))) | (refine Qv ?_; (first | refine Qu ?_ | refine QY rfl ?_ | refine Q1 ?_)) | (refine Qs ?_; (first | refine Qw ?_ | refine Qc ?_ | refine Qm ?_ | refine QR ?_ | refine QH rfl ?_ | refine Qr rfl (by omega) ?_ | refine Qn rfl (by omega) ?_)))
     refine ⟨i + 1, ⟨by omega, fun j hj => ?_⟩, by omega, ?_⟩
     ·rcases Nat.lt_or_ge j i with h | h
      ·exact hall j h
      ·have : j = i := by omega
       subst this; rw [if_neg hin]; exact hbi
     ·exact zal rfl
  ·have hiv : i = v := by omega
   subst hiv
   have hA : allI (fun j => fs.getD j noF (if (j : Int) < n then 3 else 2)) i = true := allI_iff.2 hall
   rw [hA]
   clear hl2
   (repeat' first | (refine Qo ?_; (first | (refine Qd ?_; refine Q5 rfl ?_) | (refine Qh ?_; refine Wh rfl rfl ?_))) | (refine Qv ?_; (first | refine Qu ?_ | refine QY rfl ?_)) | (refine Qs ?_; (first | refine Qw ?_ | refine Qc ?_ | refine Qn rfl (by omega) ?_ | refine WI rfl ?_ | refine QM ?_)))
   exact e_1 (Tryz.results123) (QQ rfl) (Zi (σ := []) (r := [_]) ⟨rfl, rfl⟩)
instance : Enc Sh where
 enc s := [.i s.is, .i s.low, .i s.high, .i s.last, Wi s.kids, .i s.more, .i s.least, .i s.som]
 es := 8
 len _ := rfl
 one _ d hd := by
  simp only [List.mem_cons, List.not_mem_nil, or_false] at hd
  rcases hd with rfl | rfl | rfl | rfl | rfl | rfl | rfl | rfl <;> rfl
 clo r d hd := by
  simp only [List.mem_cons, List.not_mem_nil, or_false] at hd
  rcases hd with rfl | rfl | rfl | rfl | rfl | rfl | rfl | rfl <;> first | exact Wy | exact WP _
 pos := by decide
def shapesT : DV := .ep (WH shapesL)
theorem shape_at {k : Int} (h0 : 0 <= k) (h1 : k < 28) : ∃ is low high last kids more least som, shapesL.getD k.toNat noSh = ⟨is, low, high, last, kids, more, least, som⟩ /\ kids.length <= 3 /\ (k = 26 -> is = 1 /\ low = 0 /\ high = 3 /\ last = 0) /\
  partD ((WH shapesL).drop (k.toNat * 8)) 0 8 = some [.i is, .i low, .i high, .i last, Wi kids, .i more, .i least, .i som] := by
 have : k = 0 \/ k = 1 \/ k = 2 \/ k = 3 \/ k = 4 \/ k = 5 \/ k = 6 \/ k = 7 \/ k = 8 \/ k = 9 \/ k = 10 \/ k = 11 \/ k = 12 \/ k = 13 \/ k = 14 \/ k = 15 \/ k = 16 \/ k = 17 \/ k = 18 \/ k = 19 \/ k = 20 \/ k = 21 \/ k = 22 \/ k = 23 \/ k = 24 \/ k = 25 \/ k = 26 \/ k = 27 := by omega
 rcases this with rfl | rfl | rfl | rfl | rfl | rfl | rfl | rfl | rfl | rfl | rfl | rfl | rfl | rfl | rfl | rfl | rfl | rfl | rfl | rfl | rfl | rfl | rfl | rfl | rfl | rfl | rfl | rfl <;> exact ⟨_, _, _, _, _, _, _, _, rfl, by decide, by decide, rfl⟩
theorem fits_c (hG0 : G 0 = shapesT) (t : Nd) : QI t <= 1000000 -> ∀ w, Go.Av.Pure Tryz.prog G 75 [.agg (Enc.enc t), .i w] (.b (WF t w)) := by
 induction t using Nd.ind with
 | h k n m ks ih =>
 intro hsz w B
 have hse : QI (.mk k n m ks) = 1 + QT ks := by rw [QI]
 rw [hse] at hsz
 have hln := Zq ks
 have hx : ∀ x ∈ ks, ∀ w, Go.Av.Pure Tryz.prog G 75 [.agg (Enc.enc x), .i w] (.b (WF x w)) := fun x hx w => ih x hx (by have := WK hx; omega) w
 clear ih
 rw [WF, fitsF_eq, Q3]
 have hml : (ks.map WF).length = ks.length := List.length_map _
 by_cases hk : 0 <= k /\ k < 28
 case neg =>
  rw [if_neg hk]
  clear hx
  refine Qa Tryz.func75 rfl Tryz.ntmps75 rfl (t := [(0, .agg [.i k, .i n, .i m, Wi ks]), (1, .i w)]) rfl fun E hE => ?_
  (repeat' first | (refine Qo ?_; (first | (refine Qj ?_; refine QU rfl ?_) | (refine Qd ?_; refine Q5 rfl ?_) | (refine Ql ?_; refine Qf rfl rfl rfl ?_) | (refine Qh ?_; (first | refine Wh rfl rfl ?_ | refine Zu rfl rfl ?_)) | (refine QJ ?_; (first | refine Ze rfl rfl ?_ | refine WZ rfl rfl ?_)) | (refine Qb ?_; refine Qg rfl rfl ?_) | (refine Wx ?_; refine Ww rfl rfl (fun _ _ => ?_)))) | (refine Qv ?_; (first | refine Qu ?_ | refine QY rfl ?_ | refine WX rfl rfl rfl rfl ?_ | refine Zl rfl rfl rfl rfl ?_ | refine qW rfl rfl (fun _ => ?_) (fun _ => ?_))) | (refine Qs ?_; (first | refine Qw ?_ | refine Qc ?_ | refine QB rfl ?_ | refine Qr rfl (by omega) ?_ | refine QM ?_)))
  all_goals exact e_1 (Tryz.results75) (QQ rfl) (Zi (σ := []) (r := [_]) ⟨rfl, rfl⟩)
 rw [if_pos hk]
 obtain ⟨is, low, high, last, kids, more, least, som, hs, hkl, h26, hpart⟩ := shape_at hk.1 hk.2
 rw [hs]
 clear hs
 by_cases hI : isB ⟨is, low, high, last, kids, more, least, som⟩ w = true
 case neg =>
  have hI2 : is ≠ w /\ ¬ (is = 3 /\ w = 2) /\ ¬ (is = 6 /\ w = 5) := by
   have : ¬ ((is = w \/ (is = 3 /\ w = 2)) \/ (is = 6 /\ w = 5)) := by simpa [isB] using hI
   omega
  rw [show isB ⟨is, low, high, last, kids, more, least, som⟩ w = false by simpa using hI, Bool.false_and, Bool.false_and]
  clear hx hI h26
  refine Qa Tryz.func75 rfl Tryz.ntmps75 rfl (t := [(0, .agg [.i k, .i n, .i m, Wi ks]), (1, .i w)]) rfl fun E hE => ?_
  (repeat' first | (refine Qo ?_; (first | (refine Qj ?_; refine QU rfl ?_) | (refine Qd ?_; refine Q5 rfl ?_) | (refine Ql ?_; (first | refine ZP rfl hpart rfl ?_ | refine Qf rfl rfl rfl ?_)) | (refine QN ?_; refine qs (cs := WH shapesL) hG0 rfl (by omega) (by omega) ?_) | (refine Qh ?_; (first | refine Wh rfl rfl ?_ | refine Zu rfl rfl ?_ | refine Wc rfl rfl ?_)) | (refine QJ ?_; (first | refine Ze rfl rfl ?_ | refine WZ rfl rfl ?_)) | (refine Qx ?_; refine Qe rfl rfl rfl (by first | assumption | exact Enc.len _ | rfl) (by first | assumption | exact Enc.len _ | rfl) rfl ?_) | (refine WQ ?_; (first | refine s_not_d rfl ?_ | refine Zv rfl ?_)) | (refine Qb ?_; refine Qg rfl rfl ?_) | (refine QG ?_; refine QD (fun _ _ => ?_)) | (refine Wx ?_; refine Ww rfl rfl (fun _ _ => ?_)))) | (refine Qv ?_; (first | refine Qu ?_ | refine QY rfl ?_ | refine Q1 ?_ | refine WX rfl rfl rfl rfl ?_ | refine Zl rfl rfl rfl rfl ?_ | refine Wv rfl rfl (by omega) ?_ | refine We rfl rfl (by omega) ?_ | refine qW rfl rfl (fun _ => ?_) (fun _ => ?_))) | (refine Qs ?_; (first | refine Qw ?_ | refine Qc ?_ | refine QR ?_ | refine QB rfl ?_ | refine Qn rfl (by omega) ?_ | refine QM ?_)))
  all_goals exact e_1 (Tryz.results75) (QQ rfl) (Zi (σ := []) (r := [_, _]) ⟨rfl, rfl⟩)
 rw [hI, Bool.true_and]
 have hI3 : is = w \/ (is ≠ w /\ is = 3 /\ w = 2) \/ (is ≠ w /\ is ≠ 3 /\ is = 6 /\ w = 5) := by
  have : (is = w \/ (is = 3 /\ w = 2)) \/ (is = 6 /\ w = 5) := by simpa [isB] using hI
  omega
 clear hI
 have hrng : rngB ⟨is, low, high, last, kids, more, least, som⟩ n m = true ↔ (low <= n /\ n <= high) /\ 0 <= m /\ m <= last := by simp [rngB]
 have hcnt : cntB ⟨is, low, high, last, kids, more, least, som⟩ ks.length = true ↔ least <= (ks.length : Int) - (kids.length : Int) /\ (ks.length : Int) - (kids.length : Int) <= more := by simp [cntB]
 have hkd : kidsB ⟨is, low, high, last, kids, more, least, som⟩ (ks.map WF) = allI (fun i => (ks.map WF).getD i noF (if i < kids.length then kids.getD i 0 else som)) ks.length := by unfold kidsB; rw [hml]; rfl
 have hfun0 := fun (h : 0 <= n /\ n <= 3) => funFits_c (G := G) k n m ks (by omega) h hx
 have hl2 : ∀ (i : Nat) (h : i < ks.length), ∀ w, Go.Av.Pure Tryz.prog G 75 [.agg (Enc.enc ks[i]), .i w] (.b ((ks.map WF).getD i noF w)) := fun i h w => by
  rw [qc ks WF h]
  exact hx _ (List.getElem_mem h) w
 clear hx
 generalize ks.map WF = fs at *
 rcases hI3 with hI3 | hI3 | hI3
 ·by_cases hr : (low <= n /\ n <= high) /\ 0 <= m /\ m <= last
  case neg =>
   rw [show rngB ⟨is, low, high, last, kids, more, least, som⟩ n m = false from Bool.eq_false_iff.2 fun h => hr (hrng.1 h), Bool.false_and]
   clear hl2 hfun0 hrng hcnt hkd h26
   refine Qa Tryz.func75 rfl Tryz.ntmps75 rfl (t := [(0, .agg [.i k, .i n, .i m, Wi ks]), (1, .i w)]) rfl fun E hE => ?_
   (repeat' first | (refine Qo ?_; (first | (refine Qj ?_; refine QU rfl ?_) | (refine Qd ?_; refine Q5 rfl ?_) | (refine Ql ?_; (first | refine ZP rfl hpart rfl ?_ | refine Qf rfl rfl rfl ?_)) | (refine QN ?_; refine qs (cs := WH shapesL) hG0 rfl (by omega) (by omega) ?_) | (refine Qh ?_; (first | refine Wh rfl rfl ?_ | refine ZM rfl rfl ?_ | refine Zu rfl rfl ?_ | refine Wc rfl rfl ?_)) | (refine QJ ?_; (first | refine Ze rfl rfl ?_ | refine WZ rfl rfl ?_)) | (refine Qx ?_; refine Qe rfl rfl rfl (by first | assumption | exact Enc.len _ | rfl) (by first | assumption | exact Enc.len _ | rfl) rfl ?_) | (refine WQ ?_; refine Zv rfl ?_) | (refine Qb ?_; refine Qg rfl rfl ?_) | (refine QG ?_; refine QD (fun _ _ => ?_)) | (refine Wx ?_; refine Ww rfl rfl (fun _ _ => ?_)))) | (refine Qv ?_; (first | refine Qu ?_ | refine QY rfl ?_ | refine Q1 ?_ | refine WX rfl rfl rfl rfl ?_ | refine Zl rfl rfl rfl rfl ?_ | refine o_gu rfl rfl rfl rfl rfl ?_ | refine Wv rfl rfl (by omega) ?_ | refine We rfl rfl (by omega) ?_ | refine qW rfl rfl (fun _ => ?_) (fun _ => ?_))) | (refine Qs ?_; (first | refine Qw ?_ | refine Qc ?_ | refine QR ?_ | refine QB rfl ?_ | refine Qr rfl (by omega) ?_ | refine Qn rfl (by omega) ?_ | refine QM ?_)))
   all_goals exact e_1 (Tryz.results75) (QQ rfl) (Zi (σ := []) (r := [_, _]) ⟨rfl, rfl⟩)
  rw [hrng.2 hr, Bool.true_and]
  by_cases k26 : k = 26
  ·rw [if_pos k26]
   obtain ⟨e1, e2, e3, e4⟩ := h26 k26
   have hfun := hfun0 ⟨by omega, by omega⟩
   clear hl2 hfun0 hrng hcnt hkd h26
   refine Qa Tryz.func75 rfl Tryz.ntmps75 rfl (t := [(0, .agg [.i k, .i n, .i m, Wi ks]), (1, .i w)]) rfl fun E hE => ?_
   (repeat' first | (refine Qo ?_; (first | (refine Qj ?_; refine QU rfl ?_) | (refine Qd ?_; refine Q5 rfl ?_) | (refine Ql ?_; (first | refine Qi rfl rfl (by first | assumption | exact Enc.len _ | rfl) ?_ | refine ZP rfl hpart rfl ?_ | refine Qf rfl rfl rfl ?_)) | (refine QN ?_; refine qs (cs := WH shapesL) hG0 rfl (by omega) (by omega) ?_) | (refine Qh ?_; (first | refine Wh rfl rfl ?_ | refine ZM rfl rfl ?_ | refine Zu rfl rfl ?_ | refine Wc rfl rfl ?_)) | (refine Qk ?_; refine W5 rfl rfl (hfun) ?_) | (refine QJ ?_; (first | refine Ze rfl rfl ?_ | refine WZ rfl rfl ?_)) | (refine Qx ?_; refine Qe rfl rfl rfl (by first | assumption | exact Enc.len _ | rfl) (by first | assumption | exact Enc.len _ | rfl) rfl ?_) | (refine WQ ?_; refine Zv rfl ?_) | (refine Qb ?_; refine Qg rfl rfl ?_) | (refine QG ?_; refine QD (fun _ _ => ?_)) | (refine Wx ?_; refine Ww rfl rfl (fun _ _ => ?_)))) | (refine Qv ?_; (first | refine Qu ?_ | refine QY rfl ?_ | refine Q1 ?_ | refine WX rfl rfl rfl rfl ?_ | refine Zl rfl rfl rfl rfl ?_ | refine o_gu rfl rfl rfl rfl rfl ?_ | refine Wv rfl rfl (by omega) ?_ | refine We rfl rfl (by omega) ?_)) | (refine Qs ?_; (first | refine Qw ?_ | refine Qc ?_ | refine QR ?_ | refine Qr rfl (by omega) ?_ | refine Qn rfl (by omega) ?_ | refine QM ?_)))
   exact e_1 (Tryz.results75) (QQ rfl) (Zi (σ := []) (r := [_, _]) ⟨rfl, rfl⟩)
  rw [if_neg k26]
  by_cases hc : least <= (ks.length : Int) - (kids.length : Int) /\ (ks.length : Int) - (kids.length : Int) <= more
  case neg =>
   rw [show cntB ⟨is, low, high, last, kids, more, least, som⟩ ks.length = false from Bool.eq_false_iff.2 fun h => hc (hcnt.1 h), Bool.false_and]
   clear hl2 hfun0 hrng hcnt hkd h26
   refine Qa Tryz.func75 rfl Tryz.ntmps75 rfl (t := [(0, .agg [.i k, .i n, .i m, Wi ks]), (1, .i w)]) rfl fun E hE => ?_
   (repeat' first | (refine Qo ?_; (first | (refine Qj ?_; refine QU rfl ?_) | (refine Qd ?_; refine Q5 rfl ?_) | (refine Ql ?_; (first | refine ZP rfl hpart rfl ?_ | refine Qf rfl rfl rfl ?_)) | (refine QN ?_; refine qs (cs := WH shapesL) hG0 rfl (by omega) (by omega) ?_) | (refine Qh ?_; (first | refine Wh rfl rfl ?_ | refine ZM rfl rfl ?_ | refine Zu rfl rfl ?_ | refine Wc rfl rfl ?_ | refine W1 rfl rfl (by omega) ?_)) | (refine Qk ?_; refine Q6 rfl ?_) | (refine QJ ?_; (first | refine Ze rfl rfl ?_ | refine WZ rfl rfl ?_)) | (refine Qx ?_; refine Qe rfl rfl rfl (by first | assumption | exact Enc.len _ | rfl) (by first | assumption | exact Enc.len _ | rfl) rfl ?_) | (refine WQ ?_; refine Zv rfl ?_) | (refine Qb ?_; refine Qg rfl rfl ?_) | (refine QG ?_; refine QD (fun _ _ => ?_)) | (refine Wx ?_; refine Ww rfl rfl (fun _ _ => ?_)))) | (refine Qv ?_; (first | refine Qu ?_ | refine QY rfl ?_ | refine Q1 ?_ | refine WX rfl rfl rfl rfl ?_ | refine Zl rfl rfl rfl rfl ?_ | refine o_gu rfl rfl rfl rfl rfl ?_ | refine Wv rfl rfl (by omega) ?_ | refine We rfl rfl (by omega) ?_ | refine qW rfl rfl (fun _ => ?_) (fun _ => ?_))) | (refine Qs ?_; (first | refine Qw ?_ | refine Qc ?_ | refine QR ?_ | refine QB rfl ?_ | refine Qr rfl (by omega) ?_ | refine Qn rfl (by omega) ?_ | refine QM ?_)))
   all_goals exact e_1 (Tryz.results75) (QQ rfl) (Zi (σ := []) (r := [_, _]) ⟨rfl, rfl⟩)
  rw [hcnt.2 hc, Bool.true_and, hkd]
  clear hfun0 hrng hcnt hkd h26
  refine Qa Tryz.func75 rfl Tryz.ntmps75 rfl (t := [(0, .agg [.i k, .i n, .i m, Wi ks]), (1, .i w)]) rfl fun E hE => ?_
  (repeat' first | (refine Qo ?_; (first | (refine Qj ?_; refine QU rfl ?_) | (refine Qd ?_; refine Q5 rfl ?_) | (refine Ql ?_; (first | refine ZP rfl hpart rfl ?_ | refine Qf rfl rfl rfl ?_)) | (refine QN ?_; refine qs (cs := WH shapesL) hG0 rfl (by omega) (by omega) ?_) | (refine Qh ?_; (first | refine Wh rfl rfl ?_ | refine ZM rfl rfl ?_ | refine Zu rfl rfl ?_ | refine Wc rfl rfl ?_ | refine W1 rfl rfl (by omega) ?_)) | (refine Qk ?_; refine Q6 rfl ?_) | (refine QJ ?_; (first | refine Ze rfl rfl ?_ | refine WZ rfl rfl ?_)) | (refine Qx ?_; refine Qe rfl rfl rfl (by first | assumption | exact Enc.len _ | rfl) (by first | assumption | exact Enc.len _ | rfl) rfl ?_) | (refine WQ ?_; refine Zv rfl ?_) | (refine Qb ?_; refine Qg rfl rfl ?_) | (refine QG ?_; refine QD (fun _ _ => ?_)) | (refine Wx ?_; refine Ww rfl rfl (fun _ _ => ?_)))) | (refine Qv ?_; (first | refine Qu ?_ | refine QY rfl ?_ | refine Q1 ?_ | refine WX rfl rfl rfl rfl ?_ | refine Zl rfl rfl rfl rfl ?_ | refine o_gu rfl rfl rfl rfl rfl ?_ | refine Wv rfl rfl (by omega) ?_ | refine We rfl rfl (by omega) ?_)) | (refine Qs ?_; (first | refine Qw ?_ | refine Qc ?_ | refine Qm ?_ | refine QR ?_ | refine Qn rfl (by omega) ?_)))
  rename_i g1 hg1 g2 hg2
  refine Z5 (fun (i : Nat) => ⟨[(2, .ptr 0 g1 0), (4, .b false), (5, .ptr 1 g2 0), (96, Wi ks), (97, .i ks.length), (98, .i i)], [.row g1 [.i k, .i n, .i m, Wi ks], .row g2 [.i is, .i low, .i high, .i last, Wi kids, .i more, .i least, .i som]]⟩) (fun i => i <= ks.length /\ ∀ j, j < i -> fs.getD j noF (if j < kids.length then kids.getD j 0 else som) = true) (fun i => ks.length - i) 0 ?_ ⟨by omega, fun j hj => by omega⟩ ?_
  ·exact zal rfl
  intro i ⟨hi, hall⟩
  by_cases hil : i < ks.length
  ·by_cases hik : i < kids.length
   ·have hgd : kids.getD i 0 = kids[i] := by rw [List.getD_eq_getElem?_getD, List.getElem?_eq_getElem hik]; rfl
    have hfi := hl2 i hil kids[i]
    cases hbi : fs.getD i noF kids[i] with
    | false =>
     have hA : allI (fun i => fs.getD i noF (if i < kids.length then kids.getD i 0 else som)) ks.length = false := by
      rw [Bool.eq_false_iff]
      intro h
      have := allI_iff.1 h i hil
      rw [if_pos hik, hgd, hbi] at this; cases this
     rw [hA]
     rw [hbi] at hfi
     clear hl2 hall
     (repeat' first | (refine Qo ?_; (first | (refine Qj ?_; refine QU rfl ?_) | (refine Qd ?_; refine Q5 rfl ?_) | (refine Ql ?_; (first | refine Qi rfl rfl (by first | assumption | exact Enc.len _ | rfl) ?_ | refine Wl rfl ?_ | refine Wj rfl ?_ | refine Qf rfl rfl rfl ?_)) | (refine QN ?_; refine Q9 rfl rfl (by first | assumption | omega | (simp; done) | (simp; omega)) ?_) | (refine Qh ?_; refine Wh rfl rfl ?_) | (refine Qk ?_; (first | refine Q6 rfl ?_ | refine W5 rfl rfl (hfi) ?_)) | (refine Qx ?_; refine Qe rfl rfl rfl (by first | assumption | exact Enc.len _ | rfl) (by first | assumption | exact Enc.len _ | rfl) rfl ?_) | (refine WQ ?_; refine Zv rfl ?_) | (refine Qb ?_; refine Qg rfl rfl ?_) | (refine QG ?_; refine QD (fun _ _ => ?_)))) | (refine Qv ?_; (first | refine Qu ?_ | refine QY rfl ?_ | refine Q1 ?_)) | (refine Qs ?_; (first | refine Qw ?_ | refine Qc ?_ | refine Qm ?_ | refine QR ?_ | refine QB rfl ?_ | refine Qr rfl (by omega) ?_ | refine QM ?_)))
     all_goals exact e_1 (Tryz.results75) (QQ rfl) (Zi (σ := []) ⟨rfl, rfl⟩)
    | true =>
     rw [hbi] at hfi
     clear hl2
     (repeat' first | (refine Qo ?_; (first | (refine Qj ?_; refine QU rfl ?_) | (refine Qd ?_; refine Q5 rfl ?_) | (refine Ql ?_; (first | refine Qi rfl rfl (by first | assumption | exact Enc.len _ | rfl) ?_ | refine Wl rfl ?_ | refine Wj rfl ?_ | refine Qf rfl rfl rfl ?_)) | (refine QN ?_; refine Q9 rfl rfl (by first | assumption | omega | (simp; done) | (simp; omega)) ?_) | (refine Qh ?_; (first | refine Wh rfl rfl ?_ | refine Zr rfl rfl (by omega) ?_)) | (refine Qk ?_; (first | refine Q6 rfl ?_ | refine W5 rfl rfl (hfi) ?_)) | (refine Qx ?_; refine Qe rfl rfl rfl (by first | assumption | exact Enc.len _ | rfl) (by first | assumption | exact Enc.len _ | rfl) rfl ?_) | (refine WQ ?_; refine Zv rfl ?_) | (refine Qb ?_; refine Qg rfl rfl ?_) | (refine QG ?_; refine QD (fun _ _ => ?_)))) | (refine Qv ?_; (first | refine Qu ?_ | refine QY rfl ?_ | refine Q1 ?_)) | (refine Qs ?_; (first | refine Qw ?_ | refine Qc ?_ | refine Qm ?_ | refine QR ?_ | refine QH rfl ?_ | refine Qr rfl (by omega) ?_)))
     refine ⟨i + 1, ⟨by omega, fun j hj => ?_⟩, by omega, ?_⟩
     ·rcases Nat.lt_or_ge j i with h | h
      ·exact hall j h
      ·have : j = i := by omega
       subst this; rw [if_pos hik, hgd]; exact hbi
     ·exact zal rfl
   ·have hfi := hl2 i hil som
    cases hbi : fs.getD i noF som with
    | false =>
     have hA : allI (fun i => fs.getD i noF (if i < kids.length then kids.getD i 0 else som)) ks.length = false := by
      rw [Bool.eq_false_iff]
      intro h
      have := allI_iff.1 h i hil
      rw [if_neg hik, hbi] at this; cases this
     rw [hA]
     rw [hbi] at hfi
     clear hl2 hall
     (repeat' first | (refine Qo ?_; (first | (refine Qj ?_; refine QU rfl ?_) | (refine Qd ?_; refine Q5 rfl ?_) | (refine Ql ?_; (first | refine Qi rfl rfl (by first | assumption | exact Enc.len _ | rfl) ?_ | refine Wj rfl ?_ | refine Qf rfl rfl rfl ?_)) | (refine QN ?_; refine Q9 rfl rfl (by first | assumption | omega | (simp; done) | (simp; omega)) ?_) | (refine Qh ?_; refine Wh rfl rfl ?_) | (refine Qk ?_; (first | refine Q6 rfl ?_ | refine W5 rfl rfl (hfi) ?_)) | (refine Qx ?_; refine Qe rfl rfl rfl (by first | assumption | exact Enc.len _ | rfl) (by first | assumption | exact Enc.len _ | rfl) rfl ?_) | (refine WQ ?_; refine Zv rfl ?_) | (refine Qb ?_; refine Qg rfl rfl ?_) | (refine QG ?_; refine QD (fun _ _ => ?_)))) | (refine Qv ?_; (first | refine Qu ?_ | refine QY rfl ?_ | refine Q1 ?_)) | (refine Qs ?_; (first | refine Qw ?_ | refine Qc ?_ | refine Qm ?_ | refine QR ?_ | refine QB rfl ?_ | refine Qr rfl (by omega) ?_ | refine Qn rfl (by omega) ?_ | refine QM ?_)))
     all_goals exact e_1 (Tryz.results75) (QQ rfl) (Zi (σ := []) ⟨rfl, rfl⟩)
    | true =>
     rw [hbi] at hfi
     clear hl2
     (repeat' first | (refine Qo ?_; (first | (refine Qj ?_; refine QU rfl ?_) | (refine Qd ?_; refine Q5 rfl ?_) | (refine Ql ?_; (first | refine Qi rfl rfl (by first | assumption | exact Enc.len _ | rfl) ?_ | refine Wj rfl ?_ | refine Qf rfl rfl rfl ?_)) | (refine QN ?_; refine Q9 rfl rfl (by first | assumption | omega | (simp; done) | (simp; omega)) ?_) | (refine Qh ?_; (first | refine Wh rfl rfl ?_ | refine Zr rfl rfl (by omega) ?_)) | (refine Qk ?_; (first | refine Q6 rfl ?_ | refine W5 rfl rfl (hfi) ?_)) | (refine Qx ?_; refine Qe rfl rfl rfl (by first | assumption | exact Enc.len _ | rfl) (by first | assumption | exact Enc.len _ | rfl) rfl ?_) | (refine WQ ?_; refine Zv rfl ?_) | (refine Qb ?_; refine Qg rfl rfl ?_) | (refine QG ?_; refine QD (fun _ _ => ?_)))) | (refine Qv ?_; (first | refine Qu ?_ | refine QY rfl ?_ | refine Q1 ?_)) | (refine Qs ?_; (first | refine Qw ?_ | refine Qc ?_ | refine Qm ?_ | refine QR ?_ | refine QH rfl ?_ | refine Qr rfl (by omega) ?_ | refine Qn rfl (by omega) ?_)))
     refine ⟨i + 1, ⟨by omega, fun j hj => ?_⟩, by omega, ?_⟩
     ·rcases Nat.lt_or_ge j i with h | h
      ·exact hall j h
      ·have : j = i := by omega
       subst this; rw [if_neg hik]; exact hbi
     ·exact zal rfl
  ·have hiv : i = ks.length := by omega
   subst hiv
   have hA : allI (fun i => fs.getD i noF (if i < kids.length then kids.getD i 0 else som)) ks.length = true := allI_iff.2 hall
   rw [hA]
   clear hl2 hall
   (repeat' first | (refine Qo ?_; (first | (refine Qd ?_; refine Q5 rfl ?_) | (refine Qh ?_; refine Wh rfl rfl ?_))) | (refine Qv ?_; (first | refine Qu ?_ | refine QY rfl ?_)) | (refine Qs ?_; (first | refine Qw ?_ | refine Qc ?_ | refine Qn rfl (by omega) ?_ | refine WI rfl ?_ | refine QM ?_)))
   exact e_1 (Tryz.results75) (QQ rfl) (Zi (σ := []) (r := [_, _]) ⟨rfl, rfl⟩)
 ·by_cases hr : (low <= n /\ n <= high) /\ 0 <= m /\ m <= last
  case neg =>
   rw [show rngB ⟨is, low, high, last, kids, more, least, som⟩ n m = false from Bool.eq_false_iff.2 fun h => hr (hrng.1 h), Bool.false_and]
   clear hl2 hfun0 hrng hcnt hkd h26
   refine Qa Tryz.func75 rfl Tryz.ntmps75 rfl (t := [(0, .agg [.i k, .i n, .i m, Wi ks]), (1, .i w)]) rfl fun E hE => ?_
   (repeat' first | (refine Qo ?_; (first | (refine Qj ?_; refine QU rfl ?_) | (refine Qd ?_; refine Q5 rfl ?_) | (refine Ql ?_; (first | refine ZP rfl hpart rfl ?_ | refine Qf rfl rfl rfl ?_)) | (refine QN ?_; refine qs (cs := WH shapesL) hG0 rfl (by omega) (by omega) ?_) | (refine Qh ?_; (first | refine Wh rfl rfl ?_ | refine ZM rfl rfl ?_ | refine Zu rfl rfl ?_ | refine Wc rfl rfl ?_)) | (refine QJ ?_; (first | refine Ze rfl rfl ?_ | refine WZ rfl rfl ?_)) | (refine Qx ?_; refine Qe rfl rfl rfl (by first | assumption | exact Enc.len _ | rfl) (by first | assumption | exact Enc.len _ | rfl) rfl ?_) | (refine WQ ?_; refine Zv rfl ?_) | (refine Qb ?_; refine Qg rfl rfl ?_) | (refine QG ?_; refine QD (fun _ _ => ?_)) | (refine Wx ?_; refine Ww rfl rfl (fun _ _ => ?_)))) | (refine Qv ?_; (first | refine Qu ?_ | refine QY rfl ?_ | refine Q1 ?_ | refine WX rfl rfl rfl rfl ?_ | refine Zl rfl rfl rfl rfl ?_ | refine o_gu rfl rfl rfl rfl rfl ?_ | refine Wv rfl rfl (by omega) ?_ | refine We rfl rfl (by omega) ?_ | refine qW rfl rfl (fun _ => ?_) (fun _ => ?_))) | (refine Qs ?_; (first | refine Qw ?_ | refine Qc ?_ | refine QR ?_ | refine QB rfl ?_ | refine Qr rfl (by omega) ?_ | refine Qn rfl (by omega) ?_ | refine QM ?_)))
   all_goals exact e_1 (Tryz.results75) (QQ rfl) (Zi (σ := []) (r := [_, _]) ⟨rfl, rfl⟩)
  rw [hrng.2 hr, Bool.true_and]
  by_cases k26 : k = 26
  ·rw [if_pos k26]
   exfalso
   have := h26 k26
   omega
  rw [if_neg k26]
  by_cases hc : least <= (ks.length : Int) - (kids.length : Int) /\ (ks.length : Int) - (kids.length : Int) <= more
  case neg =>
   rw [show cntB ⟨is, low, high, last, kids, more, least, som⟩ ks.length = false from Bool.eq_false_iff.2 fun h => hc (hcnt.1 h), Bool.false_and]
   clear hl2 hfun0 hrng hcnt hkd h26
   refine Qa Tryz.func75 rfl Tryz.ntmps75 rfl (t := [(0, .agg [.i k, .i n, .i m, Wi ks]), (1, .i w)]) rfl fun E hE => ?_
   (repeat' first | (refine Qo ?_; (first | (refine Qj ?_; refine QU rfl ?_) | (refine Qd ?_; refine Q5 rfl ?_) | (refine Ql ?_; (first | refine ZP rfl hpart rfl ?_ | refine Qf rfl rfl rfl ?_)) | (refine QN ?_; refine qs (cs := WH shapesL) hG0 rfl (by omega) (by omega) ?_) | (refine Qh ?_; (first | refine Wh rfl rfl ?_ | refine ZM rfl rfl ?_ | refine Zu rfl rfl ?_ | refine Wc rfl rfl ?_ | refine W1 rfl rfl (by omega) ?_)) | (refine Qk ?_; refine Q6 rfl ?_) | (refine QJ ?_; (first | refine Ze rfl rfl ?_ | refine WZ rfl rfl ?_)) | (refine Qx ?_; refine Qe rfl rfl rfl (by first | assumption | exact Enc.len _ | rfl) (by first | assumption | exact Enc.len _ | rfl) rfl ?_) | (refine WQ ?_; refine Zv rfl ?_) | (refine Qb ?_; refine Qg rfl rfl ?_) | (refine QG ?_; refine QD (fun _ _ => ?_)) | (refine Wx ?_; refine Ww rfl rfl (fun _ _ => ?_)))) | (refine Qv ?_; (first | refine Qu ?_ | refine QY rfl ?_ | refine Q1 ?_ | refine WX rfl rfl rfl rfl ?_ | refine Zl rfl rfl rfl rfl ?_ | refine o_gu rfl rfl rfl rfl rfl ?_ | refine Wv rfl rfl (by omega) ?_ | refine We rfl rfl (by omega) ?_ | refine qW rfl rfl (fun _ => ?_) (fun _ => ?_))) | (refine Qs ?_; (first | refine Qw ?_ | refine Qc ?_ | refine QR ?_ | refine QB rfl ?_ | refine Qr rfl (by omega) ?_ | refine Qn rfl (by omega) ?_ | refine QM ?_)))
   all_goals exact e_1 (Tryz.results75) (QQ rfl) (Zi (σ := []) (r := [_, _]) ⟨rfl, rfl⟩)
  rw [hcnt.2 hc, Bool.true_and, hkd]
  clear hfun0 hrng hcnt hkd h26
  refine Qa Tryz.func75 rfl Tryz.ntmps75 rfl (t := [(0, .agg [.i k, .i n, .i m, Wi ks]), (1, .i w)]) rfl fun E hE => ?_
  (repeat' first | (refine Qo ?_; (first | (refine Qj ?_; refine QU rfl ?_) | (refine Qd ?_; refine Q5 rfl ?_) | (refine Ql ?_; (first | refine ZP rfl hpart rfl ?_ | refine Qf rfl rfl rfl ?_)) | (refine QN ?_; refine qs (cs := WH shapesL) hG0 rfl (by omega) (by omega) ?_) | (refine Qh ?_; (first | refine Wh rfl rfl ?_ | refine ZM rfl rfl ?_ | refine Zu rfl rfl ?_ | refine Wc rfl rfl ?_ | refine W1 rfl rfl (by omega) ?_)) | (refine Qk ?_; refine Q6 rfl ?_) | (refine QJ ?_; (first | refine Ze rfl rfl ?_ | refine WZ rfl rfl ?_)) | (refine Qx ?_; refine Qe rfl rfl rfl (by first | assumption | exact Enc.len _ | rfl) (by first | assumption | exact Enc.len _ | rfl) rfl ?_) | (refine WQ ?_; refine Zv rfl ?_) | (refine Qb ?_; refine Qg rfl rfl ?_) | (refine QG ?_; refine QD (fun _ _ => ?_)) | (refine Wx ?_; refine Ww rfl rfl (fun _ _ => ?_)))) | (refine Qv ?_; (first | refine Qu ?_ | refine QY rfl ?_ | refine Q1 ?_ | refine WX rfl rfl rfl rfl ?_ | refine Zl rfl rfl rfl rfl ?_ | refine o_gu rfl rfl rfl rfl rfl ?_ | refine Wv rfl rfl (by omega) ?_ | refine We rfl rfl (by omega) ?_)) | (refine Qs ?_; (first | refine Qw ?_ | refine Qc ?_ | refine Qm ?_ | refine QR ?_ | refine Qn rfl (by omega) ?_)))
  rename_i g1 hg1 g2 hg2
  refine Z5 (fun (i : Nat) => ⟨[(2, .ptr 0 g1 0), (4, .b false), (5, .ptr 1 g2 0), (96, Wi ks), (97, .i ks.length), (98, .i i)], [.row g1 [.i k, .i n, .i m, Wi ks], .row g2 [.i is, .i low, .i high, .i last, Wi kids, .i more, .i least, .i som]]⟩) (fun i => i <= ks.length /\ ∀ j, j < i -> fs.getD j noF (if j < kids.length then kids.getD j 0 else som) = true) (fun i => ks.length - i) 0 ?_ ⟨by omega, fun j hj => by omega⟩ ?_
  ·exact zal rfl
  intro i ⟨hi, hall⟩
  by_cases hil : i < ks.length
  ·by_cases hik : i < kids.length
   ·have hgd : kids.getD i 0 = kids[i] := by rw [List.getD_eq_getElem?_getD, List.getElem?_eq_getElem hik]; rfl
    have hfi := hl2 i hil kids[i]
    cases hbi : fs.getD i noF kids[i] with
    | false =>
     have hA : allI (fun i => fs.getD i noF (if i < kids.length then kids.getD i 0 else som)) ks.length = false := by
      rw [Bool.eq_false_iff]
      intro h
      have := allI_iff.1 h i hil
      rw [if_pos hik, hgd, hbi] at this; cases this
     rw [hA]
     rw [hbi] at hfi
     clear hl2 hall
     (repeat' first | (refine Qo ?_; (first | (refine Qj ?_; refine QU rfl ?_) | (refine Qd ?_; refine Q5 rfl ?_) | (refine Ql ?_; (first | refine Qi rfl rfl (by first | assumption | exact Enc.len _ | rfl) ?_ | refine Wl rfl ?_ | refine Wj rfl ?_ | refine Qf rfl rfl rfl ?_)) | (refine QN ?_; refine Q9 rfl rfl (by first | assumption | omega | (simp; done) | (simp; omega)) ?_) | (refine Qh ?_; refine Wh rfl rfl ?_) | (refine Qk ?_; (first | refine Q6 rfl ?_ | refine W5 rfl rfl (hfi) ?_)) | (refine Qx ?_; refine Qe rfl rfl rfl (by first | assumption | exact Enc.len _ | rfl) (by first | assumption | exact Enc.len _ | rfl) rfl ?_) | (refine WQ ?_; refine Zv rfl ?_) | (refine Qb ?_; refine Qg rfl rfl ?_) | (refine QG ?_; refine QD (fun _ _ => ?_)))) | (refine Qv ?_; (first | refine Qu ?_ | refine QY rfl ?_ | refine Q1 ?_)) | (refine Qs ?_; (first | refine Qw ?_ | refine Qc ?_ | refine Qm ?_ | refine QR ?_ | refine QB rfl ?_ | refine Qr rfl (by omega) ?_ | refine QM ?_)))
     all_goals exact e_1 (Tryz.results75) (QQ rfl) (Zi (σ := []) ⟨rfl, rfl⟩)
    | true =>
     rw [hbi] at hfi
     clear hl2
     (repeat' first | (refine Qo ?_; (first | (refine Qj ?_; refine QU rfl ?_) | (refine Qd ?_; refine Q5 rfl ?_) | (refine Ql ?_; (first | refine Qi rfl rfl (by first | assumption | exact Enc.len _ | rfl) ?_ | refine Wl rfl ?_ | refine Wj rfl ?_ | refine Qf rfl rfl rfl ?_)) | (refine QN ?_; refine Q9 rfl rfl (by first | assumption | omega | (simp; done) | (simp; omega)) ?_) | (refine Qh ?_; (first | refine Wh rfl rfl ?_ | refine Zr rfl rfl (by omega) ?_)) | (refine Qk ?_; (first | refine Q6 rfl ?_ | refine W5 rfl rfl (hfi) ?_)) | (refine Qx ?_; refine Qe rfl rfl rfl (by first | assumption | exact Enc.len _ | rfl) (by first | assumption | exact Enc.len _ | rfl) rfl ?_) | (refine WQ ?_; refine Zv rfl ?_) | (refine Qb ?_; refine Qg rfl rfl ?_) | (refine QG ?_; refine QD (fun _ _ => ?_)))) | (refine Qv ?_; (first | refine Qu ?_ | refine QY rfl ?_ | refine Q1 ?_)) | (refine Qs ?_; (first | refine Qw ?_ | refine Qc ?_ | refine Qm ?_ | refine QR ?_ | refine QH rfl ?_ | refine Qr rfl (by omega) ?_)))
     refine ⟨i + 1, ⟨by omega, fun j hj => ?_⟩, by omega, ?_⟩
     ·rcases Nat.lt_or_ge j i with h | h
      ·exact hall j h
      ·have : j = i := by omega
       subst this; rw [if_pos hik, hgd]; exact hbi
     ·exact zal rfl
   ·have hfi := hl2 i hil som
    cases hbi : fs.getD i noF som with
    | false =>
     have hA : allI (fun i => fs.getD i noF (if i < kids.length then kids.getD i 0 else som)) ks.length = false := by
      rw [Bool.eq_false_iff]
      intro h
      have := allI_iff.1 h i hil
      rw [if_neg hik, hbi] at this; cases this
     rw [hA]
     rw [hbi] at hfi
     clear hl2 hall
     (repeat' first | (refine Qo ?_; (first | (refine Qj ?_; refine QU rfl ?_) | (refine Qd ?_; refine Q5 rfl ?_) | (refine Ql ?_; (first | refine Qi rfl rfl (by first | assumption | exact Enc.len _ | rfl) ?_ | refine Wj rfl ?_ | refine Qf rfl rfl rfl ?_)) | (refine QN ?_; refine Q9 rfl rfl (by first | assumption | omega | (simp; done) | (simp; omega)) ?_) | (refine Qh ?_; refine Wh rfl rfl ?_) | (refine Qk ?_; (first | refine Q6 rfl ?_ | refine W5 rfl rfl (hfi) ?_)) | (refine Qx ?_; refine Qe rfl rfl rfl (by first | assumption | exact Enc.len _ | rfl) (by first | assumption | exact Enc.len _ | rfl) rfl ?_) | (refine WQ ?_; refine Zv rfl ?_) | (refine Qb ?_; refine Qg rfl rfl ?_) | (refine QG ?_; refine QD (fun _ _ => ?_)))) | (refine Qv ?_; (first | refine Qu ?_ | refine QY rfl ?_ | refine Q1 ?_)) | (refine Qs ?_; (first | refine Qw ?_ | refine Qc ?_ | refine Qm ?_ | refine QR ?_ | refine QB rfl ?_ | refine Qr rfl (by omega) ?_ | refine Qn rfl (by omega) ?_ | refine QM ?_)))
     all_goals exact e_1 (Tryz.results75) (QQ rfl) (Zi (σ := []) ⟨rfl, rfl⟩)
    | true =>
     rw [hbi] at hfi
     clear hl2
     (repeat' first | (refine Qo ?_; (first | (refine Qj ?_; refine QU rfl ?_) | (refine Qd ?_; refine Q5 rfl ?_) | (refine Ql ?_; (first | refine Qi rfl rfl (by first | assumption | exact Enc.len _ | rfl) ?_ | refine Wj rfl ?_ | refine Qf rfl rfl rfl ?_)) | (refine QN ?_; refine Q9 rfl rfl (by first | assumption | omega | (simp; done) | (simp; omega)) ?_) | (refine Qh ?_; (first | refine Wh rfl rfl ?_ | refine Zr rfl rfl (by omega) ?_)) | (refine Qk ?_; (first | refine Q6 rfl ?_ | refine W5 rfl rfl (hfi) ?_)) | (refine Qx ?_; refine Qe rfl rfl rfl (by first | assumption | exact Enc.len _ | rfl) (by first | assumption | exact Enc.len _ | rfl) rfl ?_) | (refine WQ ?_; refine Zv rfl ?_) | (refine Qb ?_; refine Qg rfl rfl ?_) | (refine QG ?_; refine QD (fun _ _ => ?_)))) | (refine Qv ?_; (first | refine Qu ?_ | refine QY rfl ?_ | refine Q1 ?_)) | (refine Qs ?_; (first | refine Qw ?_ | refine Qc ?_ | refine Qm ?_ | refine QR ?_ | refine QH rfl ?_ | refine Qr rfl (by omega) ?_ | refine Qn rfl (by omega) ?_)))
     refine ⟨i + 1, ⟨by omega, fun j hj => ?_⟩, by omega, ?_⟩
     ·rcases Nat.lt_or_ge j i with h | h
      ·exact hall j h
      ·have : j = i := by omega
       subst this; rw [if_neg hik]; exact hbi
     ·exact zal rfl
  ·have hiv : i = ks.length := by omega
   subst hiv
   have hA : allI (fun i => fs.getD i noF (if i < kids.length then kids.getD i 0 else som)) ks.length = true := allI_iff.2 hall
   rw [hA]
   clear hl2 hall
   (repeat' first | (refine Qo ?_; (first | (refine Qd ?_; refine Q5 rfl ?_) | (refine Qh ?_; refine Wh rfl rfl ?_))) | (refine Qv ?_; (first | refine Qu ?_ | refine QY rfl ?_)) | (refine Qs ?_; (first | refine Qw ?_ | refine Qc ?_ | refine Qn rfl (by omega) ?_ | refine WI rfl ?_ | refine QM ?_)))
   exact e_1 (Tryz.results75) (QQ rfl) (Zi (σ := []) (r := [_, _]) ⟨rfl, rfl⟩)
 ·by_cases hr : (low <= n /\ n <= high) /\ 0 <= m /\ m <= last
  case neg =>
   rw [show rngB ⟨is, low, high, last, kids, more, least, som⟩ n m = false from Bool.eq_false_iff.2 fun h => hr (hrng.1 h), Bool.false_and]
   clear hl2 hfun0 hrng hcnt hkd h26
   refine Qa Tryz.func75 rfl Tryz.ntmps75 rfl (t := [(0, .agg [.i k, .i n, .i m, Wi ks]), (1, .i w)]) rfl fun E hE => ?_
   (repeat' first | (refine Qo ?_; (first | (refine Qj ?_; refine QU rfl ?_) | (refine Qd ?_; refine Q5 rfl ?_) | (refine Ql ?_; (first | refine ZP rfl hpart rfl ?_ | refine Qf rfl rfl rfl ?_)) | (refine QN ?_; refine qs (cs := WH shapesL) hG0 rfl (by omega) (by omega) ?_) | (refine Qh ?_; (first | refine Wh rfl rfl ?_ | refine ZM rfl rfl ?_ | refine Zu rfl rfl ?_ | refine Wc rfl rfl ?_)) | (refine QJ ?_; (first | refine Ze rfl rfl ?_ | refine WZ rfl rfl ?_)) | (refine Qx ?_; refine Qe rfl rfl rfl (by first | assumption | exact Enc.len _ | rfl) (by first | assumption | exact Enc.len _ | rfl) rfl ?_) | (refine WQ ?_; refine s_not_d rfl ?_) | (refine Qb ?_; refine Qg rfl rfl ?_) | (refine QG ?_; refine QD (fun _ _ => ?_)) | (refine Wx ?_; refine Ww rfl rfl (fun _ _ => ?_)))) | (refine Qv ?_; (first | refine Qu ?_ | refine QY rfl ?_ | refine Q1 ?_ | refine WX rfl rfl rfl rfl ?_ | refine Zl rfl rfl rfl rfl ?_ | refine Wv rfl rfl (by omega) ?_ | refine We rfl rfl (by omega) ?_ | refine qW rfl rfl (fun _ => ?_) (fun _ => ?_))) | (refine Qs ?_; (first | refine Qw ?_ | refine Qc ?_ | refine QR ?_ | refine QB rfl ?_ | refine Qr rfl (by omega) ?_ | refine Qn rfl (by omega) ?_ | refine QM ?_)))
   all_goals exact e_1 (Tryz.results75) (QQ rfl) (Zi (σ := []) (r := [_, _]) ⟨rfl, rfl⟩)
  rw [hrng.2 hr, Bool.true_and]
  by_cases k26 : k = 26
  ·rw [if_pos k26]
   exfalso
   have := h26 k26
   omega
  rw [if_neg k26]
  by_cases hc : least <= (ks.length : Int) - (kids.length : Int) /\ (ks.length : Int) - (kids.length : Int) <= more
  case neg =>
   rw [show cntB ⟨is, low, high, last, kids, more, least, som⟩ ks.length = false from Bool.eq_false_iff.2 fun h => hc (hcnt.1 h), Bool.false_and]
   clear hl2 hfun0 hrng hcnt hkd h26
   refine Qa Tryz.func75 rfl Tryz.ntmps75 rfl (t := [(0, .agg [.i k, .i n, .i m, Wi ks]), (1, .i w)]) rfl fun E hE => ?_
   (repeat' first | (refine Qo ?_; (first | (refine Qj ?_; refine QU rfl ?_) | (refine Qd ?_; refine Q5 rfl ?_) | (refine Ql ?_; (first | refine ZP rfl hpart rfl ?_ | refine Qf rfl rfl rfl ?_)) | (refine QN ?_; refine qs (cs := WH shapesL) hG0 rfl (by omega) (by omega) ?_) | (refine Qh ?_; (first | refine Wh rfl rfl ?_ | refine ZM rfl rfl ?_ | refine Zu rfl rfl ?_ | refine Wc rfl rfl ?_ | refine W1 rfl rfl (by omega) ?_)) | (refine Qk ?_; refine Q6 rfl ?_) | (refine QJ ?_; (first | refine Ze rfl rfl ?_ | refine WZ rfl rfl ?_)) | (refine Qx ?_; refine Qe rfl rfl rfl (by first | assumption | exact Enc.len _ | rfl) (by first | assumption | exact Enc.len _ | rfl) rfl ?_) | (refine WQ ?_; refine s_not_d rfl ?_) | (refine Qb ?_; refine Qg rfl rfl ?_) | (refine QG ?_; refine QD (fun _ _ => ?_)) | (refine Wx ?_; refine Ww rfl rfl (fun _ _ => ?_)))) | (refine Qv ?_; (first | refine Qu ?_ | refine QY rfl ?_ | refine Q1 ?_ | refine WX rfl rfl rfl rfl ?_ | refine Zl rfl rfl rfl rfl ?_ | refine Wv rfl rfl (by omega) ?_ | refine We rfl rfl (by omega) ?_ | refine qW rfl rfl (fun _ => ?_) (fun _ => ?_))) | (refine Qs ?_; (first | refine Qw ?_ | refine Qc ?_ | refine QR ?_ | refine QB rfl ?_ | refine Qr rfl (by omega) ?_ | refine Qn rfl (by omega) ?_ | refine QM ?_)))
   all_goals exact e_1 (Tryz.results75) (QQ rfl) (Zi (σ := []) (r := [_, _]) ⟨rfl, rfl⟩)
  rw [hcnt.2 hc, Bool.true_and, hkd]
  clear hfun0 hrng hcnt hkd h26
  refine Qa Tryz.func75 rfl Tryz.ntmps75 rfl (t := [(0, .agg [.i k, .i n, .i m, Wi ks]), (1, .i w)]) rfl fun E hE => ?_
  (repeat' first | (refine Qo ?_; (first | (refine Qj ?_; refine QU rfl ?_) | (refine Qd ?_; refine Q5 rfl ?_) | (refine Ql ?_; (first | refine ZP rfl hpart rfl ?_ | refine Qf rfl rfl rfl ?_)) | (refine QN ?_; refine qs (cs := WH shapesL) hG0 rfl (by omega) (by omega) ?_) | (refine Qh ?_; (first | refine Wh rfl rfl ?_ | refine ZM rfl rfl ?_ | refine Zu rfl rfl ?_ | refine Wc rfl rfl ?_ | refine W1 rfl rfl (by omega) ?_)) | (refine Qk ?_; refine Q6 rfl ?_) | (refine QJ ?_; (first | refine Ze rfl rfl ?_ | refine WZ rfl rfl ?_)) | (refine Qx ?_; refine Qe rfl rfl rfl (by first | assumption | exact Enc.len _ | rfl) (by first | assumption | exact Enc.len _ | rfl) rfl ?_) | (refine WQ ?_; refine s_not_d rfl ?_) | (refine Qb ?_; refine Qg rfl rfl ?_) | (refine QG ?_; refine QD (fun _ _ => ?_)) | (refine Wx ?_; refine Ww rfl rfl (fun _ _ => ?_)))) | (refine Qv ?_; (first | refine Qu ?_ | refine QY rfl ?_ | refine Q1 ?_ | refine WX rfl rfl rfl rfl ?_ | refine Zl rfl rfl rfl rfl ?_ | refine Wv rfl rfl (by omega) ?_ | refine We rfl rfl (by omega) ?_)) | (refine Qs ?_; (first | refine Qw ?_ | refine Qc ?_ | refine Qm ?_ | refine QR ?_ | refine Qn rfl (by omega) ?_)))
  rename_i g1 hg1 g2 hg2
  refine Z5 (fun (i : Nat) => ⟨[(2, .ptr 0 g1 0), (4, .b false), (5, .ptr 1 g2 0), (96, Wi ks), (97, .i ks.length), (98, .i i)], [.row g1 [.i k, .i n, .i m, Wi ks], .row g2 [.i is, .i low, .i high, .i last, Wi kids, .i more, .i least, .i som]]⟩) (fun i => i <= ks.length /\ ∀ j, j < i -> fs.getD j noF (if j < kids.length then kids.getD j 0 else som) = true) (fun i => ks.length - i) 0 ?_ ⟨by omega, fun j hj => by omega⟩ ?_
  ·exact zal rfl
  intro i ⟨hi, hall⟩
  by_cases hil : i < ks.length
  ·by_cases hik : i < kids.length
   ·have hgd : kids.getD i 0 = kids[i] := by rw [List.getD_eq_getElem?_getD, List.getElem?_eq_getElem hik]; rfl
    have hfi := hl2 i hil kids[i]
    cases hbi : fs.getD i noF kids[i] with
    | false =>
     have hA : allI (fun i => fs.getD i noF (if i < kids.length then kids.getD i 0 else som)) ks.length = false := by
      rw [Bool.eq_false_iff]
      intro h
      have := allI_iff.1 h i hil
      rw [if_pos hik, hgd, hbi] at this; cases this
     rw [hA]
     rw [hbi] at hfi
     clear hl2 hall
     (repeat' first | (refine Qo ?_; (first | (refine Qj ?_; refine QU rfl ?_) | (refine Qd ?_; refine Q5 rfl ?_) | (refine Ql ?_; (first | refine Qi rfl rfl (by first | assumption | exact Enc.len _ | rfl) ?_ | refine Wl rfl ?_ | refine Wj rfl ?_ | refine Qf rfl rfl rfl ?_)) | (refine QN ?_; refine Q9 rfl rfl (by first | assumption | omega | (simp; done) | (simp; omega)) ?_) | (refine Qh ?_; refine Wh rfl rfl ?_) | (refine Qk ?_; (first | refine Q6 rfl ?_ | refine W5 rfl rfl (hfi) ?_)) | (refine Qx ?_; refine Qe rfl rfl rfl (by first | assumption | exact Enc.len _ | rfl) (by first | assumption | exact Enc.len _ | rfl) rfl ?_) | (refine WQ ?_; refine Zv rfl ?_) | (refine Qb ?_; refine Qg rfl rfl ?_) | (refine QG ?_; refine QD (fun _ _ => ?_)))) | (refine Qv ?_; (first | refine Qu ?_ | refine QY rfl ?_ | refine Q1 ?_)) | (refine Qs ?_; (first | refine Qw ?_ | refine Qc ?_ | refine Qm ?_ | refine QR ?_ | refine QB rfl ?_ | refine Qr rfl (by omega) ?_ | refine QM ?_)))
     all_goals exact e_1 (Tryz.results75) (QQ rfl) (Zi (σ := []) ⟨rfl, rfl⟩)
    | true =>
     rw [hbi] at hfi
     clear hl2
     (repeat' first | (refine Qo ?_; (first | (refine Qj ?_; refine QU rfl ?_) | (refine Qd ?_; refine Q5 rfl ?_) | (refine Ql ?_; (first | refine Qi rfl rfl (by first | assumption | exact Enc.len _ | rfl) ?_ | refine Wl rfl ?_ | refine Wj rfl ?_ | refine Qf rfl rfl rfl ?_)) | (refine QN ?_; refine Q9 rfl rfl (by first | assumption | omega | (simp; done) | (simp; omega)) ?_) | (refine Qh ?_; (first | refine Wh rfl rfl ?_ | refine Zr rfl rfl (by omega) ?_)) | (refine Qk ?_; (first | refine Q6 rfl ?_ | refine W5 rfl rfl (hfi) ?_)) | (refine Qx ?_; refine Qe rfl rfl rfl (by first | assumption | exact Enc.len _ | rfl) (by first | assumption | exact Enc.len _ | rfl) rfl ?_) | (refine WQ ?_; refine Zv rfl ?_) | (refine Qb ?_; refine Qg rfl rfl ?_) | (refine QG ?_; refine QD (fun _ _ => ?_)))) | (refine Qv ?_; (first | refine Qu ?_ | refine QY rfl ?_ | refine Q1 ?_)) | (refine Qs ?_; (first | refine Qw ?_ | refine Qc ?_ | refine Qm ?_ | refine QR ?_ | refine QH rfl ?_ | refine Qr rfl (by omega) ?_)))
     refine ⟨i + 1, ⟨by omega, fun j hj => ?_⟩, by omega, ?_⟩
     ·rcases Nat.lt_or_ge j i with h | h
      ·exact hall j h
      ·have : j = i := by omega
       subst this; rw [if_pos hik, hgd]; exact hbi
     ·exact zal rfl
   ·have hfi := hl2 i hil som
    cases hbi : fs.getD i noF som with
    | false =>
     have hA : allI (fun i => fs.getD i noF (if i < kids.length then kids.getD i 0 else som)) ks.length = false := by
      rw [Bool.eq_false_iff]
      intro h
      have := allI_iff.1 h i hil
      rw [if_neg hik, hbi] at this; cases this
     rw [hA]
     rw [hbi] at hfi
     clear hl2 hall
     (repeat' first | (refine Qo ?_; (first | (refine Qj ?_; refine QU rfl ?_) | (refine Qd ?_; refine Q5 rfl ?_) | (refine Ql ?_; (first | refine Qi rfl rfl (by first | assumption | exact Enc.len _ | rfl) ?_ | refine Wj rfl ?_ | refine Qf rfl rfl rfl ?_)) | (refine QN ?_; refine Q9 rfl rfl (by first | assumption | omega | (simp; done) | (simp; omega)) ?_) | (refine Qh ?_; refine Wh rfl rfl ?_) | (refine Qk ?_; (first | refine Q6 rfl ?_ | refine W5 rfl rfl (hfi) ?_)) | (refine Qx ?_; refine Qe rfl rfl rfl (by first | assumption | exact Enc.len _ | rfl) (by first | assumption | exact Enc.len _ | rfl) rfl ?_) | (refine WQ ?_; refine Zv rfl ?_) | (refine Qb ?_; refine Qg rfl rfl ?_) | (refine QG ?_; refine QD (fun _ _ => ?_)))) | (refine Qv ?_; (first | refine Qu ?_ | refine QY rfl ?_ | refine Q1 ?_)) | (refine Qs ?_; (first | refine Qw ?_ | refine Qc ?_ | refine Qm ?_ | refine QR ?_ | refine QB rfl ?_ | refine Qr rfl (by omega) ?_ | refine Qn rfl (by omega) ?_ | refine QM ?_)))
     all_goals exact e_1 (Tryz.results75) (QQ rfl) (Zi (σ := []) ⟨rfl, rfl⟩)
    | true =>
     rw [hbi] at hfi
     clear hl2
     (repeat' first | (refine Qo ?_; (first | (refine Qj ?_; refine QU rfl ?_) | (refine Qd ?_; refine Q5 rfl ?_) | (refine Ql ?_; (first | refine Qi rfl rfl (by first | assumption | exact Enc.len _ | rfl) ?_ | refine Wj rfl ?_ | refine Qf rfl rfl rfl ?_)) | (refine QN ?_; refine Q9 rfl rfl (by first | assumption | omega | (simp; done) | (simp; omega)) ?_) | (refine Qh ?_; (first | refine Wh rfl rfl ?_ | refine Zr rfl rfl (by omega) ?_)) | (refine Qk ?_; (first | refine Q6 rfl ?_ | refine W5 rfl rfl (hfi) ?_)) | (refine Qx ?_; refine Qe rfl rfl rfl (by first | assumption | exact Enc.len _ | rfl) (by first | assumption | exact Enc.len _ | rfl) rfl ?_) | (refine WQ ?_; refine Zv rfl ?_) | (refine Qb ?_; refine Qg rfl rfl ?_) | (refine QG ?_; refine QD (fun _ _ => ?_)))) | (refine Qv ?_; (first | refine Qu ?_ | refine QY rfl ?_ | refine Q1 ?_)) | (refine Qs ?_; (first | refine Qw ?_ | refine Qc ?_ | refine Qm ?_ | refine QR ?_ | refine QH rfl ?_ | refine Qr rfl (by omega) ?_ | refine Qn rfl (by omega) ?_)))
     refine ⟨i + 1, ⟨by omega, fun j hj => ?_⟩, by omega, ?_⟩
     ·rcases Nat.lt_or_ge j i with h | h
      ·exact hall j h
      ·have : j = i := by omega
       subst this; rw [if_neg hik]; exact hbi
     ·exact zal rfl
  ·have hiv : i = ks.length := by omega
   subst hiv
   have hA : allI (fun i => fs.getD i noF (if i < kids.length then kids.getD i 0 else som)) ks.length = true := allI_iff.2 hall
   rw [hA]
   clear hl2 hall
   (repeat' first | (refine Qo ?_; (first | (refine Qd ?_; refine Q5 rfl ?_) | (refine Qh ?_; refine Wh rfl rfl ?_))) | (refine Qv ?_; (first | refine Qu ?_ | refine QY rfl ?_)) | (refine Qs ?_; (first | refine Qw ?_ | refine Qc ?_ | refine Qn rfl (by omega) ?_ | refine WI rfl ?_ | refine QM ?_)))
   exact e_1 (Tryz.results75) (QQ rfl) (Zi (σ := []) (r := [_, _]) ⟨rfl, rfl⟩)
theorem valid_c (hG0 : G 0 = shapesT) (t : Nd) (hsz : QI t <= 1000000) : Go.Av.Pure Tryz.prog G 31 [.agg (Enc.enc t)] (.b (validM t)) := fun B => by
 have hsiz := trSize_c (G := G) t (by omega)
 have hdep := trDepth_c (G := G) t (by omega)
 have hfit := fits_c hG0 t hsz 0
 unfold validM
 by_cases h1 : QI t <= 256
 ·by_cases h2 : Wn t <= 16
  ·rw [decide_eq_true h1, decide_eq_true h2, Bool.true_and, Bool.true_and]
   refine Qa Tryz.func31 rfl Tryz.ntmps31 rfl (t := [(0, .agg (Enc.enc t))]) rfl fun E hE => ?_
   (repeat' first | (refine Qo ?_; (first | (refine Qj ?_; refine QU rfl ?_) | (refine Qd ?_; refine Q5 rfl ?_) | (refine Ql ?_; refine Qi rfl rfl (by first | assumption | exact Enc.len _ | rfl) ?_) | (refine Qh ?_; refine W3 rfl rfl ?_) | (refine Qk ?_; (first | refine W5 rfl rfl (hsiz) ?_ | refine W5 rfl rfl (hdep) ?_ | refine W5 rfl rfl (hfit) ?_)) | (refine QJ ?_; refine Ze rfl rfl ?_) | (refine Wx ?_; refine Ww rfl rfl (fun _ _ => ?_)))) | (refine Qv ?_; (first | refine Qu ?_ | refine QY rfl ?_ | refine WX rfl rfl rfl rfl ?_ | refine Wv rfl rfl (by omega) ?_)) | (refine Qs ?_; (first | refine Qw ?_ | refine Qc ?_ | refine QM ?_)))
   all_goals exact e_1 (Tryz.results31) (QQ rfl) (Zi (σ := []) (r := [_]) ⟨rfl, rfl⟩)
  ·rw [decide_eq_true h1, decide_eq_false h2, Bool.true_and, Bool.false_and]
   refine Qa Tryz.func31 rfl Tryz.ntmps31 rfl (t := [(0, .agg (Enc.enc t))]) rfl fun E hE => ?_
   (repeat' first | (refine Qo ?_; (first | (refine Qj ?_; refine QU rfl ?_) | (refine Qd ?_; refine Q5 rfl ?_) | (refine Ql ?_; refine Qi rfl rfl (by first | assumption | exact Enc.len _ | rfl) ?_) | (refine Qh ?_; refine W3 rfl rfl ?_) | (refine Qk ?_; (first | refine W5 rfl rfl (hsiz) ?_ | refine W5 rfl rfl (hdep) ?_)) | (refine QJ ?_; (first | refine Ze rfl rfl ?_ | refine WZ rfl rfl ?_)) | (refine Wx ?_; refine Ww rfl rfl (fun _ _ => ?_)))) | (refine Qv ?_; (first | refine Qu ?_ | refine QY rfl ?_ | refine WX rfl rfl rfl rfl ?_ | refine Zl rfl rfl rfl rfl ?_ | refine Wv rfl rfl (by omega) ?_ | refine We rfl rfl (by omega) ?_)) | (refine Qs ?_; (first | refine Qw ?_ | refine Qc ?_ | refine QM ?_)))
   all_goals exact e_1 (Tryz.results31) (QQ rfl) (Zi (σ := []) (r := [_]) ⟨rfl, rfl⟩)
 ·rw [decide_eq_false h1, Bool.false_and, Bool.false_and]
  refine Qa Tryz.func31 rfl Tryz.ntmps31 rfl (t := [(0, .agg (Enc.enc t))]) rfl fun E hE => ?_
  (repeat' first | (refine Qo ?_; (first | (refine Qj ?_; refine QU rfl ?_) | (refine Qd ?_; refine Q5 rfl ?_) | (refine Ql ?_; refine Qi rfl rfl (by first | assumption | exact Enc.len _ | rfl) ?_) | (refine Qh ?_; refine W3 rfl rfl ?_) | (refine Qk ?_; refine W5 rfl rfl (hsiz) ?_) | (refine QJ ?_; refine WZ rfl rfl ?_) | (refine Wx ?_; refine Ww rfl rfl (fun _ _ => ?_)))) | (refine Qv ?_; (first | refine Qu ?_ | refine QY rfl ?_ | refine Zl rfl rfl rfl rfl ?_ | refine We rfl rfl (by omega) ?_)) | (refine Qs ?_; (first | refine Qw ?_ | refine Qc ?_ | refine QM ?_)))
  all_goals exact e_1 (Tryz.results31) (QQ rfl) (Zi (σ := []) (r := [_]) ⟨rfl, rfl⟩)
end Go.Proofs
end
section
namespace Go.Proofs
open Go.Av Go.Bl
theorem scan_nil {s : List UInt8} {a : Nat} (h : WA (s.dropWhile spB) = []) : Zc s a = ([], a + (s.length - (s.dropWhile spB).length)) := by
 rw [Zc]; simp only; rw [dif_pos h]
theorem scan_cons {s r t : List UInt8} {a b : Nat} (hr : s.dropWhile spB = r) (ht : WA r = t) (h : t ≠ []) (hb : b = a + (s.length - r.length)) :
  Zc s a = ((t, b) :: (Zc (r.drop t.length) (b + t.length)).1, (Zc (r.drop t.length) (b + t.length)).2) := by
 subst hr ht hb
 rw [Zc]; simp only; rw [dif_neg h]
theorem first_space {b : UInt8} {q : List UInt8} (h : spB b = true) : WA (b :: q) = [] := by
 have hb : b = 32 \/ b = 10 := by
  unfold spB at h
  simpa using h
 rcases hb with rfl | rfl <;> rfl
theorem first_nil : WA [] = [] := rfl
def Hd (r : List UInt8) : Prop := ∀ b ∈ r.head?, spB b = false
theorem hd_first {r : List UInt8} (h : WA r ≠ []) : Hd r := by
 cases r with
 | nil => exact absurd first_nil h
 | cons b q =>
  intro b' hb
  have : b = b' := by simpa using hb
  subst this
  cases hs : spB b with
  | false => rfl
  | true => exact absurd (first_space hs) h
theorem dw_app {sp r : List UInt8} (h : sp.all spB = true) (hr : Hd r) : (sp ++ r).dropWhile spB = r := by
 induction sp with
 | nil =>
  cases r with
  | nil => rfl
  | cons b q =>
   have hb := hr b (by simp)
   show (b :: q).dropWhile spB = b :: q
   rw [List.dropWhile_cons, if_neg (by rw [hb]; simp)]
 | cons b q ih =>
  simp only [List.all_cons, Bool.and_eq_true] at h
  rw [List.cons_append, List.dropWhile_cons, if_pos h.1]
  exact ih h.2
theorem dw_all' {sp : List UInt8} (h : sp.all spB = true) : sp.dropWhile spB = [] := by
 have := dw_app (r := []) h (fun b hb => by cases hb)
 simpa using this
def Z7 (s : List UInt8) (ts : List (List UInt8)) : Prop := ∀ a, (Zc s a).1.map (·.1) = ts /\ (Zc s a).2 = a + s.length
theorem lex_end {sp : List UInt8} (h : sp.all spB = true) : Z7 sp [] := fun a => by
 rw [scan_nil (by rw [dw_all' h]; rfl), dw_all' h]
 exact ⟨rfl, by simp⟩
theorem lex_cons {sp t r : List UInt8} {ts : List (List UInt8)} (h : sp.all spB = true) (ht : t ≠ []) (hf : WA (t ++ r) = t) (hr : Z7 r ts) : Z7 (sp ++ (t ++ r)) (t :: ts) := fun a => by
 have hd : Hd (t ++ r) := hd_first (by rw [hf]; exact ht)
 have e := scan_cons (a := a) (dw_app h hd) hf ht rfl
 rw [e, List.drop_left]
 obtain ⟨h1, h2⟩ := hr (a + ((sp ++ (t ++ r)).length - (t ++ r).length) + t.length)
 refine ⟨by rw [List.map_cons, h1], ?_⟩
 show (Zc r _).2 = _
 rw [h2]
 simp only [List.length_append]; omega
def Nx (r : List UInt8) : Prop := ∀ b ∈ r.head?, letB b = false /\ digB b = false
theorem WW {b : UInt8} {r : List UInt8} (h : (letB b || digB b) = false) : Nx (b :: r) := fun b' hb => by
 have : b = b' := by simpa using hb
 subst this
 simpa using h
theorem take_run {p : UInt8 -> Bool} {w r : List UInt8} (hw : w.all p = true) (hr : ∀ b ∈ r.head?, p b = false) : (w ++ r).takeWhile p = w := by
 induction w with
 | nil =>
  cases r with
  | nil => rfl
  | cons b q => rw [List.nil_append, List.takeWhile_cons, if_neg (by rw [hr b (by simp)]; simp)]
 | cons b q ih =>
  simp only [List.all_cons, Bool.and_eq_true] at hw
  rw [List.cons_append, List.takeWhile_cons, if_pos hw.1, ih hw.2]
theorem tw_mem {p : UInt8 -> Bool} : ∀ {l : List UInt8} {x : UInt8}, x ∈ l.takeWhile p -> p x = true
 | b :: r, x, h => by
  by_cases hb : p b = true
  ·rw [List.takeWhile_cons, if_pos hb] at h
   rcases List.mem_cons.1 h with rfl | h
   ·exact hb
   ·exact tw_mem h
  ·rw [List.takeWhile_cons, if_neg hb] at h; cases h
theorem run_nx {a : UInt8} {r : List UInt8} (h : Nx r) : ∀ b ∈ r.head?, runB a b = false := fun b hb => by
 obtain ⟨h1, h2⟩ := h b hb
 unfold runB
 rw [h1, h2]; simp
theorem first_word {w r : List UInt8} (hw : w ≠ []) (h0 : letB (w.getD 0 0) = true) (ha : w.all (fun b => digB b || letB b) = true) (hr : Nx r) : WA (w ++ r) = w := by
 cases w with
 | nil => exact absurd rfl hw
 | cons b q =>
  have h0 : letB b = true := h0
  have hp : ZG (b :: q ++ r) = b :: q := by
   unfold ZG
   refine take_run ?_ (run_nx hr)
   rw [List.all_eq_true] at ha ⊢
   intro x hx
   have := ha x hx
   show runB b x = true
   unfold runB
   rw [h0]
   simpa using this
  unfold WA
  rw [hp, if_pos (by simp), if_pos]
  show (letB b || _) = true
  rw [h0]; rfl
theorem num_dig {w : List UInt8} (h : qC w = true) : w ≠ [] /\ w.all digB = true := by
 unfold qC at h
 simp only [Bool.and_eq_true, decide_eq_true_eq] at h
 exact ⟨by rintro rfl; simp at h, h.2⟩
theorem first_num {w r : List UInt8} (hw : qC w = true) (hr : Nx r) : WA (w ++ r) = w := by
 obtain ⟨h1, h2⟩ := num_dig hw
 cases w with
 | nil => exact absurd rfl h1
 | cons b q =>
  have hp : ZG (b :: q ++ r) = b :: q := by
   unfold ZG
   refine take_run ?_ (run_nx hr)
   rw [List.all_eq_true] at h2 ⊢
   intro x hx
   show runB b x = true
   unfold runB
   rw [h2 x hx]; rfl
  unfold WA
  rw [hp, if_pos (by simp), if_pos (by rw [hw]; simp)]
theorem first_sign1 (c : UInt8) (r : List UInt8) (hc : [40, 41, 123, 125, 91, 93, 44, 46, 43, 45, 42, 47, 37, 94, 33].contains c = true) : WA ([c] ++ r) = [c] := by
 have : c = 40 \/ c = 41 \/ c = 123 \/ c = 125 \/ c = 91 \/ c = 93 \/ c = 44 \/ c = 46 \/ c = 43 \/ c = 45 \/ c = 42 \/ c = 47 \/ c = 37 \/ c = 94 \/ c = 33 := by simpa using hc
 rcases this with rfl | rfl | rfl | rfl | rfl | rfl | rfl | rfl | rfl | rfl | rfl | rfl | rfl | rfl | rfl <;> rfl
theorem first_signs (t r : List UInt8) (b : UInt8) (hb : spB b = true) (ht : t ∈ signsT) : WA (t ++ b :: r) = t := by
 have hb : b = 32 \/ b = 10 := by
  unfold spB at hb
  simpa using hb
 unfold signsT at ht
 simp only [List.mem_cons, List.not_mem_nil, or_false] at ht
 rcases hb with rfl | rfl <;> rcases ht with rfl | rfl | rfl | rfl | rfl | rfl | rfl | rfl | rfl | rfl | rfl | rfl | rfl | rfl | rfl | rfl | rfl | rfl | rfl | rfl | rfl | rfl | rfl | rfl <;> rfl
theorem first_signs_end (t : List UInt8) (ht : t ∈ signsT) : WA (t ++ []) = t := by
 unfold signsT at ht
 simp only [List.mem_cons, List.not_mem_nil, or_false] at ht
 rcases ht with rfl | rfl | rfl | rfl | rfl | rfl | rfl | rfl | rfl | rfl | rfl | rfl | rfl | rfl | rfl | rfl | rfl | rfl | rfl | rfl | rfl | rfl | rfl | rfl <;> rfl
theorem sp_nx {y : List UInt8} (hy : ∀ b ∈ y.head?, spB b = true) : Nx y := fun b hb => by
 have h := hy b hb
 have hb : b = 32 \/ b = 10 := by
  unfold spB at h
  simpa using h
 rcases hb with rfl | rfl <;> exact ⟨rfl, rfl⟩
theorem sign_mem {u : List UInt8} (h : signM u ≠ []) : signM u ∈ signsT /\ signM u <+: u := by
 unfold signM at h ⊢
 cases hf : signsT.find? (fun t => Lib.hasPrefix u t) with
 | none => rw [hf] at h; exact absurd rfl h
 | some t =>
  have h2 := List.find?_some hf
  exact ⟨List.mem_of_find?_eq_some hf, List.isPrefixOf_iff_prefix.1 h2⟩
theorem first_stop {u t y : List UInt8} (h : WA u = t) (ht : t ≠ []) (hy : ∀ b ∈ y.head?, spB b = true) : WA (t ++ y) = t := by
 unfold WA at h
 split at h
 ·rename_i h0
  split at h
  ·rename_i h1
   rw [h] at h1
   have hall : t.all (runB (u.getD 0 0)) = true := by
    rw [<- h]; unfold ZG
    rw [List.all_eq_true]
    intro x hx
    exact tw_mem hx
   have h00 : t.getD 0 0 = u.getD 0 0 := by
    unfold ZG at h
    have := List.takeWhile_prefix (l := u) (runB (u.getD 0 0))
    rw [h] at this
    obtain ⟨q, hq⟩ := this
    cases t with
    | nil => exact absurd rfl ht
    | cons b r => rw [<- hq]; rfl
   rw [<- h00] at h1 hall
   have hp : ZG (t ++ y) = t := by
    unfold ZG
    rw [show (t ++ y).getD 0 0 = t.getD 0 0 by cases t with | nil => exact absurd rfl ht | cons b r => rfl]
    exact take_run hall (run_nx (sp_nx hy))
   unfold WA
   rw [hp, show (t ++ y).getD 0 0 = t.getD 0 0 by cases t with | nil => exact absurd rfl ht | cons b r => rfl, if_pos (by cases t with | nil => exact absurd rfl ht | cons b r => simp), if_pos h1]
  ·exact absurd h.symm ht
 ·obtain ⟨h1, h2⟩ := sign_mem (u := u) (by rw [h]; exact ht)
  rw [h] at h1
  cases y with
  | nil => exact first_signs_end t h1
  | cons b r => exact first_signs t r b (hy b (by simp)) h1
theorem signs_le {t : List UInt8} (h : t ∈ signsT) : 1 <= t.length /\ t.length <= 2 := by
 have : ∀ t ∈ signsT, 1 <= t.length /\ t.length <= 2 := by decide
 exact this t h
end Go.Proofs
end
section
namespace Go.Proofs
open Go.Av
variable {G : Nat -> DV}
attribute [local irreducible] OpSem ZA ZV Z8 ACalls AEnd AClose RV
open Go.Bl
def parseM (z : Nd) (s : List UInt8) : Nd × Int :=
 if 8192 < s.length then (zNd, 8192)
 else if (qv (Zc s 0).1 z ((Zc s 0).1.length + 3)).2.bad = true then
  (if h : (qv (Zc s 0).1 z ((Zc s 0).1.length + 3)).2.p < (Zc s 0).1.length then (zNd, ((Zc s 0).1[(qv (Zc s 0).1 z ((Zc s 0).1.length + 3)).2.p].2 : Int)) else (zNd, ((Zc s 0).2 : Int)))
 else if (Zc s 0).2 < s.length then (zNd, ((Zc s 0).2 : Int))
 else if validM (qv (Zc s 0).1 z ((Zc s 0).1.length + 3)).1 = true then ((qv (Zc s 0).1 z ((Zc s 0).1.length + 3)).1, -1) else (zNd, 0)
theorem tup_nil {L : Lay} {a b c d : DV} {es : Nat} {v : Value} (h : VRep L (.tup [.agg [a, b, c, .sc (.slice none 0 0)], d]) v) : VRep L (.tup [.agg [a, b, c, .sl es []], d]) v := by
 cases h with | tup _ vs hl hg =>
 refine .tup _ _ hl fun j e hj => ?_
 match j with
 | 0 => simp at hj; subst hj; exact agg4_nil (hg 0 _ rfl)
 | j + 1 => exact hg (j + 1) e hj
theorem scan_ok (s : List UInt8) (hs : s.length <= 8192) : OkL (Zc s 0).1 /\ (Zc s 0).2 <= s.length /\ (Zc s 0).1.length <= s.length /\ ∀ x ∈ (Zc s 0).1, x.2 <= s.length := by
 have key : ∀ (n : Nat) (u : List UInt8) (a : Nat), u.length = n -> ((Zc u a).2 <= a + u.length /\ (Zc u a).1.length <= u.length /\ ∀ x ∈ (Zc u a).1, x.1 ≠ [] /\ x.1.length <= u.length /\ x.2 <= a + u.length) := by
  intro n
  induction n using Nat.strongRecOn with
  | _ n ih =>
  intro u a hu
  have hd := (List.dropWhile_sublist (l := u) spB).length_le
  by_cases hf : WA (u.dropWhile spB) = []
  ·rw [scan_nil hf]
   refine ⟨by show a + (u.length - (u.dropWhile spB).length) <= a + u.length; omega, Nat.zero_le _, fun x hx => by cases hx⟩
  ·have hle := firstM_le (u.dropWhile spB)
   have hpos : 1 <= (WA (u.dropWhile spB)).length := by
    cases hq : WA (u.dropWhile spB) with
    | nil => exact absurd hq hf
    | cons b q => simp
   rw [scan_cons rfl rfl hf rfl]
   have hdl : ((u.dropWhile spB).drop (WA (u.dropWhile spB)).length).length = (u.dropWhile spB).length - (WA (u.dropWhile spB)).length := List.length_drop
   obtain ⟨i1, i2, i3⟩ := ih _ (by rw [hdl]; omega) ((u.dropWhile spB).drop (WA (u.dropWhile spB)).length) (a + (u.length - (u.dropWhile spB).length) + (WA (u.dropWhile spB)).length) rfl
   rw [hdl] at i1 i2 i3
   refine ⟨by dsimp only; omega, by rw [List.length_cons]; omega, fun x hx => ?_⟩
   rcases List.mem_cons.1 hx with rfl | hx
   ·exact ⟨hf, by dsimp only; omega, by dsimp only; omega⟩
   ·obtain ⟨j1, j2, j3⟩ := i3 x hx
    exact ⟨j1, by omega, by omega⟩
 obtain ⟨h1, h2, h3⟩ := key _ s 0 rfl
 exact ⟨⟨by omega, fun x hx => ⟨(h3 x hx).1, by have := (h3 x hx).2.1; omega⟩⟩, by omega, h2, fun x hx => by have := (h3 x hx).2.2; omega⟩
theorem parse_c (hG0 : G 0 = shapesT) (hG1 : G 1 = spaceT) (s : List UInt8) (hsl : s.length <= 1000000000) : Go.Av.Pure Tryz.prog G 23 [W6 s] (.tup [.agg (Enc.enc (parseM zP s).1), .i (parseM zP s).2]) := fun B => by
 unfold parseM
 by_cases h8 : 8192 < s.length
 ·rw [if_pos h8]
  refine Qa Tryz.func23 rfl Tryz.ntmps23 rfl (t := [(0, W6 s)]) rfl fun E hE => ?_
  (repeat' first | (refine Qo ?_; (first | (refine Qj ?_; refine QU rfl ?_) | (refine Qd ?_; refine Q5 rfl ?_) | (refine Qh ?_; refine ZM rfl rfl ?_) | (refine Qk ?_; refine Wa rfl ?_) | (refine Qx ?_; refine Qe rfl rfl rfl (by first | assumption | exact Enc.len _ | rfl) (by first | assumption | exact Enc.len _ | rfl) rfl ?_) | (refine QS ?_; refine QC rfl rfl ?_) | (refine QG ?_; refine QD (fun _ _ => ?_)))) | (refine Qv ?_; (first | refine Qu ?_ | refine QY rfl ?_ | refine Q1 ?_)) | (refine Qs ?_; (first | refine Qw ?_ | refine Qc ?_ | refine Qr rfl (by omega) ?_ | refine QM ?_)))
  exact e_2 (Tryz.results23) (QA (size := 4) rfl rfl rfl rfl) (QQ rfl) (c_conv (d2 := .tup [.agg [.i 0, .i 0, .i 0, .sl 4 []], .i 8192]) (fun L v h => tup_nil h) (Q2 (by show _ = DV.tup [.agg (Enc.enc zNd), .i 8192]; unfold zNd; rw [Q3]; rfl)))
 rw [if_neg h8]
 have hscan := scan_c (G := G) hG1 s (by omega)
 obtain ⟨hL, he, hlen, hat⟩ := scan_ok s (by omega)
 generalize (Zc s 0).2 = e at *
 generalize (Zc s 0).1 = L at *
 obtain ⟨q, hqq⟩ : ∃ q, q = L.length + 3 := ⟨_, rfl⟩
 rw [<- hqq]
 have hq : L.length + 3 <= q := by omega
 have hfn := fun Q => fun_rc (G := G) hG1 L hL q hq (by omega) Q
 have hea := eats_fun L zP q
 have hkw := kw_fun (L := L) (z := zP) q
 have hps := fun h => Nat.le_trans (prog_size (L := L) (z := zP) q h) (prog_in q)
 have hpa : qv L zP q = (Nd.mk 27 (QO L (Wb L ZR ⟨0, false⟩)).1 0 (W2 L (qm L zP q) q [] (QO L (Wb L ZR ⟨0, false⟩)).2).1, (W2 L (qm L zP q) q [] (QO L (Wb L ZR ⟨0, false⟩)).2).2) := rfl
 rw [hpa] at hps ⊢
 clear hpa
 generalize qm L zP q = F at *
 have htk := take_c (G := G) L ⟨0, false⟩ hL ZR (by decide)
 have hmt := (mm_take (L := L) (S := ⟨0, false⟩) ZR (by decide)).1
 have hr0 : rM L ⟨0, false⟩ = L.length := by unfold rM; simp
 generalize Wb L ZR ⟨0, false⟩ = S1 at *
 have hnm := qI (G := G) L S1 hL
 have hmn := (jr (L := L) (F := QO L) (fun i => J.numeral (Ag.refl L i)) S1).2
 generalize (QO L S1).1 = v at *
 generalize (QO L S1).2 = S2 at *
 have htl : (tks L).length = L.length := by simp [tks]
 dsimp only at hps ⊢
 refine Qa Tryz.func23 rfl Tryz.ntmps23 rfl (t := [(0, W6 s)]) rfl fun E hE => ?_
 (repeat' first | (refine Qo ?_; (first | (refine Qj ?_; refine QU rfl ?_) | (refine Qd ?_; refine Q5 rfl ?_) | (refine Qh ?_; refine ZM rfl rfl ?_) | (refine Qk ?_; (first | refine Wa rfl ?_ | refine W5 rfl rfl (hscan) ?_ | refine Wf 1 (htk) rfl rfl rfl rfl ?_ | refine Wf 1 (hnm) rfl rfl rfl rfl ?_)) | (refine Qx ?_; refine Qe rfl rfl rfl (by first | assumption | exact Enc.len _ | rfl) (by first | assumption | exact Enc.len _ | rfl) rfl ?_) | (refine ZK ?_; refine ZI rfl rfl rfl ?_) | (refine QS ?_; refine QC rfl rfl ?_) | (refine QG ?_; refine QD (fun _ _ => ?_)) | (refine Wx ?_; refine Ww rfl rfl (fun _ _ => ?_)))) | (refine Qv ?_; (first | refine Qu ?_ | refine QY rfl ?_ | refine Q1 ?_)) | (refine Qs ?_; (first | refine Qw ?_ | refine Qc ?_ | refine Qm ?_ | refine QR ?_ | refine Qn rfl (by omega) ?_)))
 rename_i g2 hg2 gr hgr gn hgn
 refine r_ownin 2 3 4 rfl rfl (fun _ => rfl) (fun gk hgk => ?_)
 refine r_loop3n (fun (o : List Nd) (Q : RS) (gg : Nat) => ⟨[(0, W6 s), (2, .ptr 0 g2 0), (4, Wi (tks L)), (5, .i e), (6, .ptr 1 gr 0), (7, .ptr 2 gn 0)], [.row g2 [.i 0, .i 0, .i 0, .nil], .row gr (rdC L Q), .row gn [.i 27, .i v, .i 0, .ref 3 gg 0 o.length 4], .row gg (WH o)]⟩) (fun o Q gg => E.N < gg /\ o.length + mM L Q <= L.length /\ ∃ k', W2 L F q [] S2 = W2 L F k' o Q /\ mM L Q + 1 <= k') (fun o Q gg => mM L Q) [] S2 gk ?_ ⟨hgk, by simp; omega, q, rfl, by omega⟩ ?_
 ·exact zal rfl
 intro o Q gg ⟨hgg, hq2, k', hk1, hk2⟩
 have hol : o.length <= 2000000 := by omega
 rw [hk1] at hps ⊢
 have c1 := Wu o
 cases hb : Q.bad with
 | true =>
  have hend : W2 L F k' o Q = (o, Q) := by
   cases k' with
   | zero => rfl
   | succ k2 => rw [W2, if_neg (by rw [hb]; simp)]
  rw [hend]
  dsimp only
  rw [if_pos hb]
  clear hps hk1 hend hfn hkw hea
  have ecell : rdC L Q = [Wi (tks L), .i (Q.p : Nat), .i (Q.p : Nat)] := by unfold rdC badI; rw [if_pos hb]
  rw [ecell]
  by_cases hpl : Q.p < L.length
  ·rw [dif_pos hpl]
   have hpl2 : Q.p < (tks L).length := by omega
   have hta : ((tks L)[Q.p].a : Int) = (L[Q.p].2 : Int) := by rw [tks_get hpl]
   (repeat' first | (refine Qo ?_; (first | (refine Qj ?_; refine QU rfl ?_) | (refine Qd ?_; refine Q5 rfl ?_) | (refine Ql ?_; refine Qf rfl rfl rfl ?_) | (refine Qh ?_; (first | refine Wh rfl rfl ?_ | refine Zu rfl rfl ?_)) | (refine Qk ?_; refine Q6 rfl ?_) | (refine QJ ?_; (first | refine Ze rfl rfl ?_ | refine WZ rfl rfl ?_)) | (refine Qx ?_; refine Qe rfl rfl rfl (by first | assumption | exact Enc.len _ | rfl) (by first | assumption | exact Enc.len _ | rfl) rfl ?_) | (refine Qb ?_; refine Qg rfl rfl ?_) | (refine Qy ?_; refine Qt rfl rfl ?_))) | (refine Qv ?_; (first | refine Qu ?_ | refine QY rfl ?_ | refine WX rfl rfl rfl rfl ?_ | refine Zl rfl rfl rfl rfl ?_)) | (refine Qs ?_; (first | refine Qw ?_ | refine Qc ?_ | refine Qm ?_ | (refine WJ ?_; first | (refine Qq (fun p => p.1 :: .row gr [Wi (tks L), .i (Q.p : Nat), .i (Q.p : Nat)] :: p.2) 100 [(1, true), (2, true), (3, true), (4, true), (5, true), (6, true), (7, true), (8, true), (0, true), (9, false), (10, true)] (by rfl) (by rfl) (by kernel_rfl) (by decide +kernel) (by decide +kernel) ⟨(_, _), rfl⟩ ?_) | (refine Qq (fun p => .row g2 [.i 0, .i 0, .i 0, .nil] :: p.1 :: .row gn [.i 27, .i v, .i 0, .ref 3 gg 0 o.length 4] :: p.2) 7 [(0, true), (1, true), (2, true), (3, false), (4, true), (5, false), (6, true), (7, false)] (by rfl) (by rfl) (by kernel_rfl) (by decide +kernel) (by decide +kernel) ⟨(_, _), rfl⟩ ?_) | refine Ws (by rfl) (by kernel_rfl) (by kernel_rfl) ?_ | refine Wr (by kernel_rfl) (by kernel_rfl) ?_) | refine QH rfl ?_ | refine Qr rfl (by omega) ?_ | refine WI rfl ?_ | refine QM ?_)) | (refine W8 ?_; (first | refine ZH ?_ | refine i_st rfl rfl (fun _ => (by (repeat' first | (refine Qo ?_; (first | (refine Qj ?_; refine QU rfl ?_) | (refine Qd ?_; refine Q5 rfl ?_) | (refine Ql ?_; (first | refine Wl rfl ?_ | refine Qf rfl rfl rfl ?_)) | (refine QN ?_; refine Q9 rfl rfl (by first | assumption | omega | (simp; done) | (simp; omega)) ?_) | (refine Qb ?_; (first | refine Qg rfl rfl ?_ | refine s_fld_ep rfl rfl ?_)) | (refine QS ?_; refine QC rfl rfl ?_) | (refine Qy ?_; refine Qt rfl rfl ?_))) | exact ⟨rfl, rfl⟩))) ?_ | refine i_ef0 ?_)) | refine And.intro (Exists.intro ((_, _)) rfl) ?_)
   exact e_2 (Tryz.results23) (QA (size := 4) rfl rfl rfl rfl) (QQ rfl) (c_conv (d2 := .tup [.agg [.i 0, .i 0, .i 0, .sl 4 []], .i (tks L)[Q.p].a]) (fun L v h => tup_nil h) (Q2 (by rw [hta]; show _ = DV.tup [.agg (Enc.enc zNd), _]; unfold zNd; rw [Q3]; rfl)))
  ·rw [dif_neg hpl]
   (repeat' first | (refine Qo ?_; (first | (refine Qj ?_; refine QU rfl ?_) | (refine Qd ?_; refine Q5 rfl ?_) | (refine Ql ?_; refine Qf rfl rfl rfl ?_) | (refine Qh ?_; (first | refine Wh rfl rfl ?_ | refine Zu rfl rfl ?_)) | (refine Qk ?_; refine Q6 rfl ?_) | (refine QJ ?_; (first | refine Ze rfl rfl ?_ | refine WZ rfl rfl ?_)) | (refine Qx ?_; refine Qe rfl rfl rfl (by first | assumption | exact Enc.len _ | rfl) (by first | assumption | exact Enc.len _ | rfl) rfl ?_) | (refine Qb ?_; refine Qg rfl rfl ?_) | (refine QS ?_; refine QC rfl rfl ?_) | (refine Qy ?_; refine Qt rfl rfl ?_))) | (refine Qv ?_; (first | refine Qu ?_ | refine QY rfl ?_ | refine Q1 ?_ | refine WX rfl rfl rfl rfl ?_ | refine Zl rfl rfl rfl rfl ?_)) | (refine Qs ?_; (first | refine Qw ?_ | refine Qc ?_ | refine Qm ?_ | refine QB rfl ?_ | refine QH rfl ?_ | refine Qn rfl (by omega) ?_ | refine WI rfl ?_ | refine QM ?_)))
   exact e_2 (Tryz.results23) (QA (size := 4) rfl rfl rfl rfl) (QQ rfl) (c_conv (d2 := .tup [.agg [.i 0, .i 0, .i 0, .sl 4 []], .i e]) (fun L v h => tup_nil h) (Q2 (by show _ = DV.tup [.agg (Enc.enc zNd), _]; unfold zNd; rw [Q3]; rfl)))
 | false =>
  have hbi := bad_neg hb
  match k', hk1, hk2 with
  | k2 + 1, hk1, hk2 =>
  by_cases hpl : Q.p < L.length
  ·have hrec : W2 L F (k2 + 1) o Q = W2 L F k2 (o ++ [(F Q).1]) (F Q).2 := by rw [W2, if_pos ⟨hb, hpl⟩]
   have hlt := hea Q hb
   have hfun := hfn Q
   clear hps hk1 hfn hkw hea
   generalize hx2 : (F Q).1 = xb at *
   generalize hS2 : (F Q).2 = S3 at *
   (repeat' first | (refine Qo ?_; (first | (refine Qj ?_; refine QU rfl ?_) | (refine Ql ?_; refine Qf rfl rfl rfl ?_) | (refine Qh ?_; refine Wh rfl rfl ?_) | (refine Qk ?_; (first | refine qk (z := xb) rfl rfl rfl rfl rfl rfl rfl (by first | omega | (simp; omega)) (by first | omega | (simp; omega)) (fun _ => rfl) (fun _ _ => ?_) | refine Q6 rfl ?_ | refine Wf 1 (hfun) rfl rfl rfl rfl ?_)) | (refine QJ ?_; refine Ze rfl rfl ?_) | (refine Qx ?_; refine Q8 rfl rfl rfl rfl (by rfl) (by rfl) (by rfl) ?_) | (refine Qb ?_; refine Qg rfl rfl ?_) | (refine Qy ?_; refine Qt rfl rfl ?_))) | (refine Qv ?_; (first | refine Qu ?_ | refine QY rfl ?_ | refine WX rfl rfl rfl rfl ?_ | refine Wv rfl rfl (by omega) ?_)) | (refine Qs ?_; (first | refine Qw ?_ | refine Qc ?_ | refine Qm ?_ | (refine WJ ?_; first | (refine Qq (fun p => p.1 :: .row gr [Wi (tks L), .i (Q.p : Nat), .i (Q.p : Nat)] :: p.2) 100 [(1, true), (2, true), (3, true), (4, true), (5, true), (6, true), (7, true), (8, true), (0, true), (9, false), (10, true)] (by rfl) (by rfl) (by kernel_rfl) (by decide +kernel) (by decide +kernel) ⟨(_, _), rfl⟩ ?_) | (refine Qq (fun p => .row g2 [.i 0, .i 0, .i 0, .nil] :: p.1 :: .row gn [.i 27, .i v, .i 0, .ref 3 gg 0 o.length 4] :: p.2) 7 [(0, true), (1, true), (2, true), (3, false), (4, true), (5, false), (6, true), (7, false)] (by rfl) (by rfl) (by kernel_rfl) (by decide +kernel) (by decide +kernel) ⟨(_, _), rfl⟩ ?_) | refine Ws (by rfl) (by kernel_rfl) (by kernel_rfl) ?_ | refine Wr (by kernel_rfl) (by kernel_rfl) ?_) | refine QR ?_ | refine Qr rfl (by omega) ?_)) | (refine W8 ?_; (first | refine ZH ?_ | refine i_z0 ?_ | refine i_st rfl rfl (fun _ => (by (repeat' first | (refine Qo ?_; (first | (refine Qj ?_; refine QU rfl ?_) | (refine Ql ?_; refine Qf rfl rfl rfl ?_) | (refine QK ?_; refine Q0 (z := xb) rfl rfl (by decide) ?_) | (refine Qb ?_; refine Qg rfl rfl ?_))) | exact ⟨rfl, rfl⟩))) ?_ | refine i_ef rfl ?_)) | refine And.intro (Exists.intro ((_, _)) rfl) ?_)
   refine ⟨o ++ [xb], S3, _, ⟨by assumption, by simp; omega, k2, hrec, by omega⟩, by omega, ?_⟩
   exact zal rfl
  ·have hend : W2 L F (k2 + 1) o Q = (o, Q) := by rw [W2, if_neg (by rw [hb]; simp; omega)]
   rw [hend] at hps ⊢
   dsimp only at hps ⊢
   rw [if_neg (by rw [hb]; decide)]
   have hsz : QI (.mk 27 v 0 o) <= 1000000 := by
    have := hps hb
    omega
   have hval := valid_c hG0 (.mk 27 v 0 o) hsz
   rw [Q3] at hval
   clear hps hk1 hend hfn hkw hea
   refine r_pubin 2 3 rfl rfl rfl c1.symm rfl rfl ?_
   by_cases hes : e < s.length
   ·rw [if_pos hes]
    (repeat' first | (refine Qo ?_; (first | (refine Qj ?_; refine QU rfl ?_) | (refine Qd ?_; refine Q5 rfl ?_) | (refine Ql ?_; refine Qf rfl rfl rfl ?_) | (refine Qh ?_; (first | refine Wh rfl rfl ?_ | refine Zu rfl rfl ?_)) | (refine Qk ?_; (first | refine Q6 rfl ?_ | refine Wa rfl ?_)) | (refine QJ ?_; (first | refine Ze rfl rfl ?_ | refine WZ rfl rfl ?_)) | (refine Qx ?_; refine Qe rfl rfl rfl (by first | assumption | exact Enc.len _ | rfl) (by first | assumption | exact Enc.len _ | rfl) rfl ?_) | (refine Qb ?_; refine Qg rfl rfl ?_) | (refine QS ?_; refine QC rfl rfl ?_) | (refine Qy ?_; refine Qt rfl rfl ?_))) | (refine Qv ?_; (first | refine Qu ?_ | refine QY rfl ?_ | refine Q1 ?_ | refine WX rfl rfl rfl rfl ?_ | refine Zl rfl rfl rfl rfl ?_ | refine Wv rfl rfl (by omega) ?_ | refine We rfl rfl (by omega) ?_)) | (refine Qs ?_; (first | refine Qw ?_ | refine Qc ?_ | refine Qm ?_ | refine QH rfl ?_ | refine Qr rfl (by omega) ?_ | refine Qn rfl (by omega) ?_ | refine WI rfl ?_ | refine QM ?_)))
    exact e_2 (Tryz.results23) (QA (size := 4) rfl rfl rfl rfl) (QQ rfl) (c_conv (d2 := .tup [.agg [.i 0, .i 0, .i 0, .sl 4 []], .i e]) (fun L v h => tup_nil h) (Q2 (by show _ = DV.tup [.agg (Enc.enc zNd), _]; unfold zNd; rw [Q3]; rfl)))
   ·rw [if_neg hes]
    cases hvv : validM (.mk 27 v 0 o) with
    | true =>
     rw [hvv] at hval
     rw [if_pos rfl]
     (repeat' first | (refine Qo ?_; (first | (refine Qj ?_; refine QU rfl ?_) | (refine Qd ?_; refine Q5 rfl ?_) | (refine Ql ?_; (first | refine Qi rfl rfl (by first | assumption | exact Enc.len _ | rfl) ?_ | refine Qf rfl rfl rfl ?_)) | (refine Qh ?_; (first | refine Wh rfl rfl ?_ | refine Zu rfl rfl ?_)) | (refine Qk ?_; (first | refine Q6 rfl ?_ | refine Wa rfl ?_ | refine W5 rfl rfl (hval) ?_)) | (refine QJ ?_; (first | refine Ze rfl rfl ?_ | refine WZ rfl rfl ?_)) | (refine Qx ?_; refine Qe rfl rfl rfl (by first | assumption | exact Enc.len _ | rfl) (by first | assumption | exact Enc.len _ | rfl) rfl ?_) | (refine WQ ?_; refine Zv rfl ?_) | (refine Qb ?_; refine Qg rfl rfl ?_) | (refine Qy ?_; refine Qt rfl rfl ?_))) | (refine Qv ?_; (first | refine Qu ?_ | refine QY rfl ?_ | refine Q1 ?_ | refine WX rfl rfl rfl rfl ?_ | refine Zl rfl rfl rfl rfl ?_ | refine Wv rfl rfl (by omega) ?_ | refine We rfl rfl (by omega) ?_)) | (refine Qs ?_; (first | refine Qw ?_ | refine Qc ?_ | refine Qm ?_ | refine QR ?_ | refine QH rfl ?_ | refine Qn rfl (by omega) ?_ | refine WI rfl ?_ | refine QM ?_)))
     exact e_2 (Tryz.results23) (QA (size := 4) rfl rfl rfl rfl) (QQ rfl) (Q2 (by rw [Q3]; rfl))
    | false =>
     rw [hvv] at hval
     rw [if_neg (by decide)]
     (repeat' first | (refine Qo ?_; (first | (refine Qj ?_; refine QU rfl ?_) | (refine Qd ?_; refine Q5 rfl ?_) | (refine Ql ?_; (first | refine Qi rfl rfl (by first | assumption | exact Enc.len _ | rfl) ?_ | refine Qf rfl rfl rfl ?_)) | (refine Qh ?_; (first | refine Wh rfl rfl ?_ | refine Zu rfl rfl ?_)) | (refine Qk ?_; (first | refine Q6 rfl ?_ | refine Wa rfl ?_ | refine W5 rfl rfl (hval) ?_)) | (refine QJ ?_; (first | refine Ze rfl rfl ?_ | refine WZ rfl rfl ?_)) | (refine Qx ?_; refine Qe rfl rfl rfl (by first | assumption | exact Enc.len _ | rfl) (by first | assumption | exact Enc.len _ | rfl) rfl ?_) | (refine WQ ?_; refine Zv rfl ?_) | (refine Qb ?_; refine Qg rfl rfl ?_) | (refine QS ?_; refine QC rfl rfl ?_) | (refine Qy ?_; refine Qt rfl rfl ?_))) | (refine Qv ?_; (first | refine Qu ?_ | refine QY rfl ?_ | refine Q1 ?_ | refine WX rfl rfl rfl rfl ?_ | refine Zl rfl rfl rfl rfl ?_ | refine Wv rfl rfl (by omega) ?_ | refine We rfl rfl (by omega) ?_)) | (refine Qs ?_; (first | refine Qw ?_ | refine Qc ?_ | refine Qm ?_ | refine QB rfl ?_ | refine QH rfl ?_ | refine Qn rfl (by omega) ?_ | refine WI rfl ?_ | refine QM ?_)))
     exact e_2 (Tryz.results23) (QA (size := 4) rfl rfl rfl rfl) (QQ rfl) (c_conv (d2 := .tup [.agg [.i 0, .i 0, .i 0, .sl 4 []], .i 0]) (fun L v h => tup_nil h) (Q2 (by show _ = DV.tup [.agg (Enc.enc zNd), _]; unfold zNd; rw [Q3]; rfl)))
end Go.Proofs
end
section
namespace Go.Proofs
open Go.Av Go.Bl
def simT : Nd -> List UInt8
 | .mk k n m ks =>
  if k = 14 then (if Q4 m ks.length 1 = true then [118] ++ Lib.itoa n ++ [32, 61, 32] ++ Zs (ks.map exT) else []) else
  if k = 15 then (if Q4 m ks.length 2 = true then [118] ++ Lib.itoa n ++ [91] ++ (ks.map exT).getD 0 [] ++ [93, 32, 61, 32] ++ (ks.map exT).getD 1 [] else []) else
  if k = 16 then (if ks.length = 1 then [118] ++ Lib.itoa n ++ [46] ++ Lib.itoa m ++ [32, 61, 32] ++ Zs (ks.map exT) else []) else
  if k = 19 then (if W9 n m ks.length 1 = true then [114, 101, 116, 117, 114, 110, 32] ++ Zs (ks.map exT) else []) else
  if k = 20 then (if W9 n m ks.length 1 = true then [116, 104, 114, 111, 119, 32] ++ Zs (ks.map exT) else []) else
  if k = 24 then (if W9 n m ks.length 1 = true then [111, 117, 116, 32] ++ Zs (ks.map exT) else []) else
  if k = 25 then (if W9 n m ks.length 0 = true then [115, 107, 105, 112] else []) else
  if k = 22 then (if Q4 m ks.length 1 = true then [115, 101, 110, 100, 32, 99] ++ Lib.itoa n ++ [32] ++ Zs (ks.map exT) else []) else
  if k = 23 then (if Q4 m ks.length (-1) = true then [115, 112, 97, 119, 110, 32, 102] ++ Lib.itoa n ++ [40] ++ Zs (ks.map exT) ++ [41] else []) else []
def simOk : Nd -> Bool
 | .mk k n m ks =>
  if k = 14 then Q4 m ks.length 1 && Zm n && ks.all qn else if k = 15 then Q4 m ks.length 2 && Zm n && ks.all qn else if k = 16 then decide (ks.length = 1) && Zm n && Zm m && ks.all qn else
  if k = 19 then W9 n m ks.length 1 && ks.all qn else if k = 20 then W9 n m ks.length 1 && ks.all qn else if k = 24 then W9 n m ks.length 1 && ks.all qn else if k = 25 then W9 n m ks.length 0 else
  if k = 22 then Q4 m ks.length 1 && Zm n && ks.all qn else if k = 23 then Q4 m ks.length (-1) && Zm n && ks.all qn else false
theorem exs_len {ks : List Nd} (h : okL ks) : ∀ x ∈ ks, (exT x).length + 2 <= 60 * QI x := fun x hx => exT_len x (Za h hx)
theorem getD2_len {ks : List Nd} (h : okL ks) (h2 : ks.length = 2) : ((ks.map exT).getD 0 []).length + ((ks.map exT).getD 1 []).length <= 60 * QT ks := by
 match ks, h2 with
 | [a, b], _ =>
  have ha := exs_len h a (by simp)
  have hb := exs_len h b (by simp)
  simp only [List.map_cons, List.map_nil, List.getD_cons_zero, List.getD_cons_succ, QT]; omega
theorem simT_len (t : Nd) (hok : okN t) : (simT t).length <= 60 * QI t := by
 obtain ⟨k, n, m, ks⟩ := t
 rw [okN] at hok
 have hn := ZE hok.1.2.1
 have hm := ZE hok.1.2.2
 have hs := qo exT ks (exs_len hok.2)
 have h2 : Q4 m ks.length 2 = true -> ((ks.map exT).getD 0 []).length + ((ks.map exT).getD 1 []).length <= 60 * QT ks := fun h => getD2_len hok.2 (by simp [Q4] at h; omega)
 rw [simT]
 rw [QI]
 repeat' split
 all_goals (try have h2 := h2 (by assumption)); simp only [List.length_append, List.length_cons, List.length_nil]; omega
def Z6 (i : Nat) (s : List UInt8) : List UInt8 := Lib.repeatL [32, 32] i ++ s ++ [10]
theorem Wq (i : Nat) (s : List UInt8) : (Z6 i s).length = 2 * i + s.length + 1 := by
 unfold Z6
 rw [List.length_append, List.length_append, Lib.repeatL_length]
 show i * 2 + s.length + 1 = _
 omega
abbrev sOpen : List UInt8 := [123]
abbrev sClose : List UInt8 := [125]
abbrev sElse : List UInt8 := [125, 32, 101, 108, 115, 101, 32, 123]
abbrev sIf : List UInt8 := [105, 102, 32]
abbrev sWhile : List UInt8 := [119, 104, 105, 108, 101, 32]
abbrev sTry : List UInt8 := [116, 114, 121, 32, 123]
abbrev sCatch : List UInt8 := [125, 32, 99, 97, 116, 99, 104, 32, 118]
abbrev sBr : List UInt8 := [32, 123]
mutual
def stT : Nd -> Nat -> List UInt8
 | .mk k n m ks, i =>
  if k = 13 then Z6 i sOpen ++ (if W9 n m ks.length (-1) = true then stTs ks (i + 1) else []) ++ Z6 i sClose else
  if k = 17 /\ W9 n m ks.length 3 = true then Z6 i (sIf ++ (ks.map exT).getD 0 [] ++ sBr) ++ (inTs ks i).getD 1 [] ++ Z6 i sElse ++ (inTs ks i).getD 2 [] ++ Z6 i sClose else
  if k = 18 /\ W9 n m ks.length 2 = true then Z6 i (sWhile ++ (ks.map exT).getD 0 [] ++ sBr) ++ (inTs ks i).getD 1 [] ++ Z6 i sClose else
  if k = 21 /\ Q4 m ks.length 2 = true then Z6 i sTry ++ (inTs ks i).getD 0 [] ++ Z6 i (sCatch ++ Lib.itoa n ++ sBr) ++ (inTs ks i).getD 1 [] ++ Z6 i sClose else
  Z6 i (simT (.mk k n m ks))
def stTs : List Nd -> Nat -> List UInt8
 | [], _ => []
 | x :: r, i => stT x i ++ stTs r i
def inT : Nd -> Nat -> List UInt8
 | .mk k n m ks, i => if (decide (k = 13) && W9 n m ks.length (-1)) = true then stTs ks (i + 1) else []
def inTs : List Nd -> Nat -> List (List UInt8)
 | [], _ => []
 | x :: r, i => inT x i :: inTs r i
end
theorem inTs_eq (i : Nat) : ∀ ks, inTs ks i = ks.map fun x => inT x i
 | [] => rfl
 | x :: r => by rw [inTs, inTs_eq i r]; rfl
mutual
def stOk : Nd -> Bool
 | .mk k n m ks =>
  if k = 13 then W9 n m ks.length (-1) && qO ks else
  if k = 17 then W9 n m ks.length 3 && (ks.map qn).getD 0 false && (inOks ks).getD 1 false && (inOks ks).getD 2 false else
  if k = 18 then W9 n m ks.length 2 && (ks.map qn).getD 0 false && (inOks ks).getD 1 false else
  if k = 21 then Q4 m ks.length 2 && Zm n && (inOks ks).getD 0 false && (inOks ks).getD 1 false else simOk (.mk k n m ks)
def qO : List Nd -> Bool
 | [] => true
 | x :: r => stOk x && qO r
def inOk : Nd -> Bool
 | .mk k n m ks => decide (k = 13) && W9 n m ks.length (-1) && qO ks
def inOks : List Nd -> List Bool
 | [] => []
 | x :: r => inOk x :: inOks r
end
theorem inOks_eq : ∀ ks, inOks ks = ks.map inOk
 | [] => rfl
 | x :: r => by rw [inOks, inOks_eq r]; rfl
theorem stOks_eq : ∀ ks, qO ks = ks.all stOk
 | [] => rfl
 | x :: r => by rw [qO, stOks_eq r]; rfl
theorem stTs_app (a b : List Nd) (i : Nat) : stTs (a ++ b) i = stTs a i ++ stTs b i := by
 induction a with
 | nil => simp [stTs]
 | cons x r ih => rw [List.cons_append, stTs, stTs, ih, List.append_assoc]
theorem stTs_take {ks : List Nd} {j : Nat} (h : j < ks.length) (i : Nat) : stTs (ks.take (j + 1)) i = stTs (ks.take j) i ++ stT ks[j] i := by
 rw [List.take_succ_eq_append_getElem h, stTs_app, stTs, stTs, List.append_nil]
theorem stOks_take {ks : List Nd} {j : Nat} (h : j < ks.length) : qO (ks.take (j + 1)) = (qO (ks.take j) && stOk ks[j]) := by
 rw [stOks_eq, stOks_eq, List.take_succ_eq_append_getElem h, List.all_append]; simp
def bnd (i s : Nat) : Nat := (6 * (i + s) + 100) * s
theorem stTs_len {C : Nat} : ∀ (ks : List Nd) (i : Nat), (∀ x ∈ ks, (stT x i).length <= C * QI x) -> (stTs ks i).length <= C * QT ks
 | [], i, _ => by simp [stTs]
 | x :: r, i, h => by
  have h1 := h x (by simp)
  have h2 := stTs_len r i fun y hy => h y (by simp [hy])
  rw [stTs, QT, List.length_append, Nat.mul_add]; omega
theorem getD_map_le {ks : List Nd} {f : Nd -> List UInt8} {C : Nat} (h : ∀ x ∈ ks, (f x).length <= C * QI x) (j : Nat) (hj : j < ks.length) : ((ks.map f).getD j []).length <= C * QI ks[j] := by
 rw [List.getD_eq_getElem?_getD, List.getElem?_map, List.getElem?_eq_getElem hj]
 exact h _ (List.getElem_mem hj)
theorem st_len (t : Nd) : okN t -> ∀ i, (stT t i).length <= bnd i (QI t) /\ (inT t i).length <= (6 * (i + QI t) + 100) * (QI t - 1) := by
 induction t using Nd.ind with
 | h k n m ks ih =>
 intro hok0 i
 have hsim := simT_len (.mk k n m ks) hok0
 have hok := hok0
 rw [okN] at hok
 have hn := ZE hok.1.2.1
 rw [QI] at hsim ⊢
 have hin : (stTs ks (i + 1)).length <= (6 * (i + (1 + QT ks)) + 100) * QT ks := by
  refine stTs_len ks (i + 1) fun x hx => ?_
  refine Nat.le_trans (ih x hx (Za hok.2 hx) (i + 1)).1 (Nat.mul_le_mul ?_ (Nat.le_refl _))
  have := WK hx; omega
 have hC : (6 * (i + (1 + QT ks)) + 100) * (1 + QT ks) = (6 * (i + (1 + QT ks)) + 100) + (6 * (i + (1 + QT ks)) + 100) * QT ks := by rw [Nat.mul_add, Nat.mul_one]
 have hex : ∀ x ∈ ks, (exT x).length <= (6 * (i + (1 + QT ks)) + 100) * QI x := fun x hx => by
  have := exs_len hok.2 x hx
  have : 60 * QI x <= (6 * (i + (1 + QT ks)) + 100) * QI x := Nat.mul_le_mul (by omega) (Nat.le_refl _)
  omega
 have hib : ∀ x ∈ ks, (inT x i).length <= (6 * (i + (1 + QT ks)) + 100) * QI x := fun x hx => by
  refine Nat.le_trans (ih x hx (Za hok.2 hx) i).2 (Nat.mul_le_mul ?_ (by omega))
  have := WK hx; omega
 have h60 : 60 * (1 + QT ks) <= 60 + (6 * (i + (1 + QT ks)) + 100) * QT ks := by
  have : 60 * QT ks <= (6 * (i + (1 + QT ks)) + 100) * QT ks := Nat.mul_le_mul (by omega) (Nat.le_refl _)
  omega
 have h2 : ks.length = 2 -> ((6 * (i + (1 + QT ks)) + 100) * QI (ks.getD 0 (.mk 0 0 0 [])) + (6 * (i + (1 + QT ks)) + 100) * QI (ks.getD 1 (.mk 0 0 0 []))) <= (6 * (i + (1 + QT ks)) + 100) * QT ks := fun h => by
  match ks, h with
  | [a, b], _ =>
   rw [<- Nat.mul_add]
   refine Nat.mul_le_mul (Nat.le_refl _) ?_
   show QI a + QI b <= _
   rw [QT, QT, QT]; omega
 have h3 : ks.length = 3 -> ((6 * (i + (1 + QT ks)) + 100) * QI (ks.getD 0 (.mk 0 0 0 [])) + (6 * (i + (1 + QT ks)) + 100) * QI (ks.getD 1 (.mk 0 0 0 [])) + (6 * (i + (1 + QT ks)) + 100) * QI (ks.getD 2 (.mk 0 0 0 []))) <= (6 * (i + (1 + QT ks)) + 100) * QT ks := fun h => by
  match ks, h with
  | [a, b, c], _ =>
   rw [<- Nat.mul_add, <- Nat.mul_add]
   refine Nat.mul_le_mul (Nat.le_refl _) ?_
   show QI a + QI b + QI c <= _
   rw [QT, QT, QT, QT]; omega
 have gx : ∀ j, j < ks.length -> ((ks.map exT).getD j []).length <= (6 * (i + (1 + QT ks)) + 100) * QI (ks.getD j (.mk 0 0 0 [])) := fun j hj => by
  have := getD_map_le hex j hj
  rwa [List.getD_eq_getElem?_getD (l := ks), List.getElem?_eq_getElem hj]
 have gi : ∀ j, j < ks.length -> ((inTs ks i).getD j []).length <= (6 * (i + (1 + QT ks)) + 100) * QI (ks.getD j (.mk 0 0 0 [])) := fun j hj => by
  rw [inTs_eq]
  have := getD_map_le hib j hj
  rwa [List.getD_eq_getElem?_getD (l := ks), List.getElem?_eq_getElem hj]
 refine ⟨?_, ?_⟩
 ·rw [stT]
  unfold bnd
  rw [hC]
  generalize (6 * (i + (1 + QT ks)) + 100) * QT ks = W at *
  clear ih hex hib hok hok0
  split
  ·split
   ·simp only [List.length_append, Wq, List.length_cons, List.length_nil]; omega
   ·simp only [List.length_append, Wq, List.length_cons, List.length_nil]; omega
  split
  ·rename_i h
   have hl : ks.length = 3 := by have := h.2; simp [W9, Q4] at this; omega
   have e0 := gx 0 (by omega)
   have e1 := gi 1 (by omega)
   have e2 := gi 2 (by omega)
   have := h3 hl
   simp only [List.length_append, Wq, List.length_cons, List.length_nil]; omega
  split
  ·rename_i h
   have hl : ks.length = 2 := by have := h.2; simp [W9, Q4] at this; omega
   have e0 := gx 0 (by omega)
   have e1 := gi 1 (by omega)
   have := h2 hl
   simp only [List.length_append, Wq, List.length_cons, List.length_nil]; omega
  split
  ·rename_i h
   have hl : ks.length = 2 := by have := h.2; simp [Q4] at this; omega
   have e0 := gi 0 (by omega)
   have e1 := gi 1 (by omega)
   have := h2 hl
   simp only [List.length_append, Wq, List.length_cons, List.length_nil]; omega
  ·rw [Wq]; omega
 ·rw [inT]
  split
  ·rw [Nat.add_sub_cancel_left]; exact hin
  ·simp
def funT : Nd -> List UInt8
 | .mk k n m ks =>
  if (decide (k = 26) && decide (0 < ks.length) && Q4 m ks.length (-1)) = true then
   Z6 0 ([102, 117, 110, 32] ++ Lib.itoa n ++ [32, 40] ++ Zs ((ks.take (ks.length - 1)).map typT) ++ [41, 32, 123]) ++ (inT (ks.getD (ks.length - 1) (.mk 0 0 0 [])) 0 ++ Z6 0 sClose)
  else []
def qV : Nd -> Bool
 | .mk k n m ks => decide (k = 26) && decide (0 < ks.length) && Q4 m ks.length (-1) && Zm n && (ks.take (ks.length - 1)).all typOk && inOk (ks.getD (ks.length - 1) (.mk 0 0 0 []))
def prT : Nd -> List UInt8
 | .mk k n m ks =>
  if k = 27 then Z6 0 ([112, 114, 111, 103, 114, 97, 109, 32] ++ Lib.itoa n) ++ (ks.map funT).flatten else
  if k = 26 then funT (.mk k n m ks) else if 0 <= k /\ k <= 3 then typT (.mk k n m ks) else if 4 <= k /\ k <= 12 then exT (.mk k n m ks) else stT (.mk k n m ks) 0
def prOk : Nd -> Bool
 | .mk k n m ks =>
  if k = 27 then Q4 m ks.length (-1) && Zm n && ks.all qV else
  if k = 26 then qV (.mk k n m ks) else if 0 <= k /\ k <= 3 then typOk (.mk k n m ks) else if 4 <= k /\ k <= 12 then qn (.mk k n m ks) else stOk (.mk k n m ks)
def Zo (t : Nd) : List UInt8 := if prOk t = true then prT t else []
theorem qA (f : Nd -> List UInt8) {M : Nat} (ks : List Nd) (j : Nat) (h : ∀ x ∈ ks, (f x).length + 2 <= M * QI x) : (Zs ((ks.take j).map f)).length <= M * QT (ks.take j) := qo f _ fun x hx => h x (List.mem_of_mem_take hx)
theorem sizeL_last {ks : List Nd} (h : 0 < ks.length) : QT (ks.take (ks.length - 1)) + QI (ks.getD (ks.length - 1) (.mk 0 0 0 [])) = QT ks := by
 have h1 := qG ks (ks.length - 1) (by omega)
 rw [show ks.length - 1 + 1 = ks.length by omega, List.take_length] at h1
 rw [List.getD_eq_getElem?_getD, List.getElem?_eq_getElem (show ks.length - 1 < ks.length by omega)]
 exact h1.symm
theorem last_mem {ks : List Nd} (h : 0 < ks.length) : ks.getD (ks.length - 1) (.mk 0 0 0 []) ∈ ks := by
 rw [List.getD_eq_getElem?_getD, List.getElem?_eq_getElem (show ks.length - 1 < ks.length by omega)]
 exact List.getElem_mem _
theorem funT_len (t : Nd) (hok : okN t) (hs : QI t <= 1000000) : (funT t).length <= 7000000 * QI t := by
 obtain ⟨k, n, m, ks⟩ := t
 rw [okN] at hok
 rw [QI] at hs ⊢
 have hn := ZE hok.1.2.1
 rw [funT]
 split
 ·rename_i h
  have hk : 0 < ks.length := by simp at h; omega
  have hl := sizeL_last hk
  have hb := (st_len _ (Za hok.2 (last_mem hk)) 0).2
  have hc := qA typT (M := 30) ks (ks.length - 1) fun x hx => typT_len x (Za hok.2 hx)
  generalize ks.getD (ks.length - 1) (.mk 0 0 0 []) = b at *
  have hb2 : (6 * (0 + QI b) + 100) * (QI b - 1) <= 7000000 * (QI b - 1) := Nat.mul_le_mul (by omega) (Nat.le_refl _)
  simp only [List.length_append, Wq, List.length_cons, List.length_nil]
  omega
 ·simp
theorem funs_len : ∀ (ks : List Nd), okL ks -> QT ks <= 1000000 -> ((ks.map funT).flatten).length <= 7000000 * QT ks
 | [], _, _ => by simp
 | x :: r, h, hs => by
  rw [okL] at h
  rw [QT] at hs
  have h1 := funT_len x h.1 (by omega)
  have h2 := funs_len r h.2 (by omega)
  rw [List.map_cons, List.flatten_cons, List.length_append, QT, Nat.mul_add]; omega
theorem flatten_take {ks : List Nd} {j : Nat} (f : Nd -> List UInt8) (h : j < ks.length) : ((ks.take (j + 1)).map f).flatten = ((ks.take j).map f).flatten ++ f ks[j] := by
 rw [List.take_succ_eq_append_getElem h, List.map_append, List.flatten_append]; simp
abbrev Tok := List UInt8
def WU : List (List Tok) -> List Tok
 | [] => []
 | [x] => x
 | x :: y :: r => x ++ [44] :: WU (y :: r)
mutual
def typK : Nd -> List Tok
 | .mk k n m ks => if k = 0 then [wInt] else if k = 1 then [wBool] else if k = 2 then [wArr, Lib.itoa n] else wRec :: [40] :: (WU (typKs ks) ++ [[41]])
def typKs : List Nd -> List (List Tok)
 | [] => []
 | x :: r => typK x :: typKs r
end
theorem typKs_eq : ∀ ks, typKs ks = ks.map typK
 | [] => rfl
 | x :: r => by rw [typKs, typKs_eq r]; rfl
mutual
def exK : Nd -> List Tok
 | .mk k n m ks =>
  if k = 4 then (if n < 0 then [[45], Lib.itoa (-n)] else [Lib.itoa n]) else if k = 5 then (if n = 1 then [wTrue] else [wFalse]) else if k = 6 then [118 :: Lib.itoa n] else
  if k = 7 then (118 :: Lib.itoa n) :: [91] :: (WU (exKs ks) ++ [[93]]) else if k = 8 then [118 :: Lib.itoa n, [46], Lib.itoa m] else
  if k = 9 then [40] :: ((exKs ks).getD 0 [] ++ opTexts.getD n.toNat [] :: ((exKs ks).getD 1 [] ++ [[41]])) else
  if k = 10 then [33] :: WU (exKs ks) else if k = 11 then (102 :: Lib.itoa n) :: [40] :: (WU (exKs ks) ++ [[41]]) else [wRecv, 99 :: Lib.itoa n]
def exKs : List Nd -> List (List Tok)
 | [] => []
 | x :: r => exK x :: exKs r
end
theorem exKs_eq : ∀ ks, exKs ks = ks.map exK
 | [] => rfl
 | x :: r => by rw [exKs, exKs_eq r]; rfl
def simK : Nd -> List Tok
 | .mk k n m ks =>
  if k = 14 then (118 :: Lib.itoa n) :: [61] :: WU (ks.map exK) else
  if k = 15 then (118 :: Lib.itoa n) :: [91] :: ((ks.map exK).getD 0 [] ++ [93] :: [61] :: (ks.map exK).getD 1 []) else
  if k = 16 then (118 :: Lib.itoa n) :: [46] :: Lib.itoa m :: [61] :: WU (ks.map exK) else
  if k = 19 then wReturn :: WU (ks.map exK) else
  if k = 20 then wThrow :: WU (ks.map exK) else
  if k = 24 then wOut :: WU (ks.map exK) else
  if k = 25 then [wSkip] else
  if k = 22 then wSend :: (99 :: Lib.itoa n) :: WU (ks.map exK) else wSpawn :: (102 :: Lib.itoa n) :: [40] :: (WU (ks.map exK) ++ [[41]])
mutual
def stK : Nd -> List Tok
 | .mk k n m ks =>
  if k = 13 then [123] :: (stsK ks ++ [[125]]) else
  if k = 17 then wIf :: ((ks.map exK).getD 0 [] ++ [123] :: ((insK ks).getD 1 [] ++ [125] :: wElse :: [123] :: ((insK ks).getD 2 [] ++ [[125]]))) else
  if k = 18 then wWhile :: ((ks.map exK).getD 0 [] ++ [123] :: ((insK ks).getD 1 [] ++ [[125]])) else
  if k = 21 then wTry :: [123] :: ((insK ks).getD 0 [] ++ [125] :: qq :: (118 :: Lib.itoa n) :: [123] :: ((insK ks).getD 1 [] ++ [[125]])) else simK (.mk k n m ks)
def stsK : List Nd -> List Tok
 | [] => []
 | x :: r => stK x ++ stsK r
def inK : Nd -> List Tok
 | .mk k n m ks => stsK ks
def insK : List Nd -> List (List Tok)
 | [] => []
 | x :: r => inK x :: insK r
end
theorem insK_eq : ∀ ks, insK ks = ks.map inK
 | [] => rfl
 | x :: r => by rw [insK, insK_eq r]; rfl
def funK : Nd -> List Tok
 | .mk k n m ks => wFun :: Lib.itoa n :: [40] :: (WU ((ks.take (ks.length - 1)).map typK) ++ [41] :: [123] :: (inK (ks.getD (ks.length - 1) (.mk 0 0 0 [])) ++ [[125]]))
def progK : Nd -> List Tok
 | .mk k n m ks => ZR :: Lib.itoa n :: (ks.map funK).flatten
def d3 (n : Nat) : List UInt8 := if n < 10 then [UInt8.ofNat (48 + n)] else if n < 100 then [UInt8.ofNat (48 + n / 10), UInt8.ofNat (48 + n % 10)] else [UInt8.ofNat (48 + n / 100), UInt8.ofNat (48 + n / 10 % 10), UInt8.ofNat (48 + n % 10)]
theorem dec_d3 {n : Nat} (h : n <= 999) : Lib.decDigits n = d3 n := by
 unfold d3
 by_cases h1 : n < 10
 ·rw [if_pos h1, Lib.decDigits, dif_pos h1]
 rw [if_neg h1, Lib.decDigits, dif_neg h1]
 by_cases h2 : n < 100
 ·rw [if_pos h2, Lib.decDigits, dif_pos (show n / 10 < 10 by omega)]; rfl
 ·rw [if_neg h2, Lib.decDigits, dif_neg (show ¬ n / 10 < 10 by omega), Lib.decDigits, dif_pos (show n / 10 / 10 < 10 by omega), show n / 10 / 10 = n / 100 by omega]; rfl
theorem d3_all : ∀ n : Fin 1000, qC (d3 n.val) = true /\ valM (d3 n.val) = n.val := by decide +kernel
theorem WE {n : Int} (h : Zm n = true) : qC (Lib.itoa n) = true /\ valM (Lib.itoa n) = n := by
 have h : 0 <= n /\ n <= 999 := by simpa [Zm] using h
 have e : Lib.itoa n = Lib.decDigits n.toNat := by unfold Lib.itoa; rw [if_neg (by omega)]
 have := d3_all ⟨n.toNat, by omega⟩
 rw [e, dec_d3 (by omega)]
 refine ⟨this.1, this.2.trans ?_⟩
 show ((n.toNat : Nat) : Int) = n
 omega
theorem itoa_neg {n : Int} (h : n < 0) : Lib.itoa n = 45 :: Lib.itoa (-n) := by
 unfold Lib.itoa
 rw [if_pos h, if_neg (by omega), show n.natAbs = (-n).toNat by omega]
/-! Texts in front of texts. -/
theorem Zz {b : UInt8} {r : List UInt8} {ts : List Tok} (hb : spB b = true) (h : Z7 r ts) : Z7 (b :: r) ts := fun a => by
 have hd : (b :: r).dropWhile spB = r.dropWhile spB := by rw [List.dropWhile_cons, if_pos hb]
 have hl : (r.dropWhile spB).length <= r.length := (List.dropWhile_sublist _).length_le
 obtain ⟨h1, h2⟩ := h (a + 1)
 by_cases hf : WA (r.dropWhile spB) = []
 ·rw [scan_nil hf] at h1 h2
  rw [scan_nil (by rw [hd]; exact hf), hd]
  refine ⟨h1, ?_⟩
  simp only [List.length_cons] at h2 ⊢; omega
 ·have e : a + ((b :: r).length - (r.dropWhile spB).length) = a + 1 + (r.length - (r.dropWhile spB).length) := by rw [List.length_cons]; omega
  rw [scan_cons rfl rfl hf rfl] at h1 h2
  rw [scan_cons hd rfl hf rfl, e]
  refine ⟨h1, ?_⟩
  simp only [List.length_cons] at h2 ⊢; omega
theorem qy {c : UInt8} {r : List UInt8} {ts : List Tok} (hc : [40, 41, 123, 125, 91, 93, 44, 46, 43, 45, 42, 47, 37, 94, 33].contains c = true) (h : Z7 r ts) : Z7 (c :: r) ([c] :: ts) := lex_cons (sp := []) (t := [c]) rfl (by simp) (first_sign1 c r hc) h
theorem lex_sg {t : Tok} {b : UInt8} {r : List UInt8} {ts : List Tok} (hb : spB b = true) (ht : t ∈ signsT) (h : Z7 r ts) : Z7 (t ++ b :: r) (t :: ts) :=
 lex_cons (sp := []) rfl (by have := signs_le ht; rintro rfl; simp at this) (first_signs t r b hb ht) (Zz hb h)
theorem Zn {w r : List UInt8} {ts : List Tok} (hw : (letB (w.getD 0 0) && w.all (fun b => digB b || letB b)) = true) (hr : Nx r) (h : Z7 r ts) : Z7 (w ++ r) (w :: ts) := by
 simp only [Bool.and_eq_true] at hw
 have hne : w ≠ [] := by rintro rfl; exact absurd hw.1 (by decide)
 exact lex_cons (sp := []) rfl hne (first_word hne hw.1 hw.2 hr) h
theorem lex_num {w r : List UInt8} {ts : List Tok} (hw : qC w = true) (hr : Nx r) (h : Z7 r ts) : Z7 (w ++ r) (w :: ts) := lex_cons (sp := []) rfl (num_dig hw).1 (first_num hw hr) h
theorem lex_vn {c : UInt8} {w r : List UInt8} {ts : List Tok} (hc : letB c = true) (hw : qC w = true) (hr : Nx r) (h : Z7 r ts) : Z7 (c :: (w ++ r)) ((c :: w) :: ts) := by
 refine Zn (w := c :: w) ?_ hr h
 have := (num_dig hw).2
 rw [List.all_eq_true] at this
 simp only [List.getD_cons_zero, hc, Bool.true_and, List.all_cons, Bool.or_true, List.all_eq_true]
 intro x hx; rw [this x hx]; rfl
def Cx (s : List UInt8) (k : List Tok) : Prop := ∀ r ts, Nx r -> Z7 r ts -> Z7 (s ++ r) (k ++ ts)
theorem lex_commas (f : Nd -> List UInt8) (fK : Nd -> List Tok) : ∀ ks : List Nd, (∀ x ∈ ks, Cx (f x) (fK x)) -> Cx (Zs (ks.map f)) (WU (ks.map fK))
 | [], _ => fun r ts _ h => h
 | [x], hx => fun r ts hr h => by
  show Z7 (Lib.join [f x] comma ++ r) (fK x ++ ts)
  rw [Lib.join_one]
  exact hx x (by simp) r ts hr h
 | x :: y :: q, hx => fun r ts hr h => by
  have hc : Zs ((x :: y :: q).map f) = f x ++ comma ++ Zs ((y :: q).map f) := by
   show Lib.join (f x :: f y :: q.map f) comma = f x ++ comma ++ Lib.join (f y :: q.map f) comma
   rw [Lib.join_cons, Lib.join_cons]
   simp [Lib.joinTail]
  have hk : WU ((x :: y :: q).map fK) = fK x ++ [44] :: WU ((y :: q).map fK) := rfl
  have ih := lex_commas f fK (y :: q) (fun z hz => hx z (by simp [hz])) r ts hr h
  rw [hc, hk, List.append_assoc, List.append_assoc, List.append_assoc]
  exact hx x (by simp) _ _ (WW rfl) (qy (c := 44) rfl (Zz (b := 32) rfl ih))
theorem lex_typ (t : Nd) : typOk t = true -> Cx (typT t) (typK t) := by
 induction t using Nd.ind with
 | h k n m ks ih =>
 intro hok r ts hr h
 rw [typOk, typOks_eq] at hok
 rw [typT, typK, typTs_eq, typKs_eq]
 by_cases k0 : k = 0
 ·rw [if_pos k0, if_pos k0]; exact Zn (w := wInt) rfl hr h
 by_cases k1 : k = 1
 ·rw [if_neg k0, if_neg k0, if_pos k1, if_pos k1]; exact Zn (w := wBool) rfl hr h
 rw [if_neg (by omega)] at hok
 rw [if_neg k0, if_neg k0, if_neg k1, if_neg k1]
 by_cases k2 : k = 2
 ·rw [if_pos k2] at hok ⊢
  rw [if_pos k2]
  simp only [Bool.and_eq_true] at hok
  have hn := (WE hok.2).1
  rw [List.append_assoc]
  exact Zn (w := wArr) rfl (WW rfl) (Zz (b := 32) rfl (lex_num hn hr h))
 rw [if_neg k2] at hok ⊢
 rw [if_neg k2]
 by_cases k3 : k = 3
 ·rw [if_pos k3] at hok ⊢
  simp only [Bool.and_eq_true, List.all_eq_true] at hok
  have hc := lex_commas typT typK ks (fun x hx => ih x hx (hok.2 x hx)) (41 :: r) ([41] :: ts) (WW rfl) (qy rfl h)
  simp only [List.append_assoc, List.cons_append, List.nil_append] at hc ⊢
  exact Zn (w := wRec) rfl (WW rfl) (Zz (b := 32) rfl (qy (c := 40) rfl hc))
 ·rw [if_neg k3] at hok; cases hok
theorem lex_op {n : Int} (h0 : 0 <= n) (h1 : n < 14) {r : List UInt8} {ts : List Tok} (h : Z7 r ts) : Z7 (opTexts.getD n.toNat [] ++ 32 :: r) (opTexts.getD n.toNat [] :: ts) := by
 refine lex_sg (b := 32) rfl ?_ h
 have : ∀ i : Fin 14, opTexts.getD i.val [] ∈ signsT := by decide
 exact this ⟨n.toNat, by omega⟩
theorem lex_ex (t : Nd) : qn t = true -> Cx (exT t) (exK t) := by
 induction t using Nd.ind with
 | h k n m ks ih =>
 intro hok r ts hr h
 rw [qn, exOks_eq] at hok
 rw [exT, exK, exTs_eq, exKs_eq]
 have hcs : ks.all qn = true -> Cx (Zs (ks.map exT)) (WU (ks.map exK)) := fun ha => by
  rw [List.all_eq_true] at ha
  exact lex_commas exT exK ks fun x hx => ih x hx (ha x hx)
 by_cases k4 : k = 4
 ·rw [if_pos k4] at hok ⊢
  rw [if_pos k4]
  simp only [Bool.and_eq_true] at hok
  by_cases hn : n < 0
  ·rw [if_pos hn, itoa_neg hn]
   rw [if_pos hn] at hok
   have hs : Zm (-n) = true := by simp [Zm]; simp at hok; omega
   exact qy (c := 45) rfl (lex_num (WE hs).1 hr h)
  ·rw [if_neg hn] at hok ⊢
   exact lex_num (WE hok.2).1 hr h
 rw [if_neg k4] at hok ⊢
 rw [if_neg k4]
 by_cases k5 : k = 5
 ·rw [if_pos k5, if_pos k5]
  by_cases hn : n = 1
  ·rw [if_pos hn, if_pos hn]; exact Zn (w := wTrue) rfl hr h
  ·rw [if_neg hn, if_neg hn]; exact Zn (w := wFalse) rfl hr h
 rw [if_neg k5] at hok ⊢
 rw [if_neg k5]
 by_cases k6 : k = 6
 ·rw [if_pos k6] at hok ⊢
  rw [if_pos k6]
  simp only [Bool.and_eq_true] at hok
  exact lex_vn (c := 118) rfl (WE hok.2).1 hr h
 rw [if_neg k6] at hok ⊢
 rw [if_neg k6]
 by_cases k7 : k = 7
 ·rw [if_pos k7] at hok ⊢
  rw [if_pos k7]
  simp only [Bool.and_eq_true] at hok
  have hc := hcs hok.2 (93 :: r) ([93] :: ts) (WW rfl) (qy rfl h)
  simp only [List.append_assoc, List.cons_append, List.nil_append] at hc ⊢
  exact lex_vn (c := 118) rfl (WE hok.1.2).1 (WW rfl) (qy (c := 91) rfl hc)
 rw [if_neg k7] at hok ⊢
 rw [if_neg k7]
 by_cases k8 : k = 8
 ·rw [if_pos k8] at hok ⊢
  rw [if_pos k8]
  simp only [Bool.and_eq_true] at hok
  simp only [List.append_assoc, List.cons_append, List.nil_append]
  exact lex_vn (c := 118) rfl (WE hok.1.2).1 (WW rfl) (qy (c := 46) rfl (lex_num (WE hok.2).1 hr h))
 rw [if_neg k8] at hok ⊢
 rw [if_neg k8]
 by_cases k9 : k = 9
 ·rw [if_pos k9] at hok ⊢
  rw [if_pos k9]
  simp only [Bool.and_eq_true] at hok
  rw [if_pos (by simp [hok.1.1, hok.1.2])]
  have h2 : ks.length = 2 := by have := hok.1.1; simp [Q4] at this; omega
  match ks, h2 with
  | [x, y], _ =>
   have ha := hok.2
   simp only [List.all_cons, List.all_nil, Bool.and_true, Bool.and_eq_true] at ha
   have hx := ih x (by simp) ha.1
   have hy := ih y (by simp) ha.2
   simp only [decide_eq_true_eq] at hok
   simp only [List.map_cons, List.map_nil, List.getD_cons_zero, List.getD_cons_succ, List.append_assoc, List.cons_append, List.nil_append]
   exact qy (c := 40) rfl (hx _ _ (WW rfl) (Zz (b := 32) rfl (lex_op hok.1.2.1 hok.1.2.2 (hy _ _ (WW rfl) (qy (c := 41) rfl h)))))
 rw [if_neg k9] at hok ⊢
 rw [if_neg k9]
 by_cases k10 : k = 10
 ·rw [if_pos k10] at hok ⊢
  rw [if_pos k10]
  simp only [Bool.and_eq_true] at hok
  exact qy (c := 33) rfl (hcs hok.2 r ts hr h)
 rw [if_neg k10] at hok ⊢
 rw [if_neg k10]
 by_cases k11 : k = 11
 ·rw [if_pos k11] at hok ⊢
  rw [if_pos k11]
  simp only [Bool.and_eq_true] at hok
  have hc := hcs hok.2 (41 :: r) ([41] :: ts) (WW rfl) (qy rfl h)
  simp only [List.append_assoc, List.cons_append, List.nil_append] at hc ⊢
  exact lex_vn (c := 102) rfl (WE hok.1.2).1 (WW rfl) (qy (c := 40) rfl hc)
 rw [if_neg k11] at hok ⊢
 rw [if_neg k11]
 by_cases k12 : k = 12
 ·rw [if_pos k12] at hok ⊢
  simp only [Bool.and_eq_true] at hok
  exact Zn (w := wRecv) rfl (WW rfl) (Zz (b := 32) rfl (lex_vn (c := 99) rfl (WE hok.2).1 hr h))
 ·rw [if_neg k12] at hok; cases hok
theorem lex_exs {ks : List Nd} (ha : ks.all qn = true) : Cx (Zs (ks.map exT)) (WU (ks.map exK)) := by
 rw [List.all_eq_true] at ha
 exact lex_commas exT exK ks fun x hx => lex_ex x (ha x hx)
theorem lex_eq {r : List UInt8} {ts : List Tok} (h : Z7 r ts) : Z7 (61 :: 32 :: r) ([61] :: ts) := lex_sg (t := [61]) (b := 32) rfl (by decide) h
theorem lex_sim (t : Nd) : simOk t = true -> Cx (simT t) (simK t) := by
 obtain ⟨k, n, m, ks⟩ := t
 intro hok r ts hr h
 rw [simOk] at hok
 rw [simT, simK]
 by_cases k14 : k = 14
 ·rw [if_pos k14] at hok ⊢
  rw [if_pos k14]
  simp only [Bool.and_eq_true] at hok
  rw [if_pos hok.1.1]
  simp only [List.append_assoc, List.cons_append, List.nil_append]
  exact lex_vn (c := 118) rfl (WE hok.1.2).1 (WW rfl) (Zz (b := 32) rfl (lex_eq (lex_exs hok.2 r ts hr h)))
 rw [if_neg k14] at hok ⊢
 rw [if_neg k14]
 by_cases k15 : k = 15
 ·rw [if_pos k15] at hok ⊢
  rw [if_pos k15]
  simp only [Bool.and_eq_true] at hok
  rw [if_pos hok.1.1]
  have h2 : ks.length = 2 := by have := hok.1.1; simp [Q4] at this; omega
  match ks, h2 with
  | [x, y], _ =>
   have ha := hok.2
   simp only [List.all_cons, List.all_nil, Bool.and_true, Bool.and_eq_true] at ha
   simp only [List.map_cons, List.map_nil, List.getD_cons_zero, List.getD_cons_succ, List.append_assoc, List.cons_append, List.nil_append]
   exact lex_vn (c := 118) rfl (WE hok.1.2).1 (WW rfl) (qy (c := 91) rfl (lex_ex x ha.1 _ _ (WW rfl) (qy (c := 93) rfl (Zz (b := 32) rfl (lex_eq (lex_ex y ha.2 r ts hr h))))))
 rw [if_neg k15] at hok ⊢
 rw [if_neg k15]
 by_cases k16 : k = 16
 ·rw [if_pos k16] at hok ⊢
  rw [if_pos k16]
  simp only [Bool.and_eq_true, decide_eq_true_eq] at hok
  rw [if_pos hok.1.1.1]
  simp only [List.append_assoc, List.cons_append, List.nil_append]
  exact lex_vn (c := 118) rfl (WE hok.1.1.2).1 (WW rfl) (qy (c := 46) rfl (lex_num (WE hok.1.2).1 (WW rfl) (Zz (b := 32) rfl (lex_eq (lex_exs hok.2 r ts hr h)))))
 rw [if_neg k16] at hok ⊢
 rw [if_neg k16]
 by_cases k19 : k = 19
 ·rw [if_pos k19] at hok ⊢
  rw [if_pos k19]
  simp only [Bool.and_eq_true] at hok
  rw [if_pos hok.1]
  exact Zn (w := wReturn) rfl (WW rfl) (Zz (b := 32) rfl (lex_exs hok.2 r ts hr h))
 rw [if_neg k19] at hok ⊢
 rw [if_neg k19]
 by_cases k20 : k = 20
 ·rw [if_pos k20] at hok ⊢
  rw [if_pos k20]
  simp only [Bool.and_eq_true] at hok
  rw [if_pos hok.1]
  exact Zn (w := wThrow) rfl (WW rfl) (Zz (b := 32) rfl (lex_exs hok.2 r ts hr h))
 rw [if_neg k20] at hok ⊢
 rw [if_neg k20]
 by_cases k24 : k = 24
 ·rw [if_pos k24] at hok ⊢
  rw [if_pos k24]
  simp only [Bool.and_eq_true] at hok
  rw [if_pos hok.1]
  exact Zn (w := wOut) rfl (WW rfl) (Zz (b := 32) rfl (lex_exs hok.2 r ts hr h))
 rw [if_neg k24] at hok ⊢
 rw [if_neg k24]
 by_cases k25 : k = 25
 ·rw [if_pos k25] at hok ⊢
  rw [if_pos k25]
  rw [if_pos hok]
  exact Zn (w := wSkip) rfl hr h
 rw [if_neg k25] at hok ⊢
 rw [if_neg k25]
 by_cases k22 : k = 22
 ·rw [if_pos k22] at hok ⊢
  rw [if_pos k22]
  simp only [Bool.and_eq_true] at hok
  rw [if_pos hok.1.1]
  simp only [List.append_assoc, List.cons_append, List.nil_append]
  exact Zn (w := wSend) rfl (WW rfl) (Zz (b := 32) rfl (lex_vn (c := 99) rfl (WE hok.1.2).1 (WW rfl) (Zz (b := 32) rfl (lex_exs hok.2 r ts hr h))))
 rw [if_neg k22] at hok ⊢
 rw [if_neg k22]
 by_cases k23 : k = 23
 ·rw [if_pos k23] at hok ⊢
  simp only [Bool.and_eq_true] at hok
  rw [if_pos hok.1.1]
  have hc := lex_exs hok.2 (41 :: r) ([41] :: ts) (WW rfl) (qy rfl h)
  simp only [List.append_assoc, List.cons_append, List.nil_append] at hc ⊢
  exact Zn (w := wSpawn) rfl (WW rfl) (Zz (b := 32) rfl (lex_vn (c := 102) rfl (WE hok.1.2).1 (WW rfl) (qy (c := 40) rfl hc)))
 ·rw [if_neg k23] at hok; cases hok
theorem lex_ind : ∀ (i : Nat) {r : List UInt8} {ts : List Tok}, Z7 r ts -> Z7 (Lib.repeatL [32, 32] i ++ r) ts
 | 0, r, ts, h => h
 | i + 1, r, ts, h => Zz (b := 32) rfl (Zz (b := 32) rfl (lex_ind i h))
theorem ZZ {s : List UInt8} {k : List Tok} (hs : Cx s k) (i : Nat) {r : List UInt8} {ts : List Tok} (h : Z7 r ts) : Z7 (Z6 i s ++ r) (k ++ ts) := by
 unfold Z6
 rw [List.append_assoc, List.append_assoc]
 exact lex_ind i (hs _ _ (WW rfl) (Zz (b := 10) rfl h))
theorem cx_open : Cx sOpen [[123]] := fun r ts _ h => qy (c := 123) rfl h
theorem cx_close : Cx sClose [[125]] := fun r ts _ h => qy (c := 125) rfl h
theorem cx_else : Cx sElse [[125], wElse, [123]] := fun r ts _ h => qy (c := 125) rfl (Zz (b := 32) rfl (Zn (w := wElse) rfl (WW rfl) (Zz (b := 32) rfl (qy (c := 123) rfl h))))
theorem cx_try : Cx sTry [wTry, [123]] := fun r ts _ h => Zn (w := wTry) rfl (WW rfl) (Zz (b := 32) rfl (qy (c := 123) rfl h))
theorem cx_if {s : List UInt8} {k : List Tok} (hs : Cx s k) : Cx (sIf ++ s ++ sBr) (wIf :: (k ++ [[123]])) := fun r ts _ h => by
 have := Zn (w := wIf) rfl (WW rfl) (Zz (b := 32) rfl (hs _ _ (WW rfl) (Zz (b := 32) rfl (qy (c := 123) rfl h))))
 simpa only [List.append_assoc, List.cons_append, List.nil_append] using this
theorem cx_while {s : List UInt8} {k : List Tok} (hs : Cx s k) : Cx (sWhile ++ s ++ sBr) (wWhile :: (k ++ [[123]])) := fun r ts _ h => by
 have := Zn (w := wWhile) rfl (WW rfl) (Zz (b := 32) rfl (hs _ _ (WW rfl) (Zz (b := 32) rfl (qy (c := 123) rfl h))))
 simpa only [List.append_assoc, List.cons_append, List.nil_append] using this
theorem cx_catch {n : Int} (hn : Zm n = true) : Cx (sCatch ++ Lib.itoa n ++ sBr) [[125], qq, 118 :: Lib.itoa n, [123]] := fun r ts _ h => by
 rw [List.append_assoc, List.append_assoc]
 exact qy (c := 125) rfl (Zz (b := 32) rfl (Zn (w := qq) rfl (WW rfl) (Zz (b := 32) rfl (lex_vn (c := 118) rfl (WE hn).1 (WW rfl) (Zz (b := 32) rfl (qy (c := 123) rfl h))))))
def Cs (s : Nat -> List UInt8) (k : List Tok) : Prop := ∀ i r ts, Z7 r ts -> Z7 (s i ++ r) (k ++ ts)
theorem lex_st (t : Nd) : (stOk t = true -> Cs (stT t) (stK t)) /\ (inOk t = true -> Cs (inT t) (inK t)) := by
 induction t using Nd.ind with
 | h k n m ks ih =>
 have hsts : ∀ ks : List Nd, (∀ x ∈ ks, stOk x = true -> Cs (stT x) (stK x)) -> qO ks = true -> Cs (stTs ks) (stsK ks) := by
  intro ks
  induction ks with
  | nil => intro _ _ i r ts h; exact h
  | cons x q ihq =>
   intro hx ho i r ts h
   rw [qO] at ho
   simp only [Bool.and_eq_true] at ho
   rw [stTs, stsK, List.append_assoc, List.append_assoc]
   exact hx x (by simp) ho.1 i _ _ (ihq (fun y hy => hx y (by simp [hy])) ho.2 i r ts h)
 have hkid := hsts ks fun x hx => (ih x hx).1
 constructor
 ·intro hok i r ts h
  rw [stOk, inOks_eq] at hok
  rw [stT, stK, inTs_eq, insK_eq]
  by_cases k13 : k = 13
  ·rw [if_pos k13] at hok ⊢
   rw [if_pos k13]
   simp only [Bool.and_eq_true] at hok
   rw [if_pos hok.1, List.append_assoc, List.append_assoc, List.cons_append, List.append_assoc]
   exact ZZ cx_open i (hkid hok.2 (i + 1) _ _ (ZZ cx_close i h))
  rw [if_neg k13] at hok ⊢
  rw [if_neg k13]
  by_cases k17 : k = 17
  ·rw [if_pos k17] at hok
   simp only [Bool.and_eq_true] at hok
   rw [if_pos ⟨k17, hok.1.1.1⟩, if_pos k17]
   have h3 : ks.length = 3 := by have := hok.1.1.1; simp [W9, Q4] at this; omega
   match ks, h3 with
   | [x, y, z], _ =>
    simp only [List.map_cons, List.map_nil, List.getD_cons_zero, List.getD_cons_succ] at hok ⊢
    have hy := (ih y (by simp)).2 hok.1.2
    have hz := (ih z (by simp)).2 hok.2
    have := ZZ (cx_if (lex_ex x hok.1.1.2)) i (hy i _ _ (ZZ cx_else i (hz i _ _ (ZZ cx_close i h))))
    simpa only [List.append_assoc, List.cons_append, List.nil_append] using this
  rw [if_neg k17] at hok
  rw [if_neg (fun h => k17 h.1), if_neg k17]
  by_cases k18 : k = 18
  ·rw [if_pos k18] at hok
   simp only [Bool.and_eq_true] at hok
   rw [if_pos ⟨k18, hok.1.1⟩, if_pos k18]
   have h3 : ks.length = 2 := by have := hok.1.1; simp [W9, Q4] at this; omega
   match ks, h3 with
   | [x, y], _ =>
    simp only [List.map_cons, List.map_nil, List.getD_cons_zero, List.getD_cons_succ] at hok ⊢
    have hy := (ih y (by simp)).2 hok.2
    have := ZZ (cx_while (lex_ex x hok.1.2)) i (hy i _ _ (ZZ cx_close i h))
    simpa only [List.append_assoc, List.cons_append, List.nil_append] using this
  rw [if_neg k18] at hok
  rw [if_neg (fun h => k18 h.1), if_neg k18]
  by_cases k21 : k = 21
  ·rw [if_pos k21] at hok
   simp only [Bool.and_eq_true] at hok
   rw [if_pos ⟨k21, hok.1.1.1⟩, if_pos k21]
   have h3 : ks.length = 2 := by have := hok.1.1.1; simp [Q4] at this; omega
   match ks, h3 with
   | [x, y], _ =>
    simp only [List.map_cons, List.map_nil, List.getD_cons_zero, List.getD_cons_succ] at hok ⊢
    have hx := (ih x (by simp)).2 hok.1.2
    have hy := (ih y (by simp)).2 hok.2
    have := ZZ cx_try i (hx i _ _ (ZZ (cx_catch hok.1.1.2) i (hy i _ _ (ZZ cx_close i h))))
    simpa only [List.append_assoc, List.cons_append, List.nil_append] using this
  rw [if_neg k21] at hok
  rw [if_neg (fun h => k21 h.1), if_neg k21]
  exact ZZ (lex_sim _ hok) i h
 ·intro hok i r ts h
  rw [inOk] at hok
  simp only [Bool.and_eq_true] at hok
  rw [inT, inK, if_pos (by simp only [Bool.and_eq_true]; exact hok.1)]
  exact hkid hok.2 (i + 1) r ts h
theorem lex_fun (t : Nd) (hok : qV t = true) {r : List UInt8} {ts : List Tok} (h : Z7 r ts) : Z7 (funT t ++ r) (funK t ++ ts) := by
 obtain ⟨k, n, m, ks⟩ := t
 rw [qV] at hok
 simp only [Bool.and_eq_true] at hok
 obtain ⟨⟨⟨⟨⟨h1, h2⟩, h3⟩, h4⟩, h5⟩, h6⟩ := hok
 rw [funT, funK, if_pos (by simp only [Bool.and_eq_true]; exact ⟨⟨h1, h2⟩, h3⟩)]
 have hin := (lex_st _).2 h6
 generalize ks.getD (ks.length - 1) (.mk 0 0 0 []) = b at *
 generalize ks.take (ks.length - 1) = tl at *
 rw [List.all_eq_true] at h5
 have hc : Cx ([102, 117, 110, 32] ++ Lib.itoa n ++ [32, 40] ++ Zs (tl.map typT) ++ [41, 32, 123]) (wFun :: Lib.itoa n :: [40] :: (WU (tl.map typK) ++ [[41], [123]])) := fun r ts hr h => by
  have := lex_commas typT typK tl (fun x hx => lex_typ x (h5 x hx)) _ _ (WW rfl) (qy (c := 41) rfl (Zz (b := 32) rfl (qy (c := 123) rfl h)))
  have := Zn (w := wFun) rfl (WW rfl) (Zz (b := 32) rfl (lex_num (WE h4).1 (WW rfl) (Zz (b := 32) rfl (qy (c := 40) rfl this))))
  simpa only [List.append_assoc, List.cons_append, List.nil_append] using this
 have := ZZ hc 0 (hin 0 _ _ (ZZ cx_close 0 h))
 simpa only [List.append_assoc, List.cons_append, List.nil_append] using this
theorem lex_prog {n m : Int} {ks : List Nd} (hok : prOk (.mk 27 n m ks) = true) : Z7 (Zo (.mk 27 n m ks)) (progK (.mk 27 n m ks)) := by
 unfold Zo
 rw [if_pos hok]
 rw [prOk, if_pos rfl] at hok
 simp only [Bool.and_eq_true, List.all_eq_true] at hok
 rw [prT, if_pos rfl, progK]
 have hfs : ∀ ks : List Nd, (∀ x ∈ ks, qV x = true) -> Z7 (ks.map funT).flatten (ks.map funK).flatten := by
  intro ks
  induction ks with
  | nil => intro _; exact lex_end rfl
  | cons x q ih =>
   intro hx
   rw [List.map_cons, List.flatten_cons, List.map_cons, List.flatten_cons]
   exact lex_fun x (hx x (by simp)) (ih fun y hy => hx y (by simp [hy]))
 have hc : Cx ([112, 114, 111, 103, 114, 97, 109, 32] ++ Lib.itoa n) [ZR, Lib.itoa n] := fun r ts hr h => by
  rw [List.append_assoc]
  exact Zn (w := ZR) rfl (WW rfl) (Zz (b := 32) rfl (lex_num (WE hok.1.2).1 hr h))
 exact ZZ hc 0 (hfs ks hok.2)
section
variable {L : ZL} {z : Nd}
def At (L : ZL) (p : Nat) (ks : List Tok) : Prop := (L.drop p).map (·.1) = ks
theorem Wk {p : Nat} {t : Tok} {ks : List Tok} (h : At L p (t :: ks)) : Wg L ⟨p, false⟩ = t /\ At L (p + 1) ks := by
 unfold At at *
 have hp : p < L.length := by
  rcases Nat.lt_or_ge p L.length with h1 | h1
  ·exact h1
  ·rw [List.drop_eq_nil_of_le h1] at h; cases h
 rw [List.drop_eq_getElem_cons hp, List.map_cons, List.cons.injEq] at h
 refine ⟨?_, h.2⟩
 unfold Wg
 rw [List.getD_eq_getElem?_getD, List.getElem?_eq_getElem hp]
 exact h.1
theorem at_app : ∀ {a : List Tok} {p : Nat} {ks : List Tok}, At L p (a ++ ks) -> At L (p + a.length) ks
 | [], p, ks, h => h
 | t :: a, p, ks, h => by
  have := at_app (Wk h).2
  rw [List.length_cons, show p + (a.length + 1) = p + 1 + a.length by omega]; exact this
theorem at_nil {p : Nat} (h : At L p []) : Wg L ⟨p, false⟩ = [] /\ L.length <= p := by
 unfold At at h
 have h1 : L.drop p = [] := by simpa using h
 have h2 : L.length <= p := by
  rcases Nat.lt_or_ge p L.length with h3 | h3
  ·rw [List.drop_eq_getElem_cons h3] at h1; cases h1
  ·exact h3
 refine ⟨?_, h2⟩
 unfold Wg
 rw [List.getD_eq_getElem?_getD, List.getElem?_eq_none h2]; rfl
theorem rd_take {p : Nat} {s : Tok} {ks : List Tok} (h : At L p (s :: ks)) : Wb L s ⟨p, false⟩ = ⟨p + 1, false⟩ := by
 unfold Wb
 rw [if_pos (Wk h).1]; rfl
theorem rd_num {p : Nat} {w : Tok} {ks : List Tok} (h : At L p (w :: ks)) (hw : qC w = true) : QO L ⟨p, false⟩ = (valM w, ⟨p + 1, false⟩) := by
 unfold QO
 rw [(Wk h).1, if_pos hw]; rfl
theorem is_vn {p : Nat} {c : UInt8} {w : Tok} {ks : List Tok} (h : At L p ((c :: w) :: ks)) (hw : qC w = true) : isM L c ⟨p, false⟩ = true := by
 unfold isM
 rw [(Wk h).1]
 show (Lib.hasPrefix (c :: w) [c] && qC w) = true
 rw [hw, Bool.and_true]
 unfold Lib.hasPrefix
 simp [List.isPrefixOf]
theorem is_ne {p : Nat} {c d : UInt8} {w : Tok} {ks : List Tok} (h : At L p ((d :: w) :: ks)) (hd : (c == d) = false) : isM L c ⟨p, false⟩ = false := by
 unfold isM
 rw [(Wk h).1]
 unfold Lib.hasPrefix
 simp only [List.isPrefixOf, hd, Bool.false_and]
theorem rd_vn {p : Nat} {c : UInt8} {w : Tok} {ks : List Tok} (h : At L p ((c :: w) :: ks)) (hw : qC w = true) : Qp L c ⟨p, false⟩ = (valM w, ⟨p + 1, false⟩) := by
 unfold Qp
 rw [if_pos (is_vn h hw), (Wk h).1]; rfl
def Fol (ks : List Tok) : Prop := ∀ t ∈ ks.head?, t ≠ [91] /\ t ≠ [46]
theorem qN {t : Tok} {ks : List Tok} (h1 : t ≠ [91]) (h2 : t ≠ [46]) : Fol (t :: ks) := fun t' ht => by
 have : t = t' := by simpa using ht
 subst this; exact ⟨h1, h2⟩
def RdF (L : ZL) (F : Rd1) (t : Nd) (k : List Tok) : Prop := ∀ p ks, At L p (k ++ ks) -> Fol ks -> F ⟨p, false⟩ = (t, ⟨p + k.length, false⟩)
def tailK (fK : Nd -> List Tok) (r : List Nd) : List Tok := (r.map fun y => [44] :: fK y).flatten
theorem tailK_cons (fK : Nd -> List Tok) (y : Nd) (r : List Nd) : tailK fK (y :: r) = [44] :: (fK y ++ tailK fK r) := by
 unfold tailK; rw [List.map_cons, List.flatten_cons, List.cons_append]
theorem qp (fK : Nd -> List Tok) : ∀ (x : Nd) (r : List Nd), WU ((x :: r).map fK) = fK x ++ tailK fK r
 | x, [] => by simp [WU, tailK]
 | x, y :: r => by
  have ih := qp fK y r
  rw [tailK_cons, <- ih]; rfl
theorem tailK_mem (fK : Nd -> List Tok) : ∀ {r : List Nd} {x : Nd}, x ∈ r -> (fK x).length <= (tailK fK r).length
 | w :: r, x, h => by
  rw [tailK_cons, List.length_cons, List.length_append]
  rcases List.mem_cons.1 h with rfl | h
  ·omega
  ·have := tailK_mem fK h; omega
theorem qK (fK : Nd -> List Tok) : ∀ {ks : List Nd} {x : Nd}, x ∈ ks -> (fK x).length <= (WU (ks.map fK)).length
 | y :: r, x, h => by
  rw [qp, List.length_append]
  rcases List.mem_cons.1 h with rfl | h
  ·omega
  ·have := tailK_mem fK h
   omega
theorem commasK_len (fK : Nd -> List Tok) (hf : ∀ x, 1 <= (fK x).length) : ∀ ks : List Nd, ks.length <= (WU (ks.map fK)).length
 | [] => Nat.zero_le _
 | x :: r => by
  have ht : ∀ r : List Nd, r.length <= (tailK fK r).length := by
   intro r
   induction r with
   | nil => exact Nat.zero_le _
   | cons y r ih => rw [tailK_cons, List.length_cons, List.length_cons, List.length_append]; omega
  have := ht r
  have := hf x
  rw [qp, List.length_cons, List.length_append]; omega
theorem fol_tail (fK : Nd -> List Tok) (r : List Nd) (ks : List Tok) : Fol (tailK fK r ++ [41] :: ks) := by
 cases r with
 | nil => exact qN (by decide) (by decide)
 | cons y r => rw [tailK_cons]; exact qN (by decide) (by decide)
theorem rd_loop {E : Rd1} (fK : Nd -> List Tok) : ∀ (r : List Nd) (k : Nat) (o : List Nd) (p : Nat) (ks : List Tok), (∀ x ∈ r, RdF L E x (fK x)) -> r.length <= k -> At L p (tailK fK r ++ [41] :: ks) -> Wt L E k o ⟨p, false⟩ = (o ++ r, ⟨p + (tailK fK r).length, false⟩)
 | [], k, o, p, ks, _, _, h => by
  have hn := (Wk (t := [41]) h).1
  rw [List.append_nil]
  cases k with
  | zero => rfl
  | succ k => rw [Wt, if_neg (by rw [hn]; decide)]; rfl
 | y :: r, k + 1, o, p, ks, hE, hk, h => by
  rw [tailK_cons, List.cons_append, List.append_assoc] at h
  obtain ⟨hn, h1⟩ := Wk h
  have he := hE y (by simp) (p + 1) _ h1 (fol_tail fK r ks)
  have h2 := at_app h1
  have ih := rd_loop fK r k (o ++ [y]) (p + 1 + (fK y).length) ks (fun x hx => hE x (by simp [hx])) (by simpa using hk) h2
  rw [Wt, if_pos hn]
  show Wt L E k (o ++ [(E ⟨p + 1, false⟩).1]) (E ⟨p + 1, false⟩).2 = _
  rw [he, ih, tailK_cons, List.append_assoc, List.length_cons, List.length_append]
  congr 2
  omega
theorem rd_list {E : Rd1} (fK : Nd -> List Tok) {x : Nd} {r : List Nd} {k p : Nat} {ks : List Tok} (hE : ∀ y ∈ x :: r, RdF L E y (fK y)) (hk : r.length <= k) (h : At L p (WU ((x :: r).map fK) ++ [41] :: ks)) : ZN L E k ⟨p, false⟩ = (x :: r, ⟨p + (WU ((x :: r).map fK)).length + 1, false⟩) := by
 rw [qp, List.append_assoc] at h
 have he := hE x (by simp) p _ h (fol_tail fK r ks)
 have h1 := at_app h
 have hl := rd_loop fK r k [x] _ ks (fun y hy => hE y (by simp [hy])) hk h1
 have h2 := at_app h1
 unfold ZN
 rw [he]
 show ((Wt L E k [x] ⟨p + (fK x).length, false⟩).1, Wb L [41] (Wt L E k [x] ⟨p + (fK x).length, false⟩).2) = _
 rw [hl]
 show ([x] ++ r, Wb L [41] ⟨p + (fK x).length + (tailK fK r).length, false⟩) = _
 rw [rd_take h2, qp, List.length_append, show p + ((fK x).length + (tailK fK r).length) + 1 = p + (fK x).length + (tailK fK r).length + 1 by omega]; rfl
def FrK (k : List Tok) : Prop := ∃ t r, k = t :: r /\ t ≠ [41] /\ t ≠ [125] /\ t ≠ [91] /\ t ≠ [46]
theorem rd_args {E : Rd1} (fK : Nd -> List Tok) {q : List Nd} {k p : Nat} {ks : List Tok} (hE : ∀ y ∈ q, RdF L E y (fK y)) (hf : ∀ y ∈ q, FrK (fK y)) (hk : q.length <= k + 1) (h : At L p ([40] :: (WU (q.map fK) ++ [41] :: ks))) : WV L E k ⟨p, false⟩ = (q, ⟨p + (WU (q.map fK)).length + 2, false⟩) := by
 have ht := rd_take h
 have h1 := (Wk h).2
 unfold WV
 rw [ht]
 cases q with
 | nil => rw [if_pos (Wk (t := [41]) h1).1]; rfl
 | cons x r =>
  obtain ⟨t, r', hfx, hne, _⟩ := hf x (by simp)
  have hn : Wg L ⟨p + 1, false⟩ = t := by
   rw [qp, hfx] at h1
   exact (Wk h1).1
  rw [if_neg (by rw [hn]; exact hne), rd_list fK hE (by simpa using hk) h1]
  congr 2
  omega
theorem num_ne {w : Tok} (h : qC w = true) (c : UInt8) (hc : digB c = false) : w ≠ [c] := by
 rintro rfl
 have := (num_dig h).2
 simp [hc] at this
theorem fr_num {w : Tok} {r : List Tok} (h : qC w = true) : FrK (w :: r) := ⟨w, r, rfl, num_ne h _ rfl, num_ne h _ rfl, num_ne h _ rfl, num_ne h _ rfl⟩
theorem fr_c {c : UInt8} {w : Tok} {r : List Tok} (h1 : (c != 41 && c != 125 && c != 91 && c != 46) = true) : FrK ((c :: w) :: r) := by
 simp only [Bool.and_eq_true, bne_iff_ne, ne_eq] at h1
 exact ⟨_, r, rfl, by simp [h1], by simp [h1], by simp [h1], by simp [h1]⟩
theorem fr_typ (t : Nd) (h : typOk t = true) : FrK (typK t) := by
 obtain ⟨k, n, m, ks⟩ := t
 rw [typK]
 repeat' split
 all_goals exact fr_c (by decide)
theorem fr_ex (t : Nd) (h : qn t = true) : FrK (exK t) := by
 obtain ⟨k, n, m, ks⟩ := t
 rw [qn] at h
 rw [exK]
 by_cases k4 : k = 4
 ·rw [if_pos k4] at h ⊢
  simp only [Bool.and_eq_true] at h
  by_cases hn : n < 0
  ·rw [if_pos hn]; exact fr_c (by decide)
  ·rw [if_neg hn] at h ⊢
   exact fr_num (WE h.2).1
 rw [if_neg k4]
 repeat' split
 all_goals exact fr_c (by decide)
theorem fr_len {k : List Tok} (h : FrK k) : 1 <= k.length := by obtain ⟨t, r, rfl, _⟩ := h; simp
theorem fr_fol {k ks : List Tok} (h : FrK k) : Fol (k ++ ks) := by
 obtain ⟨t, r, rfl, _, _, h1, h2⟩ := h
 exact qN h1 h2
theorem typK_pos (t : Nd) : 1 <= (typK t).length := by
 obtain ⟨k, n, m, ks⟩ := t
 rw [typK]
 repeat' split
 all_goals simp
theorem exK_pos (t : Nd) : 1 <= (exK t).length := by
 obtain ⟨k, n, m, ks⟩ := t
 rw [exK]
 repeat' split
 all_goals simp
theorem rd_typ (t : Nd) : typOk t = true -> ∀ n, (typK t).length < n -> RdF L (WR L n) t (typK t) := by
 induction t using Nd.ind with
 | h k n m ks ih =>
 intro hok f hf p q h hq
 cases f with
 | zero => omega
 | succ f =>
 rw [typOk, typOks_eq] at hok
 rw [typK, typKs_eq] at hf h ⊢
 rw [WR]
 by_cases k0 : k = 0
 ·rw [if_pos k0] at h ⊢
  rw [if_pos (by simp [k0])] at hok
  have hn := (Wk h).1
  rw [if_pos hn]
  have : n = 0 /\ m = 0 /\ ks = [] := by simpa [W9, Q4] using hok
  obtain ⟨rfl, rfl, rfl⟩ := this
  rw [k0]; rfl
 rw [if_neg k0] at h ⊢
 by_cases k1 : k = 1
 ·rw [if_pos k1] at h ⊢
  rw [if_pos (by simp [k1])] at hok
  have hn := (Wk h).1
  rw [if_neg (by rw [hn]; decide), if_pos hn]
  have : n = 0 /\ m = 0 /\ ks = [] := by simpa [W9, Q4] using hok
  obtain ⟨rfl, rfl, rfl⟩ := this
  rw [k1]; rfl
 rw [if_neg (by omega)] at hok
 rw [if_neg k1] at h ⊢
 by_cases k2 : k = 2
 ·rw [if_pos k2] at h hok ⊢
  obtain ⟨hn, h1⟩ := Wk h
  simp only [Bool.and_eq_true] at hok
  obtain ⟨i1, i2⟩ := WE hok.2
  rw [if_neg (by rw [hn]; decide), if_neg (by rw [hn]; decide), if_pos hn]
  have hr := rd_num h1 i1
  have : m = 0 /\ ks = [] := by simpa [Q4] using hok.1
  obtain ⟨rfl, rfl⟩ := this
  show (Nd.mk 2 (QO L ⟨p + 1, false⟩).1 0 [], (QO L ⟨p + 1, false⟩).2) = _
  rw [hr, i2, k2]; rfl
 rw [if_neg k0, if_neg k1, if_neg k2] at hf
 rw [if_neg k2] at h hok ⊢
 by_cases k3 : k = 3
 ·rw [if_pos k3] at hok
  simp only [Bool.and_eq_true, List.all_eq_true, decide_eq_true_eq] at hok
  simp only [List.cons_append, List.append_assoc, List.nil_append] at h
  obtain ⟨hn, h1⟩ := Wk h
  have hr := rd_take h1
  have h2 := (Wk h1).2
  rw [if_neg (by rw [hn]; decide), if_neg (by rw [hn]; decide), if_neg (by rw [hn]; decide), if_pos hn]
  have : n = 0 /\ m = 0 := by have := hok.1.1; simp [W9, Q4] at this; exact this
  obtain ⟨rfl, rfl⟩ := this
  simp only [List.length_cons, List.length_append, List.length_nil] at hf
  have hcl := commasK_len typK typK_pos ks
  cases ks with
  | nil => simp at hok
  | cons x r =>
  have hl := rd_list (E := WR L f) (k := f) typK (fun y hy => ih y hy (hok.2 y hy) f (by have := qK typK hy; omega)) (by rw [List.length_cons] at hcl; omega) h2
  show (Nd.mk 3 0 0 (ZN L (WR L f) f (Wb L [40] ⟨p + 1, false⟩)).1, (ZN L (WR L f) f (Wb L [40] ⟨p + 1, false⟩)).2) = _
  rw [hr, hl, k3]
  simp only [List.length_cons, List.length_append, List.length_nil]
  congr 2
  omega
 ·rw [if_neg k3] at hok; cases hok
theorem op_idx {n : Int} (h0 : 0 <= n) (h1 : n < 14) : qw (opTexts.getD n.toNat []) = n := by
 have : ∀ i : Fin 14, qw (opTexts.getD i.val []) = (i.val : Int) := by decide
 have := this ⟨n.toNat, by omega⟩
 rw [this]
 show ((n.toNat : Nat) : Int) = n
 omega
theorem op_ne {n : Int} (h0 : 0 <= n) (h1 : n < 14) : opTexts.getD n.toNat [] ≠ [91] /\ opTexts.getD n.toNat [] ≠ [46] := by
 have : ∀ i : Fin 14, opTexts.getD i.val [] ≠ [91] /\ opTexts.getD i.val [] ≠ [46] := by decide
 exact this ⟨n.toNat, by omega⟩
theorem lets_num {c : UInt8} {w : Tok} (hc : digB c = false) : qC (c :: w) = false := by
 unfold qC; simp [hc]
theorem exs_rd {E : Rd1} {q : List Nd} (h : ∀ x ∈ q, RdF L E x (exK x)) (hok : ∀ x ∈ q, qn x = true) {k p : Nat} {ks : List Tok} (hk : q.length <= k + 1) (ha : At L p ([40] :: (WU (q.map exK) ++ [41] :: ks))) : WV L E k ⟨p, false⟩ = (q, ⟨p + (WU (q.map exK)).length + 2, false⟩) := rd_args exK h (fun y hy => fr_ex y (hok y hy)) hk ha
theorem var_rd {E : Rd1} {v : Nd} {k : Int} {n m : Int} {ks : List Nd} (hv : v = .mk k n m ks) (hok : qn v = true) (hk : k = 6 \/ k = 7 \/ k = 8) (hE : ∀ x ∈ ks, RdF L E x (exK x)) : ∀ p q, At L p (exK v ++ q) -> Fol q -> WG L E ⟨p, false⟩ = (v, ⟨p + (exK v).length, false⟩) := by
 intro p q h hq
 subst hv
 rw [qn, exOks_eq] at hok
 rw [exK, exKs_eq] at h ⊢
 unfold WG varTail
 rcases hk with rfl | rfl | rfl
 ·simp only [show ¬ (6 : Int) = 4 by decide, show ¬ (6 : Int) = 5 by decide, if_false, if_true, Bool.and_eq_true] at h hok ⊢
  obtain ⟨i1, i2⟩ := WE hok.2
  have hr := rd_vn h i1
  have h1 := (Wk h).2
  rw [hr, i2]
  have : m = 0 /\ ks = [] := by simpa [Q4] using hok.1
  obtain ⟨rfl, rfl⟩ := this
  have hne : Wg L ⟨p + 1, false⟩ ≠ [91] /\ Wg L ⟨p + 1, false⟩ ≠ [46] := by
   cases q with
   | nil => rw [(at_nil h1).1]; decide
   | cons t q => rw [(Wk h1).1]; exact hq t (by simp)
  rw [if_neg hne.1, if_neg hne.2]; rfl
 ·simp only [show ¬ (7 : Int) = 4 by decide, show ¬ (7 : Int) = 5 by decide, show ¬ (7 : Int) = 6 by decide, if_false, if_true, Bool.and_eq_true] at h hok ⊢
  obtain ⟨i1, i2⟩ := WE hok.1.2
  simp only [List.cons_append, List.append_assoc, List.nil_append] at h
  have hr := rd_vn h i1
  have h1 := (Wk h).2
  rw [hr, i2]
  have : m = 0 /\ ks.length = 1 := by have := hok.1.1; simp [Q4] at this; omega
  obtain ⟨rfl, hl⟩ := this
  match ks, hl with
  | [x], _ =>
   obtain ⟨hn, h2⟩ := Wk h1
   rw [if_pos hn]
   have he := hE x (by simp) (p + 1 + 1) ([93] :: q) h2 (qN (by decide) (by decide))
   have h3 : At L (p + 1 + 1 + (exK x).length) ([93] :: q) := at_app h2
   show (Nd.mk 7 n 0 [(E ⟨p + 1 + 1, false⟩).1], Wb L [93] (E ⟨p + 1 + 1, false⟩).2) = _
   rw [he]
   show (Nd.mk 7 n 0 [x], Wb L [93] ⟨p + 1 + 1 + (exK x).length, false⟩) = _
   rw [rd_take (s := [93]) h3]
   show _ = (Nd.mk 7 n 0 [x], RS.mk (p + ((118 :: Lib.itoa n) :: [91] :: (exK x ++ [[93]])).length) false)
   simp only [List.length_cons, List.length_append, List.length_nil]
   congr 2
   omega
 ·simp only [show ¬ (8 : Int) = 4 by decide, show ¬ (8 : Int) = 5 by decide, show ¬ (8 : Int) = 6 by decide, show ¬ (8 : Int) = 7 by decide, if_false, if_true, Bool.and_eq_true, decide_eq_true_eq] at h hok ⊢
  obtain ⟨i1, i2⟩ := WE hok.1.2
  obtain ⟨j1, j2⟩ := WE hok.2
  have hr := rd_vn h i1
  have h1 := (Wk h).2
  rw [hr, i2]
  have : ks = [] := List.eq_nil_of_length_eq_zero hok.1.1
  subst this
  obtain ⟨hn, h2⟩ := Wk h1
  rw [if_neg (by rw [hn]; decide), if_pos hn]
  show (Nd.mk 8 n (QO L ⟨p + 1 + 1, false⟩).1 [], (QO L ⟨p + 1 + 1, false⟩).2) = _
  rw [rd_num h2 j1, j2]; rfl
theorem rd_ex (t : Nd) : qn t = true -> ∀ n, (exK t).length < n -> RdF L (WM L z n) t (exK t) := by
 induction t using Nd.ind with
 | h k n m ks ih =>
 intro hok f hf p q h hq
 cases f with
 | zero => omega
 | succ f =>
 have hok0 := hok
 have h0 := h
 rw [qn, exOks_eq] at hok
 rw [WM]
 have hkid : ks.all qn = true -> (∀ x ∈ ks, (exK x).length < f) -> ∀ x ∈ ks, RdF L (WM L z f) x (exK x) := fun ha hl x hx => ih x hx (by rw [List.all_eq_true] at ha; exact ha x hx) f (hl x hx)
 by_cases k6 : k = 6 \/ k = 7 \/ k = 8
 ·have hkl : ∀ x ∈ ks, RdF L (WM L z f) x (exK x) := by
   rcases k6 with rfl | rfl | rfl
   ·have : ks = [] := by simp [Q4] at hok; exact hok.1.2
    subst this; intro x hx; cases hx
   ·have h2 : ks.all qn = true := by
     simp only [show ¬ (7 : Int) = 4 by decide, show ¬ (7 : Int) = 5 by decide, show ¬ (7 : Int) = 6 by decide, if_false, if_true, Bool.and_eq_true] at hok
     exact hok.2
    refine hkid h2 fun x hx => ?_
    rw [exK, exKs_eq] at hf
    simp only [show ¬ (7 : Int) = 4 by decide, show ¬ (7 : Int) = 5 by decide, show ¬ (7 : Int) = 6 by decide, if_false, if_true, List.length_cons, List.length_append, List.length_nil] at hf
    have := qK exK hx
    omega
   ·have : ks = [] := by
     simp only [show ¬ (8 : Int) = 4 by decide, show ¬ (8 : Int) = 5 by decide, show ¬ (8 : Int) = 6 by decide, show ¬ (8 : Int) = 7 by decide, if_false, if_true, Bool.and_eq_true, decide_eq_true_eq] at hok
     exact List.eq_nil_of_length_eq_zero hok.1.1
    subst this; intro x hx; cases hx
  have hv := var_rd (E := WM L z f) rfl hok0 k6 hkl p q h hq
  have hsmall : Zm n = true := by
   rcases k6 with rfl | rfl | rfl <;> simp at hok <;> simp [hok]
  obtain ⟨i1, i2⟩ := WE hsmall
  obtain ⟨r', hr'⟩ : ∃ r', exK (.mk k n m ks) ++ q = (118 :: Lib.itoa n) :: r' := by
   rw [exK]
   rcases k6 with rfl | rfl | rfl <;> exact ⟨_, rfl⟩
  rw [hr'] at h
  rw [if_neg (by rw [(Wk h).1, lets_num (by decide)]; decide), if_pos (is_vn h i1)]
  exact hv
 rw [exK, exKs_eq] at hf h ⊢
 by_cases k4 : k = 4
 ·rw [if_pos k4] at hok h ⊢
  simp only [Bool.and_eq_true] at hok
  have : m = 0 /\ ks = [] := by have := hok.1; simpa [Q4] using this
  obtain ⟨rfl, rfl⟩ := this
  by_cases hn : n < 0
  ·rw [if_pos hn] at hok h ⊢
   have hs : Zm (-n) = true := by simp [Zm]; simp at hok; omega
   obtain ⟨i1, i2⟩ := WE hs
   obtain ⟨e, h1⟩ := Wk h
   rw [if_neg (by rw [e]; decide), if_neg (by rw [is_ne h (by decide)]; decide), if_neg (by rw [is_ne h (by decide)]; decide), if_pos e]
   have hn2 : Wg L (Qz ⟨p, false⟩) = Lib.itoa (-n) := (Wk h1).1
   have h48 : Lib.itoa (-n) ≠ [48] := by
    intro he
    rw [he] at i2
    have : valM [48] = 0 := by decide
    omega
   rw [if_neg (by rw [hn2]; exact h48)]
   show (Nd.mk 4 (-(QO L ⟨p + 1, false⟩).1) 0 [], (QO L ⟨p + 1, false⟩).2) = _
   rw [rd_num h1 i1, i2, k4]
   show (Nd.mk 4 (- -n) 0 [], _) = _
   rw [Int.neg_neg]; rfl
  ·rw [if_neg hn] at hok h ⊢
   obtain ⟨i1, i2⟩ := WE hok.2
   rw [if_pos (by rw [(Wk h).1]; exact i1), rd_num h i1, i2, k4]; rfl
 rw [if_neg k4] at hok hf h ⊢
 by_cases k5 : k = 5
 ·rw [if_pos k5] at hok h ⊢
  simp only [Bool.and_eq_true, Bool.or_eq_true, decide_eq_true_eq] at hok
  have : m = 0 /\ ks = [] := by have := hok.1; simpa [Q4] using this
  obtain ⟨rfl, rfl⟩ := this
  by_cases hn : n = 1
  ·rw [if_pos hn] at h ⊢
   have e := (Wk h).1
   rw [if_neg (by rw [e]; decide), if_neg (by rw [is_ne h (by decide)]; decide), if_neg (by rw [is_ne h (by decide)]; decide), if_neg (by rw [e]; decide), if_pos e, k5, hn]; rfl
  ·rw [if_neg hn] at h ⊢
   have e := (Wk h).1
   have h00 : n = 0 := by
    rcases hok.2 with h' | h'
    ·exact h'
    ·exact absurd h' hn
   have hnf : qC wFalse = false := by decide
   have hif : isM L 102 ⟨p, false⟩ = false := by
    unfold isM; rw [e]; decide
   rw [if_neg (by rw [e]; decide), if_neg (by rw [is_ne h (by decide)]; decide), if_neg (by rw [hif]; decide), if_neg (by rw [e]; decide), if_neg (by rw [e]; decide), if_pos e, k5, h00]; rfl
 rw [if_neg k5] at hok hf h ⊢
 rw [if_neg (fun e => k6 (.inl e))] at hok hf h ⊢
 rw [if_neg (fun e => k6 (.inr (.inl e)))] at hok hf h ⊢
 rw [if_neg (fun e => k6 (.inr (.inr e)))] at hok hf h ⊢
 by_cases k9 : k = 9
 ·rw [if_pos k9] at hok hf h ⊢
  simp only [Bool.and_eq_true, decide_eq_true_eq] at hok
  have : m = 0 /\ ks.length = 2 := by have := hok.1.1; simp [Q4] at this; omega
  obtain ⟨rfl, h2⟩ := this
  match ks, h2 with
  | [x, y], _ =>
   simp only [List.map_cons, List.map_nil, List.getD_cons_zero, List.getD_cons_succ, List.append_assoc, List.cons_append, List.nil_append, List.length_cons, List.length_append, List.length_nil] at h hf
   have hx := hkid hok.2 (fun x' hx' => by simp at hx'; rcases hx' with rfl | rfl <;> omega) x (by simp)
   have hy := hkid hok.2 (fun x' hx' => by simp at hx'; rcases hx' with rfl | rfl <;> omega) y (by simp)
   obtain ⟨e, h1⟩ := Wk h
   have ho := op_ne hok.1.2.1 hok.1.2.2
   have ex := hx (p + 1) _ h1 (qN ho.1 ho.2)
   have h2 := at_app h1
   obtain ⟨e2, h3⟩ := Wk h2
   have ey := hy _ _ h3 (qN (by decide) (by decide))
   have h4 := at_app h3
   have et := rd_take h4
   have hoi := op_idx hok.1.2.1 hok.1.2.2
   rw [if_neg (by rw [e]; decide), if_neg (by rw [is_ne h (by decide)]; decide), if_neg (by rw [is_ne h (by decide)]; decide), if_neg (by rw [e]; decide), if_neg (by rw [e]; decide), if_neg (by rw [e]; decide), if_pos e]
   unfold qg
   show (if qw (Wg L (WM L z f ⟨p + 1, false⟩).2) < 0 then _ else _) = _
   rw [show Qz ⟨p, false⟩ = ⟨p + 1, false⟩ from rfl, ex]
   show (if qw (Wg L ⟨p + 1 + (exK x).length, false⟩) < 0 then _ else _) = _
   rw [e2, hoi, if_neg (by omega)]
   show (Nd.mk 9 n 0 [x, (WM L z f ⟨p + 1 + (exK x).length + 1, false⟩).1], Wb L [41] (WM L z f ⟨p + 1 + (exK x).length + 1, false⟩).2) = _
   rw [ey]
   show (Nd.mk 9 n 0 [x, y], Wb L [41] ⟨p + 1 + (exK x).length + 1 + (exK y).length, false⟩) = _
   rw [et, k9]
   simp only [List.map_cons, List.map_nil, List.getD_cons_zero, List.getD_cons_succ, List.length_cons, List.length_append, List.length_nil]
   congr 2
   omega
 rw [if_neg k9] at hok hf h ⊢
 by_cases k10 : k = 10
 ·rw [if_pos k10] at hok hf h ⊢
  simp only [Bool.and_eq_true, decide_eq_true_eq] at hok
  have : n = 0 /\ m = 0 /\ ks.length = 1 := by have := hok.1; simp [W9, Q4] at this; omega
  obtain ⟨rfl, rfl, h2⟩ := this
  match ks, h2 with
  | [x], _ =>
   have hx := hkid hok.2 (fun x' hx' => by
    have h1 := qK exK hx'
    have h2 : (WU ([x].map exK)).length + 1 < f + 1 := hf
    omega) x (by simp)
   obtain ⟨e, h1⟩ := Wk h
   have ex := hx (p + 1) q h1 hq
   rw [if_neg (by rw [e]; decide), if_neg (by rw [is_ne h (by decide)]; decide), if_neg (by rw [is_ne h (by decide)]; decide), if_neg (by rw [e]; decide), if_neg (by rw [e]; decide), if_neg (by rw [e]; decide), if_neg (by rw [e]; decide), if_pos e]
   rw [show Qz ⟨p, false⟩ = ⟨p + 1, false⟩ from rfl, ex, k10]
   show (Nd.mk 10 0 0 [x], RS.mk (p + 1 + (exK x).length) false) = (Nd.mk 10 0 0 [x], RS.mk (p + ((exK x).length + 1)) false)
   rw [show p + 1 + (exK x).length = p + ((exK x).length + 1) by omega]
 rw [if_neg k10] at hok hf h ⊢
 by_cases k11 : k = 11
 ·rw [if_pos k11] at hok hf h ⊢
  simp only [Bool.and_eq_true, decide_eq_true_eq] at hok
  have : m = 0 := by have := hok.1.1; simpa [Q4] using this
  subst this
  obtain ⟨i1, i2⟩ := WE hok.1.2
  simp only [List.append_assoc, List.cons_append, List.nil_append] at h
  have e := (Wk h).1
  have hr := rd_vn h i1
  have h1 := (Wk h).2
  simp only [List.length_cons, List.length_append, List.length_nil] at hf
  have hcl := commasK_len exK exK_pos ks
  have hall := hok.2
  rw [List.all_eq_true] at hall
  have ha := exs_rd (k := f) (hkid hok.2 fun x hx => by have := qK exK hx; omega) hall (by omega) h1
  rw [if_neg (by rw [e, lets_num (by decide)]; decide), if_neg (by rw [is_ne h (by decide)]; decide), if_pos (is_vn h i1), hr, i2]
  show (Nd.mk 11 n 0 (WV L (WM L z f) f ⟨p + 1, false⟩).1, (WV L (WM L z f) f ⟨p + 1, false⟩).2) = _
  rw [ha, k11]
  simp only [List.length_cons, List.length_append, List.length_nil]
  congr 2
  omega
 rw [if_neg k11] at hok hf h ⊢
 by_cases k12 : k = 12
 ·rw [if_pos k12] at hok
  simp only [Bool.and_eq_true] at hok
  have : m = 0 /\ ks = [] := by have := hok.1; simpa [Q4] using this
  obtain ⟨rfl, rfl⟩ := this
  obtain ⟨i1, i2⟩ := WE hok.2
  obtain ⟨e, h1⟩ := Wk h
  rw [if_neg (by rw [e]; decide), if_neg (by rw [is_ne h (by decide)]; decide), if_neg (by rw [is_ne h (by decide)]; decide), if_neg (by rw [e]; decide), if_neg (by rw [e]; decide), if_neg (by rw [e]; decide), if_neg (by rw [e]; decide), if_neg (by rw [e]; decide), if_pos e]
  show (Nd.mk 12 (Qp L 99 ⟨p + 1, false⟩).1 0 [], (Qp L 99 ⟨p + 1, false⟩).2) = _
  rw [rd_vn h1 i1, i2, k12]; rfl
 ·rw [if_neg k12] at hok; cases hok
end
section
variable {L : ZL} {z : Nd}
theorem pos_eq {α : Type} {t : α} {a b : Nat} (h : a = b) : (t, RS.mk a false) = (t, RS.mk b false) := by rw [h]
theorem fr_st (t : Nd) (h : stOk t = true) : FrK (stK t) := by
 obtain ⟨k, n, m, ks⟩ := t
 rw [stK]
 repeat' split
 all_goals try exact fr_c (by decide)
 rw [simK]
 repeat' split
 all_goals exact fr_c (by decide)
theorem stsK_mem : ∀ {ks : List Nd} {x : Nd}, x ∈ ks -> (stK x).length <= (stsK ks).length
 | y :: r, x, h => by
  rw [stsK, List.length_append]
  rcases List.mem_cons.1 h with rfl | h
  ·omega
  ·have := stsK_mem h; omega
theorem stsK_len : ∀ {ks : List Nd}, qO ks = true -> ks.length <= (stsK ks).length
 | [], _ => Nat.zero_le _
 | y :: r, h => by
  rw [qO] at h
  simp only [Bool.and_eq_true] at h
  have h1 := fr_len (fr_st y h.1)
  have h2 := stsK_len h.2
  rw [stsK, List.length_append, List.length_cons]; omega
theorem stOks_mem : ∀ {ks : List Nd} {x : Nd}, qO ks = true -> x ∈ ks -> stOk x = true
 | y :: r, x, h, hx => by
  rw [qO] at h
  simp only [Bool.and_eq_true] at h
  rcases List.mem_cons.1 hx with rfl | hx
  ·exact h.1
  ·exact stOks_mem h.2 hx
theorem rd_bloop {T : Rd1} : ∀ (r : List Nd) (k : Nat) (o : List Nd) (p : Nat) (ks : List Tok), qO r = true -> (∀ x ∈ r, RdF L T x (stK x)) -> r.length < k -> At L p (stsK r ++ [125] :: ks) -> WD L T k o ⟨p, false⟩ = (o ++ r, ⟨p + (stsK r).length + 1, false⟩)
 | [], k + 1, o, p, ks, _, _, _, h => by
  have hn := (Wk (t := [125]) h).1
  rw [List.append_nil, WD, if_neg (by simp), if_pos hn]; rfl
 | y :: r, k + 1, o, p, ks, hok, hT, hk, h => by
  rw [qO] at hok
  simp only [Bool.and_eq_true] at hok
  rw [stsK, List.append_assoc] at h
  have hfr := fr_st y hok.1
  have hfol : Fol (stsK r ++ [125] :: ks) := by
   cases r with
   | nil => exact qN (by decide) (by decide)
   | cons w r =>
    rw [stsK, List.append_assoc]
    have := hok.2
    rw [qO] at this
    simp only [Bool.and_eq_true] at this
    exact fr_fol (fr_st w this.1)
  have he := hT y (by simp) p _ h hfol
  have hn : Wg L ⟨p, false⟩ ≠ [125] := by
   obtain ⟨t, q, e, h1, h2, _⟩ := hfr
   rw [e] at h
   rw [(Wk h).1]; exact h2
  have ih := rd_bloop r k (o ++ [y]) _ ks hok.2 (fun x hx => hT x (by simp [hx])) (by simpa using hk) (at_app h)
  rw [WD, if_neg (by simp), if_neg hn, he, ih, List.append_assoc, stsK, List.length_append, show p + ((stK y).length + (stsK r).length) + 1 = p + (stK y).length + (stsK r).length + 1 by omega]; rfl
theorem rd_block {T : Rd1} {x : Nd} {k p : Nat} {ks : List Tok} (hx : inOk x = true) (hT : ∀ n m l, x = .mk 13 n m l -> ∀ y ∈ l, RdF L T y (stK y)) (hk : (inK x).length < k) (h : At L p ([123] :: (inK x ++ [125] :: ks))) : Wz L T k ⟨p, false⟩ = (x, ⟨p + (inK x).length + 2, false⟩) := by
 obtain ⟨kk, n, m, l⟩ := x
 rw [inOk] at hx
 simp only [Bool.and_eq_true, decide_eq_true_eq] at hx
 obtain ⟨⟨rfl, hb⟩, hs⟩ := hx
 have : n = 0 /\ m = 0 := by simp [W9, Q4] at hb; exact hb
 obtain ⟨rfl, rfl⟩ := this
 rw [inK] at h hk ⊢
 have ht := rd_take h
 have hl := stsK_len hs
 have hb := rd_bloop l k [] (p + 1) ks hs (hT _ _ _ rfl) (by omega) (Wk h).2
 unfold Wz
 rw [ht, hb, show p + 1 + (stsK l).length + 1 = p + (stsK l).length + 2 by omega]; rfl
theorem one_rd {E : Rd1} {x : Nd} {k n : Int} {p : Nat} {q : List Tok} (hE : RdF L E x (exK x)) (h : At L p (exK x ++ q)) (hq : Fol q) : oneM E k n ⟨p, false⟩ = (.mk k n 0 [x], ⟨p + (exK x).length, false⟩) := by
 unfold oneM; rw [hE p q h hq]
theorem rd_sim {E : Rd1} {t : Nd} {f q : Nat} (hE : ∀ x, qn x = true -> (exK x).length < q -> RdF L E x (exK x)) (hok : simOk t = true) (hlen : (simK t).length < q) : RdF L (WO L E q (f + 1)) t (simK t) := by
 intro p r h hr
 obtain ⟨k, n, m, ks⟩ := t
 rw [simOk] at hok
 rw [simK] at h hlen ⊢
 rw [WO]
 have one : ∀ l : List Nd, l.length = 1 -> ∃ x, l = [x] := fun l hl => by
  match l, hl with | [x], _ => exact ⟨x, rfl⟩
 have asg : ∀ (v x : Nd) (kv nv mv : Int) (kvs : List Nd), v = .mk kv nv mv kvs -> qn v = true -> (kv = 6 \/ kv = 7 \/ kv = 8) -> (∀ y ∈ kvs, RdF L E y (exK y)) -> RdF L E x (exK x) -> At L p (exK v ++ [61] :: (exK x ++ r)) -> qB L E ⟨p, false⟩ = (setM v x, ⟨p + (exK v).length + 1 + (exK x).length, false⟩) := by
  intro v x kv nv mv kvs hv hvo hk hkv hx ha
  have e1 := var_rd (E := E) hv hvo hk hkv p _ ha (qN (by decide) (by decide))
  have h1 := at_app ha
  have e2 := rd_take h1
  have e3 := hx _ r (Wk h1).2 hr
  unfold qB
  rw [e1]
  show (setM v (E (Wb L [61] ⟨p + (exK v).length, false⟩)).1, (E (Wb L [61] ⟨p + (exK v).length, false⟩)).2) = _
  rw [e2, e3]
 by_cases k14 : k = 14
 ·rw [if_pos k14] at hok h hlen ⊢
  simp only [Bool.and_eq_true] at hok
  have : m = 0 /\ ks.length = 1 := by have := hok.1.1; simp [Q4] at this; omega
  obtain ⟨rfl, hl⟩ := this
  obtain ⟨x, rfl⟩ := one ks hl
  have hxo : qn x = true := by simpa using hok.2
  have hx := hE x hxo (by simp only [List.map_cons, List.map_nil, WU, List.length_cons] at hlen; omega)
  obtain ⟨i1, i2⟩ := WE hok.1.2
  have e6 : exK (.mk 6 n 0 []) = [118 :: Lib.itoa n] := by rw [exK]; rfl
  have ha := asg (.mk 6 n 0 []) x 6 n 0 [] rfl (by rw [qn]; simp [Q4, hok.1.2]) (.inl rfl) (fun y hy => by cases hy) hx (by rw [e6]; exact h)
  have e := (Wk h).1
  rw [if_neg (by rw [e]; simp), if_pos (is_vn h i1), ha, e6, k14]
  show (Nd.mk 14 n 0 [x], RS.mk (p + 1 + 1 + (exK x).length) false) = (Nd.mk 14 n 0 [x], RS.mk (p + ((exK x).length + 1 + 1)) false)
  rw [show p + 1 + 1 + (exK x).length = p + ((exK x).length + 1 + 1) by omega]
 rw [if_neg k14] at hok h hlen ⊢
 by_cases k15 : k = 15
 ·rw [if_pos k15] at hok h hlen ⊢
  simp only [Bool.and_eq_true] at hok
  have : m = 0 /\ ks.length = 2 := by have := hok.1.1; simp [Q4] at this; omega
  obtain ⟨rfl, hl⟩ := this
  match ks, hl with
  | [x, y], _ =>
   have hxo : qn x = true /\ qn y = true := by simpa using hok.2
   simp only [List.map_cons, List.map_nil, List.getD_cons_zero, List.getD_cons_succ, List.length_cons, List.length_append] at hlen
   simp only [List.map_cons, List.map_nil, List.getD_cons_zero, List.getD_cons_succ, List.cons_append, List.append_assoc] at h
   have hx := hE x hxo.1 (by omega)
   have hy := hE y hxo.2 (by omega)
   obtain ⟨i1, i2⟩ := WE hok.1.2
   have e6 : exK (.mk 7 n 0 [x]) = (118 :: Lib.itoa n) :: [91] :: (exK x ++ [[93]]) := by rw [exK]; rfl
   have ha := asg (.mk 7 n 0 [x]) y 7 n 0 [x] rfl (by rw [qn]; simp [Q4, hok.1.2, exOks, hxo.1]) (.inr (.inl rfl)) (fun w hw => by rw [List.mem_singleton.1 hw]; exact hx) hy (by rw [e6]; simp only [List.cons_append, List.append_assoc, List.nil_append]; exact h)
   have e := (Wk h).1
   rw [if_neg (by rw [e]; simp), if_pos (is_vn h i1), ha, e6, k15]
   simp only [List.map_cons, List.map_nil, List.getD_cons_zero, List.getD_cons_succ, List.length_cons, List.length_append, List.length_nil]
   show (Nd.mk 15 n 0 [x, y], _) = _
   exact pos_eq (by omega)
 rw [if_neg k15] at hok h hlen ⊢
 by_cases k16 : k = 16
 ·rw [if_pos k16] at hok h hlen ⊢
  simp only [Bool.and_eq_true, decide_eq_true_eq] at hok
  obtain ⟨x, rfl⟩ := one ks hok.1.1.1
  have hxo : qn x = true := by simpa using hok.2
  have hx := hE x hxo (by simp only [List.map_cons, List.map_nil, WU, List.length_cons] at hlen; omega)
  obtain ⟨i1, i2⟩ := WE hok.1.1.2
  have e6 : exK (.mk 8 n m []) = [118 :: Lib.itoa n, [46], Lib.itoa m] := by rw [exK]; rfl
  have ha := asg (.mk 8 n m []) x 8 n m [] rfl (by rw [qn]; simp [hok.1.1.2, hok.1.2]) (.inr (.inr rfl)) (fun y hy => by cases hy) hx (by rw [e6]; exact h)
  have e := (Wk h).1
  rw [if_neg (by rw [e]; simp), if_pos (is_vn h i1), ha, e6, k16]
  show (Nd.mk 16 n m [x], RS.mk (p + 1 + 1 + 1 + 1 + (exK x).length) false) = (Nd.mk 16 n m [x], RS.mk (p + ((exK x).length + 1 + 1 + 1 + 1)) false)
  rw [show p + 1 + 1 + 1 + 1 + (exK x).length = p + ((exK x).length + 1 + 1 + 1 + 1) by omega]
 rw [if_neg k16] at hok h hlen ⊢
 have kw1 : ∀ (kk : Int) (w : Tok), k = kk -> (W9 n m ks.length 1 && ks.all qn) = true -> At L p ((w :: WU (ks.map exK)) ++ r) -> (w :: WU (ks.map exK)).length < q -> oneM E kk 0 (Qz ⟨p, false⟩) = (Nd.mk k n m ks, ⟨p + (w :: WU (ks.map exK)).length, false⟩) := by
  intro kk w hk hb ha hl
  simp only [Bool.and_eq_true] at hb
  have : n = 0 /\ m = 0 /\ ks.length = 1 := by have := hb.1; simp [W9, Q4] at this; omega
  obtain ⟨rfl, rfl, hl1⟩ := this
  obtain ⟨x, rfl⟩ := one ks hl1
  have hxo : qn x = true := by simpa using hb.2
  have hx := hE x hxo (by simp only [List.map_cons, List.map_nil, WU, List.length_cons] at hl; omega)
  have e1 := (Wk ha).2
  show oneM E kk 0 ⟨p + 1, false⟩ = _
  rw [one_rd (k := kk) (n := 0) hx e1 hr, hk]
  show (Nd.mk kk 0 0 [x], RS.mk (p + 1 + (exK x).length) false) = (Nd.mk kk 0 0 [x], RS.mk (p + ((exK x).length + 1)) false)
  rw [show p + 1 + (exK x).length = p + ((exK x).length + 1) by omega]
 by_cases k19 : k = 19
 ·rw [if_pos k19] at hok h hlen ⊢
  have e := (Wk h).1
  rw [if_neg (by rw [e]; decide), if_neg (by rw [is_ne h (by decide)]; decide), if_neg (by rw [e]; decide), if_neg (by rw [e]; decide), if_pos e]
  exact kw1 19 wReturn k19 hok h hlen
 rw [if_neg k19] at hok h hlen ⊢
 by_cases k20 : k = 20
 ·rw [if_pos k20] at hok h hlen ⊢
  have e := (Wk h).1
  rw [if_neg (by rw [e]; decide), if_neg (by rw [is_ne h (by decide)]; decide), if_neg (by rw [e]; decide), if_neg (by rw [e]; decide), if_neg (by rw [e]; decide), if_pos e]
  exact kw1 20 wThrow k20 hok h hlen
 rw [if_neg k20] at hok h hlen ⊢
 by_cases k24 : k = 24
 ·rw [if_pos k24] at hok h hlen ⊢
  have e := (Wk h).1
  rw [if_neg (by rw [e]; decide), if_neg (by rw [is_ne h (by decide)]; decide), if_neg (by rw [e]; decide), if_neg (by rw [e]; decide), if_neg (by rw [e]; decide), if_neg (by rw [e]; decide), if_pos e]
  exact kw1 24 wOut k24 hok h hlen
 rw [if_neg k24] at hok h hlen ⊢
 by_cases k25 : k = 25
 ·rw [if_pos k25] at hok h hlen ⊢
  have e := (Wk h).1
  rw [if_neg (by rw [e]; decide), if_neg (by rw [is_ne h (by decide)]; decide), if_neg (by rw [e]; decide), if_neg (by rw [e]; decide), if_neg (by rw [e]; decide), if_neg (by rw [e]; decide), if_neg (by rw [e]; decide), if_pos e]
  have : n = 0 /\ m = 0 /\ ks = [] := by simpa [W9, Q4] using hok
  obtain ⟨rfl, rfl, rfl⟩ := this
  rw [k25]; rfl
 rw [if_neg k25] at hok h hlen ⊢
 by_cases k22 : k = 22
 ·rw [if_pos k22] at hok h hlen ⊢
  simp only [Bool.and_eq_true] at hok
  have : m = 0 /\ ks.length = 1 := by have := hok.1.1; simp [Q4] at this; omega
  obtain ⟨rfl, hl⟩ := this
  obtain ⟨x, rfl⟩ := one ks hl
  have hxo : qn x = true := by simpa using hok.2
  have hx := hE x hxo (by simp only [List.map_cons, List.map_nil, WU, List.length_cons] at hlen; omega)
  obtain ⟨i1, i2⟩ := WE hok.1.2
  obtain ⟨e, h1⟩ := Wk h
  have hv := rd_vn h1 i1
  have h2 := (Wk h1).2
  rw [if_neg (by rw [e]; decide), if_neg (by rw [is_ne h (by decide)]; decide), if_neg (by rw [e]; decide), if_neg (by rw [e]; decide), if_neg (by rw [e]; decide), if_neg (by rw [e]; decide), if_neg (by rw [e]; decide), if_neg (by rw [e]; decide), if_neg (by rw [e]; decide), if_pos e]
  show oneM E 22 (Qp L 99 ⟨p + 1, false⟩).1 (Qp L 99 ⟨p + 1, false⟩).2 = _
  rw [hv, i2]
  show oneM E 22 n ⟨p + 1 + 1, false⟩ = _
  rw [one_rd (k := 22) (n := n) hx h2 hr, k22]
  show (Nd.mk 22 n 0 [x], RS.mk (p + 1 + 1 + (exK x).length) false) = (Nd.mk 22 n 0 [x], RS.mk (p + ((exK x).length + 1 + 1)) false)
  rw [show p + 1 + 1 + (exK x).length = p + ((exK x).length + 1 + 1) by omega]
 rw [if_neg k22] at hok h hlen ⊢
 by_cases k23 : k = 23
 ·rw [if_pos k23] at hok
  simp only [Bool.and_eq_true] at hok
  have : m = 0 := by have := hok.1.1; simp [Q4] at this; omega
  subst this
  obtain ⟨i1, i2⟩ := WE hok.1.2
  simp only [List.cons_append, List.append_assoc, List.nil_append] at h
  simp only [List.length_cons, List.length_append, List.length_nil] at hlen
  obtain ⟨e, h1⟩ := Wk h
  have hv := rd_vn h1 i1
  have h2 := (Wk h1).2
  have hall := hok.2
  rw [List.all_eq_true] at hall
  have hcl := commasK_len exK exK_pos ks
  have ha := exs_rd (k := q) (fun x hx => hE x (hall x hx) (by have := qK exK hx; omega)) hall (by omega) h2
  have hsp : ¬ (wSpawn : Tok) = wSend := by decide
  rw [if_neg (by rw [e]; decide), if_neg (by rw [is_ne h (by decide)]; decide), if_neg (by rw [e]; decide), if_neg (by rw [e]; decide), if_neg (by rw [e]; decide), if_neg (by rw [e]; decide), if_neg (by rw [e]; decide), if_neg (by rw [e]; decide), if_neg (by rw [e]; decide), if_neg (by rw [e]; decide), if_pos e]
  show (Nd.mk 23 (Qp L 102 ⟨p + 1, false⟩).1 0 (WV L E q (Qp L 102 ⟨p + 1, false⟩).2).1, (WV L E q (Qp L 102 ⟨p + 1, false⟩).2).2) = _
  rw [hv, i2]
  show (Nd.mk 23 n 0 (WV L E q ⟨p + 1 + 1, false⟩).1, (WV L E q ⟨p + 1 + 1, false⟩).2) = _
  rw [ha, k23]
  simp only [List.length_cons, List.length_append, List.length_nil]
  exact pos_eq (by omega)
 ·rw [if_neg k23] at hok; cases hok
theorem rd_st {E : Rd1} {q : Nat} (hE : ∀ x, qn x = true -> (exK x).length < q -> RdF L E x (exK x)) (t : Nd) :
  (stOk t = true -> (stK t).length < q -> ∀ n, (stK t).length < n -> RdF L (WO L E q n) t (stK t)) /\
  (inOk t = true -> (inK t).length < q -> ∀ n, (inK t).length < n -> ∀ p ks, At L p ([123] :: (inK t ++ [125] :: ks)) -> Wz L (WO L E q n) n ⟨p, false⟩ = (t, ⟨p + (inK t).length + 2, false⟩)) := by
 induction t using Nd.ind with
 | h k n m ks ih =>
 have hkid : ∀ f, (stsK ks).length < f -> (stsK ks).length < q -> qO ks = true -> ∀ y ∈ ks, RdF L (WO L E q f) y (stK y) := fun f h1 h2 ho y hy => by
  have := stsK_mem hy
  exact (ih y hy).1 (stOks_mem ho hy) (by omega) f (by omega)
 have hin : inOk (.mk k n m ks) = true -> (inK (.mk k n m ks)).length < q -> ∀ f, (inK (.mk k n m ks)).length < f -> ∀ p r, At L p ([123] :: (inK (.mk k n m ks) ++ [125] :: r)) -> Wz L (WO L E q f) f ⟨p, false⟩ = (.mk k n m ks, ⟨p + (inK (.mk k n m ks)).length + 2, false⟩) := by
  intro ho hq f hf p r h
  refine rd_block ho (fun n' m' l hl => ?_) hf h
  cases hl
  rw [inOk] at ho
  simp only [Bool.and_eq_true] at ho
  rw [inK] at hq hf
  exact hkid f hf hq ho.2
 refine ⟨?_, hin⟩
 intro hok hlq f hf p r h hr
 cases f with
 | zero => omega
 | succ f =>
 rw [stOk, inOks_eq] at hok
 rw [stK, insK_eq] at hlq hf h ⊢
 by_cases k13 : k = 13
 ·rw [if_pos k13] at hok hlq hf h ⊢
  simp only [List.cons_append, List.append_assoc, List.nil_append] at h
  simp only [List.length_cons, List.length_append, List.length_nil] at hlq hf
  have e := (Wk h).1
  have hio : inOk (.mk k n m ks) = true := by
   rw [inOk, k13]; simpa using hok
  have := hin hio (by rw [inK]; omega) f (by rw [inK]; omega) p r h
  rw [WO, if_pos e, this, inK]
  simp only [List.length_cons, List.length_append, List.length_nil]
  congr 2
 rw [if_neg k13] at hok hlq hf h ⊢
 by_cases k17 : k = 17
 ·rw [if_pos k17] at hok hlq hf h ⊢
  simp only [Bool.and_eq_true] at hok
  have : n = 0 /\ m = 0 /\ ks.length = 3 := by have := hok.1.1.1; simp [W9, Q4] at this; omega
  obtain ⟨rfl, rfl, h3⟩ := this
  match ks, h3 with
  | [c, a, b], _ =>
   simp only [List.map_cons, List.map_nil, List.getD_cons_zero, List.getD_cons_succ, List.cons_append, List.append_assoc, List.nil_append, List.length_cons, List.length_append, List.length_nil] at hok hlq hf h ⊢
   obtain ⟨e, h1⟩ := Wk h
   have ec := hE c hok.1.1.2 (by omega) _ _ h1 (qN (by decide) (by decide))
   have h2 := at_app h1
   have ea := (ih a (by simp)).2 hok.1.2 (by omega) f (by omega) _ _ h2
   have h3 := at_app (Wk h2).2
   have h4 := (Wk h3).2
   have et := rd_take h4
   have h5 := (Wk h4).2
   have eb := (ih b (by simp)).2 hok.2 (by omega) f (by omega) _ _ h5
   rw [WO, if_neg (by rw [e]; decide), if_neg (by rw [is_ne h (by decide)]; decide), if_pos e]
   unfold ifM
   rw [show Qz ⟨p, false⟩ = ⟨p + 1, false⟩ from rfl, ec]
   simp only
   rw [ea]
   simp only
   rw [show p + 1 + (exK c).length + (inK a).length + 2 = p + 1 + (exK c).length + 1 + (inK a).length + 1 by omega, et]
   rw [eb, k17]
   exact pos_eq (by omega)
 rw [if_neg k17] at hok hlq hf h ⊢
 by_cases k18 : k = 18
 ·rw [if_pos k18] at hok hlq hf h ⊢
  simp only [Bool.and_eq_true] at hok
  have : n = 0 /\ m = 0 /\ ks.length = 2 := by have := hok.1.1; simp [W9, Q4] at this; omega
  obtain ⟨rfl, rfl, h3⟩ := this
  match ks, h3 with
  | [c, a], _ =>
   simp only [List.map_cons, List.map_nil, List.getD_cons_zero, List.getD_cons_succ, List.cons_append, List.append_assoc, List.nil_append, List.length_cons, List.length_append, List.length_nil] at hok hlq hf h ⊢
   obtain ⟨e, h1⟩ := Wk h
   have ec := hE c hok.1.2 (by omega) _ _ h1 (qN (by decide) (by decide))
   have h2 := at_app h1
   have ea := (ih a (by simp)).2 hok.2 (by omega) f (by omega) _ _ h2
   rw [WO, if_neg (by rw [e]; decide), if_neg (by rw [is_ne h (by decide)]; decide), if_neg (by rw [e]; decide), if_pos e]
   unfold whileM
   rw [show Qz ⟨p, false⟩ = ⟨p + 1, false⟩ from rfl, ec]
   simp only
   rw [ea, k18]
   exact pos_eq (by omega)
 rw [if_neg k18] at hok hlq hf h ⊢
 by_cases k21 : k = 21
 ·rw [if_pos k21] at hok hlq hf h ⊢
  simp only [Bool.and_eq_true] at hok
  have : m = 0 /\ ks.length = 2 := by have := hok.1.1.1; simp [Q4] at this; omega
  obtain ⟨rfl, h3⟩ := this
  match ks, h3 with
  | [a, b], _ =>
   simp only [List.map_cons, List.map_nil, List.getD_cons_zero, List.getD_cons_succ, List.cons_append, List.append_assoc, List.nil_append, List.length_cons, List.length_append, List.length_nil] at hok hlq hf h ⊢
   obtain ⟨i1, i2⟩ := WE hok.1.1.2
   obtain ⟨e, h1⟩ := Wk h
   have ea := (ih a (by simp)).2 hok.1.2 (by omega) f (by omega) _ _ h1
   have h3 := at_app (Wk h1).2
   have h4 := (Wk h3).2
   have et := rd_take h4
   have h5 := (Wk h4).2
   have ev := rd_vn h5 i1
   have h6 := (Wk h5).2
   have eb := (ih b (by simp)).2 hok.2 (by omega) f (by omega) _ _ h6
   rw [WO, if_neg (by rw [e]; decide), if_neg (by rw [is_ne h (by decide)]; decide), if_neg (by rw [e]; decide), if_neg (by rw [e]; decide), if_neg (by rw [e]; decide), if_neg (by rw [e]; decide), if_neg (by rw [e]; decide), if_neg (by rw [e]; decide), if_pos e]
   unfold tryM
   rw [show Qz ⟨p, false⟩ = ⟨p + 1, false⟩ from rfl, ea]
   simp only
   rw [show p + 1 + (inK a).length + 2 = p + 1 + 1 + (inK a).length + 1 by omega, et]
   rw [ev, i2]
   simp only
   rw [eb, k21]
   exact pos_eq (by omega)
 rw [if_neg k21] at hok hlq hf h ⊢
 exact rd_sim hE hok hlq p r h hr
theorem rd_fun {q : Nat} (t : Nd) (hok : qV t = true) (hq : (funK t).length < q) (p : Nat) (r : List Tok) (h : At L p (funK t ++ r)) : qm L z q ⟨p, false⟩ = (t, ⟨p + (funK t).length, false⟩) := by
 obtain ⟨k, n, m, ks⟩ := t
 rw [qV] at hok
 simp only [Bool.and_eq_true, decide_eq_true_eq] at hok
 obtain ⟨⟨⟨⟨⟨h1, h2⟩, h3⟩, h4⟩, h5⟩, h6⟩ := hok
 have : m = 0 := by simp [Q4] at h3; exact h3
 subst this
 obtain ⟨i1, i2⟩ := WE h4
 have hks : ks = ks.take (ks.length - 1) ++ [ks.getD (ks.length - 1) (.mk 0 0 0 [])] := by
  rw [List.getD_eq_getElem?_getD, List.getElem?_eq_getElem (show ks.length - 1 < ks.length by omega), Option.getD_some, <- List.take_succ_eq_append_getElem, show ks.length - 1 + 1 = ks.length by omega, List.take_length]
 rw [funK] at hq h ⊢
 generalize ks.getD (ks.length - 1) (.mk 0 0 0 []) = b at *
 generalize ks.take (ks.length - 1) = tl at *
 subst hks
 subst h1
 simp only [List.cons_append, List.append_assoc, List.nil_append, List.length_cons, List.length_append, List.length_nil] at hq h ⊢
 rw [List.all_eq_true] at h5
 have a0 := rd_take h
 have g1 := (Wk h).2
 have a1 := rd_num g1 i1
 have g2 := (Wk g1).2
 have hcl := commasK_len typK typK_pos tl
 have a2 := rd_args (E := WR L q) (k := q) typK (fun y hy => rd_typ y (h5 y hy) q (by have := qK typK hy; omega)) (fun y hy => fr_typ y (h5 y hy)) (by omega) g2
 have g3 := at_app (Wk g2).2
 have g4 := (Wk g3).2
 have hEx : ∀ x, qn x = true -> (exK x).length < q -> RdF L (WM L z q) x (exK x) := fun x hx hl => rd_ex x hx q hl
 have a3 := (rd_st hEx b).2 h6 (by omega) q (by omega) _ _ g4
 unfold qm funM
 rw [a0, a1]
 simp only
 rw [a2]
 simp only
 rw [show p + 1 + 1 + (WU (tl.map typK)).length + 2 = p + 1 + 1 + 1 + (WU (tl.map typK)).length + 1 by omega, a3, i2]
 simp only
 exact pos_eq (by omega)
theorem rd_ploop {q : Nat} : ∀ (l : List Nd) (k : Nat) (o : List Nd) (p : Nat), l.all qV = true -> (∀ x ∈ l, (funK x).length < q) -> l.length < k -> At L p (l.map funK).flatten -> W2 L (qm L z q) k o ⟨p, false⟩ = (o ++ l, ⟨p + (l.map funK).flatten.length, false⟩)
 | [], k + 1, o, p, _, _, _, h => by
  have := (at_nil (L := L) (p := p) h).2
  rw [W2, if_neg (by simp; omega), List.append_nil]; rfl
 | x :: r, k + 1, o, p, ho, hq, hk, h => by
  simp only [List.all_cons, Bool.and_eq_true] at ho
  rw [List.map_cons, List.flatten_cons] at h
  have hx := rd_fun (z := z) x ho.1 (hq x (by simp)) p _ h
  have hpl : p < L.length := by
   rcases Nat.lt_or_ge p L.length with h1 | h1
   ·exact h1
   ·unfold At at h
    rw [List.drop_eq_nil_of_le h1] at h
    obtain ⟨kk, n, m, ks⟩ := x
    rw [funK] at h
    simp at h
  have ih := rd_ploop r k (o ++ [x]) _ ho.2 (fun y hy => hq y (by simp [hy])) (by simpa using hk) (at_app h)
  rw [W2, if_pos ⟨rfl, hpl⟩, hx]
  show W2 L (qm L z q) k (o ++ [x]) ⟨p + (funK x).length, false⟩ = _
  rw [ih, List.append_assoc, List.map_cons, List.flatten_cons, List.length_append, Nat.add_assoc]; rfl
theorem funs_mem : ∀ {ks : List Nd} {x : Nd}, x ∈ ks -> (funK x).length <= (ks.map funK).flatten.length
 | y :: r, x, hx => by
  rw [List.map_cons, List.flatten_cons, List.length_append]
  rcases List.mem_cons.1 hx with rfl | hx
  ·omega
  ·have := funs_mem hx; omega
theorem funs_cnt : ∀ ks : List Nd, ks.length <= (ks.map funK).flatten.length
 | [] => Nat.zero_le _
 | y :: r => by
  rw [List.map_cons, List.flatten_cons, List.length_append, List.length_cons]
  have : 1 <= (funK y).length := by obtain ⟨k, n, m, l⟩ := y; rw [funK]; simp
  have := funs_cnt r
  omega
theorem rd_prog {q : Nat} {n m : Int} {ks : List Nd} (hok : prOk (.mk 27 n m ks) = true) (hL : L.map (·.1) = progK (.mk 27 n m ks)) (hq : L.length < q) : qv L z q = (.mk 27 n m ks, ⟨L.length, false⟩) := by
 rw [prOk, if_pos rfl] at hok
 simp only [Bool.and_eq_true] at hok
 have : m = 0 := by have := hok.1.1; simp [Q4] at this; exact this
 subst this
 obtain ⟨i1, i2⟩ := WE hok.1.2
 have hlen : L.length = (progK (.mk 27 n 0 ks)).length := by rw [<- hL, List.length_map]
 have h0 : At L 0 (progK (.mk 27 n 0 ks)) := hL
 rw [progK] at h0 hlen
 have a0 := rd_take h0
 have g1 := (Wk h0).2
 have a1 := rd_num g1 i1
 have g2 := (Wk g1).2
 have hmem : ∀ x ∈ ks, (funK x).length <= (ks.map funK).flatten.length := fun x hx => funs_mem hx
 have hkl := funs_cnt ks
 simp only [List.length_cons] at hlen
 have a2 := rd_ploop (z := z) (q := q) ks q [] 2 hok.2 (fun x hx => by have := hmem x hx; omega) (by omega) g2
 unfold qv
 rw [a0, a1]
 simp only
 rw [a2, i2]
 simp only [List.nil_append]
 rw [hlen, show 2 + (ks.map funK).flatten.length = (ks.map funK).flatten.length + 1 + 1 by omega]
end
theorem WT {k n m : Int} {ks : List Nd} {w : Int} (s : Sh) (hs : shapesL.getD k.toNat noSh = s) (hk : 0 <= k /\ k < 28 /\ k ≠ 26) (hi : isB s w = true) (hn : s.low <= n /\ n <= s.high) (hm : 0 <= m /\ m <= s.last) (hc : s.least <= (ks.length : Int) - (s.kids.length : Int) /\ (ks.length : Int) - (s.kids.length : Int) <= s.more) (hw : ∀ i (h : i < ks.length), WF ks[i] (wantK s i) = true) : WF (.mk k n m ks) w = true := by
 rw [WF, if_pos ⟨hk.1, hk.2.1⟩, if_neg hk.2.2, hs, hi, fitsF_eq]
 have h1 : rngB s n m = true := by unfold rngB; simp [hn, hm]
 have h2 : cntB s ks.length = true := by unfold cntB; simp [hc]
 have h3 : kidsB s (ks.map WF) = true := by
  unfold kidsB
  rw [allI_iff]
  intro i hi
  rw [List.length_map] at hi
  rw [qc ks WF hi]
  exact hw i hi
 rw [h1, h2, h3]; rfl
theorem kids1 {x : Nd} {s : Sh} (h : WF x (wantK s 0) = true) : ∀ i (h : i < [x].length), WF [x][i] (wantK s i) = true := fun i hi => by
 match i, hi with
 | 0, _ => exact h
theorem kids2 {x y : Nd} {s : Sh} (h : WF x (wantK s 0) = true) (h2 : WF y (wantK s 1) = true) : ∀ i (h : i < [x, y].length), WF [x, y][i] (wantK s i) = true := fun i hi => by
 match i, hi with
 | 0, _ => exact h
 | 1, _ => exact h2
theorem kids3 {x y z : Nd} {s : Sh} (h : WF x (wantK s 0) = true) (h2 : WF y (wantK s 1) = true) (h3 : WF z (wantK s 2) = true) : ∀ i (h : i < [x, y, z].length), WF [x, y, z][i] (wantK s i) = true := fun i hi => by
 match i, hi with
 | 0, _ => exact h
 | 1, _ => exact h2
 | 2, _ => exact h3
theorem kids0 {s : Sh} : ∀ i (h : i < ([] : List Nd).length), WF ([] : List Nd)[i] (wantK s i) = true := fun i hi => by simp at hi
theorem kidsA {ks : List Nd} {s : Sh} (hk : s.kids = []) (h : ∀ x ∈ ks, WF x s.som = true) : ∀ i (h : i < ks.length), WF ks[i] (wantK s i) = true := fun i hi => by
 unfold wantK
 rw [hk, if_neg (by simp)]
 exact h _ (List.getElem_mem hi)
theorem qD {x : Nd} : Wo [x] = Wn x := by simp [Wo]
theorem qR {x y : Nd} : Wo [x, y] = max (Wn x) (Wn y) := by simp [Wo]
theorem sizeL1 {x : Nd} : QT [x] = QI x := by simp [QT]
theorem qQ {ks : List Nd} {D : Nat} (h : ∀ x ∈ ks, Wn x <= D) : Wo ks <= D := by
 induction ks with
 | nil => simp [Wo]
 | cons x r ih =>
  have h1 := h x (by simp)
  have h2 := ih fun y hy => h y (by simp [hy])
  rw [Wo]; omega
theorem fit_block {t : Nd} (h : WF t 6 = true) : WF t 5 = true := by
 obtain ⟨k, n, m, ks⟩ := t
 rw [WF] at h ⊢
 split at h
 ·rename_i hk
  rw [if_pos hk]
  simp only [Bool.and_eq_true] at h ⊢
  refine ⟨⟨?_, h.1.2⟩, h.2⟩
  have h1 := h.1.1
  unfold isB at h1 ⊢
  simp only [Bool.or_eq_true, Bool.and_eq_true, decide_eq_true_eq] at h1 ⊢
  rcases h1 with (h1 | ⟨_, h1⟩) | ⟨_, h1⟩
  ·exact .inr ⟨h1, trivial⟩
  ·exact absurd h1 (by decide)
  ·exact absurd h1 (by decide)
 ·cases h
theorem fit_rng {k : Int} (h : 0 <= k /\ k < 28) : -8 <= (shapesL.getD k.toNat noSh).low /\ (shapesL.getD k.toNat noSh).high <= 13 /\ (shapesL.getD k.toNat noSh).last <= 2 := by
 have : ∀ i : Fin 28, -8 <= (shapesL.getD i.val noSh).low /\ (shapesL.getD i.val noSh).high <= 13 /\ (shapesL.getD i.val noSh).last <= 2 := by decide
 exact this ⟨k.toNat, by omega⟩
theorem okL_of {ks : List Nd} (h : ∀ x ∈ ks, okN x) : okL ks := by
 induction ks with
 | nil => rw [okL]; trivial
 | cons x r ih => rw [okL]; exact ⟨h x (by simp), ih fun y hy => h y (by simp [hy])⟩
theorem fit_ok (t : Nd) : ∀ w, WF t w = true -> okN t := by
 induction t using Nd.ind with
 | h k n m ks ih =>
 intro w h
 rw [WF] at h
 split at h
 ·rename_i hk
  have hr := fit_rng hk
  simp only [Bool.and_eq_true] at h
  obtain ⟨⟨_, h1⟩, h2⟩ := h
  unfold rngB at h1
  simp only [Bool.and_eq_true, decide_eq_true_eq] at h1
  rw [okN]
  refine ⟨⟨⟨by omega, by omega⟩, ⟨by omega, by omega⟩, ⟨by omega, by omega⟩⟩, okL_of fun x hx => ?_⟩
  obtain ⟨i, hi, rfl⟩ := List.getElem_of_mem hx
  rw [fitsF_eq] at h2
  split at h2
  ·unfold funB at h2
   simp only [Bool.and_eq_true, List.length_map] at h2
   by_cases hl : i = ks.length - 1
   ·have h3 := h2.1.2
    rw [qc ks WF (by omega)] at h3
    subst hl
    exact ih _ hx 6 h3
   ·have h3 := allI_iff.1 h2.2 i (by omega)
    rw [qc ks WF hi] at h3
    exact ih _ hx _ h3
  ·simp only [Bool.and_eq_true] at h2
   have h3 := h2.2
   unfold kidsB at h3
   rw [List.length_map] at h3
   have h4 := allI_iff.1 h3 i hi
   rw [qc ks WF hi] at h4
   exact ih _ hx _ h4
 ·cases h
abbrev GenF := Int -> Int -> Nd × Int × Int
theorem gen_skolem {pre : Int -> Int -> Prop} {R : Int -> Int -> Nd × Int × Int -> Prop} (h : ∀ a L, pre a L -> ∃ t, R a L t) : ∃ E : GenF, ∀ a L, pre a L -> R a L (E a L) := by
 classical
 refine ⟨fun a L => if h' : pre a L then Classical.choose (h a L h') else (.mk 0 0 0 [], 0, 0), fun a L h' => ?_⟩
 dsimp only
 rw [dif_pos h']
 exact Classical.choose_spec (h a L h')
def runM (E : GenF) : Nat -> Int -> Int -> List Nd × Int × Int
 | 0, a, L => ([], a, L)
 | n + 1, a, L => ((E a L).1 :: (runM E n (E a L).2.1 (E a L).2.2).1, (runM E n (E a L).2.1 (E a L).2.2).2)
def runP (E : GenF) : Nat -> Int -> Int -> List Nd × Int × Int
 | 0, a, L => ([], a, L)
 | n + 1, a, L => if 0 < L then ((E a L).1 :: (runP E n (E a L).2.1 (E a L).2.2).1, (runP E n (E a L).2.1 (E a L).2.2).2) else ([], a, L)
theorem runM_len (E : GenF) : ∀ n a L, (runM E n a L).1.length = n
 | 0, a, L => rfl
 | n + 1, a, L => by rw [runM, List.length_cons, runM_len E n]
theorem runP_len (E : GenF) : ∀ n a L, (runP E n a L).1.length <= n
 | 0, a, L => Nat.le_refl _
 | n + 1, a, L => by
  rw [runP]
  split
  ·have := runP_len E n (E a L).2.1 (E a L).2.2
   rw [List.length_cons]; omega
  ·exact Nat.zero_le _
end Go.Proofs
end
