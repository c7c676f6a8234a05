/-
  Part 14 of the proof: F1 P1 P2 P3.
-/
import Derived.Test.YtecbcpilcjmhlaaDoorZF1
import Derived.Test.YtecbcpilcjmhlaaDoorZF3
import Derived.Test.YtecbcpilcjmhlaaDoorZF4
import Derived.Test.YtecbcpilcjmhlaaDoorZF11
import Derived.Test.YtecbcpilcjmhlaaDoorZF13
set_option linter.unusedSimpArgs false
set_option linter.unusedVariables false
set_option maxRecDepth 10000
set_option maxHeartbeats 4000000
section
namespace Go.Proofs
open Go.Av
variable {G : Nat -> DV}
attribute [local irreducible] OpSem WB WQ WW ACalls Zo QY RV
open Go.Bl
def blastR (ts : List Nd) : DV :=
 if ZH (Ww ts).1 = true then .tup [.agg [.i 0, .nil, .nil, .nil, .nil], .i 4]
 else .tup [.agg [.i (Ww ts).1.vars, QG (Ww ts).1.cl, QG (QX ts).nm, QG (QX ts).ty, QG (QX ts).fi], .i 0]
theorem fresh_x (v : Int) (hv : 0 <= v /\ v < 1099511627776) : FR Tryd.prog G 38 v (.i (v + 1)) (v + 1) := fun g0 g1 g2 g3 c2 c3 c4 cl m sn h2 h3 h4 hm hsn B b0 b1 b2 b3 => by
 refine Qc Tryd.func38 rfl Tryd.ntmps38 rfl (t := [(0, .ptr 0 g0 0)]) rfl fun E hE => ?_
 (repeat' first | refine Qu rfl ?_ | refine QA rfl ?_ | refine Qb rfl rfl rfl ?_ | refine Q5 rfl rfl (by omega) ?_ | refine Wb rfl rfl rfl rfl (by rfl) (by rfl) (by rfl) ?_ | refine Qd rfl rfl ?_ | refine Q7 rfl rfl ?_ | refine Qe ?_ | refine Qs rfl ?_ | refine QZ ?_ | refine Qg ?_ | refine Qa ?_ | refine Qq ?_)
 exact e_1 (Tryd.results38) (Qh rfl) (Zg ⟨rfl, rfl⟩)
theorem blast_c (hG0 : G 0 = qE) (hG1 : G 1 = pow10T) {F : Int -> Int} {ts : List Nd} (hts : Lot F ts) : Go.Av.Pure Tryd.prog G 12 [QG ts] (blastR ts) := fun B => by
 have hlen := hts.len
 refine Qc Tryd.func12 rfl Tryd.ntmps12 rfl (t := [(0, QG ts)]) rfl fun E hE => ?_
 (repeat' first | refine Qu rfl ?_ | refine QA rfl ?_ | refine Qj rfl ?_ | refine s_mkmap_i (fun _ _ => ?_) | refine QH (fun _ _ => ?_) | refine Qe ?_ | refine Qs rfl ?_ | refine Qg ?_ | refine Qa ?_ | refine Qf ?_)
 rename_i gR hgR gF hgF
 refine Wv (fun (i : Nat) => ⟨[(0, QG ts), (2, .ptr 0 gR 0), (3, .i 0), (4, .mp 1 gF), (16, QG ts), (17, .i ts.length), (18, .i i)], [.row gR [.i 0, .nil, .nil, .nil, .nil], .mapb gF (Wp (Zv (Q1 (ts.take i) []).2))]⟩) (fun i => i <= ts.length) (fun i => ts.length - i) 0 ?_ (by omega) ?_
 ·exact zal rfl
 intro i hi
 have hf0 := found_ok (F := F) (ts := ts.take i) (M := []) (fun t ht => hts.ty t (List.mem_of_mem_take ht)) (fun t ht => hts.con t (List.mem_of_mem_take ht)) (fun n m h => by cases h)
 (repeat' first | refine QL rfl rfl ?_ | refine Qe ?_ | refine Qs rfl ?_ | refine Qg ?_ | refine Qa ?_)
 refine QE rfl (fun h => ?_) (fun h => ?_)
 ·have hi2 : i < ts.length := by omega
  have hti := hts.ty _ (List.getElem_mem hi2)
  have hci := hts.con _ (List.getElem_mem hi2)
  have hva := valid_tt (G := G) hG0 hti hci
  have htm := types_c (G := G) ts[i] hti.fit (Q1 (ts.take i) []).2
  have ht1 := (types_ok hti hci _ hf0.2.1).1
  have hsu := typesL_take hi2 hf0.1
  rw [ht1] at htm
  rw [<- hsu] at htm
  clear hsu ht1 hf0
  (repeat' first | refine Qu rfl ?_ | refine QA rfl ?_ | refine Qm rfl rfl (by first | assumption | exact Enc.len _ | rfl) ?_ | refine QC rfl ?_ | refine Ql rfl rfl (by first | assumption | omega | (simp; done) | (simp; omega)) ?_ | refine Wu rfl rfl ?_ | refine Q5 rfl rfl (by omega) ?_ | refine Wa rfl rfl (hva) ?_ | refine s_ctm 1 (htm) rfl rfl rfl ?_ | refine Wm rfl rfl ?_ | refine Qi rfl rfl rfl (by first | assumption | exact Enc.len _ | rfl) (by first | assumption | exact Enc.len _ | rfl) rfl ?_ | refine WC rfl ?_ | refine Q4 rfl rfl rfl ?_ | refine QH (fun _ _ => ?_) | refine Qe ?_ | refine Qs rfl ?_ | refine QZ ?_ | refine WK rfl rfl rfl rfl ?_ | refine Qg ?_ | refine Qa ?_ | refine Qf ?_ | refine Qk ?_ | refine Qo rfl ?_)
  refine ⟨i + 1, by omega, by omega, ?_⟩
  exact zal rfl
 have hi3 : i = ts.length := by omega
 subst hi3
 rw [List.take_length] at hf0 ⊢
 clear h hi
 have hsF := hf0.2.1
 have hV := varsT_ok hsF
 have hfo : (Q1 ts []).2 = WX ts := rfl
 rw [hfo] at hV hsF ⊢
 clear hf0 hfo
 have hfr := fresh_x (G := G) 0 (by omega)
 (repeat' first | refine Qu rfl ?_ | refine QA rfl ?_ | refine s_call_fr5 (cl := []) rfl rfl hfr rfl (by simp [DV.clo]) (by simp [DV.clo]) (by simp [DV.clo]) ZG ZG Qx ?_ | refine s_app_z (xs := ([[1]] : List (List Int))) rfl rfl rfl rfl rfl (by simp) (by simp) (fun _ => rfl) (fun _ _ => ?_) | refine Wb rfl rfl rfl rfl (by rfl) (by rfl) (by rfl) ?_ | refine s_mkmap_i (fun _ _ => ?_) | refine Qd rfl rfl ?_ | refine W1 rfl rfl ?_ | refine Q7 rfl rfl ?_ | refine QU rfl rfl (fun _ _ => ?_) | refine Qe ?_ | refine Qs rfl ?_ | refine Qg ?_ | refine Qa ?_ | refine Qf ?_ | (refine Q0 ?_; first | (refine r_drawz (fun p => p.1 :: p.2.1 :: p.2.2.1 :: p.2.2.2.1 :: .row gR [p.2.2.2.2.1] :: p.2.2.2.2.2) [100] [] [(0, true)] (by rfl) (by rfl) (by rfl) (by kernel_rfl) (by decide +kernel) (by decide) (by decide +kernel) ⟨(_, _, _, _, _, _), rfl⟩ ?_) | (refine r_drawz (fun p => p.1 :: p.2.1 :: .mapb gA (Wp (Zv (putI q.A (i : Int) (q.v + 1)))) :: p.2.2.1 :: .row g0 [.sc (.int .i64 q.v), .ref 5 gc 0 1 1, .ref 6 gn 0 q.nm.length 1, .ref 7 gt 0 q.ty.length 1, .ref 8 gf 0 q.fi.length 1, .mp 2 gA, .mp 3 gS] :: p.2.2.2) [32, 33, 34, 35, 36, 37, 38, 39, 40, 41, 42, 43, 1, 2] [1, 2] [(0, true), (3, true), (4, true), (5, true), (6, true), (7, true), (8, true), (9, true), (11, true), (12, true), (13, true), (14, true), (15, true), (16, true), (17, true), (19, true), (20, true), (21, true), (22, true), (23, true), (24, true), (25, true), (26, true), (27, true), (28, true), (29, true), (30, true), (10, false), (18, false), (31, false), (32, false), (33, false), (34, false), (35, false), (36, false), (37, false), (38, false), (39, false), (40, false), (41, false), (42, false), (43, false)] (by rfl) (by rfl) (by rfl) (by kernel_rfl) (by decide +kernel) (by decide) (by decide +kernel) ⟨(_, _, _, _), rfl⟩ ?_) | (rename_i gA hgA gS hgS g0 hg0; refine r_ownin 4 1 1 rfl rfl (fun _ => rfl) (fun g1 hg1 => ?_); refine r_drawz (fun p => p.1 :: p.2.1 :: p.2.2.1 :: p.2.2.2.1 :: .row g0 [p.2.2.2.2.1, .ref 5 g1 0 0 1, .nil, .nil, .nil, .mp 2 gA, .mp 3 gS] :: p.2.2.2.2.2) [11, 12, 13, 14] [] [(0, true), (1, true), (2, true), (3, true), (4, true), (5, true), (6, true), (7, false), (8, true), (9, true), (10, false), (11, false), (12, false), (13, false), (14, false)] (by rfl) (by rfl) (by rfl) (by kernel_rfl) (by decide +kernel) (by decide) (by decide +kernel) ⟨(_, _, _, _, _, _), rfl⟩ ?_) | refine Q3 (by rfl) (by kernel_rfl) (by kernel_rfl) ?_ | refine QP (by kernel_rfl) (by kernel_rfl) ?_) | refine Q2 rfl ?_ | refine zp_nil ?_ | refine z_nil ?_ | refine z_st rfl rfl (fun _ => (by (repeat' first | refine Qu rfl ?_ | refine Qb rfl rfl rfl ?_ | refine Wi rfl rfl (by decide) rfl ?_ | refine Qd rfl rfl ?_ | refine Q7 rfl rfl ?_ | exact ⟨rfl, rfl⟩))) ?_ | refine z_lf rfl rfl rfl ?_ | refine z_lf0 rfl rfl ?_ | refine z_ef rfl rfl ?_ | refine And.intro (Exists.intro ((_, _, _, _, _, _)) rfl) ?_)
 rename_i gc hgc
 refine r_ownin 4 2 1 rfl rfl (fun _ => rfl) (fun gn hgn => ?_)
 refine r_ownin 4 3 1 rfl rfl (fun _ => rfl) (fun gt hgt => ?_)
 refine r_ownin 4 4 1 rfl rfl (fun _ => rfl) (fun gf hgf => ?_)
 refine r_loop4 (fun (i : Nat) gn gt gf => ⟨[(0, QG ts), (2, .ptr 0 gR 0), (3, .i 0), (4, .mp 1 gF), (9, .ptr 4 g0 0), (59, .i i)], [.row gR [.i 0, .nil, .nil, .nil, .nil], .mapb gF (Wp (Zv (WX ts))), .mapb gA (Wp (Zv (Zi (WX ts) i).A)), .mapb gS (Zw []), .row g0 [.sc (.int .i64 (Zi (WX ts) i).v), .ref 5 gc 0 1 1, .ref 6 gn 0 (Zi (WX ts) i).nm.length 1, .ref 7 gt 0 (Zi (WX ts) i).ty.length 1, .ref 8 gf 0 (Zi (WX ts) i).fi.length 1, .mp 2 gA, .mp 3 gS], .row gc (Qt ([[1]] : List (List Int))), .row gn (Qt (Zi (WX ts) i).nm), .row gt (Qt (Zi (WX ts) i).ty), .row gf (Qt (Zi (WX ts) i).fi)]⟩) (fun i gn gt gf => i <= 64 /\ E.N < gn /\ E.N < gt /\ E.N < gf) (fun i => 64 - i) 0 gn gt gf ?_ ⟨by omega, hgn, hgt, hgf⟩ ?_
 ·exact zal rfl
 intro i gn gt gf ⟨hi, hgn, hgt, hgf⟩
 have hVi := hV i
 have hs1 : Zi (WX ts) (i + 1) = stepV (WX ts) (Zi (WX ts) i) i := rfl
 (repeat' first | refine QL rfl rfl ?_ | refine Qe ?_ | refine Qs rfl ?_ | refine Qg ?_ | refine Qa ?_)
 refine QE rfl (fun h => ?_) (fun h => ?_)
 ·cases hget : W8 (WX ts) (i : Int) with
  | none =>
   rw [show stepV (WX ts) (Zi (WX ts) i) i = Zi (WX ts) i by unfold stepV; rw [hget]] at hs1
   generalize Zi (WX ts) i = q at *
   (repeat' first | refine Qu rfl ?_ | refine QA rfl ?_ | refine Q5 rfl rfl (by omega) ?_ | refine s_lookup_i0 rfl rfl rfl (by kernel_rfl) hget ?_ | refine WC rfl ?_ | refine Q4 rfl rfl rfl ?_ | refine Qe ?_ | refine Qs rfl ?_ | refine Qg ?_ | refine Qa ?_ | refine Qf ?_ | refine Qk ?_ | refine QB rfl ?_ | refine Q2 rfl ?_)
   refine ⟨i + 1, gn, gt, gf, ⟨by omega, by omega, by omega, by omega⟩, by omega, ?_⟩
   rw [hs1]
   exact zal rfl
  | some m =>
   have hwi := width_c (G := G) m
   have hw : 1 <= width m /\ width m <= 4 := by unfold width; split <;> omega
   rw [show stepV (WX ts) (Zi (WX ts) i) i = ⟨putI (Zi (WX ts) i).A i ((Zi (WX ts) i).v + 1), (Zi (WX ts) i).nm ++ [(i : Int)], (Zi (WX ts) i).ty ++ [m], (Zi (WX ts) i).fi ++ [(W8 (putI (Zi (WX ts) i).A i ((Zi (WX ts) i).v + 1)) i).getD 0], (Zi (WX ts) i).v + width m⟩ by unfold stepV; rw [hget]] at hs1
   generalize Zi (WX ts) i = q at *
   have v1 := hVi.v1
   have v2 := hVi.v2
   have l1 := hVi.l1
   have l2 := hVi.l2
   have l3 := hVi.l3
   clear hV hVi
   (repeat' first | refine Qu rfl ?_ | refine QA rfl ?_ | refine Q5 rfl rfl (by omega) ?_ | refine Z5 rfl rfl rfl rfl rfl rfl rfl (by first | omega | (simp; omega)) (by first | omega | (simp; omega)) (fun _ => rfl) (fun _ _ => ?_) | refine Wb rfl rfl rfl rfl (by rfl) (by rfl) (by rfl) ?_ | refine s_lookup_i1 rfl rfl rfl (by kernel_rfl) hget ?_ | refine qk rfl rfl rfl rfl (by rfl) ?_ | refine WC rfl ?_ | refine Qd rfl rfl ?_ | refine Q4 rfl rfl rfl ?_ | refine Q7 rfl rfl ?_ | refine Qe ?_ | refine Qs rfl ?_ | refine QZ ?_ | refine Qg ?_ | refine Qa ?_ | refine Qf ?_ | (refine Q0 ?_; first | (refine r_drawz (fun p => p.1 :: p.2.1 :: p.2.2.1 :: p.2.2.2.1 :: .row gR [p.2.2.2.2.1] :: p.2.2.2.2.2) [100] [] [(0, true)] (by rfl) (by rfl) (by rfl) (by kernel_rfl) (by decide +kernel) (by decide) (by decide +kernel) ⟨(_, _, _, _, _, _), rfl⟩ ?_) | (refine r_drawz (fun p => p.1 :: p.2.1 :: .mapb gA (Wp (Zv (putI q.A (i : Int) (q.v + 1)))) :: p.2.2.1 :: .row g0 [.sc (.int .i64 q.v), .ref 5 gc 0 1 1, .ref 6 gn 0 q.nm.length 1, .ref 7 gt 0 q.ty.length 1, .ref 8 gf 0 q.fi.length 1, .mp 2 gA, .mp 3 gS] :: p.2.2.2) [32, 33, 34, 35, 36, 37, 38, 39, 40, 41, 42, 43, 1, 2] [1, 2] [(0, true), (3, true), (4, true), (5, true), (6, true), (7, true), (8, true), (9, true), (11, true), (12, true), (13, true), (14, true), (15, true), (16, true), (17, true), (19, true), (20, true), (21, true), (22, true), (23, true), (24, true), (25, true), (26, true), (27, true), (28, true), (29, true), (30, true), (10, false), (18, false), (31, false), (32, false), (33, false), (34, false), (35, false), (36, false), (37, false), (38, false), (39, false), (40, false), (41, false), (42, false), (43, false)] (by rfl) (by rfl) (by rfl) (by kernel_rfl) (by decide +kernel) (by decide) (by decide +kernel) ⟨(_, _, _, _), rfl⟩ ?_) | (rename_i gA hgA gS hgS g0 hg0; refine r_ownin 4 1 1 rfl rfl (fun _ => rfl) (fun g1 hg1 => ?_); refine r_drawz (fun p => p.1 :: p.2.1 :: p.2.2.1 :: p.2.2.2.1 :: .row g0 [p.2.2.2.2.1, .ref 5 g1 0 0 1, .nil, .nil, .nil, .mp 2 gA, .mp 3 gS] :: p.2.2.2.2.2) [11, 12, 13, 14] [] [(0, true), (1, true), (2, true), (3, true), (4, true), (5, true), (6, true), (7, false), (8, true), (9, true), (10, false), (11, false), (12, false), (13, false), (14, false)] (by rfl) (by rfl) (by rfl) (by kernel_rfl) (by decide +kernel) (by decide) (by decide +kernel) ⟨(_, _, _, _, _, _), rfl⟩ ?_) | refine Q3 (by rfl) (by kernel_rfl) (by kernel_rfl) ?_ | refine QP (by kernel_rfl) (by kernel_rfl) ?_) | refine Qk ?_ | refine Qo rfl ?_ | refine qb rfl (by (repeat' first | refine Qu rfl ?_ | refine Qb rfl rfl rfl ?_ | refine Q5 rfl rfl (by omega) ?_ | refine Wa rfl rfl (hwi) ?_ | refine s_lookup_i rfl rfl rfl (by kernel_rfl) ?_ | refine Wi rfl rfl (by decide) rfl ?_ | refine Qd rfl rfl ?_ | refine Q7 rfl rfl ?_ | exact ⟨rfl, rfl⟩)) ?_ | refine ZS ?_ | refine zp_nil ?_ | refine zp_st rfl (fun _ => (by (repeat' first | refine Qu rfl ?_ | refine Qb rfl rfl rfl ?_ | refine Q5 rfl rfl (by omega) ?_ | refine Wa rfl rfl (hwi) ?_ | refine s_lookup_i rfl rfl rfl (by kernel_rfl) ?_ | refine Wi rfl rfl (by decide) rfl ?_ | refine Qd rfl rfl ?_ | refine Q7 rfl rfl ?_ | exact ⟨rfl, rfl⟩))) ?_ | refine z_nil ?_ | refine z_st rfl rfl (fun _ => (by (repeat' first | refine Qu rfl ?_ | refine Qb rfl rfl rfl ?_ | refine Q5 rfl rfl (by omega) ?_ | refine Wa rfl rfl (hwi) ?_ | refine s_lookup_i rfl rfl rfl (by kernel_rfl) ?_ | refine Wi rfl rfl (by decide) rfl ?_ | refine Qd rfl rfl ?_ | refine Q7 rfl rfl ?_ | exact ⟨rfl, rfl⟩))) ?_ | refine z_lf rfl rfl rfl ?_ | refine z_lf0 rfl rfl ?_ | refine z_ef rfl rfl ?_ | refine And.intro (Exists.intro ((_, _, _, _)) rfl) ?_)
   rename_i gn' hgn' gt' hgt' gf' hgf'
   refine ⟨i + 1, gn', gt', gf', ⟨by omega, by omega, by omega, by omega⟩, by omega, ?_⟩
   rw [hs1]
   exact zal rfl
 have hi4 : i = 64 := by omega
 subst hi4
 clear h hs1 hi
 have hbv : Zi (WX ts) 64 = QX ts := rfl
 rw [hbv] at hVi ⊢
 have hb0 : Ww ts = WP (QX ts).A ⟨(QX ts).v, [[1]]⟩ ts := rfl
 have hR : blastR ts = if ZH (Ww ts).1 = true then .tup [.agg [.i 0, .nil, .nil, .nil, .nil], .i 4] else .tup [.agg [.i (Ww ts).1.vars, QG (Ww ts).1.cl, QG (QX ts).nm, QG (QX ts).ty, QG (QX ts).fi], .i 0] := rfl
 rw [hR]
 have hT := termsT_ok (F := F) (ts := ts) (A := (QX ts).A) (s0 := ⟨(QX ts).v, [[1]]⟩) ⟨by have := hVi.v1; show 0 <= (QX ts).v; omega, by have := hVi.v2; show (QX ts).v <= _; omega, Nat.le_of_ble_eq_true rfl⟩ hts (by have := hVi.v2; show (QX ts).v <= 1000; omega) (at_ok hts hVi)
 rw [hb0]
 have c2 := Qz (QX ts).nm
 have c3 := Qz (QX ts).ty
 have c4 := Qz (QX ts).fi
 generalize QX ts = q at *
 clear hV hbv hb0 hVi hR
 refine r_pubin 4 2 rfl rfl rfl c2.symm rfl rfl ?_
 refine r_pubin 4 3 rfl rfl rfl c3.symm rfl rfl ?_
 refine r_pubin 4 4 rfl rfl rfl c4.symm rfl rfl ?_
 have d2 : (QG q.nm).clo = true := QV _
 have d3 : (QG q.ty).clo = true := QV _
 have d4 : (QG q.fi).clo = true := QV _
 (repeat' first | refine Qu rfl ?_ | refine Qj rfl ?_ | refine Qe ?_ | refine Qs rfl ?_ | refine Qg ?_ | refine Qa ?_ | refine Qf ?_ | refine Q2 rfl ?_)
 refine ZV (fun (i gd : Nat) => ⟨[(0, QG ts), (2, .ptr 0 gR 0), (3, .i 0), (9, .ptr 4 g0 0), (134, QG ts), (135, .i ts.length), (136, .i i)], [.row gR [.i 0, .nil, .nil, .nil, .nil], .mapb gF (Wp (Zv (WX ts))), .mapb gA (Wp (Zv q.A)), .mapb gS (Zw (WP q.A ⟨q.v, [[1]]⟩ (ts.take i)).2), .row g0 [.sc (.int .i64 (WP q.A ⟨q.v, [[1]]⟩ (ts.take i)).1.vars), .ref 5 gd 0 (WP q.A ⟨q.v, [[1]]⟩ (ts.take i)).1.cl.length 1, QG q.nm, QG q.ty, QG q.fi, .mp 2 gA, .mp 3 gS], .row gd (Qt (WP q.A ⟨q.v, [[1]]⟩ (ts.take i)).1.cl)]⟩) (fun i gd => i <= ts.length /\ E.N < gd) (fun i _ => ts.length - i) 0 gc ?_ ⟨by omega, hgc⟩ ?_
 ·exact zal rfl
 intro i gd ⟨hi, hgd⟩
 obtain ⟨hTo, hTS, hTa, hTv⟩ := hT i
 (repeat' first | refine QL rfl rfl ?_ | refine Qe ?_ | refine Qs rfl ?_ | refine Qg ?_ | refine Qa ?_)
 refine QE rfl (fun h => ?_) (fun h => ?_)
 ·have hi2 : i < ts.length := by omega
  have hti := hts.ty _ (List.getElem_mem hi2)
  have hci := hts.con _ (List.getElem_mem hi2)
  have hsz : QI ts[i] <= 100000 := Nat.le_trans (WT (List.getElem_mem hi2)) hts.size
  have hAi := hTa _ (List.getElem_mem hi2)
  have hs1 := termsT_succ q.A ⟨q.v, [[1]]⟩ hi2
  generalize WP q.A ⟨q.v, [[1]]⟩ (ts.take i) = x at *
  have hbi := bits_c (G := G) hG0 hG1 hti hci hsz x.1 x.2 hTo (by omega) hTS hAi
  have hbo := (qg hti hci x.1 x.2 hTo (by omega) hTS hAi).2
  generalize QQ q.A ts[i] x.1 x.2 = y at *
  have hyl : 0 < y.1.length := by have := hbo.len; omega
  have had := add_c (G := G) y.2.1 hbo.g.ok [y.1.getD 0 0] (by simp)
  clear hT hts hbo hTv hTa hTo hTS
  (repeat' first | refine Qu rfl ?_ | refine Qm rfl rfl (by first | assumption | exact Enc.len _ | rfl) ?_ | refine QC rfl ?_ | refine Ql rfl rfl (by first | assumption | omega | (simp; done) | (simp; omega)) ?_ | refine Q5 rfl rfl (by omega) ?_ | refine s_call_bs5 rfl rfl hbi rfl (by assumption) (by assumption) (by assumption) (by repeat' first | exact QW | refine QF ?_ ?_ | exact Qx | exact Qw (Enc.clo _) | exact Qw (Qn _)) (Qw (Qn _)) (fun _ _ => ?_) | refine s_call_ba5 rfl rfl had rfl (by assumption) (by assumption) (by assumption) ZG qu (by rfl) (by rfl) (by rfl) (by rfl) (by rfl) (by rfl) (fun _ _ => ?_) | refine Qi rfl rfl rfl (by first | assumption | exact Enc.len _ | rfl) (by first | assumption | exact Enc.len _ | rfl) rfl ?_ | refine s_index_e rfl rfl (by decide) (by assumption) ?_ | refine qx (cs := [.i (y.1.getD 0 0)]) rfl rfl (by decide) rfl rfl (fun _ _ => ?_) | refine QH (fun _ _ => ?_) | refine Qe ?_ | refine Qs rfl ?_ | refine QZ ?_ | refine Qg ?_ | refine Qa ?_ | refine Qf ?_ | refine Qk ?_)
  rename_i ge hge
  refine ⟨i + 1, ge, ⟨by omega, by omega⟩, by omega, ?_⟩
  rw [hs1]
  exact zal rfl
 have hi3 : i = ts.length := by omega
 subst hi3
 rw [List.take_length] at *
 generalize WP q.A ⟨q.v, [[1]]⟩ ts = x at *
 have hfu := full_c (G := G) x.1 hTo
 have c1 := Qz x.1.cl
 clear h hT hTa hTv hTS hi
 cases hf : ZH x.1 with
 | true =>
  rw [hf] at hfu
  rw [if_pos rfl]
  (repeat' first | refine Qu rfl ?_ | refine QA rfl ?_ | refine s_call_bm5 rfl rfl hfu rfl (by assumption) (by assumption) (by assumption) ZG qu QW Qx (fun _ _ => ?_) | refine Qi rfl rfl rfl (by first | assumption | exact Enc.len _ | rfl) (by first | assumption | exact Enc.len _ | rfl) rfl ?_ | refine W1 rfl rfl ?_ | refine Qe ?_ | refine Qs rfl ?_ | refine QZ ?_ | refine Qg ?_ | refine Qa ?_ | refine QB rfl ?_ | refine Q2 rfl ?_ | refine Qq ?_)
  exact e_2 (Tryd.results12) (QR (size := 5) rfl rfl rfl rfl) (Qh rfl) (QD rfl)
 | false =>
  rw [if_neg (by decide)]
  (repeat' first | refine Qu rfl ?_ | refine s_call_bm5 rfl rfl hfu rfl (by assumption) (by assumption) (by assumption) ZG qu QW Qx (fun _ _ => ?_) | refine Qe ?_ | refine Qs rfl ?_ | refine Qg ?_ | refine Qa ?_ | refine Q2 rfl ?_)
  rw [hf]
  refine r_pubin 4 1 rfl rfl rfl c1.symm rfl rfl ?_
  (repeat' first | refine Qu rfl ?_ | refine QA rfl ?_ | refine s_load_rowa rfl rfl (by rfl) (by rfl) ?_ | refine Qi rfl rfl rfl (by first | assumption | exact Enc.len _ | rfl) (by first | assumption | exact Enc.len _ | rfl) rfl ?_ | refine Qd rfl rfl ?_ | refine Q7 rfl rfl ?_ | refine Qe ?_ | refine Qs rfl ?_ | refine QZ ?_ | refine Qg ?_ | refine Qa ?_ | refine Qk ?_ | refine Qo rfl ?_ | refine Qq ?_)
  exact e_2 (Tryd.results12) (QR (size := 5) rfl rfl rfl rfl) (Qh rfl) (QD rfl)
end Go.Proofs
end
section
namespace Go.Bl
def ltv (a : Nat -> Bool) (x : Int) : Bool := if 0 < x then a x.toNat else !(a (-x).toNat)
def Lt (n : Int) (x : Int) : Prop := x ≠ 0 /\ -n <= x /\ x <= n
def al (a : Nat -> Bool) (v : Int) : Int := if a v.toNat = true then v else -v
def Forced (a : Nat -> Bool) (cl : List (List Int)) (v : Int) : Prop := ∃ c ∈ cl, al a v ∈ c /\ ∀ y ∈ c, y = al a v \/ (ltv a y = false /\ -v < y /\ y < v)
structure GoodB (base : Int -> Prop) (p : Prop) (f : Int) (a : Nat -> Bool) (s : St) : Prop where
 v1 : 1 <= s.vars
 t : a 1 = true
 sat : ∀ c ∈ s.cl, p -> ∃ y ∈ c, ltv a y = true
 lits : ∀ c ∈ s.cl, ∀ y ∈ c, Lt s.vars y
 force : ∀ v, 1 <= v -> v <= f -> base v \/ Forced a s.cl v
def Agree (n : Int) (a a' : Nat -> Bool) : Prop := ∀ k : Nat, (k : Int) <= n -> a' k = a k
structure Le (s s' : St) : Prop where
 v : s.vars <= s'.vars
 c : s.cl.length <= s'.cl.length
structure Ext (base : Int -> Prop) (p : Prop) (a : Nat -> Bool) (s : St) (a' : Nat -> Bool) (s' : St) : Prop where
 good : GoodB base p s'.vars a' s'
 ag : Agree s.vars a a'
 le : s.vars <= s'.vars
theorem Lt.neg {n x : Int} (h : Lt n x) : Lt n (-x) := by obtain ⟨h1, h2, h3⟩ := h; exact ⟨by omega, by omega, by omega⟩
theorem Lt.mono {n m x : Int} (h : Lt n x) (hm : n <= m) : Lt m x := by obtain ⟨h1, h2, h3⟩ := h; exact ⟨h1, by omega, by omega⟩
theorem WV {a : Nat -> Bool} {x : Int} (h : x ≠ 0) : ltv a (-x) = !ltv a x := by
 unfold ltv
 by_cases h1 : 0 < x
 ·rw [if_neg (by omega), if_pos h1, Int.neg_neg]
 ·rw [if_pos (by omega), if_neg h1, Bool.not_not]
theorem Zy {n : Int} {a a' : Nat -> Bool} (h : Agree n a a') {x : Int} (hx : Lt n x) : ltv a' x = ltv a x := by
 obtain ⟨h1, h2, h3⟩ := hx
 unfold ltv
 rw [h x.toNat, h (-x).toNat]
 all_goals omega
theorem ltv_one {a : Nat -> Bool} (h : a 1 = true) : ltv a 1 = true := h
theorem ltv_m1 {a : Nat -> Bool} (h : a 1 = true) : ltv a (-1) = false := by show (!(a 1)) = false; rw [h]; rfl
theorem ltv_al {a : Nat -> Bool} {v : Int} (hv : 0 < v) : ltv a (al a v) = true := by
 unfold al
 cases h : a v.toNat
 ·rw [if_neg (by simp)]
  unfold ltv; rw [if_neg (by omega), Int.neg_neg, h]; rfl
 ·rw [if_pos rfl]
  unfold ltv; rw [if_pos hv, h]
theorem Agree.refl (n : Int) (a : Nat -> Bool) : Agree n a a := fun _ _ => rfl
theorem Agree.trans {n m : Int} {a b c : Nat -> Bool} (h : Agree n a b) (k : Agree m b c) (hm : n <= m) : Agree n a c := fun i hi => (k i (by omega)).trans (h i hi)
theorem Le.refl (s : St) : Le s s := ⟨Int.le_refl _, Nat.le_refl _⟩
theorem Le.trans {s t u : St} (h : Le s t) (k : Le t u) : Le s u := ⟨Int.le_trans h.v k.v, Nat.le_trans h.c k.c⟩
theorem Le.nf {s t : St} (h : Le s t) (nf : ZH t = false) : ZH s = false := by
 unfold ZH at *
 rw [Bool.or_eq_false_iff] at *
 obtain ⟨h1, h2⟩ := nf
 have h1 := of_decide_eq_false h1
 have h2 := of_decide_eq_false h2
 have := h.v
 have := h.c
 exact ⟨decide_eq_false (by omega), decide_eq_false (by omega)⟩
theorem Ext.refl {base : Int -> Prop} {p : Prop} {a : Nat -> Bool} {s : St} (h : GoodB base p s.vars a s) : Ext base p a s a s := ⟨h, .refl _ _, Int.le_refl _⟩
theorem Ext.trans {base : Int -> Prop} {p : Prop} {a b c : Nat -> Bool} {s t u : St} (h : Ext base p a s b t) (k : Ext base p b t c u) : Ext base p a s c u := ⟨k.good, h.ag.trans k.ag h.le, Int.le_trans h.le k.le⟩
theorem Ext.ltv {base : Int -> Prop} {p : Prop} {a b : Nat -> Bool} {s t : St} (h : Ext base p a s b t) {x : Int} (hx : Lt s.vars x) : Bl.ltv b x = Bl.ltv a x := Zy h.ag hx
theorem Ext.lt {base : Int -> Prop} {p : Prop} {a b : Nat -> Bool} {s t : St} (h : Ext base p a s b t) {x : Int} (hx : Lt s.vars x) : Lt t.vars x := hx.mono h.le
theorem qi (s : St) (l : List Int) : Le s (add s l) := by
 unfold add
 split
 ·exact .refl s
 ·exact ⟨Int.le_refl _, by simp⟩
theorem fresh_le (s : St) : Le s (fresh s) := ⟨by show s.vars <= s.vars + 1; omega, Nat.le_refl _⟩
theorem and_le (s : St) (x y : Int) : Le s (and s x y).2 := by
 unfold and
 split
 ·exact .refl s
 ·split
  ·exact .refl s
  ·split
   ·exact .refl s
   ·exact (((fresh_le s).trans (qi _ _)).trans (qi _ _)).trans (qi _ _)
theorem or_le (s : St) (x y : Int) : Le s (or s x y).2 := and_le s (-x) (-y)
theorem xor_le (s : St) (x y : Int) : Le s (xor s x y).2 := by
 unfold xor
 split
 ·exact .refl s
 ·split
  ·exact .refl s
  ·split
   ·exact .refl s
   ·split
    ·exact .refl s
    ·exact ((((fresh_le s).trans (qi _ _)).trans (qi _ _)).trans (qi _ _)).trans (qi _ _)
theorem Forced.mono {a : Nat -> Bool} {cl cl' : List (List Int)} {v : Int} (h : Forced a cl v) (hc : ∀ c ∈ cl, c ∈ cl') : Forced a cl' v := by
 obtain ⟨c, h1, h2⟩ := h; exact ⟨c, hc c h1, h2⟩
theorem qh (s : St) (l : List Int) : ∀ c ∈ s.cl, c ∈ (add s l).cl := fun c hc => by
 unfold add
 split
 ·exact hc
 ·exact List.mem_append.2 (.inl hc)
theorem add_nf {s : St} {l : List Int} (nf : ZH s = false) : add s l = if l.contains 1 = true then s else ⟨s.vars, s.cl ++ [kept l]⟩ := by
 unfold add; rw [nf]; rfl
theorem mem_kept {l : List Int} {y : Int} : y ∈ kept l ↔ y ∈ l /\ y ≠ -1 := by
 unfold kept
 rw [List.mem_filter]
 simp
theorem GoodB.add {base : Int -> Prop} {p : Prop} {f : Int} {a : Nat -> Bool} {s : St} (h : GoodB base p f a s) (nf : ZH s = false) {l : List Int} (hl : ∀ y ∈ l, Lt s.vars y) (ht : p -> ∃ y ∈ l, ltv a y = true) : GoodB base p f a (add s l) := by
 have hv := WH s l
 refine ⟨by rw [hv]; exact h.v1, h.t, ?_, ?_, fun v h1 h2 => (h.force v h1 h2).imp id fun h => h.mono (qh s l)⟩
 ·rw [add_nf nf]
  split
  ·exact h.sat
  ·intro c hc hp
   rcases List.mem_append.1 hc with hc | hc
   ·exact h.sat c hc hp
   ·rw [List.mem_singleton.1 hc]
    obtain ⟨y, hy, hy'⟩ := ht hp
    exact ⟨y, mem_kept.2 ⟨hy, fun e => by rw [e, ltv_m1 h.t] at hy'; cases hy'⟩, hy'⟩
 ·rw [hv]
  rw [add_nf nf]
  split
  ·exact h.lits
  ·intro c hc y hy
   rcases List.mem_append.1 hc with hc | hc
   ·exact h.lits c hc y hy
   ·rw [List.mem_singleton.1 hc] at hy
    exact hl y (mem_kept.1 hy).1
theorem Z7 {a : Nat -> Bool} {s : St} (nf : ZH s = false) {l : List Int} {v : Int} (hv : 2 <= v) (h1 : (1 : Int) ∉ l) (hm : al a v ∈ l) (ho : ∀ y ∈ l, y = al a v \/ (ltv a y = false /\ -v < y /\ y < v)) : Forced a (Bl.add s l).cl v := by
 rw [add_nf nf, if_neg (by simpa using h1)]
 refine ⟨kept l, List.mem_append.2 (.inr (List.mem_singleton.2 rfl)), mem_kept.2 ⟨hm, ?_⟩, fun y hy => ho y (mem_kept.1 hy).1⟩
 unfold al
 split <;> omega
def WJ (a : Nat -> Bool) (v : Int) (b : Bool) : Nat -> Bool := fun n => if (n : Int) = v then b else a n
theorem ZM {a : Nat -> Bool} {n : Int} {b : Bool} : Agree n a (WJ a (n + 1) b) := fun k hk => by unfold WJ; rw [if_neg (by omega)]
theorem setA1_ltv {a : Nat -> Bool} {v : Int} {b : Bool} (hv : 0 < v) : ltv (WJ a v b) v = b := by
 unfold ltv WJ
 rw [if_pos hv, if_pos (by omega)]
theorem al_of {a : Nat -> Bool} {v : Int} (hv : 0 < v) : al a v = if ltv a v = true then v else -v := by
 unfold al ltv; rw [if_pos hv]
theorem GoodB.fresh {base : Int -> Prop} {p : Prop} {a : Nat -> Bool} {s : St} (h : GoodB base p s.vars a s) (b : Bool) : GoodB base p s.vars (WJ a (s.vars + 1) b) (fresh s) := by
 have hag : Agree s.vars a (WJ a (s.vars + 1) b) := ZM
 have h1 := h.v1
 refine ⟨by show 1 <= s.vars + 1; omega, by rw [hag 1 (by omega)]; exact h.t, fun c hc hp => ?_, fun c hc y hy => (h.lits c hc y hy).mono (by show s.vars <= s.vars + 1; omega), fun v hv1 hv2 => (h.force v hv1 hv2).imp id fun hf => ?_⟩
 ·obtain ⟨y, hy, ht⟩ := h.sat c hc hp
  exact ⟨y, hy, by rw [Zy hag (h.lits c hc y hy)]; exact ht⟩
 ·obtain ⟨c, hc, hm, ho⟩ := hf
  have e : al (WJ a (s.vars + 1) b) v = al a v := by unfold al; rw [hag v.toNat (by omega)]
  refine ⟨c, hc, by rw [e]; exact hm, fun y hy => ?_⟩
  rw [e, Zy hag (h.lits c hc y hy)]
  exact ho y hy
theorem GoodB.up {base : Int -> Prop} {p : Prop} {f : Int} {a : Nat -> Bool} {s : St} (h : GoodB base p f a s) (hf : Forced a s.cl (f + 1)) : GoodB base p (f + 1) a s :=
 ⟨h.v1, h.t, h.sat, h.lits, fun v h1 h2 => by
  by_cases h3 : v <= f
  ·exact h.force v h1 h3
  ·have : v = f + 1 := by omega
   subst this; exact .inr hf⟩
section
variable {base : Int -> Prop} {p : Prop}
def GateSem (base : Int -> Prop) (p : Prop) (gm : St -> Int -> Int -> Int × St) (gb : Bool -> Bool -> Bool) : Prop :=
 ∀ (a : Nat -> Bool) (s : St) (x y : Int), GoodB base p s.vars a s -> Lt s.vars x -> Lt s.vars y -> ZH (gm s x y).2 = false -> ∃ a', Ext base p a s a' (gm s x y).2 /\ Lt (gm s x y).2.vars (gm s x y).1 /\ ltv a' (gm s x y).1 = gb (ltv a x) (ltv a y)
theorem lt_one {a : Nat -> Bool} {s : St} {f : Int} (h : GoodB base p f a s) : Lt s.vars 1 := ⟨by decide, by have := h.v1; omega, h.v1⟩
theorem and_sem : GateSem base p and (fun u v => u && v) := fun a s x y g hx hy nf => by
 have hv1 := g.v1
 unfold and at nf ⊢
 by_cases c1 : x = 1 \/ x = y
 ·rw [if_pos c1] at nf ⊢
  refine ⟨a, .refl g, hy, ?_⟩
  rcases c1 with rfl | rfl
  ·rw [ltv_one g.t]; rfl
  ·cases ltv a x <;> rfl
 rw [if_neg c1] at nf ⊢
 by_cases c2 : y = 1
 ·rw [if_pos c2] at nf ⊢
  refine ⟨a, .refl g, hx, ?_⟩
  rw [c2, ltv_one g.t]; cases ltv a x <;> rfl
 rw [if_neg c2] at nf ⊢
 by_cases c3 : x = -1 \/ y = -1 \/ x = -y
 ·rw [if_pos c3] at nf ⊢
  refine ⟨a, .refl g, (lt_one g).neg, ?_⟩
  rw [ltv_m1 g.t]
  rcases c3 with rfl | rfl | rfl
  ·rw [ltv_m1 g.t]; rfl
  ·rw [ltv_m1 g.t]; cases ltv a x <;> rfl
  ·rw [WV hy.1]; cases ltv a y <;> rfl
 rw [if_neg c3] at nf ⊢
 have n3 := (qi _ _).nf nf
 have n2 := (qi _ _).nf n3
 have n1 := (qi _ _).nf n2
 obtain ⟨w, hw⟩ : ∃ w, w = (ltv a x && ltv a y) := ⟨_, rfl⟩
 have hag : Agree s.vars a (WJ a (s.vars + 1) w) := ZM
 have gf := g.fresh w
 have ex := Zy hag hx
 have ey := Zy hag hy
 have ez : ltv (WJ a (s.vars + 1) w) (s.vars + 1) = w := setA1_ltv (by omega)
 have ea : al (WJ a (s.vars + 1) w) (s.vars + 1) = if w = true then s.vars + 1 else -(s.vars + 1) := by rw [al_of (by omega), ez]
 have enz : ltv (WJ a (s.vars + 1) w) (-(s.vars + 1)) = !w := by rw [WV (by omega), ez]
 have enx : ltv (WJ a (s.vars + 1) w) (-x) = !ltv a x := by rw [WV hx.1, ex]
 have eny : ltv (WJ a (s.vars + 1) w) (-y) = !ltv a y := by rw [WV hy.1, ey]
 generalize WJ a (s.vars + 1) w = a' at *
 have hm : s.vars <= s.vars + 1 := by omega
 obtain ⟨hx1, hx2, hx3⟩ := hx
 obtain ⟨hy1, hy2, hy3⟩ := hy
 have fv : (fresh s).vars = s.vars + 1 := rfl
 have lz : Lt (s.vars + 1) (s.vars + 1) := ⟨by omega, by omega, by omega⟩
 have lx : Lt (s.vars + 1) x := ⟨hx1, by omega, by omega⟩
 have ly : Lt (s.vars + 1) y := ⟨hy1, by omega, by omega⟩
 have k1 := gf.add (l := [-x, -y, s.vars + 1]) n1 (by simp only [fv, List.mem_cons, List.not_mem_nil, or_false, forall_eq_or_imp, forall_eq]; exact ⟨lx.neg, ly.neg, lz⟩) fun _ => by
  cases hx' : ltv a x
  ·exact ⟨-x, by simp, by rw [enx, hx']; rfl⟩
  ·cases hy' : ltv a y
   ·exact ⟨-y, by simp, by rw [eny, hy']; rfl⟩
   ·exact ⟨s.vars + 1, by simp, by rw [ez, hw, hx', hy']; rfl⟩
 have k2 := k1.add (l := [x, -(s.vars + 1)]) n2 (by simp only [WH, fv, List.mem_cons, List.not_mem_nil, or_false, forall_eq_or_imp, forall_eq]; exact ⟨lx, lz.neg⟩) fun _ => by
  cases hx' : ltv a x
  ·exact ⟨-(s.vars + 1), by simp, by rw [enz, hw, hx']; rfl⟩
  ·exact ⟨x, by simp, by rw [ex, hx']⟩
 have k3 := k2.add (l := [y, -(s.vars + 1)]) n3 (by simp only [WH, fv, List.mem_cons, List.not_mem_nil, or_false, forall_eq_or_imp, forall_eq]; exact ⟨ly, lz.neg⟩) fun _ => by
  cases hy' : ltv a y
  ·exact ⟨-(s.vars + 1), by simp, by rw [enz, hw, hy']; cases ltv a x <;> rfl⟩
  ·exact ⟨y, by simp, by rw [ey, hy']⟩
 have hf : Forced a' (Bl.add (Bl.add (Bl.add (fresh s) [-x, -y, s.vars + 1]) [x, -(s.vars + 1)]) [y, -(s.vars + 1)]).cl (s.vars + 1) := by
  cases hx' : ltv a x
  ·have hw' : w = false := by rw [hw, hx']; rfl
   refine (Z7 n2 (by omega) (by simp; omega) (by rw [ea, hw']; simp) ?_).mono (qh _ _)
   rw [ea, hw']
   simp only [List.mem_cons, List.not_mem_nil, or_false, forall_eq_or_imp, forall_eq]
   exact ⟨.inr ⟨by rw [ex, hx'], by omega, by omega⟩, .inl rfl⟩
  ·cases hy' : ltv a y
   ·have hw' : w = false := by rw [hw, hx', hy']; rfl
    refine Z7 n3 (by omega) (by simp; omega) (by rw [ea, hw']; simp) ?_
    rw [ea, hw']
    simp only [List.mem_cons, List.not_mem_nil, or_false, forall_eq_or_imp, forall_eq]
    exact ⟨.inr ⟨by rw [ey, hy'], by omega, by omega⟩, .inl rfl⟩
   ·have hw' : w = true := by rw [hw, hx', hy']; rfl
    refine ((Z7 n1 (by omega) (by simp; omega) (by rw [ea, hw']; simp) ?_).mono (qh _ _)).mono (qh _ _)
    rw [ea, hw']
    simp only [List.mem_cons, List.not_mem_nil, or_false, forall_eq_or_imp, forall_eq]
    exact ⟨.inr ⟨by rw [enx, hx']; rfl, by omega, by omega⟩, .inr ⟨by rw [eny, hy']; rfl, by omega, by omega⟩, .inl rfl⟩
 have hvars : (Bl.add (Bl.add (Bl.add (fresh s) [-x, -y, s.vars + 1]) [x, -(s.vars + 1)]) [y, -(s.vars + 1)]).vars = s.vars + 1 := by rw [WH, WH, WH]; rfl
 refine ⟨a', ⟨by rw [hvars]; exact k3.up hf, hag, by rw [hvars]; omega⟩, by rw [hvars]; exact lz, by rw [ez, hw]⟩
theorem or_sem : GateSem base p or (fun u v => u || v) := fun a s x y g hx hy nf => by
 obtain ⟨a', h1, h2, h3⟩ := and_sem a s (-x) (-y) g hx.neg hy.neg nf
 refine ⟨a', h1, h2.neg, ?_⟩
 show ltv a' (-(and s (-x) (-y)).1) = _
 rw [WV h2.1, h3, WV hx.1, WV hy.1]
 cases ltv a x <;> cases ltv a y <;> rfl
theorem xor_sem : GateSem base p xor (fun u v => u != v) := fun a s x y g hx hy nf => by
 have hv1 := g.v1
 unfold xor at nf ⊢
 by_cases c1 : x = y
 ·rw [if_pos c1] at nf ⊢
  refine ⟨a, .refl g, (lt_one g).neg, ?_⟩
  rw [ltv_m1 g.t, c1]; cases ltv a y <;> rfl
 rw [if_neg c1] at nf ⊢
 by_cases c2 : x = -y
 ·rw [if_pos c2] at nf ⊢
  refine ⟨a, .refl g, lt_one g, ?_⟩
  rw [ltv_one g.t, c2, WV hy.1]; cases ltv a y <;> rfl
 rw [if_neg c2] at nf ⊢
 by_cases c3 : x = 1 \/ x = -1
 ·rw [if_pos c3] at nf ⊢
  rcases c3 with rfl | rfl
  ·refine ⟨a, .refl g, by show Lt _ (y * -1); rw [show y * -1 = -y by omega]; exact hy.neg, ?_⟩
   show ltv a (y * -1) = _
   rw [show y * -1 = -y by omega, WV hy.1, ltv_one g.t]; cases ltv a y <;> rfl
  ·refine ⟨a, .refl g, by show Lt _ (y * - -1); rw [show y * - -1 = y by omega]; exact hy, ?_⟩
   show ltv a (y * - -1) = _
   rw [show y * - -1 = y by omega, ltv_m1 g.t]; cases ltv a y <;> rfl
 rw [if_neg c3] at nf ⊢
 by_cases c4 : y = 1 \/ y = -1
 ·rw [if_pos c4] at nf ⊢
  rcases c4 with rfl | rfl
  ·refine ⟨a, .refl g, by show Lt _ (x * -1); rw [show x * -1 = -x by omega]; exact hx.neg, ?_⟩
   show ltv a (x * -1) = _
   rw [show x * -1 = -x by omega, WV hx.1, ltv_one g.t]; cases ltv a x <;> rfl
  ·refine ⟨a, .refl g, by show Lt _ (x * - -1); rw [show x * - -1 = x by omega]; exact hx, ?_⟩
   show ltv a (x * - -1) = _
   rw [show x * - -1 = x by omega, ltv_m1 g.t]; cases ltv a x <;> rfl
 rw [if_neg c4] at nf ⊢
 have n4 := (qi _ _).nf nf
 have n3 := (qi _ _).nf n4
 have n2 := (qi _ _).nf n3
 have n1 := (qi _ _).nf n2
 obtain ⟨w, hw⟩ : ∃ w, w = (ltv a x != ltv a y) := ⟨_, rfl⟩
 have hag : Agree s.vars a (WJ a (s.vars + 1) w) := ZM
 have gf := g.fresh w
 have ex := Zy hag hx
 have ey := Zy hag hy
 have ez : ltv (WJ a (s.vars + 1) w) (s.vars + 1) = w := setA1_ltv (by omega)
 have ea : al (WJ a (s.vars + 1) w) (s.vars + 1) = if w = true then s.vars + 1 else -(s.vars + 1) := by rw [al_of (by omega), ez]
 have enz : ltv (WJ a (s.vars + 1) w) (-(s.vars + 1)) = !w := by rw [WV (by omega), ez]
 have enx : ltv (WJ a (s.vars + 1) w) (-x) = !ltv a x := by rw [WV hx.1, ex]
 have eny : ltv (WJ a (s.vars + 1) w) (-y) = !ltv a y := by rw [WV hy.1, ey]
 generalize WJ a (s.vars + 1) w = a' at *
 obtain ⟨hx1, hx2, hx3⟩ := hx
 obtain ⟨hy1, hy2, hy3⟩ := hy
 have fv : (fresh s).vars = s.vars + 1 := rfl
 have lz : Lt (s.vars + 1) (s.vars + 1) := ⟨by omega, by omega, by omega⟩
 have lx : Lt (s.vars + 1) x := ⟨hx1, by omega, by omega⟩
 have ly : Lt (s.vars + 1) y := ⟨hy1, by omega, by omega⟩
 have k1 := gf.add (l := [-x, -y, -(s.vars + 1)]) n1 (by simp only [fv, List.mem_cons, List.not_mem_nil, or_false, forall_eq_or_imp, forall_eq]; exact ⟨lx.neg, ly.neg, lz.neg⟩) fun _ => by
  cases hx' : ltv a x
  ·exact ⟨-x, by simp, by rw [enx, hx']; rfl⟩
  ·cases hy' : ltv a y
   ·exact ⟨-y, by simp, by rw [eny, hy']; rfl⟩
   ·exact ⟨-(s.vars + 1), by simp, by rw [enz, hw, hx', hy']; rfl⟩
 have k2 := k1.add (l := [x, y, -(s.vars + 1)]) n2 (by simp only [WH, fv, List.mem_cons, List.not_mem_nil, or_false, forall_eq_or_imp, forall_eq]; exact ⟨lx, ly, lz.neg⟩) fun _ => by
  cases hx' : ltv a x
  ·cases hy' : ltv a y
   ·exact ⟨-(s.vars + 1), by simp, by rw [enz, hw, hx', hy']; rfl⟩
   ·exact ⟨y, by simp, by rw [ey, hy']⟩
  ·exact ⟨x, by simp, by rw [ex, hx']⟩
 have k3 := k2.add (l := [-x, y, s.vars + 1]) n3 (by simp only [WH, fv, List.mem_cons, List.not_mem_nil, or_false, forall_eq_or_imp, forall_eq]; exact ⟨lx.neg, ly, lz⟩) fun _ => by
  cases hx' : ltv a x
  ·exact ⟨-x, by simp, by rw [enx, hx']; rfl⟩
  ·cases hy' : ltv a y
   ·exact ⟨s.vars + 1, by simp, by rw [ez, hw, hx', hy']; rfl⟩
   ·exact ⟨y, by simp, by rw [ey, hy']⟩
 have k4 := k3.add (l := [x, -y, s.vars + 1]) n4 (by simp only [WH, fv, List.mem_cons, List.not_mem_nil, or_false, forall_eq_or_imp, forall_eq]; exact ⟨lx, ly.neg, lz⟩) fun _ => by
  cases hx' : ltv a x
  ·cases hy' : ltv a y
   ·exact ⟨-y, by simp, by rw [eny, hy']; rfl⟩
   ·exact ⟨s.vars + 1, by simp, by rw [ez, hw, hx', hy']; rfl⟩
  ·exact ⟨x, by simp, by rw [ex, hx']⟩
 have hf : Forced a' (Bl.add (Bl.add (Bl.add (Bl.add (fresh s) [-x, -y, -(s.vars + 1)]) [x, y, -(s.vars + 1)]) [-x, y, s.vars + 1]) [x, -y, s.vars + 1]).cl (s.vars + 1) := by
  cases hx' : ltv a x <;> cases hy' : ltv a y
  ·have hw' : w = false := by rw [hw, hx', hy']; rfl
   refine ((Z7 n2 (by omega) (by simp; omega) (by rw [ea, hw']; simp) ?_).mono (qh _ _)).mono (qh _ _)
   rw [ea, hw']
   simp only [List.mem_cons, List.not_mem_nil, or_false, forall_eq_or_imp, forall_eq]
   exact ⟨.inr ⟨by rw [ex, hx'], by omega, by omega⟩, .inr ⟨by rw [ey, hy'], by omega, by omega⟩, .inl rfl⟩
  ·have hw' : w = true := by rw [hw, hx', hy']; rfl
   refine Z7 n4 (by omega) (by simp; omega) (by rw [ea, hw']; simp) ?_
   rw [ea, hw']
   simp only [List.mem_cons, List.not_mem_nil, or_false, forall_eq_or_imp, forall_eq]
   exact ⟨.inr ⟨by rw [ex, hx'], by omega, by omega⟩, .inr ⟨by rw [eny, hy']; rfl, by omega, by omega⟩, .inl rfl⟩
  ·have hw' : w = true := by rw [hw, hx', hy']; rfl
   refine (Z7 n3 (by omega) (by simp; omega) (by rw [ea, hw']; simp) ?_).mono (qh _ _)
   rw [ea, hw']
   simp only [List.mem_cons, List.not_mem_nil, or_false, forall_eq_or_imp, forall_eq]
   exact ⟨.inr ⟨by rw [enx, hx']; rfl, by omega, by omega⟩, .inr ⟨by rw [ey, hy'], by omega, by omega⟩, .inl rfl⟩
  ·have hw' : w = false := by rw [hw, hx', hy']; rfl
   refine (((Z7 n1 (by omega) (by simp; omega) (by rw [ea, hw']; simp) ?_).mono (qh _ _)).mono (qh _ _)).mono (qh _ _)
   rw [ea, hw']
   simp only [List.mem_cons, List.not_mem_nil, or_false, forall_eq_or_imp, forall_eq]
   exact ⟨.inr ⟨by rw [enx, hx']; rfl, by omega, by omega⟩, .inr ⟨by rw [eny, hy']; rfl, by omega, by omega⟩, .inl rfl⟩
 have hvars : (Bl.add (Bl.add (Bl.add (Bl.add (fresh s) [-x, -y, -(s.vars + 1)]) [x, y, -(s.vars + 1)]) [-x, y, s.vars + 1]) [x, -y, s.vars + 1]).vars = s.vars + 1 := by rw [WH, WH, WH, WH]; rfl
 refine ⟨a', ⟨by rw [hvars]; exact k4.up hf, hag, by rw [hvars]; omega⟩, by rw [hvars]; exact lz, by rw [ez, hw]⟩
end
end Go.Bl
end
section
namespace Go.Proofs
open Go.Bl
section
variable {base : Int -> Prop} {p : Prop}
def Bits4 (a : Nat -> Bool) (n : Int) (x : List Int) (f : Nat -> Bool) : Prop := ∀ i, i < 4 -> Lt n (x.getD i 0) /\ ltv a (x.getD i 0) = f i
theorem Bits4.ext {a b : Nat -> Bool} {s t : St} {x : List Int} {f : Nat -> Bool} (h : Bits4 a s.vars x f) (e : Ext base p a s b t) : Bits4 b t.vars x f := fun i hi => ⟨e.lt (h i hi).1, by rw [e.ltv (h i hi).1]; exact (h i hi).2⟩
theorem getD_set (l : List Int) (i j : Nat) (v : Int) (h : i < l.length) : (l.set i v).getD j 0 = if i = j then v else l.getD j 0 := by
 rw [List.getD_eq_getElem?_getD, List.getElem?_set, List.getD_eq_getElem?_getD]
 by_cases e : i = j
 ·subst e; rw [if_pos rfl, if_pos h, if_pos rfl]; rfl
 ·rw [if_neg e, if_neg e]
theorem mux_le (s : St) (c x y : Int) : Le s (muxM s c x y).2 := ((and_le s c x).trans (and_le _ _ _)).trans (or_le _ _ _)
theorem mux_sem {a : Nat -> Bool} {s : St} {c x y : Int} (g : GoodB base p s.vars a s) (hc : Lt s.vars c) (hx : Lt s.vars x) (hy : Lt s.vars y) (nf : ZH (muxM s c x y).2 = false) :
  ∃ a', Ext base p a s a' (muxM s c x y).2 /\ Lt (muxM s c x y).2.vars (muxM s c x y).1 /\ ltv a' (muxM s c x y).1 = if ltv a c = true then ltv a x else ltv a y := by
 have n2 := (or_le _ _ _).nf nf
 have n1 := (and_le _ _ _).nf n2
 obtain ⟨a1, e1, l1, v1⟩ := and_sem a s c x g hc hx n1
 obtain ⟨a2, e2, l2, v2⟩ := and_sem a1 _ (-c) y e1.good (e1.lt hc.neg) (e1.lt hy) n2
 obtain ⟨a3, e3, l3, v3⟩ := or_sem a2 _ _ _ e2.good (e2.lt l1) l2 nf
 refine ⟨a3, (e1.trans e2).trans e3, l3, ?_⟩
 refine v3.trans ?_
 rw [e2.ltv l1, v1, v2, e1.ltv hc.neg, e1.ltv hy, WV hc.1]
 cases ltv a c <;> cases ltv a x <;> cases ltv a y <;> rfl
theorem sum_le (s : St) (x y : List Int) (c : Int) : ∀ i, Le s (Wn s x y c i).2.2
 | 0 => .refl s
 | i + 1 => (sum_le s x y c i).trans (((((xor_le _ _ _).trans (xor_le _ _ _)).trans (and_le _ _ _)).trans (and_le _ _ _)).trans (or_le _ _ _))
def carB (f g : Nat -> Bool) (c : Bool) : Nat -> Bool
 | 0 => c
 | i + 1 => (f i && g i) || ((f i != g i) && carB f g c i)
def sumB (f g : Nat -> Bool) (c : Bool) (i : Nat) : Bool := (f i != g i) != carB f g c i
theorem sum_sem {a : Nat -> Bool} {s : St} {x y : List Int} {c : Int} {f h : Nat -> Bool} (g : GoodB base p s.vars a s) (hx : Bits4 a s.vars x f) (hy : Bits4 a s.vars y h) (hc : Lt s.vars c) :
  ∀ i, i <= 4 -> ZH (Wn s x y c i).2.2 = false -> ∃ a', Ext base p a s a' (Wn s x y c i).2.2 /\ (Lt (Wn s x y c i).2.2.vars (Wn s x y c i).2.1 /\ ltv a' (Wn s x y c i).2.1 = carB f h (ltv a c) i) /\
   ∀ j, j < i -> Lt (Wn s x y c i).2.2.vars ((Wn s x y c i).1.getD j 0) /\ ltv a' ((Wn s x y c i).1.getD j 0) = sumB f h (ltv a c) j
 | 0, _, nf => ⟨a, .refl g, ⟨hc, rfl⟩, fun j hj => absurd hj (by omega)⟩
 | i + 1, hi, nf => by
  have hlen := ZK s x y c i
  have n5 : ZH (Wn s x y c (i + 1)).2.2 = false := nf
  have eo : Wn s x y c (i + 1) = (let p := Wn s x y c i; let h := xor p.2.2 (x.getD i 0) (y.getD i 0); let o := xor h.2 h.1 p.2.1; let a := and o.2 (x.getD i 0) (y.getD i 0); let b := and a.2 h.1 p.2.1; let r := or b.2 a.1 b.1; (p.1.set i o.1, r.1, r.2)) := rfl
  rw [eo] at nf ⊢
  generalize hp : Wn s x y c i = q at nf hlen ⊢
  dsimp only at nf ⊢
  have n4 := (or_le _ _ _).nf nf
  have n3 := (and_le _ _ _).nf n4
  have n2 := (and_le _ _ _).nf n3
  have n1 := (xor_le _ _ _).nf n2
  have n0 := (xor_le _ _ _).nf n1
  have ih := sum_sem g hx hy hc i (by omega) (by rw [hp]; exact n0)
  rw [hp] at ih
  obtain ⟨a0, e0, ⟨lc, vc⟩, ho⟩ := ih
  obtain ⟨lx, vx⟩ := hx i (by omega)
  obtain ⟨ly, vy⟩ := hy i (by omega)
  obtain ⟨a1, e1, l1, v1⟩ := xor_sem a0 _ _ _ e0.good (e0.lt lx) (e0.lt ly) n1
  obtain ⟨a2, e2, l2, v2⟩ := xor_sem a1 _ _ _ e1.good l1 (e1.lt lc) n2
  obtain ⟨a3, e3, l3, v3⟩ := and_sem a2 _ _ _ e2.good (e2.lt (e1.lt (e0.lt lx))) (e2.lt (e1.lt (e0.lt ly))) n3
  obtain ⟨a4, e4, l4, v4⟩ := and_sem a3 _ _ _ e3.good (e3.lt (e2.lt l1)) (e3.lt (e2.lt (e1.lt lc))) n4
  obtain ⟨a5, e5, l5, v5⟩ := or_sem a4 _ _ _ e4.good (e4.lt l3) l4 nf
  have e25 := (e3.trans e4).trans e5
  have e15 := e2.trans e25
  have e05 := e1.trans e15
  refine ⟨a5, e0.trans e05, ⟨l5, ?_⟩, fun j hj => ?_⟩
  ·refine v5.trans ?_
   rw [e4.ltv l3, v3, v4, e3.ltv (e2.lt l1), e2.ltv l1, v1, e3.ltv (e2.lt (e1.lt lc)), e2.ltv (e1.lt lc), e1.ltv lc, vc, e2.ltv (e1.lt (e0.lt lx)), e1.ltv (e0.lt lx), e0.ltv lx, vx, e2.ltv (e1.lt (e0.lt ly)), e1.ltv (e0.lt ly), e0.ltv ly, vy]
   rfl
  ·rw [getD_set _ _ _ _ (by omega)]
   by_cases hij : i = j
   ·subst hij
    rw [if_pos rfl]
    refine ⟨e25.lt l2, ?_⟩
    rw [e25.ltv l2, v2, v1, e1.ltv lc, vc, e0.ltv lx, vx, e0.ltv ly, vy]
    rfl
   ·rw [if_neg hij]
    obtain ⟨lj, vj⟩ := ho j (by omega)
    exact ⟨e05.lt lj, by rw [e05.ltv lj, vj]⟩
theorem sum_sem4 {a : Nat -> Bool} {s : St} {x y : List Int} {c : Int} {f h : Nat -> Bool} (g : GoodB base p s.vars a s) (hx : Bits4 a s.vars x f) (hy : Bits4 a s.vars y h) (hc : Lt s.vars c) (nf : ZH (Wn s x y c 4).2.2 = false) :
  ∃ a', Ext base p a s a' (Wn s x y c 4).2.2 /\ Bits4 a' (Wn s x y c 4).2.2.vars (Wn s x y c 4).1 (sumB f h (ltv a c)) := by
 obtain ⟨a', h1, _, h3⟩ := sum_sem g hx hy hc 4 (by omega) nf
 exact ⟨a', h1, h3⟩
theorem notTo_sem {a : Nat -> Bool} {n : Int} {x : List Int} {f : Nat -> Bool} (hl : x.length = 4) (hx : Bits4 a n x f) : ∀ i, i <= 4 -> ∀ j, j < 4 -> Lt n ((qa x i).getD j 0) /\ ltv a ((qa x i).getD j 0) = if j < i then !f j else f j
 | 0, _, j, hj => by rw [if_neg (by omega)]; exact hx j hj
 | i + 1, hi, j, hj => by
  have ih := notTo_sem hl hx i (by omega)
  have hlen := notTo_len x i
  rw [qa, getD_set _ _ _ _ (by omega)]
  by_cases hij : i = j
  ·subst hij
   obtain ⟨l1, v1⟩ := ih i hj
   rw [if_pos rfl, if_pos (by omega)]
   rw [if_neg (by omega)] at v1
   exact ⟨l1.neg, by rw [WV l1.1, v1]⟩
  ·rw [if_neg hij]
   obtain ⟨l1, v1⟩ := ih j hj
   refine ⟨l1, v1.trans ?_⟩
   by_cases h : j < i
   ·rw [if_pos h, if_pos (by omega)]
   ·rw [if_neg h, if_neg (by omega)]
theorem notTo_sem4 {a : Nat -> Bool} {n : Int} {x : List Int} {f : Nat -> Bool} (hl : x.length = 4) (hx : Bits4 a n x f) : Bits4 a n (qa x 4) (fun i => !f i) := fun j hj => by
 have := notTo_sem hl hx 4 (by omega) j hj
 rwa [if_pos hj] at this
theorem shift_le (s : St) (x : List Int) (c n : Int) : ∀ i, Le s (QT s x c n i).2
 | 0 => .refl s
 | i + 1 => (shift_le s x c n i).trans (mux_le _ _ _ _)
def movB (f : Nat -> Bool) (k : Int) : Bool := if 4 <= k then f 3 else if 0 <= k then f k.toNat else false
theorem moved_sem {a : Nat -> Bool} {s : St} {x : List Int} {f : Nat -> Bool} {q : Int} (g : GoodB base p q a s) (hx : Bits4 a s.vars x f) (k : Int) : Lt s.vars (movedM x k) /\ ltv a (movedM x k) = movB f k := by
 unfold movedM movB
 split
 ·exact hx 3 (by omega)
 ·split
  ·exact hx k.toNat (by omega)
  ·exact ⟨(lt_one g).neg, ltv_m1 g.t⟩
theorem shift_sem {a : Nat -> Bool} {s : St} {x : List Int} {c n : Int} {f : Nat -> Bool} (g : GoodB base p s.vars a s) (hx : Bits4 a s.vars x f) (hc : Lt s.vars c) :
  ∀ i, i <= 4 -> ZH (QT s x c n i).2 = false -> ∃ a', Ext base p a s a' (QT s x c n i).2 /\
   ∀ j, j < i -> Lt (QT s x c n i).2.vars ((QT s x c n i).1.getD j 0) /\ ltv a' ((QT s x c n i).1.getD j 0) = if ltv a c = true then movB f ((j : Int) - n) else f j
 | 0, _, nf => ⟨a, .refl g, fun j hj => absurd hj (by omega)⟩
 | i + 1, hi, nf => by
  have hlen := Zj s x c n i
  rw [QT] at nf ⊢
  generalize hp : QT s x c n i = q at nf hlen ⊢
  dsimp only at nf ⊢
  have n0 := (mux_le _ _ _ _).nf nf
  have ih := shift_sem (n := n) g hx hc i (by omega) (by rw [hp]; exact n0)
  rw [hp] at ih
  obtain ⟨a0, e0, ho⟩ := ih
  obtain ⟨lm, vm⟩ := moved_sem e0.good (hx.ext e0) ((i : Int) - n)
  obtain ⟨lx, vx⟩ := hx i (by omega)
  obtain ⟨a1, e1, l1, v1⟩ := mux_sem e0.good (e0.lt hc) lm (e0.lt lx) nf
  refine ⟨a1, e0.trans e1, fun j hj => ?_⟩
  rw [getD_set _ _ _ _ (by omega)]
  by_cases hij : i = j
  ·subst hij
   rw [if_pos rfl]
   refine ⟨l1, v1.trans ?_⟩
   rw [e0.ltv hc, vm, e0.ltv lx, vx]
  ·rw [if_neg hij]
   obtain ⟨lj, vj⟩ := ho j (by omega)
   exact ⟨e1.lt lj, by rw [e1.ltv lj, vj]⟩
def shiB (f : Nat -> Bool) (c : Bool) (n : Int) (j : Nat) : Bool := if c = true then movB f ((j : Int) - n) else f j
theorem shift_sem4 {a : Nat -> Bool} {s : St} {x : List Int} {c : Int} (n : Int) {f : Nat -> Bool} (g : GoodB base p s.vars a s) (hx : Bits4 a s.vars x f) (hc : Lt s.vars c) (nf : ZH (QT s x c n 4).2 = false) :
  ∃ a', Ext base p a s a' (QT s x c n 4).2 /\ Bits4 a' (QT s x c n 4).2.vars (QT s x c n 4).1 (shiB f (ltv a c) n) := shift_sem g hx hc 4 (by omega) nf
theorem part_le (s : St) (x : List Int) (b : Int) (i : Nat) : ∀ k, Le s (WA s x b i k).2
 | 0 => .refl s
 | k + 1 => (part_le s x b i k).trans (and_le _ _ _)
theorem part_sem {a : Nat -> Bool} {s : St} {x : List Int} {b : Int} {f : Nat -> Bool} (g : GoodB base p s.vars a s) (hx : Bits4 a s.vars x f) (hb : Lt s.vars b) (i : Nat) :
  ∀ k, i + k <= 4 -> ZH (WA s x b i k).2 = false -> ∃ a', Ext base p a s a' (WA s x b i k).2 /\
   ∀ j, j < 4 -> Lt (WA s x b i k).2.vars ((WA s x b i k).1.getD j 0) /\ ltv a' ((WA s x b i k).1.getD j 0) = if i <= j /\ j < i + k then f (j - i) && ltv a b else false
 | 0, hk, nf => ⟨a, .refl g, fun j hj => by
  rw [if_neg (by omega)]
  show Lt s.vars ((qy 0).getD j 0) /\ ltv a ((qy 0).getD j 0) = false
  rw [number0]
  have : ([-1, -1, -1, -1] : List Int).getD j 0 = -1 := by
   match j, hj with
   | 0, _ => rfl
   | 1, _ => rfl
   | 2, _ => rfl
   | 3, _ => rfl
   | j + 4, hj => omega
  rw [this]
  exact ⟨(lt_one g).neg, ltv_m1 g.t⟩⟩
 | k + 1, hk, nf => by
  have hlen := partTo_len s x b i k
  rw [WA] at nf ⊢
  generalize hp : WA s x b i k = q at nf hlen ⊢
  dsimp only at nf ⊢
  have n0 := (and_le _ _ _).nf nf
  have ih := part_sem g hx hb i k (by omega) (by rw [hp]; exact n0)
  rw [hp] at ih
  obtain ⟨a0, e0, ho⟩ := ih
  obtain ⟨lx, vx⟩ := hx k (by omega)
  obtain ⟨a1, e1, l1, v1⟩ := and_sem a0 _ _ _ e0.good (e0.lt lx) (e0.lt hb) nf
  refine ⟨a1, e0.trans e1, fun j hj => ?_⟩
  rw [getD_set _ _ _ _ (by omega)]
  by_cases hij : i + k = j
  ·subst hij
   rw [if_pos rfl, if_pos (by omega), show i + k - i = k by omega]
   refine ⟨l1, v1.trans ?_⟩
   rw [e0.ltv lx, vx, e0.ltv hb]
  ·rw [if_neg hij]
   obtain ⟨lj, vj⟩ := ho j hj
   refine ⟨e1.lt lj, ?_⟩
   rw [e1.ltv lj, vj]
   by_cases h : i <= j /\ j < i + k
   ·rw [if_pos h, if_pos (by omega)]
   ·rw [if_neg h, if_neg (by omega)]
def parB (f : Nat -> Bool) (b : Bool) (i j : Nat) : Bool := if i <= j then f (j - i) && b else false
def proB (f h : Nat -> Bool) : Nat -> Nat -> Bool
 | 0 => fun _ => false
 | i + 1 => sumB (proB f h i) (parB f (h i) i) false
theorem number0_sem {a : Nat -> Bool} {s : St} {q : Int} (g : GoodB base p q a s) : Bits4 a s.vars (qy 0) (fun _ => false) := fun j hj => by
 rw [number0]
 have : ([-1, -1, -1, -1] : List Int).getD j 0 = -1 := by
  match j, hj with
  | 0, _ => rfl
  | 1, _ => rfl
  | 2, _ => rfl
  | 3, _ => rfl
  | j + 4, hj => omega
 rw [this]
 exact ⟨(lt_one g).neg, ltv_m1 g.t⟩
theorem prod_sem {a : Nat -> Bool} {s : St} {x y : List Int} {f h : Nat -> Bool} (g : GoodB base p s.vars a s) (hx : Bits4 a s.vars x f) (hy : Bits4 a s.vars y h) :
  ∀ i, i <= 4 -> ZH (WL s x y i).2 = false -> ∃ a', Ext base p a s a' (WL s x y i).2 /\ Bits4 a' (WL s x y i).2.vars (WL s x y i).1 (proB f h i)
 | 0, _, nf => ⟨a, .refl g, number0_sem g⟩
 | i + 1, hi, nf => by
  rw [WL] at nf ⊢
  generalize hp : WL s x y i = q at nf ⊢
  dsimp only at nf ⊢
  have n1 := (sum_le _ _ _ _ _).nf nf
  have n0 := (part_le _ _ _ _ _).nf n1
  have ih := prod_sem g hx hy i (by omega) (by rw [hp]; exact n0)
  rw [hp] at ih
  obtain ⟨a0, e0, ho⟩ := ih
  obtain ⟨ly, vy⟩ := hy i (by omega)
  obtain ⟨a1, e1, hpart⟩ := part_sem e0.good (hx.ext e0) (e0.lt ly) i (4 - i) (by omega) n1
  have hpart' : Bits4 a1 _ _ (parB f (h i) i) := fun j hj => by
   obtain ⟨l, v⟩ := hpart j hj
   refine ⟨l, v.trans ?_⟩
   rw [e0.ltv ly, vy]
   unfold parB
   by_cases hij : i <= j
   ·rw [if_pos ⟨hij, by omega⟩, if_pos hij]
   ·rw [if_neg (fun hh => hij hh.1), if_neg hij]
  obtain ⟨a2, e2, hs⟩ := sum_sem4 e1.good (ho.ext e1) hpart' (lt_one e1.good).neg nf
  rw [ltv_m1 e1.good.t] at hs
  exact ⟨a2, (e0.trans e1).trans e2, hs⟩
def lesB (f h : Nat -> Bool) : Nat -> Bool
 | 0 => false
 | i + 1 => (!f i && h i) || (!(f i != h i) && lesB f h i)
theorem lessTo_sem {a : Nat -> Bool} {s : St} {x y : List Int} {f h : Nat -> Bool} (g : GoodB base p s.vars a s) (hx : Bits4 a s.vars x f) (hy : Bits4 a s.vars y h) :
  ∀ i, i <= 4 -> ZH (Zq s x y i).2 = false -> ∃ a', Ext base p a s a' (Zq s x y i).2 /\ Lt (Zq s x y i).2.vars (Zq s x y i).1 /\ ltv a' (Zq s x y i).1 = lesB f h i
 | 0, _, nf => ⟨a, .refl g, (lt_one g).neg, ltv_m1 g.t⟩
 | i + 1, hi, nf => by
  rw [Zq] at nf ⊢
  unfold lessAt at nf ⊢
  generalize hp : Zq s x y i = q at nf ⊢
  have n3 := (or_le _ _ _).nf nf
  have n2 := (and_le _ _ _).nf n3
  have n1 := (xor_le _ _ _).nf n2
  have n0 := (and_le _ _ _).nf n1
  have ih := lessTo_sem g hx hy i (by omega) (by rw [hp]; exact n0)
  rw [hp] at ih
  obtain ⟨a0, e0, lo, vo⟩ := ih
  obtain ⟨lx, vx⟩ := hx i (by omega)
  obtain ⟨ly, vy⟩ := hy i (by omega)
  obtain ⟨a1, e1, l1, v1⟩ := and_sem a0 _ _ _ e0.good (e0.lt lx).neg (e0.lt ly) n1
  obtain ⟨a2, e2, l2, v2⟩ := xor_sem a1 _ _ _ e1.good (e1.lt (e0.lt lx)) (e1.lt (e0.lt ly)) n2
  obtain ⟨a3, e3, l3, v3⟩ := and_sem a2 _ _ _ e2.good l2.neg (e2.lt (e1.lt lo)) n3
  obtain ⟨a4, e4, l4, v4⟩ := or_sem a3 _ _ _ e3.good (e3.lt (e2.lt l1)) l3 nf
  refine ⟨a4, (((e0.trans e1).trans e2).trans e3).trans e4, l4, v4.trans ?_⟩
  rw [e3.ltv (e2.lt l1), e2.ltv l1, v1, v3, WV l2.1, v2, e2.ltv (e1.lt lo), e1.ltv lo, vo, WV (e0.lt lx).1, e0.ltv lx, vx, e1.ltv (e0.lt lx), e0.ltv lx, vx, e1.ltv (e0.lt ly), e0.ltv ly, vy]
  rfl
def swpB (f h : Nat -> Bool) (i : Nat) : Bool := if i = 3 then h 3 else f i
theorem swap_sem {a : Nat -> Bool} {n : Int} {x y : List Int} {f h : Nat -> Bool} (hxl : x.length = 4) (hx : Bits4 a n x f) (hy : Bits4 a n y h) : Bits4 a n (Z9 x y) (swpB f h) := fun i hi => by
 unfold Z9 swpB
 rw [getD_set _ _ _ _ (by omega)]
 by_cases h3 : i = 3
 ·subst h3; rw [if_pos rfl, if_pos rfl]; exact hy 3 (by omega)
 ·rw [if_neg fun e => h3 e.symm, if_neg h3]; exact hx i hi
theorem less_sem {a : Nat -> Bool} {s : St} {x y : List Int} {f h : Nat -> Bool} (hxl : x.length = 4) (hyl : y.length = 4) (g : GoodB base p s.vars a s) (hx : Bits4 a s.vars x f) (hy : Bits4 a s.vars y h) (nf : ZH (less s x y).2 = false) :
  ∃ a', Ext base p a s a' (less s x y).2 /\ Lt (less s x y).2.vars (less s x y).1 /\ ltv a' (less s x y).1 = lesB (swpB f h) (swpB h f) 4 :=
 lessTo_sem g (swap_sem hxl hx hy) (swap_sem hyl hy hx) 4 (by omega) nf
def samB (f h : Nat -> Bool) : Nat -> Bool
 | 0 => true
 | i + 1 => samB f h i && !(f i != h i)
theorem same_sem {a : Nat -> Bool} {s : St} {x y : List Int} {f h : Nat -> Bool} (g : GoodB base p s.vars a s) (hx : Bits4 a s.vars x f) (hy : Bits4 a s.vars y h) :
  ∀ i, i <= 4 -> ZH (Zb s x y i).2 = false -> ∃ a', Ext base p a s a' (Zb s x y i).2 /\ Lt (Zb s x y i).2.vars (Zb s x y i).1 /\ ltv a' (Zb s x y i).1 = samB f h i
 | 0, _, nf => ⟨a, .refl g, lt_one g, ltv_one g.t⟩
 | i + 1, hi, nf => by
  rw [Zb] at nf ⊢
  unfold sameAt at nf ⊢
  generalize hp : Zb s x y i = q at nf ⊢
  have n1 := (and_le _ _ _).nf nf
  have n0 := (xor_le _ _ _).nf n1
  have ih := same_sem g hx hy i (by omega) (by rw [hp]; exact n0)
  rw [hp] at ih
  obtain ⟨a0, e0, lo, vo⟩ := ih
  obtain ⟨lx, vx⟩ := hx i (by omega)
  obtain ⟨ly, vy⟩ := hy i (by omega)
  obtain ⟨a1, e1, l1, v1⟩ := xor_sem a0 _ _ _ e0.good (e0.lt lx) (e0.lt ly) n1
  obtain ⟨a2, e2, l2, v2⟩ := and_sem a1 _ _ _ e1.good (e1.lt lo) l1.neg nf
  refine ⟨a2, (e0.trans e1).trans e2, l2, v2.trans ?_⟩
  rw [e1.ltv lo, vo, WV l1.1, v1, e0.ltv lx, vx, e0.ltv ly, vy]
  rfl
end
section
variable {base : Int -> Prop} {p : Prop}
theorem _root_.Go.Bl.GoodB.fresh2 {a : Nat -> Bool} {s : St} {f : Int} (h : GoodB base p f a s) (hf : f <= s.vars) (b : Bool) : GoodB base p f (WJ a (s.vars + 1) b) (fresh s) := by
 have hag : Agree s.vars a (WJ a (s.vars + 1) b) := ZM
 have h1 := h.v1
 refine ⟨by show 1 <= s.vars + 1; omega, by rw [hag 1 (by omega)]; exact h.t, fun c hc hp => ?_, fun c hc y hy => (h.lits c hc y hy).mono (by show s.vars <= s.vars + 1; omega), fun v hv1 hv2 => (h.force v hv1 hv2).imp id fun hf => ?_⟩
 ·obtain ⟨y, hy, ht⟩ := h.sat c hc hp
  exact ⟨y, hy, by rw [Zy hag (h.lits c hc y hy)]; exact ht⟩
 ·obtain ⟨c, hc, hm, ho⟩ := hf
  have e : al (WJ a (s.vars + 1) b) v = al a v := by unfold al; rw [hag v.toNat (by omega)]
  refine ⟨c, hc, by rw [e]; exact hm, fun y hy => ?_⟩
  rw [e, Zy hag (h.lits c hc y hy)]
  exact ho y hy
def Mat (f : Nat -> Bool) (u : Int) : Prop := ∀ i, i < 4 -> f i = decide (bitN u i = 1)
def valB (f : Nat -> Bool) : Int := (if f 0 = true then 1 else 0) + (if f 1 = true then 2 else 0) + (if f 2 = true then 4 else 0) + (if f 3 = true then 8 else 0)
theorem valB_bd (f : Nat -> Bool) : 0 <= valB f /\ valB f < 16 := by
 unfold valB
 split <;> split <;> split <;> split <;> omega
theorem mat_val (f : Nat -> Bool) : Mat f (valB f) := fun i hi => by
 have h : i = 0 \/ i = 1 \/ i = 2 \/ i = 3 := by omega
 unfold valB
 cases h0 : f 0 <;> cases h1 : f 1 <;> cases h2 : f 2 <;> cases h3 : f 3 <;> rcases h with rfl | rfl | rfl | rfl <;> first | (rw [h0]; decide) | (rw [h1]; decide) | (rw [h2]; decide) | (rw [h3]; decide)
theorem val_mat {f : Nat -> Bool} {u : Int} (hu : 0 <= u /\ u < 16) (h : Mat f u) : u = valB f := by
 have h0 := h 0 (by omega)
 have h1 := h 1 (by omega)
 have h2 := h 2 (by omega)
 have h3 := h 3 (by omega)
 unfold valB
 rw [h0, h1, h2, h3]
 have : u = 0 \/ u = 1 \/ u = 2 \/ u = 3 \/ u = 4 \/ u = 5 \/ u = 6 \/ u = 7 \/ u = 8 \/ u = 9 \/ u = 10 \/ u = 11 \/ u = 12 \/ u = 13 \/ u = 14 \/ u = 15 := by omega
 clear h h0 h1 h2 h3 hu
 rcases this with rfl | rfl | rfl | rfl | rfl | rfl | rfl | rfl | rfl | rfl | rfl | rfl | rfl | rfl | rfl | rfl <;> decide
theorem lit_sem {a : Nat -> Bool} {n x b : Int} {v : Bool} (hx : Lt n x /\ ltv a x = v) (hb : b = 0 \/ b = 1) : Lt n (x * (1 - 2 * b)) /\ ltv a (x * (1 - 2 * b)) = (v != decide (b = 1)) := by
 obtain ⟨h1, h2⟩ := hx
 rcases hb with rfl | rfl
 ·rw [show x * (1 - 2 * 0) = x by omega]
  exact ⟨h1, by rw [h2]; cases v <;> rfl⟩
 ·rw [show x * (1 - 2 * 1) = -x by omega]
  exact ⟨h1.neg, by rw [WV h1.1, h2]; cases v <;> rfl⟩
theorem other_eq (x y : List Int) (u v : Int) : otherTo x y u v 4 = [x.getD 0 0 * (1 - 2 * bitN u 0), y.getD 0 0 * (1 - 2 * bitN v 0), x.getD 1 0 * (1 - 2 * bitN u 1), y.getD 1 0 * (1 - 2 * bitN v 1), x.getD 2 0 * (1 - 2 * bitN u 2), y.getD 2 0 * (1 - 2 * bitN v 2), x.getD 3 0 * (1 - 2 * bitN u 3), y.getD 3 0 * (1 - 2 * bitN v 3)] := rfl
theorem other_mem {x y : List Int} {u v z : Int} : z ∈ otherTo x y u v 4 ↔ ∃ i, i < 4 /\ (z = x.getD i 0 * (1 - 2 * bitN u i) \/ z = y.getD i 0 * (1 - 2 * bitN v i)) := by
 rw [other_eq]
 simp only [List.mem_cons, List.not_mem_nil, or_false]
 constructor
 ·rintro (h | h | h | h | h | h | h | h)
  ·exact ⟨0, by omega, .inl h⟩
  ·exact ⟨0, by omega, .inr h⟩
  ·exact ⟨1, by omega, .inl h⟩
  ·exact ⟨1, by omega, .inr h⟩
  ·exact ⟨2, by omega, .inl h⟩
  ·exact ⟨2, by omega, .inr h⟩
  ·exact ⟨3, by omega, .inl h⟩
  ·exact ⟨3, by omega, .inr h⟩
 ·rintro ⟨i, hi, h⟩
  have hi : i = 0 \/ i = 1 \/ i = 2 \/ i = 3 := by omega
  rcases hi with rfl | rfl | rfl | rfl <;> rcases h with h | h <;> simp [h]
theorem other_lt {a : Nat -> Bool} {n : Int} {x y : List Int} {f h : Nat -> Bool} (hx : Bits4 a n x f) (hy : Bits4 a n y h) {u v z : Int} (hz : z ∈ otherTo x y u v 4) : Lt n z := by
 obtain ⟨i, hi, rfl | rfl⟩ := other_mem.1 hz
 ·exact (lit_sem (hx i hi) (bitN_01 u i)).1
 ·exact (lit_sem (hy i hi) (bitN_01 v i)).1
theorem other_false {a : Nat -> Bool} {n : Int} {x y : List Int} {f h : Nat -> Bool} (hx : Bits4 a n x f) (hy : Bits4 a n y h) {u v z : Int} (hu : Mat f u) (hv : Mat h v) (hz : z ∈ otherTo x y u v 4) : ltv a z = false := by
 obtain ⟨i, hi, rfl | rfl⟩ := other_mem.1 hz
 ·rw [(lit_sem (hx i hi) (bitN_01 u i)).2, hu i hi]; simp
 ·rw [(lit_sem (hy i hi) (bitN_01 v i)).2, hv i hi]; simp
theorem other_true {a : Nat -> Bool} {n : Int} {x y : List Int} {f h : Nat -> Bool} (hx : Bits4 a n x f) (hy : Bits4 a n y h) {u v : Int} (hn : ¬(Mat f u /\ Mat h v)) : ∃ z ∈ otherTo x y u v 4, ltv a z = true := by
 apply Classical.byContradiction
 intro hno
 refine hn ⟨fun i hi => ?_, fun i hi => ?_⟩
 ·have := (lit_sem (hx i hi) (bitN_01 u i)).2
  have h2 : ltv a (x.getD i 0 * (1 - 2 * bitN u i)) ≠ true := fun e => hno ⟨_, other_mem.2 ⟨i, hi, .inl rfl⟩, e⟩
  rw [this] at h2
  revert h2
  cases f i <;> cases decide (bitN u i = 1) <;> simp
 ·have := (lit_sem (hy i hi) (bitN_01 v i)).2
  have h2 : ltv a (y.getD i 0 * (1 - 2 * bitN v i)) ≠ true := fun e => hno ⟨_, other_mem.2 ⟨i, hi, .inr rfl⟩, e⟩
  rw [this] at h2
  revert h2
  cases h i <;> cases decide (bitN v i = 1) <;> simp
def tabB (op : Int) (f h : Nat -> Bool) (i : Nat) : Bool := decide (bitN (ZJ (opM op (valB f) (valB h)).1) i = 1)
theorem addTo_le (s : St) (out other : List Int) (r : Int) : ∀ i, Le s (addTo s out other r i)
 | 0 => .refl s
 | i + 1 => (addTo_le s out other r i).trans (qi _ _)
theorem addTo_vars (s : St) (out other : List Int) (r : Int) : ∀ i, (addTo s out other r i).vars = s.vars
 | 0 => rfl
 | i + 1 => (WH _ _).trans (addTo_vars s out other r i)
theorem addTo_sub (s : St) (out other : List Int) (r : Int) : ∀ i, ∀ c ∈ s.cl, c ∈ (addTo s out other r i).cl
 | 0, c, h => h
 | i + 1, c, h => qh _ _ c (addTo_sub s out other r i c h)
theorem tableTo_vars (s : St) (op : Int) (x y out : List Int) : ∀ n, (tableTo s op x y out n).vars = s.vars
 | 0 => rfl
 | n + 1 => (addTo_vars _ _ _ _ _).trans (tableTo_vars s op x y out n)
theorem bit_lit {b : Int} (hb : b = 0 \/ b = 1) (v : Int) : v * (2 * b - 1) = if b = 1 then v else -v := by
 rcases hb with rfl | rfl
 ·rw [if_neg (by decide)]; omega
 ·rw [if_pos rfl]; omega
theorem addTo_sem {a : Nat -> Bool} {s : St} {g0 : Int} {out other : List Int} {r : Int} {m : Bool} (g : GoodB base p g0 a s) (hg0 : g0 <= s.vars) (h2 : 1 <= g0)
  (hout : ∀ i : Nat, i < 4 -> out.getD i 0 = g0 + 1 + (i : Int) /\ g0 + 1 + (i : Int) <= s.vars) (hol : ∀ z ∈ other, Lt g0 z)
  (hm : if m = true then (∀ z ∈ other, ltv a z = false) /\ ∀ i : Nat, i < 4 -> ltv a (g0 + 1 + (i : Int)) = decide (bitN (ZJ r) i = 1) else ∃ z ∈ other, ltv a z = true) :
  ∀ i, i <= 4 -> ZH (addTo s out other r i) = false -> GoodB base p g0 a (addTo s out other r i) /\ (m = true -> ∀ j : Nat, j < i -> Forced a (addTo s out other r i).cl (g0 + 1 + (j : Int)))
 | 0, _, nf => ⟨g, fun _ j hj => absurd hj (by omega)⟩
 | i + 1, hi, nf => by
  have n0 : ZH (addTo s out other r i) = false := (qi _ _).nf nf
  obtain ⟨ih1, ih2⟩ := addTo_sem g hg0 h2 hout hol hm i (by omega) n0
  have hv := addTo_vars s out other r i
  obtain ⟨ho1, ho2⟩ := hout i (by omega)
  have hb := bitN_01 (ZJ r) i
  have hlit := bit_lit hb (g0 + 1 + (i : Int))
  show GoodB base p g0 a (Bl.add _ _) /\ _
  rw [ho1]
  have hL : ∀ z ∈ other ++ [(g0 + 1 + (i : Int)) * (2 * bitN (ZJ r) i - 1)], Lt s.vars z := fun z hz => by
   rcases List.mem_append.1 hz with hz | hz
   ·exact (hol z hz).mono hg0
   ·rw [List.mem_singleton.1 hz, hlit]
    split
    ·exact ⟨by omega, by omega, by omega⟩
    ·exact ⟨by omega, by omega, by omega⟩
  have hT : m = true -> ltv a ((g0 + 1 + (i : Int)) * (2 * bitN (ZJ r) i - 1)) = true /\ (g0 + 1 + (i : Int)) * (2 * bitN (ZJ r) i - 1) = al a (g0 + 1 + (i : Int)) := fun hmt => by
   rw [if_pos hmt] at hm
   have hvi := hm.2 i (by omega)
   rw [hlit, al_of (by omega), hvi]
   by_cases hb1 : bitN (ZJ r) i = 1
   ·rw [if_pos hb1, if_pos (decide_eq_true hb1), hvi]
    exact ⟨decide_eq_true hb1, rfl⟩
   ·rw [if_neg hb1, if_neg (by simp [hb1]), WV (by omega), hvi]
    exact ⟨by simp [hb1], rfl⟩
  refine ⟨ih1.add n0 (fun z hz => by rw [hv]; exact hL z hz) fun _ => ?_, fun hmt j hj => ?_⟩
  ·cases hmv : m with
   | true => exact ⟨_, List.mem_append.2 (.inr (List.mem_singleton.2 rfl)), (hT hmv).1⟩
   | false =>
    rw [hmv, if_neg (by decide)] at hm
    obtain ⟨z, hz, hzt⟩ := hm
    exact ⟨z, List.mem_append.2 (.inl hz), hzt⟩
  ·show Forced a (Bl.add (addTo s out other r i) (other ++ [out.getD i 0 * (2 * bitN (ZJ r) i - 1)])).cl _
   rw [ho1]
   by_cases hji : j = i
   ·subst hji
    have hmp := hm
    rw [if_pos hmt] at hmp
    have ht := hT hmt
    have hne : ∀ z ∈ other, z ≠ 1 := fun z hz e => by
     have := hmp.1 z hz
     rw [e, ltv_one g.t] at this
     cases this
    refine Z7 n0 (by omega) (fun h1 => ?_) (List.mem_append.2 (.inr (List.mem_singleton.2 ht.2.symm))) fun z hz => ?_
    ·rcases List.mem_append.1 h1 with h1 | h1
     ·exact hne 1 h1 rfl
     ·have h1 := List.mem_singleton.1 h1
      rw [hlit] at h1
      split at h1 <;> omega
    ·rcases List.mem_append.1 hz with hz | hz
     ·obtain ⟨q1, q2, q3⟩ := hol z hz
      exact .inr ⟨hmp.1 z hz, by omega, by omega⟩
     ·exact .inl ((List.mem_singleton.1 hz).trans ht.2)
   ·exact (ih2 hmt j (by omega)).mono (qh _ _)
theorem tableTo_sem {a : Nat -> Bool} {s : St} {g0 op : Int} {out x y : List Int} {f h : Nat -> Bool} (g : GoodB base p g0 a s) (hg0 : g0 <= s.vars) (h2 : 1 <= g0)
  (hout : ∀ i : Nat, i < 4 -> out.getD i 0 = g0 + 1 + (i : Int) /\ g0 + 1 + (i : Int) <= s.vars) (hx : Bits4 a g0 x f) (hy : Bits4 a g0 y h) (hres : ∀ i : Nat, i < 4 -> ltv a (g0 + 1 + (i : Int)) = tabB op f h i) :
  ∀ n : Nat, n <= 256 -> ZH (tableTo s op x y out n) = false -> GoodB base p g0 a (tableTo s op x y out n) /\ (valB f + 16 * valB h < n -> ∀ j : Nat, j < 4 -> Forced a (tableTo s op x y out n).cl (g0 + 1 + (j : Int)))
 | 0, _, nf => ⟨g, fun hn => by have := (valB_bd f).1; have := (valB_bd h).1; omega⟩
 | n + 1, hn, nf => by
  have n0 : ZH (tableTo s op x y out n) = false := (addTo_le _ _ _ _ _).nf nf
  obtain ⟨ih1, ih2⟩ := tableTo_sem g hg0 h2 hout hx hy hres n (by omega) n0
  have hv := tableTo_vars s op x y out n
  have hu : 0 <= (n : Int) % 16 /\ (n : Int) % 16 < 16 := by omega
  have hw : 0 <= (n : Int) / 16 /\ (n : Int) / 16 < 16 := by omega
  have hol : ∀ z ∈ otherTo x y ((n : Int) % 16) ((n : Int) / 16) 4, Lt g0 z := fun z hz => other_lt hx hy hz
  have hfb := valB_bd f
  have hhb := valB_bd h
  by_cases hm : Mat f ((n : Int) % 16) /\ Mat h ((n : Int) / 16)
  ·have e1 := val_mat hu hm.1
   have e2 := val_mat hw hm.2
   have q := addTo_sem (m := true) (r := (opM op ((n : Int) % 16) ((n : Int) / 16)).1) ih1 (by rw [hv]; exact hg0) h2 (fun i hi => by rw [hv]; exact hout i hi) hol (by
    rw [if_pos rfl]
    refine ⟨fun z hz => other_false hx hy hm.1 hm.2 hz, fun i hi => ?_⟩
    rw [hres i hi]
    unfold tabB
    rw [<- e1, <- e2]) 4 (by omega) nf
   exact ⟨q.1, fun _ => q.2 rfl⟩
  ·have q := addTo_sem (m := false) (r := (opM op ((n : Int) % 16) ((n : Int) / 16)).1) ih1 (by rw [hv]; exact hg0) h2 (fun i hi => by rw [hv]; exact hout i hi) hol (by
    rw [if_neg (by decide)]
    exact other_true hx hy hm) 4 (by omega) nf
   refine ⟨q.1, fun hlt j hj => (ih2 ?_ j hj).mono (addTo_sub _ _ _ _ _)⟩
   by_cases hne : valB f + 16 * valB h = (n : Int)
   ·exfalso
    refine hm ⟨?_, ?_⟩
    ·rw [show (n : Int) % 16 = valB f by omega]; exact mat_val f
    ·rw [show (n : Int) / 16 = valB h by omega]; exact mat_val h
   ·omega
theorem freshTo_eq (s : St) : (freshTo s 4).1 = [s.vars + 1, s.vars + 1 + 1, s.vars + 1 + 1 + 1, s.vars + 1 + 1 + 1 + 1] /\ (freshTo s 4).2 = fresh (fresh (fresh (fresh s))) := ⟨rfl, rfl⟩
theorem setA1_keep {a : Nat -> Bool} {v w : Int} {b : Bool} (h : w ≠ v) (hw : 0 < w) : ltv (WJ a v b) w = ltv a w := by
 unfold ltv WJ
 rw [if_pos hw, if_pos hw, if_neg (by omega)]
theorem table_sem {a : Nat -> Bool} {s : St} {op : Int} {x y : List Int} {f h : Nat -> Bool} (g : GoodB base p s.vars a s) (hx : Bits4 a s.vars x f) (hy : Bits4 a s.vars y h) (nf : ZH (tableTo (freshTo s 4).2 op x y (freshTo s 4).1 256) = false) :
  ∃ a', Ext base p a s a' (tableTo (freshTo s 4).2 op x y (freshTo s 4).1 256) /\ Bits4 a' (tableTo (freshTo s 4).2 op x y (freshTo s 4).1 256).vars (freshTo s 4).1 (tabB op f h) := by
 have h1 := g.v1
 have g1 := g.fresh2 (Int.le_refl _) (tabB op f h 0)
 have g2 := g1.fresh2 (by show s.vars <= s.vars + 1; omega) (tabB op f h 1)
 have g3 := g2.fresh2 (by show s.vars <= s.vars + 1 + 1; omega) (tabB op f h 2)
 have g4 := g3.fresh2 (by show s.vars <= s.vars + 1 + 1 + 1; omega) (tabB op f h 3)
 have a1 : Agree s.vars a (WJ a (s.vars + 1) (tabB op f h 0)) := ZM
 have a2 : Agree (s.vars + 1) _ (WJ (WJ a (s.vars + 1) (tabB op f h 0)) (s.vars + 1 + 1) (tabB op f h 1)) := ZM
 have a3 : Agree (s.vars + 1 + 1) _ (WJ (WJ (WJ a (s.vars + 1) (tabB op f h 0)) (s.vars + 1 + 1) (tabB op f h 1)) (s.vars + 1 + 1 + 1) (tabB op f h 2)) := ZM
 have a4 : Agree (s.vars + 1 + 1 + 1) _ (WJ (WJ (WJ (WJ a (s.vars + 1) (tabB op f h 0)) (s.vars + 1 + 1) (tabB op f h 1)) (s.vars + 1 + 1 + 1) (tabB op f h 2)) (s.vars + 1 + 1 + 1 + 1) (tabB op f h 3)) := ZM
 have ag : Agree s.vars a _ := ((a1.trans a2 (by omega)).trans a3 (by omega)).trans a4 (by omega)
 have v0 : ltv (WJ (WJ (WJ (WJ a (s.vars + 1) (tabB op f h 0)) (s.vars + 1 + 1) (tabB op f h 1)) (s.vars + 1 + 1 + 1) (tabB op f h 2)) (s.vars + 1 + 1 + 1 + 1) (tabB op f h 3)) (s.vars + 1) = tabB op f h 0 := by
  rw [setA1_keep (by omega) (by omega), setA1_keep (by omega) (by omega), setA1_keep (by omega) (by omega), setA1_ltv (by omega)]
 have v1 : ltv (WJ (WJ (WJ (WJ a (s.vars + 1) (tabB op f h 0)) (s.vars + 1 + 1) (tabB op f h 1)) (s.vars + 1 + 1 + 1) (tabB op f h 2)) (s.vars + 1 + 1 + 1 + 1) (tabB op f h 3)) (s.vars + 1 + 1) = tabB op f h 1 := by
  rw [setA1_keep (by omega) (by omega), setA1_keep (by omega) (by omega), setA1_ltv (by omega)]
 have v2 : ltv (WJ (WJ (WJ (WJ a (s.vars + 1) (tabB op f h 0)) (s.vars + 1 + 1) (tabB op f h 1)) (s.vars + 1 + 1 + 1) (tabB op f h 2)) (s.vars + 1 + 1 + 1 + 1) (tabB op f h 3)) (s.vars + 1 + 1 + 1) = tabB op f h 2 := by
  rw [setA1_keep (by omega) (by omega), setA1_ltv (by omega)]
 have v3 : ltv (WJ (WJ (WJ (WJ a (s.vars + 1) (tabB op f h 0)) (s.vars + 1 + 1) (tabB op f h 1)) (s.vars + 1 + 1 + 1) (tabB op f h 2)) (s.vars + 1 + 1 + 1 + 1) (tabB op f h 3)) (s.vars + 1 + 1 + 1 + 1) = tabB op f h 3 := setA1_ltv (by omega)
 change GoodB base p s.vars (WJ (WJ (WJ (WJ a (s.vars + 1) (tabB op f h 0)) (s.vars + 1 + 1) (tabB op f h 1)) (s.vars + 1 + 1 + 1) (tabB op f h 2)) (s.vars + 1 + 1 + 1 + 1) (tabB op f h 3)) (fresh (fresh (fresh (fresh s)))) at g4
 generalize WJ (WJ (WJ (WJ a (s.vars + 1) (tabB op f h 0)) (s.vars + 1 + 1) (tabB op f h 1)) (s.vars + 1 + 1 + 1) (tabB op f h 2)) (s.vars + 1 + 1 + 1 + 1) (tabB op f h 3) = b at *
 obtain ⟨e1, e2⟩ := freshTo_eq s
 have evv : (fresh (fresh (fresh (fresh s)))).vars = s.vars + 1 + 1 + 1 + 1 := rfl
 rw [e1, e2] at nf ⊢
 have hv := tableTo_vars (fresh (fresh (fresh (fresh s)))) op x y [s.vars + 1, s.vars + 1 + 1, s.vars + 1 + 1 + 1, s.vars + 1 + 1 + 1 + 1] 256
 have hx' : Bits4 b s.vars x f := fun i hi => ⟨(hx i hi).1, by rw [Zy ag (hx i hi).1]; exact (hx i hi).2⟩
 have hy' : Bits4 b s.vars y h := fun i hi => ⟨(hy i hi).1, by rw [Zy ag (hy i hi).1]; exact (hy i hi).2⟩
 have hcase : ∀ {Q : Nat -> Prop}, Q 0 -> Q 1 -> Q 2 -> Q 3 -> ∀ i, i < 4 -> Q i := fun {Q} q0 q1 q2 q3 i hi => by
  have : i = 0 \/ i = 1 \/ i = 2 \/ i = 3 := by omega
  rcases this with rfl | rfl | rfl | rfl
  ·exact q0
  ·exact q1
  ·exact q2
  ·exact q3
 have hsh : ∀ i : Nat, i < 4 -> ([s.vars + 1, s.vars + 1 + 1, s.vars + 1 + 1 + 1, s.vars + 1 + 1 + 1 + 1] : List Int).getD i 0 = s.vars + 1 + (i : Int) := hcase (by show s.vars + 1 = s.vars + 1 + ((0 : Nat) : Int); omega) (by show s.vars + 1 + 1 = s.vars + 1 + ((1 : Nat) : Int); omega) (by show s.vars + 1 + 1 + 1 = s.vars + 1 + ((2 : Nat) : Int); omega) (by show s.vars + 1 + 1 + 1 + 1 = s.vars + 1 + ((3 : Nat) : Int); omega)
 have hres : ∀ i : Nat, i < 4 -> ltv b (s.vars + 1 + (i : Int)) = tabB op f h i := hcase (by rw [show s.vars + 1 + ((0 : Nat) : Int) = s.vars + 1 by omega]; exact v0) (by rw [show s.vars + 1 + ((1 : Nat) : Int) = s.vars + 1 + 1 by omega]; exact v1) (by rw [show s.vars + 1 + ((2 : Nat) : Int) = s.vars + 1 + 1 + 1 by omega]; exact v2) (by rw [show s.vars + 1 + ((3 : Nat) : Int) = s.vars + 1 + 1 + 1 + 1 by omega]; exact v3)
 obtain ⟨q1, q2⟩ := tableTo_sem g4 (by rw [evv]; omega) h1 (fun i hi => ⟨hsh i hi, by rw [evv]; omega⟩) hx' hy' hres 256 (Nat.le_refl _) nf
 have hfb := valB_bd f
 have hhb := valB_bd h
 have q3 := q2 (by omega)
 have u1 := q1.up (by have := q3 0 (by omega); rwa [show s.vars + 1 + ((0 : Nat) : Int) = s.vars + 1 by omega] at this)
 have u2 := u1.up (by have := q3 1 (by omega); rwa [show s.vars + 1 + ((1 : Nat) : Int) = s.vars + 1 + 1 by omega] at this)
 have u3 := u2.up (by have := q3 2 (by omega); rwa [show s.vars + 1 + ((2 : Nat) : Int) = s.vars + 1 + 1 + 1 by omega] at this)
 have u4 := u3.up (by have := q3 3 (by omega); rwa [show s.vars + 1 + ((3 : Nat) : Int) = s.vars + 1 + 1 + 1 + 1 by omega] at this)
 refine ⟨b, ⟨by rw [hv, evv]; exact u4, ag, by rw [hv, evv]; omega⟩, fun i hi => ?_⟩
 rw [hv, evv, hsh i hi]
 exact ⟨⟨by omega, by omega, by omega⟩, hres i hi⟩
end
end Go.Proofs
end
