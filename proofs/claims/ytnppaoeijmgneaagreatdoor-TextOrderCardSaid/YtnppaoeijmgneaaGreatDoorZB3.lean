/-
  Part 3 of the proof: T6 T7 T9 TB PN TC LI PA OL.
-/
import Derived.Test.YtnppaoeijmgneaaGreatDoorZB1
import Derived.Test.YtnppaoeijmgneaaGreatDoorZB2
set_option linter.unusedSimpArgs false
set_option linter.unusedVariables false
set_option maxRecDepth 10000
set_option maxHeartbeats 4000000
section
namespace Go.Proofs
open Go.Av
variable {G : Nat -> DV}
attribute [local irreducible] OpSem Za Zv qc ACalls AEnd AClose RV
open Go.Bl
variable {o : List UInt8} {bad : Bool}
theorem fields_ops : Lib.fields [43, 32, 45, 32, 42, 32, 47, 32, 37, 32, 38, 32, 124, 32, 94, 32, 60, 60, 32, 62, 62, 32, 60, 32, 61, 61, 32, 38, 38, 32, 124, 124] = opTexts := by decide +kernel
theorem ops_own (hG1 : G 1 = spaceT) : Own Tryz.prog G 89 [] 14 1 (Ws (opTexts.map Str.mk)) := fun B => by
 refine Qa Tryz.func89 rfl Tryz.ntmps89 rfl (t := []) rfl fun E hE => ?_
 (repeat' first | (refine Qg ?_; (first | refine QN rfl ?_ | refine s_call_o rfl rfl (fields_own hG1 [43, 32, 45, 32, 42, 32, 47, 32, 37, 32, 38, 32, 124, 32, 94, 32, 60, 60, 32, 62, 62, 32, 60, 32, 61, 61, 32, 38, 38, 32, 124, 124] (by decide) (by decide)) (by first | exact QC _) (fun _ _ => ?_))) | (refine Qk ?_; (first | refine Qi ?_ | refine QK rfl ?_)) | (refine Qj ?_; (first | refine Ql ?_ | refine Qb ?_ | refine Qy ?_)))
 exact e_1 (Tryz.results89) (Qx rfl) (c_ownedB hE rfl (by rw [fields_ops]; rfl) (by rw [fields_ops]) rfl)
theorem ops_c (hG1 : G 1 = spaceT) : Go.Av.Pure Tryz.prog G 89 [] (QW (opTexts.map Str.mk)) := (ops_own hG1).pure (by rw [QS]; rfl)
theorem opAt {n : Int} (h0 : 0 <= n) (h1 : n < 14) (h : n.toNat < (opTexts.map Str.mk).length) : ((opTexts.map Str.mk)[n.toNat]).l = opTexts.getD n.toNat [] := by
 rw [List.getElem_map, List.getD_eq_getElem?_getD, List.getElem?_eq_getElem (by simpa using h)]; rfl
theorem expr_c (hG : G 6 = pow10T) (hG1 : G 1 = spaceT) (t : Nd) : okN t -> Qr t <= 1000000 -> ∀ bad, PE Tryz.prog G 48 (fun p g => [.ptr p g 0, .agg (Enc.enc t)]) o bad (WS (exT t)) (bad || !exOk t) := by
 induction t using Nd.ind with
 | h k n m ks ih =>
 intro hok hsz bad g0 g1 B h0 h1
 rw [okN] at hok
 rw [Qr] at hsz
 have hops := ops_c (G := G) hG1
 have hl1 := WU ks
 have hl : ks.length <= 1048576 := by omega
 have hn : -9223372036854775808 <= n /\ n <= 9223372036854775807 := hok.1.2.1
 have hm : -9223372036854775808 <= m /\ m <= 9223372036854775807 := hok.1.2.2
 have hnl := Zh hok.1.2.1
 have hml := Zh hok.1.2.2
 have hol := opTexts_len n.toNat
 have hcl := Z1 exT ks fun x hx => exT_len x (WJ hok.2 hx)
 have hlist : ∀ b, PE Tryz.prog G 84 (fun p g => [QW ks, .fn (.func 48) [.ptr p g 0] []]) o b (WS (Zm (ks.map exT))) (b || !ks.all exOk) := fun b => list_c _ exT exOk ks b (fun x hx b => ih x hx (WJ hok.2 hx) (by have := Wf hx; omega) b) hl (by omega)
 have hx : ∀ x ∈ ks, ∀ b, PE Tryz.prog G 48 (fun p g => [.ptr p g 0, .agg (Enc.enc x)]) o b (WS (exT x)) (b || !exOk x) := fun x hx b => ih x hx (WJ hok.2 hx) (by have := Wf hx; omega) b
 have hxl : ∀ x ∈ ks, (exT x).length <= 60000000 := fun x hx => by have := exT_len x (WJ hok.2 hx); have := Wf hx; omega
 clear ih hok
 rw [exT, exOk, exTs_eq, exOks_eq, QQ]
 by_cases k4 : k = 4
 ·subst k4
  by_cases hn0 : n < 0
  ·refine Qa Tryz.func48 rfl Tryz.ntmps48 rfl (t := [(0, .ptr 0 g0 0), (1, .agg [.i _, .i n, .i m, QW ks])]) rfl fun E hE => ?_
   (repeat' first | (refine Qg ?_; (first | refine QJ rfl ?_ | refine QN rfl ?_ | (refine QG ?_; (first | refine WL rfl rfl ?_ | refine Qc rfl rfl rfl ?_)) | (refine Qo ?_; (first | refine QX rfl rfl ?_ | refine W4 rfl rfl ?_ | refine Q1 rfl rfl ?_)) | (refine Qt ?_; (first | refine WY 0 1 (W5 _) rfl rfl rfl rfl rfl rfl ?_ | refine WY 0 1 (W9 _ _ _ _ _ (by assumption)) rfl rfl rfl rfl rfl rfl ?_ | refine WR rfl rfl (itoa_c hG _ (by assumption)) ?_)) | refine Qd rfl rfl ?_ | refine Q9 rfl rfl (fun _ _ => ?_))) | (refine Qk ?_; (first | refine Qi ?_ | refine QK rfl ?_)) | (refine Qj ?_; (first | refine Ql ?_ | refine Qb ?_ | refine Qe ?_ | refine Qq rfl ?_ | refine Qm rfl (by omega) ?_ | refine Qy ?_)))
   exact e_1 Tryz.results48 (Qx rfl) (c_pe (by simp [*]) (by simp [*, Bool.or_assoc]))
  ·refine Qa Tryz.func48 rfl Tryz.ntmps48 rfl (t := [(0, .ptr 0 g0 0), (1, .agg [.i _, .i n, .i m, QW ks])]) rfl fun E hE => ?_
   (repeat' first | (refine Qg ?_; (first | refine QJ rfl ?_ | refine QN rfl ?_ | (refine QG ?_; (first | refine WL rfl rfl ?_ | refine Qc rfl rfl rfl ?_)) | (refine Qo ?_; (first | refine QX rfl rfl ?_ | refine Q1 rfl rfl ?_)) | (refine Qt ?_; (first | refine WY 0 1 (W9 _ _ _ _ _ (by assumption)) rfl rfl rfl rfl rfl rfl ?_ | refine WY 0 1 (Zf hG _ (by assumption)) rfl rfl rfl rfl rfl rfl ?_)) | refine Qd rfl rfl ?_ | refine Q9 rfl rfl (fun _ _ => ?_))) | (refine Qk ?_; (first | refine Qi ?_ | refine QK rfl ?_)) | (refine Qj ?_; (first | refine Ql ?_ | refine Qb ?_ | refine Qe ?_ | refine QB ?_ | refine Qq rfl ?_ | refine Qf rfl (by omega) ?_ | refine Qy ?_)))
   exact e_1 Tryz.results48 (Qx rfl) (c_pe (by simp [*]) (by simp [*, Bool.or_assoc]))
 by_cases k5 : k = 5
 ·subst k5
  by_cases hn0 : n = 0
  ·subst hn0
   refine Qa Tryz.func48 rfl Tryz.ntmps48 rfl (t := [(0, .ptr 0 g0 0), (1, .agg [.i _, .i _, .i m, QW ks])]) rfl fun E hE => ?_
   (repeat' first | (refine Qg ?_; (first | refine QJ rfl ?_ | refine QN rfl ?_ | (refine QG ?_; (first | refine WL rfl rfl ?_ | refine Qc rfl rfl rfl ?_)) | refine Q1 rfl rfl ?_ | (refine Qt ?_; (first | refine WY 0 1 (W5 _) rfl rfl rfl rfl rfl rfl ?_ | refine WY 0 1 (W9 _ _ _ _ _ (by assumption)) rfl rfl rfl rfl rfl rfl ?_ | refine WR rfl rfl (formatBool_c _) ?_)) | refine W1 rfl rfl ?_ | refine Qd rfl rfl ?_ | refine Q9 rfl rfl (fun _ _ => ?_))) | (refine Qk ?_; (first | refine Qi ?_ | refine QK rfl ?_ | refine W7 rfl rfl rfl rfl ?_)) | (refine Qj ?_; (first | refine Ql ?_ | refine Qb ?_ | refine Qe ?_ | refine Qq rfl ?_ | refine Qs rfl ?_ | refine Qy ?_)))
   exact e_1 Tryz.results48 (Qx rfl) (c_pe (by simp [*]) (by simp [*, Bool.or_assoc]))
  ·refine Qa Tryz.func48 rfl Tryz.ntmps48 rfl (t := [(0, .ptr 0 g0 0), (1, .agg [.i _, .i n, .i m, QW ks])]) rfl fun E hE => ?_
   (repeat' first | (refine Qg ?_; (first | refine QJ rfl ?_ | refine QN rfl ?_ | (refine QG ?_; (first | refine WL rfl rfl ?_ | refine Qc rfl rfl rfl ?_)) | refine Q1 rfl rfl ?_ | (refine Qt ?_; (first | refine WY 0 1 (W5 _) rfl rfl rfl rfl rfl rfl ?_ | refine WY 0 1 (W9 _ _ _ _ _ (by assumption)) rfl rfl rfl rfl rfl rfl ?_ | refine WR rfl rfl (formatBool_c _) ?_)) | refine WO rfl rfl ?_ | refine Qd rfl rfl ?_ | refine Q9 rfl rfl (fun _ _ => ?_))) | (refine Qk ?_; (first | refine Qi ?_ | refine QK rfl ?_ | refine WM rfl rfl rfl rfl ?_ | refine Q5 rfl rfl (by omega) ?_)) | (refine Qj ?_; (first | refine Ql ?_ | refine Qb ?_ | refine Qe ?_ | refine Qq rfl ?_ | refine Qs rfl ?_ | refine Qy ?_)))
   exact e_1 Tryz.results48 (Qx rfl) (c_pe (by simp [*]) (by simp [*, Bool.or_assoc]))
 by_cases k6 : k = 6
 ·subst k6
  refine Qa Tryz.func48 rfl Tryz.ntmps48 rfl (t := [(0, .ptr 0 g0 0), (1, .agg [.i _, .i n, .i m, QW ks])]) rfl fun E hE => ?_
  (repeat' first | (refine Qg ?_; (first | refine QJ rfl ?_ | refine QN rfl ?_ | (refine QG ?_; (first | refine WL rfl rfl ?_ | refine Qc rfl rfl rfl ?_)) | (refine Qo ?_; (first | refine Q1 rfl rfl ?_ | refine s_ad rfl rfl ?_)) | (refine Qt ?_; (first | refine WY 0 1 (W9 _ _ _ _ _ (by assumption)) rfl rfl rfl rfl rfl rfl ?_ | refine WY 0 1 (Zf hG _ (by assumption)) rfl rfl rfl rfl rfl rfl ?_)) | refine Qd rfl rfl ?_ | refine Q9 rfl rfl (fun _ _ => ?_))) | (refine Qk ?_; (first | refine Qi ?_ | refine QK rfl ?_)) | (refine Qj ?_; (first | refine Ql ?_ | refine Qb ?_ | refine Qe ?_ | refine Qq rfl ?_ | refine Qs rfl ?_ | refine Qy ?_)))
  exact e_1 Tryz.results48 (Qx rfl) (c_pe (by simp [*]) (by simp [*, Bool.or_assoc]))
 by_cases k7 : k = 7
 ·subst k7
  refine Qa Tryz.func48 rfl Tryz.ntmps48 rfl (t := [(0, .ptr 0 g0 0), (1, .agg [.i _, .i n, .i m, QW ks])]) rfl fun E hE => ?_
  (repeat' first | (refine Qg ?_; (first | refine QJ rfl ?_ | refine QN rfl ?_ | (refine QG ?_; (first | refine WL rfl rfl ?_ | refine Qc rfl rfl rfl ?_)) | refine Q1 rfl rfl ?_ | (refine Qt ?_; (first | refine WY 0 1 (W9 _ _ _ _ _ (by assumption)) rfl rfl rfl rfl rfl rfl ?_ | refine WY 0 1 (Zf hG _ (by assumption)) rfl rfl rfl rfl rfl rfl ?_ | refine WY 0 1 (hlist _) rfl rfl rfl rfl rfl rfl ?_)) | refine Qd rfl rfl ?_ | refine Q9 rfl rfl (fun _ _ => ?_))) | (refine Qk ?_; (first | refine Qi ?_ | refine QK rfl ?_)) | (refine Qj ?_; (first | refine Ql ?_ | refine Qb ?_ | refine Qe ?_ | (refine WF ?_; first | (refine Qv (pfx3 _ _) 100 [(0, true), (1, true), (2, true), (3, true), (4, true), (9, true), (10, true), (15, true), (16, true), (17, true), (18, true), (19, true), (5, false), (6, true), (7, true), (8, true), (11, true), (12, true), (13, true), (14, true), (20, false), (21, true), (22, true), (23, true)] (by rfl) (by rfl) (by kernel_rfl) (by decide +kernel) (by decide +kernel) ⟨(_, _, _, _), rfl⟩ ?_) | (refine Qv (pfx3 _ _) 100 [(0, true), (1, true), (2, true), (6, true), (7, true), (8, true), (3, false), (4, true), (5, true), (9, false), (10, true), (11, true)] (by rfl) (by rfl) (by kernel_rfl) (by decide +kernel) (by decide +kernel) ⟨(_, _, _, _), rfl⟩ ?_) | (refine Qv (pfx3 _ _) 100 [(0, true), (1, true), (2, true), (6, true), (7, true), (8, true), (9, true), (3, false), (4, true), (5, true), (10, false), (11, true), (12, true), (13, true)] (by rfl) (by rfl) (by kernel_rfl) (by decide +kernel) (by decide +kernel) ⟨(_, _, _, _), rfl⟩ ?_) | refine Wm (by rfl) (by kernel_rfl) (by kernel_rfl) ?_ | refine Wl (by kernel_rfl) (by kernel_rfl) ?_) | refine Qq rfl ?_ | refine Qs rfl ?_ | refine Qy ?_)) | (refine W6 ?_; (first | refine ZG ?_ | refine i_st rfl rfl (fun _ => (by (repeat' first | (refine Qg ?_; (first | refine QJ rfl ?_ | refine QN rfl ?_ | refine Qc rfl rfl rfl ?_ | refine s_ad rfl rfl ?_ | refine Qd rfl rfl ?_ | refine QH rfl rfl ?_)) | exact ⟨rfl, rfl⟩))) ?_ | refine i_ef rfl ?_)) | refine And.intro (Exists.intro ((_, _, _, _)) rfl) ?_)
  exact e_1 Tryz.results48 (Qx rfl) (c_pe (by simp [*]) (by simp [*, Bool.or_assoc]))
 by_cases k8 : k = 8
 ·subst k8
  refine Qa Tryz.func48 rfl Tryz.ntmps48 rfl (t := [(0, .ptr 0 g0 0), (1, .agg [.i _, .i n, .i m, QW ks])]) rfl fun E hE => ?_
  (repeat' first | (refine Qg ?_; (first | refine QJ rfl ?_ | refine QN rfl ?_ | refine Qc rfl rfl rfl ?_ | refine Q1 rfl rfl ?_ | (refine Qt ?_; (first | refine QI rfl ?_ | refine WY 0 1 (W5 _) rfl rfl rfl rfl rfl rfl ?_ | refine WY 0 1 (Zf hG _ (by assumption)) rfl rfl rfl rfl rfl rfl ?_)) | refine Qd rfl rfl ?_ | refine Q9 rfl rfl (fun _ _ => ?_))) | (refine Qk ?_; (first | refine Qi ?_ | refine QK rfl ?_)) | (refine Qj ?_; (first | refine Ql ?_ | refine Qb ?_ | refine Qe ?_ | (refine WF ?_; first | (refine Qv (pfx3 _ _) 100 [(0, true), (1, true), (2, true), (3, true), (4, true), (9, true), (10, true), (15, true), (16, true), (17, true), (18, true), (19, true), (5, false), (6, true), (7, true), (8, true), (11, true), (12, true), (13, true), (14, true), (20, false), (21, true), (22, true), (23, true)] (by rfl) (by rfl) (by kernel_rfl) (by decide +kernel) (by decide +kernel) ⟨(_, _, _, _), rfl⟩ ?_) | (refine Qv (pfx3 _ _) 100 [(0, true), (1, true), (2, true), (6, true), (7, true), (8, true), (3, false), (4, true), (5, true), (9, false), (10, true), (11, true)] (by rfl) (by rfl) (by kernel_rfl) (by decide +kernel) (by decide +kernel) ⟨(_, _, _, _), rfl⟩ ?_) | (refine Qv (pfx3 _ _) 100 [(0, true), (1, true), (2, true), (6, true), (7, true), (8, true), (9, true), (3, false), (4, true), (5, true), (10, false), (11, true), (12, true), (13, true)] (by rfl) (by rfl) (by kernel_rfl) (by decide +kernel) (by decide +kernel) ⟨(_, _, _, _), rfl⟩ ?_) | refine Wm (by rfl) (by kernel_rfl) (by kernel_rfl) ?_ | refine Wl (by kernel_rfl) (by kernel_rfl) ?_) | refine Qq rfl ?_ | refine Qs rfl ?_ | refine Qy ?_)) | (refine W6 ?_; (first | refine ZG ?_ | refine i_st rfl rfl (fun _ => (by (repeat' first | (refine Qg ?_; (first | refine QJ rfl ?_ | refine QN rfl ?_ | refine Qc rfl rfl rfl ?_ | refine s_ad rfl rfl ?_ | refine Qd rfl rfl ?_)) | exact ⟨rfl, rfl⟩))) ?_ | refine i_ef rfl ?_)) | refine And.intro (Exists.intro ((_, _, _, _)) rfl) ?_)
  exact e_1 Tryz.results48 (Qx rfl) (c_pe (by simp [*]) (by simp [*, Bool.or_assoc]))
 by_cases k9 : k = 9
 ·subst k9
  by_cases hp : Q0 m ks.length 2 = true
  ·have hpl : ∀ b, PE Tryz.prog G 42 (fun p g => [.ptr p g 0, .agg [.i 9, .i n, .i m, QW ks], .i 2]) o b (.b true) b := fun b => (W9 9 n m ks 2 hl).conv (by rw [hp]) (by rw [hp]; simp)
   by_cases hnb : 0 <= n /\ n < 14
   ·obtain ⟨hn0, hn1⟩ := hnb
    have h2 : ks.length = 2 := by simp [Q0] at hp; omega
    match ks, h2 with
    | [a, b], _ =>
     have ha := hx a (by simp)
     have hb := hx b (by simp)
     have hal := hxl a (by simp)
     have hbl := hxl b (by simp)
     have hlt : n.toNat < (opTexts.map Str.mk).length := by show n.toNat < 14; omega
     have hoa := opAt hn0 hn1 hlt
     have hol' : ((opTexts.map Str.mk)[n.toNat]).l.length <= 2 := by rw [hoa]; exact hol
     clear hx hxl hlist hcl
     refine Qa Tryz.func48 rfl Tryz.ntmps48 rfl (t := [(0, .ptr 0 g0 0), (1, .agg [.i _, .i n, .i m, QW [a, b]])]) rfl fun E hE => ?_
     (repeat' first | (refine Qg ?_; (first | refine QJ rfl ?_ | refine QN rfl ?_ | (refine QG ?_; (first | refine WL rfl rfl ?_ | refine Qc rfl rfl rfl ?_)) | (refine Qo ?_; (first | refine QX rfl rfl ?_ | refine W4 rfl rfl ?_ | refine Q1 rfl rfl ?_)) | (refine Qt ?_; (first | refine WY 0 1 (W5 _) rfl rfl rfl rfl rfl rfl ?_ | refine WY 0 1 (hpl _) rfl rfl rfl rfl rfl rfl ?_ | refine WY 0 1 (ha _) rfl rfl rfl rfl rfl rfl ?_ | refine WY 0 1 (hb _) rfl rfl rfl rfl rfl rfl ?_)) | (refine Q8 ?_; (first | refine W1 rfl rfl ?_ | refine WO rfl rfl ?_)) | (refine g_unOp ?_; (first | refine s_not_d rfl ?_ | refine W2 rfl ?_)) | refine Qd rfl rfl ?_ | refine Q9 rfl rfl (fun _ _ => ?_))) | (refine Qk ?_; (first | refine Qi ?_ | refine QK rfl ?_ | refine WM rfl rfl rfl rfl ?_ | refine Wc rfl rfl (by omega) ?_)) | (refine Qj ?_; (first | refine Ql ?_ | refine Qb ?_ | refine Qe ?_ | (refine WF ?_; first | (refine Qv (pfx3 _ _) 100 [(0, true), (1, true), (2, true), (3, true), (4, true), (9, true), (10, true), (15, true), (16, true), (17, true), (18, true), (19, true), (5, false), (6, true), (7, true), (8, true), (11, true), (12, true), (13, true), (14, true), (20, false), (21, true), (22, true), (23, true)] (by rfl) (by rfl) (by kernel_rfl) (by decide +kernel) (by decide +kernel) ⟨(_, _, _, _), rfl⟩ ?_) | (refine Qv (pfx3 _ _) 100 [(0, true), (1, true), (2, true), (6, true), (7, true), (8, true), (3, false), (4, true), (5, true), (9, false), (10, true), (11, true)] (by rfl) (by rfl) (by kernel_rfl) (by decide +kernel) (by decide +kernel) ⟨(_, _, _, _), rfl⟩ ?_) | (refine Qv (pfx3 _ _) 100 [(0, true), (1, true), (2, true), (6, true), (7, true), (8, true), (9, true), (3, false), (4, true), (5, true), (10, false), (11, true), (12, true), (13, true)] (by rfl) (by rfl) (by kernel_rfl) (by decide +kernel) (by decide +kernel) ⟨(_, _, _, _), rfl⟩ ?_) | refine Wm (by rfl) (by kernel_rfl) (by kernel_rfl) ?_ | refine Wl (by kernel_rfl) (by kernel_rfl) ?_) | refine QB ?_ | refine Qq rfl ?_ | refine Qs rfl ?_ | refine Qf rfl (by omega) ?_ | refine Qy ?_)) | (refine W6 ?_; (first | refine ZG ?_ | refine i_st rfl rfl (fun _ => (by (repeat' first | (refine Qg ?_; (first | refine QJ rfl ?_ | refine QN rfl ?_ | (refine QG ?_; (first | refine Wa rfl ?_ | refine QO rfl ?_ | refine Qc rfl rfl rfl ?_)) | (refine g_indexAddr ?_; (first | refine QM rfl rfl (by first | assumption | omega | (simp; done) | (simp; omega)) ?_ | refine s_idx_sl rfl rfl (by omega) (by first | assumption | omega | (simp; done) | (simp; omega)) ?_)) | refine s_ad rfl rfl ?_ | refine WR rfl rfl (hops) ?_ | refine Qd rfl rfl ?_)) | exact ⟨rfl, rfl⟩))) ?_ | refine i_ef rfl ?_)) | refine And.intro (Exists.intro ((_, _, _, _)) rfl) ?_)
     have hp2 : Q0 m 2 2 = true := hp
     refine e_1 Tryz.results48 (Qx rfl) (c_pe ?_ ?_)
     ·rw [hoa]; simp [hp2, hn0, hn1]
     ·simp [hp2, hn0, hn1, Bool.or_assoc]
   ·by_cases hn0 : 0 <= n
    ·have h14 : 14 <= n := by omega
     have h15 : ¬ n < 14 := by omega
     refine Qa Tryz.func48 rfl Tryz.ntmps48 rfl (t := [(0, .ptr 0 g0 0), (1, .agg [.i _, .i n, .i m, QW ks])]) rfl fun E hE => ?_
     (repeat' first | (refine Qg ?_; (first | refine QJ rfl ?_ | refine QN rfl ?_ | (refine QG ?_; (first | refine WL rfl rfl ?_ | refine Qc rfl rfl rfl ?_)) | (refine Qo ?_; (first | refine QX rfl rfl ?_ | refine W4 rfl rfl ?_ | refine Q1 rfl rfl ?_)) | (refine Qt ?_; (first | refine WY 0 1 (W5 _) rfl rfl rfl rfl rfl rfl ?_ | refine WY 0 1 (hpl _) rfl rfl rfl rfl rfl rfl ?_)) | (refine Q8 ?_; (first | refine W1 rfl rfl ?_ | refine WO rfl rfl ?_)) | (refine g_unOp ?_; (first | refine s_not_d rfl ?_ | refine W2 rfl ?_)) | refine Qd rfl rfl ?_ | refine Q9 rfl rfl (fun _ _ => ?_))) | (refine Qk ?_; (first | refine Qi ?_ | refine QK rfl ?_ | refine WM rfl rfl rfl rfl ?_ | refine Wc rfl rfl (by omega) ?_)) | (refine Qj ?_; (first | refine Ql ?_ | refine Qb ?_ | refine Qe ?_ | refine Qq rfl ?_ | refine Qs rfl ?_ | refine Qm rfl (by omega) ?_ | refine Qy ?_)))
     exact e_1 Tryz.results48 (Qx rfl) (c_pe (by simp [*]) (by simp [*, Bool.or_assoc]))
    ·refine Qa Tryz.func48 rfl Tryz.ntmps48 rfl (t := [(0, .ptr 0 g0 0), (1, .agg [.i _, .i n, .i m, QW ks])]) rfl fun E hE => ?_
     (repeat' first | (refine Qg ?_; (first | refine QJ rfl ?_ | refine QN rfl ?_ | (refine QG ?_; (first | refine WL rfl rfl ?_ | refine Qc rfl rfl rfl ?_)) | (refine Qo ?_; (first | refine W4 rfl rfl ?_ | refine Q1 rfl rfl ?_)) | (refine Qt ?_; (first | refine WY 0 1 (W5 _) rfl rfl rfl rfl rfl rfl ?_ | refine WY 0 1 (hpl _) rfl rfl rfl rfl rfl rfl ?_)) | refine WO rfl rfl ?_ | refine W2 rfl ?_ | refine Qd rfl rfl ?_ | refine Q9 rfl rfl (fun _ _ => ?_))) | (refine Qk ?_; (first | refine Qi ?_ | refine QK rfl ?_ | refine WM rfl rfl rfl rfl ?_ | refine W7 rfl rfl rfl rfl ?_ | refine Q5 rfl rfl (by omega) ?_)) | (refine Qj ?_; (first | refine Ql ?_ | refine Qb ?_ | refine Qe ?_ | refine Qq rfl ?_ | refine Qs rfl ?_ | refine Qy ?_)))
     exact e_1 Tryz.results48 (Qx rfl) (c_pe (by simp [*]) (by simp [*, Bool.or_assoc]))
  ·have hpl : ∀ b, PE Tryz.prog G 42 (fun p g => [.ptr p g 0, .agg [.i 9, .i n, .i m, QW ks], .i 2]) o b (.b false) true := fun b => (W9 9 n m ks 2 hl).conv (by rw [Bool.not_eq_true] at hp; rw [hp]) (by rw [Bool.not_eq_true] at hp; rw [hp]; simp)
   refine Qa Tryz.func48 rfl Tryz.ntmps48 rfl (t := [(0, .ptr 0 g0 0), (1, .agg [.i _, .i n, .i m, QW ks])]) rfl fun E hE => ?_
   (repeat' first | (refine Qg ?_; (first | refine QJ rfl ?_ | refine QN rfl ?_ | (refine QG ?_; (first | refine WL rfl rfl ?_ | refine Qc rfl rfl rfl ?_)) | refine Q1 rfl rfl ?_ | refine WY 0 1 (hpl _) rfl rfl rfl rfl rfl rfl ?_ | refine W1 rfl rfl ?_ | refine W2 rfl ?_ | refine Qd rfl rfl ?_ | refine Q9 rfl rfl (fun _ _ => ?_))) | (refine Qk ?_; (first | refine Qi ?_ | refine QK rfl ?_ | refine W7 rfl rfl rfl rfl ?_ | refine o_gu rfl rfl rfl rfl rfl ?_)) | (refine Qj ?_; (first | refine Ql ?_ | refine Qb ?_ | refine Qe ?_ | refine Qq rfl ?_ | refine Qs rfl ?_ | refine Qy ?_)))
   exact e_1 Tryz.results48 (Qx rfl) (c_pe (by simp [*]) (by simp [*, Bool.or_assoc]))
 by_cases k10 : k = 10
 ·subst k10
  refine Qa Tryz.func48 rfl Tryz.ntmps48 rfl (t := [(0, .ptr 0 g0 0), (1, .agg [.i _, .i n, .i m, QW ks])]) rfl fun E hE => ?_
  (repeat' first | (refine Qg ?_; (first | refine QJ rfl ?_ | refine QN rfl ?_ | (refine QG ?_; (first | refine WL rfl rfl ?_ | refine Qc rfl rfl rfl ?_)) | (refine Qo ?_; (first | refine Q1 rfl rfl ?_ | refine s_ad rfl rfl ?_)) | (refine Qt ?_; (first | refine WY 0 1 (qe _ _ _ _ _ (by assumption)) rfl rfl rfl rfl rfl rfl ?_ | refine WY 0 1 (hlist _) rfl rfl rfl rfl rfl rfl ?_)) | refine Qd rfl rfl ?_ | refine QH rfl rfl ?_ | refine Q9 rfl rfl (fun _ _ => ?_))) | (refine Qk ?_; (first | refine Qi ?_ | refine QK rfl ?_)) | (refine Qj ?_; (first | refine Ql ?_ | refine Qb ?_ | refine Qe ?_ | refine Qq rfl ?_ | refine Qs rfl ?_ | refine Qy ?_)))
  exact e_1 Tryz.results48 (Qx rfl) (c_pe (by simp [*]) (by simp [*, Bool.or_assoc]))
 by_cases k11 : k = 11
 ·subst k11
  refine Qa Tryz.func48 rfl Tryz.ntmps48 rfl (t := [(0, .ptr 0 g0 0), (1, .agg [.i _, .i n, .i m, QW ks])]) rfl fun E hE => ?_
  (repeat' first | (refine Qg ?_; (first | refine QJ rfl ?_ | refine QN rfl ?_ | (refine QG ?_; (first | refine WL rfl rfl ?_ | refine Qc rfl rfl rfl ?_)) | refine Q1 rfl rfl ?_ | (refine Qt ?_; (first | refine WY 0 1 (W9 _ _ _ _ _ (by assumption)) rfl rfl rfl rfl rfl rfl ?_ | refine WY 0 1 (Zf hG _ (by assumption)) rfl rfl rfl rfl rfl rfl ?_ | refine WY 0 1 (hlist _) rfl rfl rfl rfl rfl rfl ?_)) | refine Qd rfl rfl ?_ | refine Q9 rfl rfl (fun _ _ => ?_))) | (refine Qk ?_; (first | refine Qi ?_ | refine QK rfl ?_)) | (refine Qj ?_; (first | refine Ql ?_ | refine Qb ?_ | refine Qe ?_ | (refine WF ?_; first | (refine Qv (pfx3 _ _) 100 [(0, true), (1, true), (2, true), (3, true), (4, true), (9, true), (10, true), (15, true), (16, true), (17, true), (18, true), (19, true), (5, false), (6, true), (7, true), (8, true), (11, true), (12, true), (13, true), (14, true), (20, false), (21, true), (22, true), (23, true)] (by rfl) (by rfl) (by kernel_rfl) (by decide +kernel) (by decide +kernel) ⟨(_, _, _, _), rfl⟩ ?_) | (refine Qv (pfx3 _ _) 100 [(0, true), (1, true), (2, true), (6, true), (7, true), (8, true), (3, false), (4, true), (5, true), (9, false), (10, true), (11, true)] (by rfl) (by rfl) (by kernel_rfl) (by decide +kernel) (by decide +kernel) ⟨(_, _, _, _), rfl⟩ ?_) | (refine Qv (pfx3 _ _) 100 [(0, true), (1, true), (2, true), (6, true), (7, true), (8, true), (9, true), (3, false), (4, true), (5, true), (10, false), (11, true), (12, true), (13, true)] (by rfl) (by rfl) (by kernel_rfl) (by decide +kernel) (by decide +kernel) ⟨(_, _, _, _), rfl⟩ ?_) | refine Wm (by rfl) (by kernel_rfl) (by kernel_rfl) ?_ | refine Wl (by kernel_rfl) (by kernel_rfl) ?_) | refine Qq rfl ?_ | refine Qs rfl ?_ | refine Qy ?_)) | (refine W6 ?_; (first | refine ZG ?_ | refine i_st rfl rfl (fun _ => (by (repeat' first | (refine Qg ?_; (first | refine QJ rfl ?_ | refine QN rfl ?_ | refine Qc rfl rfl rfl ?_ | refine s_ad rfl rfl ?_ | refine Qd rfl rfl ?_ | refine QH rfl rfl ?_)) | exact ⟨rfl, rfl⟩))) ?_ | refine i_ef rfl ?_)) | refine And.intro (Exists.intro ((_, _, _, _)) rfl) ?_)
  exact e_1 Tryz.results48 (Qx rfl) (c_pe (by simp [*]) (by simp [*, Bool.or_assoc]))
 by_cases k12 : k = 12
 ·subst k12
  refine Qa Tryz.func48 rfl Tryz.ntmps48 rfl (t := [(0, .ptr 0 g0 0), (1, .agg [.i _, .i n, .i m, QW ks])]) rfl fun E hE => ?_
  (repeat' first | (refine Qg ?_; (first | refine QJ rfl ?_ | refine QN rfl ?_ | (refine QG ?_; (first | refine WL rfl rfl ?_ | refine Qc rfl rfl rfl ?_)) | (refine Qo ?_; (first | refine Q1 rfl rfl ?_ | refine s_ad rfl rfl ?_)) | (refine Qt ?_; (first | refine WY 0 1 (W9 _ _ _ _ _ (by assumption)) rfl rfl rfl rfl rfl rfl ?_ | refine WY 0 1 (Zf hG _ (by assumption)) rfl rfl rfl rfl rfl rfl ?_)) | refine Qd rfl rfl ?_ | refine Q9 rfl rfl (fun _ _ => ?_))) | (refine Qk ?_; (first | refine Qi ?_ | refine QK rfl ?_)) | (refine Qj ?_; (first | refine Ql ?_ | refine Qb ?_ | refine Qe ?_ | refine Qq rfl ?_ | refine Qs rfl ?_ | refine Qy ?_)))
  exact e_1 Tryz.results48 (Qx rfl) (c_pe (by simp [*]) (by simp [*, Bool.or_assoc]))
 ·refine Qa Tryz.func48 rfl Tryz.ntmps48 rfl (t := [(0, .ptr 0 g0 0), (1, .agg [.i k, .i n, .i m, QW ks])]) rfl fun E hE => ?_
  (repeat' first | (refine Qg ?_; (first | refine QJ rfl ?_ | refine QN rfl ?_ | refine Qc rfl rfl rfl ?_ | refine Q1 rfl rfl ?_ | refine WY 0 1 (W5 _) rfl rfl rfl rfl rfl rfl ?_ | refine Qd rfl rfl ?_ | refine Q9 rfl rfl (fun _ _ => ?_))) | (refine Qk ?_; (first | refine Qi ?_ | refine QK rfl ?_)) | (refine Qj ?_; (first | refine Ql ?_ | refine Qb ?_ | refine Qe ?_ | refine QB ?_ | refine Qf rfl (by omega) ?_ | refine Qy ?_)))
  exact e_1 Tryz.results48 (Qx rfl) (c_pe (by simp [*]) (by simp [*, Bool.or_assoc]))
end Go.Proofs
end
section
namespace Go.Proofs
open Go.Av
variable {G : Nat -> DV}
attribute [local irreducible] OpSem Za Zv qc ACalls AEnd AClose RV
open Go.Bl
variable {o : List UInt8}
theorem simple1_c {k n m : Int} {ks : List Nd} (b : Bool) (g0 g1 gp gn : Nat) {B : Nat} (hlist : ∀ b, PE Tryz.prog G 84 (fun p g => [QW ks, .fn (.func 48) [.ptr p g 0] []]) o b (WS (Zm (ks.map exT))) (b || !ks.all exOk)) : 
  ACalls Tryz.prog G B 138 [.ptr 3 gn 0, .ptr 2 gp 0] [pRow 0 1 g0 g1 o.length b, .row g1 (Ws o), .row gp [.ptr 0 g0 0], .row gn [.i k, .i n, .i m, QW ks]]
   (fun d τ => d = WS (Zm (ks.map exT)) /\ τ = [pRow 0 1 g0 g1 o.length (b || !ks.all exOk), .row g1 (Ws o), .row gp [.ptr 0 g0 0], .row gn [.i k, .i n, .i m, QW ks]]) := by
 refine Qa Tryz.func138 rfl Tryz.ntmps138 rfl (t := [(0, .ptr 3 gn 0), (1, .ptr 2 gp 0)]) rfl fun E hE => ?_
 (repeat' first | (refine Qg ?_; (first | refine QN rfl ?_ | refine Qc rfl rfl rfl ?_ | refine WY 0 1 (hlist _) rfl rfl rfl rfl rfl rfl ?_ | refine Qd rfl rfl ?_ | refine QH rfl rfl ?_)) | (refine Qk ?_; (first | refine Qi ?_ | refine QK rfl ?_)) | (refine Qj ?_; (first | refine Ql ?_ | refine Qb ?_ | refine Qy ?_)))
 exact e_1 (Tryz.results138) (Qx rfl) (c_same ⟨rfl, rfl⟩)
theorem simple_c (hG : G 6 = pow10T) (hG1 : G 1 = spaceT) (t : Nd) (hok : okN t) (hsz : Qr t <= 1000000) (bad : Bool) : PE Tryz.prog G 91 (fun p g => [.ptr p g 0, .agg (Enc.enc t)]) o bad (WS (simT t)) (bad || !simOk t) := fun g0 g1 B h0 h1 => by
 obtain ⟨k, n, m, ks⟩ := t
 rw [okN] at hok
 rw [Qr] at hsz
 have hl1 := WU ks
 have hl : ks.length <= 1048576 := by omega
 have hn : -9223372036854775808 <= n /\ n <= 9223372036854775807 := hok.1.2.1
 have hm : -9223372036854775808 <= m /\ m <= 9223372036854775807 := hok.1.2.2
 have hnl := Zh hok.1.2.1
 have hml := Zh hok.1.2.2
 have hcl := Z1 exT ks (exs_len hok.2)
 have hlist : ∀ b, PE Tryz.prog G 84 (fun p g => [QW ks, .fn (.func 48) [.ptr p g 0] []]) o b (WS (Zm (ks.map exT))) (b || !ks.all exOk) := fun b => list_c _ exT exOk ks b (fun x hx b => expr_c hG hG1 x (WJ hok.2 hx) (by have := Wf hx; omega) b) hl (by omega)
 have hx : ∀ x ∈ ks, ∀ b, PE Tryz.prog G 48 (fun p g => [.ptr p g 0, .agg (Enc.enc x)]) o b (WS (exT x)) (b || !exOk x) := fun x hx b => expr_c hG hG1 x (WJ hok.2 hx) (by have := Wf hx; omega) b
 have hxl : ∀ x ∈ ks, (exT x).length <= 60000000 := fun x hx => by have := exT_len x (WJ hok.2 hx); have := Wf hx; omega
 clear hok
 rw [simT, simOk]
 rw [QQ]
 by_cases k14 : k = 14
 ·subst k14
  by_cases hp : Q0 m ks.length 1 = true
  ·have hpl : ∀ b, PE Tryz.prog G 42 (fun p g => [.ptr p g 0, .agg [.i 14, .i n, .i m, QW ks], .i 1]) o b (.b true) b := fun b => (W9 14 n m ks 1 hl).conv (by rw [hp]) (by rw [hp]; simp)
   refine Qa Tryz.func91 rfl Tryz.ntmps91 rfl (t := [(0, .ptr 0 g0 0), (1, .agg [.i _, .i n, .i m, QW ks])]) rfl fun E hE => ?_
   (repeat' first | (refine Qg ?_; (first | refine QJ rfl ?_ | refine QN rfl ?_ | (refine QG ?_; (first | refine WL rfl rfl ?_ | refine Qc rfl rfl rfl ?_)) | (refine Qo ?_; (first | refine Q1 rfl rfl ?_ | refine s_ad rfl rfl ?_)) | (refine Qt ?_; (first | refine ZY rfl rfl (simple1_c _ g0 g1 _ _ hlist) ?_ | refine WY 0 1 (hpl _) rfl rfl rfl rfl rfl rfl ?_ | refine WY 0 1 (Zf hG _ (by assumption)) rfl rfl rfl rfl rfl rfl ?_)) | refine W1 rfl rfl ?_ | refine Qd rfl rfl ?_ | refine QH rfl rfl ?_ | refine Q9 rfl rfl (fun _ _ => ?_))) | (refine Qk ?_; (first | refine Qi ?_ | refine QK rfl ?_ | refine WM rfl rfl rfl rfl ?_)) | (refine Qj ?_; (first | refine Ql ?_ | refine Qb ?_ | refine Qe ?_ | refine Qq rfl ?_ | refine Qy ?_)))
   exact e_1 Tryz.results91 (Qx rfl) (c_pe (by simp [*]) (by simp [*, Bool.or_assoc]))
  ·have hp : Q0 m ks.length 1 = false := by rw [<- Bool.not_eq_true]; exact hp
   have hpl : ∀ b, PE Tryz.prog G 42 (fun p g => [.ptr p g 0, .agg [.i 14, .i n, .i m, QW ks], .i 1]) o b (.b false) true := fun b => (W9 14 n m ks 1 hl).conv (by rw [hp]) (by rw [hp]; simp)
   refine Qa Tryz.func91 rfl Tryz.ntmps91 rfl (t := [(0, .ptr 0 g0 0), (1, .agg [.i _, .i n, .i m, QW ks])]) rfl fun E hE => ?_
   (repeat' first | (refine Qg ?_; (first | refine QJ rfl ?_ | refine QN rfl ?_ | (refine QG ?_; (first | refine WL rfl rfl ?_ | refine Qc rfl rfl rfl ?_)) | refine Q1 rfl rfl ?_ | (refine Qt ?_; (first | refine WY 0 1 (W5 _) rfl rfl rfl rfl rfl rfl ?_ | refine WY 0 1 (hpl _) rfl rfl rfl rfl rfl rfl ?_)) | (refine Q8 ?_; (first | refine W1 rfl rfl ?_ | refine WO rfl rfl ?_)) | refine Qd rfl rfl ?_ | refine QH rfl rfl ?_ | refine Q9 rfl rfl (fun _ _ => ?_))) | (refine Qk ?_; (first | refine Qi ?_ | refine QK rfl ?_ | refine WM rfl rfl rfl rfl ?_ | refine W7 rfl rfl rfl rfl ?_)) | (refine Qj ?_; (first | refine Ql ?_ | refine Qb ?_ | refine Qe ?_ | refine QB ?_ | refine Qs rfl ?_ | refine Qy ?_)))
   exact e_1 Tryz.results91 (Qx rfl) (c_pe (by simp [*]) (by simp [*, Bool.or_assoc]))
 by_cases k15 : k = 15
 ·subst k15
  by_cases hp : Q0 m ks.length 2 = true
  ·have hpl : ∀ b, PE Tryz.prog G 42 (fun p g => [.ptr p g 0, .agg [.i 15, .i n, .i m, QW ks], .i 2]) o b (.b true) b := fun b => (W9 15 n m ks 2 hl).conv (by rw [hp]) (by rw [hp]; simp)
   have h2 : ks.length = 2 := by simp [Q0] at hp; omega
   match ks, h2 with
   | [a, b], _ =>
    have ha := hx a (by simp)
    have hb := hx b (by simp)
    have hal := hxl a (by simp)
    have hbl := hxl b (by simp)
    clear hx hxl hlist hcl
    refine Qa Tryz.func91 rfl Tryz.ntmps91 rfl (t := [(0, .ptr 0 g0 0), (1, .agg [.i _, .i n, .i m, QW [a, b]])]) rfl fun E hE => ?_
    (repeat' first | (refine Qg ?_; (first | refine QJ rfl ?_ | refine QN rfl ?_ | (refine QG ?_; (first | refine WL rfl rfl ?_ | refine Qc rfl rfl rfl ?_)) | refine Q1 rfl rfl ?_ | (refine Qt ?_; (first | refine WY 0 1 (hpl _) rfl rfl rfl rfl rfl rfl ?_ | refine WY 0 1 (Zf hG _ (by assumption)) rfl rfl rfl rfl rfl rfl ?_ | refine WY 0 1 (ha _) rfl rfl rfl rfl rfl rfl ?_ | refine WY 0 1 (hb _) rfl rfl rfl rfl rfl rfl ?_)) | (refine Q8 ?_; (first | refine W1 rfl rfl ?_ | refine WO rfl rfl ?_)) | refine Qd rfl rfl ?_ | refine QH rfl rfl ?_ | refine Q9 rfl rfl (fun _ _ => ?_))) | (refine Qk ?_; (first | refine Qi ?_ | refine QK rfl ?_ | refine WM rfl rfl rfl rfl ?_ | refine W7 rfl rfl rfl rfl ?_)) | (refine Qj ?_; (first | refine Ql ?_ | refine Qb ?_ | refine Qe ?_ | (refine WF ?_; first | (refine Qv (pfx3 _ _) 100 [(0, true), (1, true), (2, true), (6, true), (7, true), (8, true), (12, true), (3, false), (4, true), (5, true), (9, false), (10, true), (11, true), (13, false), (14, true), (15, true)] (by rfl) (by rfl) (by kernel_rfl) (by decide +kernel) (by decide +kernel) ⟨(_, _, _, _), rfl⟩ ?_) | (refine Qv (pfx3 _ _) 100 [(0, true), (1, true), (2, true), (6, true), (7, true), (8, true), (9, true), (10, true), (14, true), (15, true), (16, true), (17, true), (18, true), (3, false), (4, true), (5, true), (11, false), (12, true), (13, true), (19, false), (20, true), (21, true)] (by rfl) (by rfl) (by kernel_rfl) (by decide +kernel) (by decide +kernel) ⟨(_, _, _, _), rfl⟩ ?_) | refine Wm (by rfl) (by kernel_rfl) (by kernel_rfl) ?_ | refine Wl (by kernel_rfl) (by kernel_rfl) ?_) | refine Qq rfl ?_ | refine Qs rfl ?_ | refine Qy ?_)) | (refine W6 ?_; (first | refine ZG ?_ | refine i_st rfl rfl (fun _ => (by (repeat' first | (refine Qg ?_; (first | refine QN rfl ?_ | (refine QG ?_; (first | refine QO rfl ?_ | refine Qc rfl rfl rfl ?_)) | refine QM rfl rfl (by first | assumption | omega | (simp; done) | (simp; omega)) ?_ | refine s_ad rfl rfl ?_ | refine Qd rfl rfl ?_)) | exact ⟨rfl, rfl⟩))) ?_ | refine i_ef rfl ?_)) | refine And.intro (Exists.intro ((_, _, _, _)) rfl) ?_)
    have hp2 : Q0 m 2 2 = true := hp
    exact e_1 Tryz.results91 (Qx rfl) (c_pe (by simp [*]) (by simp [*, Bool.or_assoc]))
  ·have hp : Q0 m ks.length 2 = false := by rw [<- Bool.not_eq_true]; exact hp
   have hpl : ∀ b, PE Tryz.prog G 42 (fun p g => [.ptr p g 0, .agg [.i 15, .i n, .i m, QW ks], .i 2]) o b (.b false) true := fun b => (W9 15 n m ks 2 hl).conv (by rw [hp]) (by rw [hp]; simp)
   refine Qa Tryz.func91 rfl Tryz.ntmps91 rfl (t := [(0, .ptr 0 g0 0), (1, .agg [.i _, .i n, .i m, QW ks])]) rfl fun E hE => ?_
   (repeat' first | (refine Qg ?_; (first | refine QJ rfl ?_ | refine QN rfl ?_ | (refine QG ?_; (first | refine WL rfl rfl ?_ | refine Qc rfl rfl rfl ?_)) | refine Q1 rfl rfl ?_ | (refine Qt ?_; (first | refine WY 0 1 (W5 _) rfl rfl rfl rfl rfl rfl ?_ | refine WY 0 1 (hpl _) rfl rfl rfl rfl rfl rfl ?_)) | (refine Q8 ?_; (first | refine W1 rfl rfl ?_ | refine WO rfl rfl ?_)) | refine Qd rfl rfl ?_ | refine QH rfl rfl ?_ | refine Q9 rfl rfl (fun _ _ => ?_))) | (refine Qk ?_; (first | refine Qi ?_ | refine QK rfl ?_ | refine WM rfl rfl rfl rfl ?_ | refine W7 rfl rfl rfl rfl ?_)) | (refine Qj ?_; (first | refine Ql ?_ | refine Qb ?_ | refine Qe ?_ | refine QB ?_ | refine Qs rfl ?_ | refine Qy ?_)))
   exact e_1 Tryz.results91 (Qx rfl) (c_pe (by simp [*]) (by simp [*, Bool.or_assoc]))
 by_cases k19 : k = 19
 ·subst k19
  by_cases hp : WZ n m ks.length 1 = true
  ·have hpl : ∀ b, PE Tryz.prog G 87 (fun p g => [.ptr p g 0, .agg [.i 19, .i n, .i m, QW ks], .i 1]) o b (.b true) b := fun b => (qe 19 n m ks 1 hl).conv (by rw [hp]) (by rw [hp]; simp)
   refine Qa Tryz.func91 rfl Tryz.ntmps91 rfl (t := [(0, .ptr 0 g0 0), (1, .agg [.i _, .i n, .i m, QW ks])]) rfl fun E hE => ?_
   (repeat' first | (refine Qg ?_; (first | refine QJ rfl ?_ | refine QN rfl ?_ | (refine QG ?_; (first | refine WL rfl rfl ?_ | refine Qc rfl rfl rfl ?_)) | (refine Qo ?_; (first | refine Q1 rfl rfl ?_ | refine s_ad rfl rfl ?_)) | (refine Qt ?_; (first | refine ZY rfl rfl (simple1_c _ g0 g1 _ _ hlist) ?_ | refine WY 0 1 (hpl _) rfl rfl rfl rfl rfl rfl ?_)) | (refine Q8 ?_; (first | refine W1 rfl rfl ?_ | refine WO rfl rfl ?_)) | refine Qd rfl rfl ?_ | refine QH rfl rfl ?_ | refine Q9 rfl rfl (fun _ _ => ?_))) | (refine Qk ?_; (first | refine Qi ?_ | refine QK rfl ?_ | refine WM rfl rfl rfl rfl ?_ | refine W7 rfl rfl rfl rfl ?_)) | (refine Qj ?_; (first | refine Ql ?_ | refine Qb ?_ | refine Qe ?_ | refine Qq rfl ?_ | refine Qs rfl ?_ | refine Qy ?_)))
   exact e_1 Tryz.results91 (Qx rfl) (c_pe (by simp [*]) (by simp [*, Bool.or_assoc]))
  ·have hp : WZ n m ks.length 1 = false := by rw [<- Bool.not_eq_true]; exact hp
   have hpl : ∀ b, PE Tryz.prog G 87 (fun p g => [.ptr p g 0, .agg [.i 19, .i n, .i m, QW ks], .i 1]) o b (.b false) true := fun b => (qe 19 n m ks 1 hl).conv (by rw [hp]) (by rw [hp]; simp)
   refine Qa Tryz.func91 rfl Tryz.ntmps91 rfl (t := [(0, .ptr 0 g0 0), (1, .agg [.i _, .i n, .i m, QW ks])]) rfl fun E hE => ?_
   (repeat' first | (refine Qg ?_; (first | refine QJ rfl ?_ | refine QN rfl ?_ | (refine QG ?_; (first | refine WL rfl rfl ?_ | refine Qc rfl rfl rfl ?_)) | refine Q1 rfl rfl ?_ | (refine Qt ?_; (first | refine WY 0 1 (W5 _) rfl rfl rfl rfl rfl rfl ?_ | refine WY 0 1 (hpl _) rfl rfl rfl rfl rfl rfl ?_)) | (refine Q8 ?_; (first | refine W1 rfl rfl ?_ | refine WO rfl rfl ?_)) | refine Qd rfl rfl ?_ | refine QH rfl rfl ?_ | refine Q9 rfl rfl (fun _ _ => ?_))) | (refine Qk ?_; (first | refine Qi ?_ | refine QK rfl ?_ | refine WM rfl rfl rfl rfl ?_ | refine W7 rfl rfl rfl rfl ?_)) | (refine Qj ?_; (first | refine Ql ?_ | refine Qb ?_ | refine Qe ?_ | refine QB ?_ | refine Qs rfl ?_ | refine Qy ?_)))
   exact e_1 Tryz.results91 (Qx rfl) (c_pe (by simp [*]) (by simp [*, Bool.or_assoc]))
 by_cases k20 : k = 20
 ·subst k20
  by_cases hp : WZ n m ks.length 1 = true
  ·have hpl : ∀ b, PE Tryz.prog G 87 (fun p g => [.ptr p g 0, .agg [.i 20, .i n, .i m, QW ks], .i 1]) o b (.b true) b := fun b => (qe 20 n m ks 1 hl).conv (by rw [hp]) (by rw [hp]; simp)
   refine Qa Tryz.func91 rfl Tryz.ntmps91 rfl (t := [(0, .ptr 0 g0 0), (1, .agg [.i _, .i n, .i m, QW ks])]) rfl fun E hE => ?_
   (repeat' first | (refine Qg ?_; (first | refine QJ rfl ?_ | refine QN rfl ?_ | (refine QG ?_; (first | refine WL rfl rfl ?_ | refine Qc rfl rfl rfl ?_)) | (refine Qo ?_; (first | refine Q1 rfl rfl ?_ | refine s_ad rfl rfl ?_)) | (refine Qt ?_; (first | refine ZY rfl rfl (simple1_c _ g0 g1 _ _ hlist) ?_ | refine WY 0 1 (hpl _) rfl rfl rfl rfl rfl rfl ?_)) | (refine Q8 ?_; (first | refine W1 rfl rfl ?_ | refine WO rfl rfl ?_)) | refine Qd rfl rfl ?_ | refine QH rfl rfl ?_ | refine Q9 rfl rfl (fun _ _ => ?_))) | (refine Qk ?_; (first | refine Qi ?_ | refine QK rfl ?_ | refine WM rfl rfl rfl rfl ?_ | refine W7 rfl rfl rfl rfl ?_)) | (refine Qj ?_; (first | refine Ql ?_ | refine Qb ?_ | refine Qe ?_ | refine Qq rfl ?_ | refine Qs rfl ?_ | refine Qy ?_)))
   exact e_1 Tryz.results91 (Qx rfl) (c_pe (by simp [*]) (by simp [*, Bool.or_assoc]))
  ·have hp : WZ n m ks.length 1 = false := by rw [<- Bool.not_eq_true]; exact hp
   have hpl : ∀ b, PE Tryz.prog G 87 (fun p g => [.ptr p g 0, .agg [.i 20, .i n, .i m, QW ks], .i 1]) o b (.b false) true := fun b => (qe 20 n m ks 1 hl).conv (by rw [hp]) (by rw [hp]; simp)
   refine Qa Tryz.func91 rfl Tryz.ntmps91 rfl (t := [(0, .ptr 0 g0 0), (1, .agg [.i _, .i n, .i m, QW ks])]) rfl fun E hE => ?_
   (repeat' first | (refine Qg ?_; (first | refine QJ rfl ?_ | refine QN rfl ?_ | (refine QG ?_; (first | refine WL rfl rfl ?_ | refine Qc rfl rfl rfl ?_)) | refine Q1 rfl rfl ?_ | (refine Qt ?_; (first | refine WY 0 1 (W5 _) rfl rfl rfl rfl rfl rfl ?_ | refine WY 0 1 (hpl _) rfl rfl rfl rfl rfl rfl ?_)) | (refine Q8 ?_; (first | refine W1 rfl rfl ?_ | refine WO rfl rfl ?_)) | refine Qd rfl rfl ?_ | refine QH rfl rfl ?_ | refine Q9 rfl rfl (fun _ _ => ?_))) | (refine Qk ?_; (first | refine Qi ?_ | refine QK rfl ?_ | refine WM rfl rfl rfl rfl ?_ | refine W7 rfl rfl rfl rfl ?_)) | (refine Qj ?_; (first | refine Ql ?_ | refine Qb ?_ | refine Qe ?_ | refine QB ?_ | refine Qs rfl ?_ | refine Qy ?_)))
   exact e_1 Tryz.results91 (Qx rfl) (c_pe (by simp [*]) (by simp [*, Bool.or_assoc]))
 by_cases k24 : k = 24
 ·subst k24
  by_cases hp : WZ n m ks.length 1 = true
  ·have hpl : ∀ b, PE Tryz.prog G 87 (fun p g => [.ptr p g 0, .agg [.i 24, .i n, .i m, QW ks], .i 1]) o b (.b true) b := fun b => (qe 24 n m ks 1 hl).conv (by rw [hp]) (by rw [hp]; simp)
   refine Qa Tryz.func91 rfl Tryz.ntmps91 rfl (t := [(0, .ptr 0 g0 0), (1, .agg [.i _, .i n, .i m, QW ks])]) rfl fun E hE => ?_
   (repeat' first | (refine Qg ?_; (first | refine QJ rfl ?_ | refine QN rfl ?_ | (refine QG ?_; (first | refine WL rfl rfl ?_ | refine Qc rfl rfl rfl ?_)) | (refine Qo ?_; (first | refine Q1 rfl rfl ?_ | refine s_ad rfl rfl ?_)) | (refine Qt ?_; (first | refine ZY rfl rfl (simple1_c _ g0 g1 _ _ hlist) ?_ | refine WY 0 1 (hpl _) rfl rfl rfl rfl rfl rfl ?_)) | (refine Q8 ?_; (first | refine W1 rfl rfl ?_ | refine WO rfl rfl ?_)) | refine Qd rfl rfl ?_ | refine QH rfl rfl ?_ | refine Q9 rfl rfl (fun _ _ => ?_))) | (refine Qk ?_; (first | refine Qi ?_ | refine QK rfl ?_ | refine WM rfl rfl rfl rfl ?_ | refine W7 rfl rfl rfl rfl ?_)) | (refine Qj ?_; (first | refine Ql ?_ | refine Qb ?_ | refine Qe ?_ | refine Qq rfl ?_ | refine Qs rfl ?_ | refine Qy ?_)))
   exact e_1 Tryz.results91 (Qx rfl) (c_pe (by simp [*]) (by simp [*, Bool.or_assoc]))
  ·have hp : WZ n m ks.length 1 = false := by rw [<- Bool.not_eq_true]; exact hp
   have hpl : ∀ b, PE Tryz.prog G 87 (fun p g => [.ptr p g 0, .agg [.i 24, .i n, .i m, QW ks], .i 1]) o b (.b false) true := fun b => (qe 24 n m ks 1 hl).conv (by rw [hp]) (by rw [hp]; simp)
   refine Qa Tryz.func91 rfl Tryz.ntmps91 rfl (t := [(0, .ptr 0 g0 0), (1, .agg [.i _, .i n, .i m, QW ks])]) rfl fun E hE => ?_
   (repeat' first | (refine Qg ?_; (first | refine QJ rfl ?_ | refine QN rfl ?_ | (refine QG ?_; (first | refine WL rfl rfl ?_ | refine Qc rfl rfl rfl ?_)) | refine Q1 rfl rfl ?_ | (refine Qt ?_; (first | refine WY 0 1 (W5 _) rfl rfl rfl rfl rfl rfl ?_ | refine WY 0 1 (hpl _) rfl rfl rfl rfl rfl rfl ?_)) | (refine Q8 ?_; (first | refine W1 rfl rfl ?_ | refine WO rfl rfl ?_)) | refine Qd rfl rfl ?_ | refine QH rfl rfl ?_ | refine Q9 rfl rfl (fun _ _ => ?_))) | (refine Qk ?_; (first | refine Qi ?_ | refine QK rfl ?_ | refine WM rfl rfl rfl rfl ?_ | refine W7 rfl rfl rfl rfl ?_)) | (refine Qj ?_; (first | refine Ql ?_ | refine Qb ?_ | refine Qe ?_ | refine QB ?_ | refine Qs rfl ?_ | refine Qy ?_)))
   exact e_1 Tryz.results91 (Qx rfl) (c_pe (by simp [*]) (by simp [*, Bool.or_assoc]))
 by_cases k25 : k = 25
 ·subst k25
  by_cases hp : WZ n m ks.length 0 = true
  ·have hpl : ∀ b, PE Tryz.prog G 87 (fun p g => [.ptr p g 0, .agg [.i 25, .i n, .i m, QW ks], .i 0]) o b (.b true) b := fun b => (qe 25 n m ks 0 hl).conv (by rw [hp]) (by rw [hp]; simp)
   refine Qa Tryz.func91 rfl Tryz.ntmps91 rfl (t := [(0, .ptr 0 g0 0), (1, .agg [.i _, .i n, .i m, QW ks])]) rfl fun E hE => ?_
   (repeat' first | (refine Qg ?_; (first | refine QJ rfl ?_ | refine QN rfl ?_ | (refine QG ?_; (first | refine WL rfl rfl ?_ | refine Qc rfl rfl rfl ?_)) | refine Q1 rfl rfl ?_ | refine WY 0 1 (hpl _) rfl rfl rfl rfl rfl rfl ?_ | (refine Q8 ?_; (first | refine W1 rfl rfl ?_ | refine WO rfl rfl ?_)) | refine Qd rfl rfl ?_ | refine QH rfl rfl ?_ | refine Q9 rfl rfl (fun _ _ => ?_))) | (refine Qk ?_; (first | refine Qi ?_ | refine QK rfl ?_ | refine WM rfl rfl rfl rfl ?_ | refine W7 rfl rfl rfl rfl ?_)) | (refine Qj ?_; (first | refine Ql ?_ | refine Qb ?_ | refine Qe ?_ | refine Qq rfl ?_ | refine Qs rfl ?_ | refine Qy ?_)))
   exact e_1 Tryz.results91 (Qx rfl) (c_pe (by simp [*]) (by simp [*, Bool.or_assoc]))
  ·have hp : WZ n m ks.length 0 = false := by rw [<- Bool.not_eq_true]; exact hp
   have hpl : ∀ b, PE Tryz.prog G 87 (fun p g => [.ptr p g 0, .agg [.i 25, .i n, .i m, QW ks], .i 0]) o b (.b false) true := fun b => (qe 25 n m ks 0 hl).conv (by rw [hp]) (by rw [hp]; simp)
   refine Qa Tryz.func91 rfl Tryz.ntmps91 rfl (t := [(0, .ptr 0 g0 0), (1, .agg [.i _, .i n, .i m, QW ks])]) rfl fun E hE => ?_
   (repeat' first | (refine Qg ?_; (first | refine QJ rfl ?_ | refine QN rfl ?_ | (refine QG ?_; (first | refine WL rfl rfl ?_ | refine Qc rfl rfl rfl ?_)) | refine Q1 rfl rfl ?_ | (refine Qt ?_; (first | refine WY 0 1 (W5 _) rfl rfl rfl rfl rfl rfl ?_ | refine WY 0 1 (hpl _) rfl rfl rfl rfl rfl rfl ?_)) | (refine Q8 ?_; (first | refine W1 rfl rfl ?_ | refine WO rfl rfl ?_)) | refine Qd rfl rfl ?_ | refine QH rfl rfl ?_ | refine Q9 rfl rfl (fun _ _ => ?_))) | (refine Qk ?_; (first | refine Qi ?_ | refine QK rfl ?_ | refine WM rfl rfl rfl rfl ?_ | refine W7 rfl rfl rfl rfl ?_)) | (refine Qj ?_; (first | refine Ql ?_ | refine Qb ?_ | refine Qe ?_ | refine QB ?_ | refine Qs rfl ?_ | refine Qy ?_)))
   exact e_1 Tryz.results91 (Qx rfl) (c_pe (by simp [*]) (by simp [*, Bool.or_assoc]))
 by_cases k22 : k = 22
 ·subst k22
  by_cases hp : Q0 m ks.length 1 = true
  ·have hpl : ∀ b, PE Tryz.prog G 42 (fun p g => [.ptr p g 0, .agg [.i 22, .i n, .i m, QW ks], .i 1]) o b (.b true) b := fun b => (W9 22 n m ks 1 hl).conv (by rw [hp]) (by rw [hp]; simp)
   refine Qa Tryz.func91 rfl Tryz.ntmps91 rfl (t := [(0, .ptr 0 g0 0), (1, .agg [.i _, .i n, .i m, QW ks])]) rfl fun E hE => ?_
   (repeat' first | (refine Qg ?_; (first | refine QJ rfl ?_ | refine QN rfl ?_ | (refine QG ?_; (first | refine WL rfl rfl ?_ | refine Qc rfl rfl rfl ?_)) | (refine Qo ?_; (first | refine Q1 rfl rfl ?_ | refine s_ad rfl rfl ?_)) | (refine Qt ?_; (first | refine ZY rfl rfl (simple1_c _ g0 g1 _ _ hlist) ?_ | refine WY 0 1 (hpl _) rfl rfl rfl rfl rfl rfl ?_ | refine WY 0 1 (Zf hG _ (by assumption)) rfl rfl rfl rfl rfl rfl ?_)) | (refine Q8 ?_; (first | refine W1 rfl rfl ?_ | refine WO rfl rfl ?_)) | refine Qd rfl rfl ?_ | refine QH rfl rfl ?_ | refine Q9 rfl rfl (fun _ _ => ?_))) | (refine Qk ?_; (first | refine Qi ?_ | refine QK rfl ?_ | refine WM rfl rfl rfl rfl ?_ | refine W7 rfl rfl rfl rfl ?_)) | (refine Qj ?_; (first | refine Ql ?_ | refine Qb ?_ | refine Qe ?_ | refine Qq rfl ?_ | refine Qs rfl ?_ | refine Qy ?_)))
   exact e_1 Tryz.results91 (Qx rfl) (c_pe (by simp [*]) (by simp [*, Bool.or_assoc]))
  ·have hp : Q0 m ks.length 1 = false := by rw [<- Bool.not_eq_true]; exact hp
   have hpl : ∀ b, PE Tryz.prog G 42 (fun p g => [.ptr p g 0, .agg [.i 22, .i n, .i m, QW ks], .i 1]) o b (.b false) true := fun b => (W9 22 n m ks 1 hl).conv (by rw [hp]) (by rw [hp]; simp)
   refine Qa Tryz.func91 rfl Tryz.ntmps91 rfl (t := [(0, .ptr 0 g0 0), (1, .agg [.i _, .i n, .i m, QW ks])]) rfl fun E hE => ?_
   (repeat' first | (refine Qg ?_; (first | refine QJ rfl ?_ | refine QN rfl ?_ | (refine QG ?_; (first | refine WL rfl rfl ?_ | refine Qc rfl rfl rfl ?_)) | refine Q1 rfl rfl ?_ | (refine Qt ?_; (first | refine WY 0 1 (W5 _) rfl rfl rfl rfl rfl rfl ?_ | refine WY 0 1 (hpl _) rfl rfl rfl rfl rfl rfl ?_)) | (refine Q8 ?_; (first | refine W1 rfl rfl ?_ | refine WO rfl rfl ?_)) | refine Qd rfl rfl ?_ | refine QH rfl rfl ?_ | refine Q9 rfl rfl (fun _ _ => ?_))) | (refine Qk ?_; (first | refine Qi ?_ | refine QK rfl ?_ | refine WM rfl rfl rfl rfl ?_ | refine W7 rfl rfl rfl rfl ?_)) | (refine Qj ?_; (first | refine Ql ?_ | refine Qb ?_ | refine Qe ?_ | refine QB ?_ | refine Qs rfl ?_ | refine Qy ?_)))
   exact e_1 Tryz.results91 (Qx rfl) (c_pe (by simp [*]) (by simp [*, Bool.or_assoc]))
 by_cases k23 : k = 23
 ·subst k23
  by_cases hp : Q0 m ks.length (-1) = true
  ·have hpl : ∀ b, PE Tryz.prog G 42 (fun p g => [.ptr p g 0, .agg [.i 23, .i n, .i m, QW ks], .i (-1)]) o b (.b true) b := fun b => (W9 23 n m ks (-1) hl).conv (by rw [hp]) (by rw [hp]; simp)
   refine Qa Tryz.func91 rfl Tryz.ntmps91 rfl (t := [(0, .ptr 0 g0 0), (1, .agg [.i _, .i n, .i m, QW ks])]) rfl fun E hE => ?_
   (repeat' first | (refine Qg ?_; (first | refine QJ rfl ?_ | refine QN rfl ?_ | (refine QG ?_; (first | refine WL rfl rfl ?_ | refine Qc rfl rfl rfl ?_)) | (refine Qo ?_; (first | refine Q1 rfl rfl ?_ | refine s_ad rfl rfl ?_)) | (refine Qt ?_; (first | refine ZY rfl rfl (simple1_c _ g0 g1 _ _ hlist) ?_ | refine WY 0 1 (hpl _) rfl rfl rfl rfl rfl rfl ?_ | refine WY 0 1 (Zf hG _ (by assumption)) rfl rfl rfl rfl rfl rfl ?_)) | (refine Q8 ?_; (first | refine W1 rfl rfl ?_ | refine WO rfl rfl ?_)) | refine Qd rfl rfl ?_ | refine QH rfl rfl ?_ | refine Q9 rfl rfl (fun _ _ => ?_))) | (refine Qk ?_; (first | refine Qi ?_ | refine QK rfl ?_ | refine WM rfl rfl rfl rfl ?_ | refine W7 rfl rfl rfl rfl ?_)) | (refine Qj ?_; (first | refine Ql ?_ | refine Qb ?_ | refine Qe ?_ | refine Qq rfl ?_ | refine Qs rfl ?_ | refine Qy ?_)))
   exact e_1 Tryz.results91 (Qx rfl) (c_pe (by simp [*]) (by simp [*, Bool.or_assoc]))
  ·have hp : Q0 m ks.length (-1) = false := by rw [<- Bool.not_eq_true]; exact hp
   have hpl : ∀ b, PE Tryz.prog G 42 (fun p g => [.ptr p g 0, .agg [.i 23, .i n, .i m, QW ks], .i (-1)]) o b (.b false) true := fun b => (W9 23 n m ks (-1) hl).conv (by rw [hp]) (by rw [hp]; simp)
   refine Qa Tryz.func91 rfl Tryz.ntmps91 rfl (t := [(0, .ptr 0 g0 0), (1, .agg [.i _, .i n, .i m, QW ks])]) rfl fun E hE => ?_
   (repeat' first | (refine Qg ?_; (first | refine QJ rfl ?_ | refine QN rfl ?_ | (refine QG ?_; (first | refine WL rfl rfl ?_ | refine Qc rfl rfl rfl ?_)) | refine Q1 rfl rfl ?_ | (refine Qt ?_; (first | refine WY 0 1 (W5 _) rfl rfl rfl rfl rfl rfl ?_ | refine WY 0 1 (hpl _) rfl rfl rfl rfl rfl rfl ?_)) | (refine Q8 ?_; (first | refine W1 rfl rfl ?_ | refine WO rfl rfl ?_)) | refine Qd rfl rfl ?_ | refine QH rfl rfl ?_ | refine Q9 rfl rfl (fun _ _ => ?_))) | (refine Qk ?_; (first | refine Qi ?_ | refine QK rfl ?_ | refine WM rfl rfl rfl rfl ?_ | refine W7 rfl rfl rfl rfl ?_)) | (refine Qj ?_; (first | refine Ql ?_ | refine Qb ?_ | refine Qe ?_ | refine QB ?_ | refine Qs rfl ?_ | refine Qy ?_)))
   exact e_1 Tryz.results91 (Qx rfl) (c_pe (by simp [*]) (by simp [*, Bool.or_assoc]))
 by_cases k16 : k = 16
 ·subst k16
  by_cases hp : ks.length = 1
  ·refine Qa Tryz.func91 rfl Tryz.ntmps91 rfl (t := [(0, .ptr 0 g0 0), (1, .agg [.i _, .i n, .i m, QW ks])]) rfl fun E hE => ?_
   (repeat' first | (refine Qg ?_; (first | refine QJ rfl ?_ | refine QN rfl ?_ | refine Qc rfl rfl rfl ?_ | refine Q1 rfl rfl ?_ | (refine Qt ?_; (first | refine ZY rfl rfl (simple1_c _ g0 g1 _ _ hlist) ?_ | refine WY 0 1 (W5 _) rfl rfl rfl rfl rfl rfl ?_ | refine WY 0 1 (Zf hG _ (by assumption)) rfl rfl rfl rfl rfl rfl ?_ | refine QI rfl ?_)) | (refine Q8 ?_; (first | refine W1 rfl rfl ?_ | refine WO rfl rfl ?_)) | refine Qd rfl rfl ?_ | refine QH rfl rfl ?_ | refine Q9 rfl rfl (fun _ _ => ?_))) | (refine Qk ?_; (first | refine Qi ?_ | refine QK rfl ?_ | refine WM rfl rfl rfl rfl ?_ | refine W7 rfl rfl rfl rfl ?_)) | (refine Qj ?_; (first | refine Ql ?_ | refine Qb ?_ | refine Qe ?_ | (refine WF ?_; first | (refine Qv (pfx3 _ _) 100 [(0, true), (1, true), (2, true), (6, true), (7, true), (8, true), (12, true), (3, false), (4, true), (5, true), (9, false), (10, true), (11, true), (13, false), (14, true), (15, true)] (by rfl) (by rfl) (by kernel_rfl) (by decide +kernel) (by decide +kernel) ⟨(_, _, _, _), rfl⟩ ?_) | (refine Qv (pfx3 _ _) 100 [(0, true), (1, true), (2, true), (6, true), (7, true), (8, true), (9, true), (10, true), (14, true), (15, true), (16, true), (17, true), (18, true), (3, false), (4, true), (5, true), (11, false), (12, true), (13, true), (19, false), (20, true), (21, true)] (by rfl) (by rfl) (by kernel_rfl) (by decide +kernel) (by decide +kernel) ⟨(_, _, _, _), rfl⟩ ?_) | refine Wm (by rfl) (by kernel_rfl) (by kernel_rfl) ?_ | refine Wl (by kernel_rfl) (by kernel_rfl) ?_) | refine Qs rfl ?_ | refine Qm rfl (by omega) ?_ | refine Qy ?_)) | (refine W6 ?_; (first | refine ZG ?_ | refine i_st rfl rfl (fun _ => (by (repeat' first | (refine Qg ?_; (first | refine QJ rfl ?_ | refine QN rfl ?_ | refine Qc rfl rfl rfl ?_ | refine s_ad rfl rfl ?_ | refine Qd rfl rfl ?_)) | exact ⟨rfl, rfl⟩))) ?_ | refine i_ef rfl ?_)) | refine And.intro (Exists.intro ((_, _, _, _)) rfl) ?_)
   exact e_1 Tryz.results91 (Qx rfl) (c_pe (by simp [*]) (by simp [*, Bool.or_assoc]))
  ·refine Qa Tryz.func91 rfl Tryz.ntmps91 rfl (t := [(0, .ptr 0 g0 0), (1, .agg [.i _, .i n, .i m, QW ks])]) rfl fun E hE => ?_
   (repeat' first | (refine Qg ?_; (first | refine QJ rfl ?_ | refine QN rfl ?_ | refine Qc rfl rfl rfl ?_ | refine Q1 rfl rfl ?_ | (refine Qt ?_; (first | refine WY 0 1 (W5 _) rfl rfl rfl rfl rfl rfl ?_ | refine QI rfl ?_)) | (refine Q8 ?_; (first | refine W1 rfl rfl ?_ | refine WO rfl rfl ?_)) | refine Qd rfl rfl ?_ | refine QH rfl rfl ?_ | refine Q9 rfl rfl (fun _ _ => ?_))) | (refine Qk ?_; (first | refine Qi ?_ | refine QK rfl ?_ | refine WM rfl rfl rfl rfl ?_ | refine W7 rfl rfl rfl rfl ?_)) | (refine Qj ?_; (first | refine Ql ?_ | refine Qb ?_ | refine Qe ?_ | refine QB ?_ | refine Qs rfl ?_ | refine Qf rfl (by omega) ?_ | refine Qy ?_)))
   exact e_1 Tryz.results91 (Qx rfl) (c_pe (by simp [*]) (by simp [*, Bool.or_assoc]))
 ·refine Qa Tryz.func91 rfl Tryz.ntmps91 rfl (t := [(0, .ptr 0 g0 0), (1, .agg [.i k, .i n, .i m, QW ks])]) rfl fun E hE => ?_
  (repeat' first | (refine Qg ?_; (first | refine QJ rfl ?_ | refine QN rfl ?_ | refine Qc rfl rfl rfl ?_ | refine Q1 rfl rfl ?_ | refine WY 0 1 (W5 _) rfl rfl rfl rfl rfl rfl ?_ | refine WO rfl rfl ?_ | refine Qd rfl rfl ?_ | refine QH rfl rfl ?_ | refine Q9 rfl rfl (fun _ _ => ?_))) | (refine Qk ?_; (first | refine Qi ?_ | refine QK rfl ?_ | refine W7 rfl rfl rfl rfl ?_ | refine Q5 rfl rfl (by omega) ?_)) | (refine Qj ?_; (first | refine Ql ?_ | refine Qb ?_ | refine Qe ?_ | refine QB ?_ | refine Qs rfl ?_ | refine Qy ?_)))
  exact e_1 Tryz.results91 (Qx rfl) (c_pe (by simp [*]) (by simp [*, Bool.or_assoc]))
end Go.Proofs
end
section
namespace Go.Proofs
open Go.Av
variable {G : Nat -> DV}
attribute [local irreducible] OpSem Za Zv qc ACalls AEnd AClose RV
open Go.Bl
variable {o : List UInt8} {bad : Bool}
theorem line_c (i : Nat) (s : List UInt8) (hi : i <= 1000000) (hlen : o.length + s.length <= 140737480000000) : PM Tryz.prog G 43 (fun p g => [.ptr p g 0, .i i, WS s]) o bad (.tup []) (o ++ ZN i s) bad := fun g0 g1 B h0 h1 => by
 have hrl : (Lib.repeatL [32, 32] i).length = 2 * i := by rw [Lib.repeatL_length]; show i * 2 = _; omega
 have hwr : PM Tryz.prog G 46 (fun k g => [.ptr k g 0, WS (Lib.repeatL [32, 32] i ++ s ++ [10])]) o bad (.tup [.i (Lib.repeatL [32, 32] i ++ s ++ [10]).length, .sc .nilIface]) (o ++ ZN i s) bad := write_c _ (by simp only [List.length_append, List.length_cons, List.length_nil]; omega)
 refine Qa Tryz.func43 rfl Tryz.ntmps43 rfl (t := [(0, .ptr 0 g0 0), (1, .i i), (2, WS s)]) rfl fun E hE => ?_
 (repeat' first | refine s_pm 0 1 (hwr) rfl rfl rfl rfl rfl rfl (fun _ => rfl) (fun _ _ => ?_) | (refine Qj ?_; (refine WF ?_; first | (refine Qv (pfx3 _ _) 100 [(0, true), (1, true), (2, true), (3, true), (4, true), (5, true), (6, true), (7, true), (8, true), (9, false), (10, true), (11, true), (12, false)] (by rfl) (by rfl) (by kernel_rfl) (by decide +kernel) (by decide +kernel) ⟨(_, _, _, _), rfl⟩ ?_) | (refine Qv (pfx3 _ _) 100 [(0, true), (1, true), (2, true), (3, true), (4, true), (5, true), (6, false)] (by rfl) (by rfl) (by kernel_rfl) (by decide +kernel) (by decide +kernel) ⟨(_, _, _, _), rfl⟩ ?_) | (refine Qv (pfx3 _ _) 100 [(0, true), (1, true), (2, true), (3, true), (4, true), (5, true), (6, false), (7, true), (8, true), (9, false)] (by rfl) (by rfl) (by kernel_rfl) (by decide +kernel) (by decide +kernel) ⟨(_, _, _, _), rfl⟩ ?_) | (refine Qv (pfx3 _ _) 100 [(0, true), (1, true), (2, true), (3, true), (4, true), (5, true), (6, true), (7, true), (8, false)] (by rfl) (by rfl) (by kernel_rfl) (by decide +kernel) (by decide +kernel) ⟨(_, _, _, _), rfl⟩ ?_) | refine Wm (by rfl) (by kernel_rfl) (by kernel_rfl) ?_ | refine Wl (by kernel_rfl) (by kernel_rfl) ?_)) | (refine W6 ?_; (first | refine ZG ?_ | refine i_st rfl rfl (fun _ => (by (repeat' first | (refine Qg ?_; (first | refine QJ rfl ?_ | refine s_ad rfl rfl ?_ | refine WR rfl rfl (repeat_c _ _ (by omega) (by simp only [List.length_cons, List.length_nil]; omega)) ?_ | refine Qd rfl rfl ?_ | refine Qp rfl rfl ?_)) | exact ⟨rfl, rfl⟩))) ?_ | refine i_ef rfl ?_)) | refine And.intro (Exists.intro ((_, _, _, _)) rfl) ?_)
 exact e_0 (Tryz.results43) (c_pm rfl rfl rfl (by omega))
theorem stmt1_c (i : Nat) (s : List UInt8) (hi : i <= 1000000) (hlen : o.length + s.length <= 140737480000000) (g0 g1 gp gi : Nat) {B : Nat} {bl : ABlk} (h1 : g1 <= B) : 
  ACalls Tryz.prog G B 90 [WS s, .ptr 2 gp 0, .ptr 3 gi 0] [pRow 0 1 g0 g1 o.length bad, .row g1 (Ws o), .row gp [.ptr 0 g0 0], .row gi [.i i], bl]
   (fun d τ => d = .tup [] /\ ∃ g', (g' = g1 \/ B < g') /\ τ = [pRow 0 1 g0 g' (o ++ ZN i s).length bad, .row g' (Ws (o ++ ZN i s)), .row gp [.ptr 0 g0 0], .row gi [.i i], bl]) := by
 refine Qa Tryz.func90 rfl Tryz.ntmps90 rfl (t := [(0, WS s), (1, .ptr 2 gp 0), (2, .ptr 3 gi 0)]) rfl fun E hE => ?_
 (repeat' first | (refine Qg ?_; (first | refine QJ rfl ?_ | refine Qc rfl rfl rfl ?_ | refine s_pm 0 1 (line_c _ _ (by first | assumption | omega) (by first | assumption | (simp only [List.length_append, Q7, List.length_cons, List.length_nil]; omega))) rfl rfl rfl rfl rfl rfl (fun _ => rfl) (fun _ _ => ?_))) | (refine Qk ?_; (first | refine Qi ?_ | refine QK rfl ?_)) | refine Qb ?_)
 rename_i g' hg'
 exact e_0 (Tryz.results90) (c_same ⟨rfl, g', by omega, rfl⟩)
theorem st_lenX {t : Nd} (hok : okN t) {i : Nat} (hi : i + Qr t <= 1000000) : (stT t i).length <= 7000000 * Qr t /\ (inT t i).length <= 7000000 * (Qr t - 1) := by
 obtain ⟨h1, h2⟩ := st_len t hok i
 exact ⟨Nat.le_trans h1 (Nat.mul_le_mul (by omega) (Nat.le_refl _)), Nat.le_trans h2 (Nat.mul_le_mul (by omega) (Nat.le_refl _))⟩
def StC (G : Nat -> DV) (t : Nd) : Prop := ∀ (i : Nat) (o : List UInt8) (bad : Bool), i + Qr t <= 1000000 -> o.length + 7000000 * Qr t <= 140737470000000 -> PM Tryz.prog G 49 (fun p g => [.ptr p g 0, .i i, .agg (Enc.enc t)]) o bad (.tup []) (o ++ stT t i) (bad || !stOk t)
def BlC (G : Nat -> DV) (t : Nd) : Prop := ∀ (i : Nat) (e : List UInt8) (o : List UInt8) (bad : Bool), e.length <= 100 -> i + Qr t <= 1000000 -> o.length + 7000000 * Qr t <= 140737475000000 -> PM Tryz.prog G 85 (fun p g => [.ptr p g 0, .i i, .agg (Enc.enc t), WS e]) o bad (.tup []) (o ++ (inT t i ++ ZN i e)) (bad || !inOk t)
theorem block_c (k n m : Int) (ks : List Nd) (hok : okN (.mk k n m ks)) (hst : ∀ x ∈ ks, StC G x) : BlC G (.mk k n m ks) := fun i e o bad hel hi hlen g0 g1 B h0 h1 => by
 rw [okN] at hok
 rw [Qr] at hi hlen
 have hl1 := WU ks
 have hl : ks.length <= 1048576 := by omega
 rw [QQ, inT, inOk]
 by_cases hk : k = 13
 ·subst hk
  by_cases hp : WZ n m ks.length (-1) = true
  ·have hpl : ∀ b, PE Tryz.prog G 87 (fun p g => [.ptr p g 0, .agg [.i 13, .i n, .i m, QW ks], .i (-1)]) o b (.b true) b := fun b => (qe 13 n m ks (-1) hl).conv (by rw [hp]) (by rw [hp]; simp)
   refine Qa Tryz.func85 rfl Tryz.ntmps85 rfl (t := [(0, .ptr 0 g0 0), (1, .i i), (2, .agg [.i _, .i n, .i m, QW ks]), (3, WS e)]) rfl fun E hE => ?_
   (repeat' first | (refine Qg ?_; (first | refine QJ rfl ?_ | (refine QG ?_; (first | refine WL rfl rfl ?_ | refine Qc rfl rfl rfl ?_)) | refine Q1 rfl rfl ?_ | (refine Qt ?_; (first | refine WY 0 1 (W5 _) rfl rfl rfl rfl rfl rfl ?_ | refine WY 0 1 (hpl _) rfl rfl rfl rfl rfl rfl ?_ | refine QI rfl ?_)) | refine W1 rfl rfl ?_ | refine Qd rfl rfl ?_ | refine Q9 rfl rfl (fun _ _ => ?_))) | (refine Qk ?_; (first | refine Qi ?_ | refine QK rfl ?_ | refine WM rfl rfl rfl rfl ?_)) | (refine Qj ?_; (first | refine Ql ?_ | refine Qb ?_ | refine Qe ?_ | refine Qq rfl ?_)))
   rename_i gn hgn
   have hpos := hst
   rw [show (bad || !decide ((13 : Int) = 13)) = bad by simp]
   refine r_loop2 (fun (j : Nat) (g : Nat) => ⟨[(0, .ptr 0 g0 0), (1, .i i), (3, WS e), (21, QW ks), (22, .i ks.length), (23, .i j)], [pRow 0 1 g0 g (o ++ stTs (ks.take j) (i + 1)).length (bad || !stOks (ks.take j)), .row g (Ws (o ++ stTs (ks.take j) (i + 1))), .row gn [.i 13, .i n, .i m, QW ks]]⟩) (fun j g => j <= ks.length /\ (g = g1 \/ E.N < g)) (fun j _ => ks.length - j) 0 g1 ?_ (by omega) ?_
   ·rw [show (bad || !stOks (ks.take 0)) = bad by simp [stOks], show o ++ stTs (ks.take 0) (i + 1) = o by simp [stTs]]
    exact zal rfl
   intro j g hj
   have hpre := stTs_len (C := 7000000) (ks.take j) (i + 1) fun x hx => (st_lenX (WJ hok.2 (List.mem_of_mem_take hx)) (by have := Wf (List.mem_of_mem_take hx); omega)).1
   have hsl := Wy ks j
   by_cases hjl : j < ks.length
   ·have hsm := Wf (List.getElem_mem hjl)
    have hst1 := qh ks j hjl
    have hst2 := Wy ks (j + 1)
    have hsx := hst _ (List.getElem_mem hjl) (i + 1) (o ++ stTs (ks.take j) (i + 1)) (bad || !stOks (ks.take j)) (by omega) (by rw [List.length_append]; omega)
    have e1 : o ++ stTs (ks.take (j + 1)) (i + 1) = (o ++ stTs (ks.take j) (i + 1)) ++ stT ks[j] (i + 1) := by rw [stTs_take hjl, List.append_assoc]
    have e2 : (bad || !stOks (ks.take (j + 1))) = ((bad || !stOks (ks.take j)) || !stOk ks[j]) := by rw [stOks_take hjl]; cases bad <;> simp
    clear hpos hst
    (repeat' first | (refine Qg ?_; (first | refine QJ rfl ?_ | (refine QG ?_; (first | refine WL rfl rfl ?_ | refine QO rfl ?_)) | refine QM rfl rfl (by first | assumption | omega | (simp; done) | (simp; omega)) ?_ | (refine Qo ?_; (first | refine QX rfl rfl ?_ | refine W3 rfl rfl (by omega) ?_)) | refine s_pm 0 1 (hsx) rfl rfl rfl rfl rfl rfl (fun _ => rfl) (fun _ _ => ?_) | refine WD rfl rfl rfl rfl ?_ | refine Qu (fun _ _ => ?_))) | (refine Qk ?_; (first | refine Qi ?_ | refine QK rfl ?_ | refine QR ?_)) | (refine Qj ?_; (first | refine Ql ?_ | refine Qb ?_ | refine Qe ?_ | refine QB ?_ | refine Qm rfl (by omega) ?_)))
    rename_i g' hg'
    refine ⟨j + 1, g', ⟨by omega, by omega⟩, by omega, ?_⟩
    rw [e1, e2]
    exact zal rfl
   ·have hje : j = ks.length := by omega
    subst hje
    rw [List.take_length] at *
    have hll : (o ++ stTs ks (i + 1)).length + e.length <= 140737480000000 := by rw [List.length_append]; omega
    have hi1 : i <= 1000000 := by omega
    (repeat' first | (refine Qg ?_; (first | refine QJ rfl ?_ | refine QX rfl rfl ?_ | refine s_pm 0 1 (line_c _ _ (by first | assumption | omega) (by first | assumption | (simp only [List.length_append, Q7, List.length_cons, List.length_nil]; omega))) rfl rfl rfl rfl rfl rfl (fun _ => rfl) (fun _ _ => ?_))) | (refine Qk ?_; (first | refine Qi ?_ | refine QK rfl ?_)) | (refine Qj ?_; (first | refine Ql ?_ | refine Qb ?_ | refine Qf rfl (by omega) ?_ | refine WC rfl ?_)))
    exact e_0 (Tryz.results85) (c_pm rfl (by simp [hp]) (by simp [hp]) (by omega))
  ·have hp : WZ n m ks.length (-1) = false := by rw [<- Bool.not_eq_true]; exact hp
   have hpl : ∀ b, PE Tryz.prog G 87 (fun p g => [.ptr p g 0, .agg [.i 13, .i n, .i m, QW ks], .i (-1)]) o b (.b false) true := fun b => (qe 13 n m ks (-1) hl).conv (by rw [hp]) (by rw [hp]; simp)
   have hll : o.length + e.length <= 140737480000000 := by omega
   have hi1 : i <= 1000000 := by omega
   refine Qa Tryz.func85 rfl Tryz.ntmps85 rfl (t := [(0, .ptr 0 g0 0), (1, .i i), (2, .agg [.i _, .i n, .i m, QW ks]), (3, WS e)]) rfl fun E hE => ?_
   (repeat' first | (refine Qg ?_; (first | refine QJ rfl ?_ | (refine QG ?_; (first | refine WL rfl rfl ?_ | refine Qc rfl rfl rfl ?_)) | refine Q1 rfl rfl ?_ | (refine Qt ?_; (first | refine WY 0 1 (W5 _) rfl rfl rfl rfl rfl rfl ?_ | refine WY 0 1 (hpl _) rfl rfl rfl rfl rfl rfl ?_ | refine s_pm 0 1 (line_c _ _ (by first | assumption | omega) (by first | assumption | (simp only [List.length_append, Q7, List.length_cons, List.length_nil]; omega))) rfl rfl rfl rfl rfl rfl (fun _ => rfl) (fun _ _ => ?_))) | refine W1 rfl rfl ?_ | refine Qd rfl rfl ?_ | refine Q9 rfl rfl (fun _ _ => ?_))) | (refine Qk ?_; (first | refine Qi ?_ | refine QK rfl ?_ | refine WM rfl rfl rfl rfl ?_)) | (refine Qj ?_; (first | refine Ql ?_ | refine Qb ?_ | refine QB ?_ | refine Qs rfl ?_)))
   exact e_0 (Tryz.results85) (c_pm rfl (by simp [hp]) (by simp [hp]) (by omega))
 ·have hll : o.length + e.length <= 140737480000000 := by omega
  have hi1 : i <= 1000000 := by omega
  refine Qa Tryz.func85 rfl Tryz.ntmps85 rfl (t := [(0, .ptr 0 g0 0), (1, .i i), (2, .agg [.i k, .i n, .i m, QW ks]), (3, WS e)]) rfl fun E hE => ?_
  (repeat' first | (refine Qg ?_; (first | refine QJ rfl ?_ | refine Qc rfl rfl rfl ?_ | refine Q1 rfl rfl ?_ | (refine Qt ?_; (first | refine WY 0 1 (W5 _) rfl rfl rfl rfl rfl rfl ?_ | refine s_pm 0 1 (line_c _ _ (by first | assumption | omega) (by first | assumption | (simp only [List.length_append, Q7, List.length_cons, List.length_nil]; omega))) rfl rfl rfl rfl rfl rfl (fun _ => rfl) (fun _ _ => ?_))) | refine WO rfl rfl ?_ | refine Qd rfl rfl ?_ | refine Q9 rfl rfl (fun _ _ => ?_))) | (refine Qk ?_; (first | refine Qi ?_ | refine QK rfl ?_ | refine W7 rfl rfl rfl rfl ?_ | refine Q5 rfl rfl (by omega) ?_)) | (refine Qj ?_; (first | refine Ql ?_ | refine Qb ?_ | refine QB ?_ | refine Qs rfl ?_)))
  exact e_0 (Tryz.results85) (c_pm rfl (by simp [hk]) (by simp [hk]) (by omega))
theorem stmt_c (hG : G 6 = pow10T) (hG1 : G 1 = spaceT) (k n m : Int) (ks : List Nd) (hok0 : okN (.mk k n m ks)) (hbl : BlC G (.mk k n m ks)) (hkb : ∀ x ∈ ks, BlC G x) : StC G (.mk k n m ks) := fun i o bad hi hlen g0 g1 B h0 h1 => by
 have hok := hok0
 rw [okN] at hok
 have hse : Qr (.mk k n m ks) = 1 + QD ks := by rw [Qr]
 have hl1 := WU ks
 have hsim := simT_len _ hok0
 have hsimc := fun (o : List UInt8) (b : Bool) => simple_c (G := G) (o := o) hG hG1 _ hok0 (by omega) b
 rw [hse] at hi hlen hsim
 have hl : ks.length <= 1048576 := by omega
 have hi1 : i <= 1000000 := by omega
 have hn : -9223372036854775808 <= n /\ n <= 9223372036854775807 := hok.1.2.1
 have hnl := Zh hok.1.2.1
 have hx : ∀ x ∈ ks, ∀ (o : List UInt8) b, PE Tryz.prog G 48 (fun p g => [.ptr p g 0, .agg (Enc.enc x)]) o b (WS (exT x)) (b || !exOk x) := fun x hx o b => expr_c hG hG1 x (WJ hok.2 hx) (by have := Wf hx; omega) b
 have hxl := exs_len hok.2
 have hil : ∀ x ∈ ks, (inT x i).length <= 7000000 * (Qr x - 1) := fun x hx => (st_lenX (WJ hok.2 hx) (by have := Wf hx; omega)).2
 rw [stT, stOk, inTs_eq, inOks_eq]
 rw [QQ] at hsimc ⊢
 by_cases k13 : k = 13
 ·subst k13
  have hb1 := hbl i sClose (o ++ ZN i sOpen) bad (by decide) (by rw [hse]; omega) (by rw [hse, List.length_append, Q7]; simp only [List.length_cons, List.length_nil]; omega)
  rw [QQ, inT, inOk] at hb1
  clear hkb hbl hx hxl hil hsimc
  refine Qa Tryz.func49 rfl Tryz.ntmps49 rfl (t := [(0, .ptr 0 g0 0), (1, .i i), (2, .agg [.i _, .i n, .i m, QW ks])]) rfl fun E hE => ?_
  (repeat' first | (refine Qg ?_; (first | refine QJ rfl ?_ | refine QN rfl ?_ | (refine QG ?_; (first | refine WL rfl rfl ?_ | refine Qc rfl rfl rfl ?_)) | refine Q1 rfl rfl ?_ | (refine Qt ?_; (first | refine ZX rfl rfl rfl (fun B' hB' => stmt1_c i _ hi1 (by first | omega | (simp only [List.length_append, Q7, List.length_cons, List.length_nil]; omega)) g0 _ _ _ hB') (fun _ _ => ?_) | refine s_pm 0 1 (hb1) rfl rfl rfl rfl rfl rfl (fun _ => rfl) (fun _ _ => ?_))) | refine Qd rfl rfl ?_ | refine QH rfl rfl ?_ | refine Q9 rfl rfl (fun _ _ => ?_))) | (refine Qk ?_; (first | refine Qi ?_ | refine QK rfl ?_)) | (refine Qj ?_; (first | refine Ql ?_ | refine Qb ?_ | refine Qe ?_ | refine Qq rfl ?_)))
  exact e_0 (Tryz.results49) (c_pm rfl (by simp) (by simp [Bool.or_assoc]) (by omega))
 by_cases k17 : k = 17
 ·subst k17
  by_cases hp : WZ n m ks.length 3 = true
  ·have hpl : ∀ (o : List UInt8) b, PE Tryz.prog G 87 (fun p g => [.ptr p g 0, .agg [.i 17, .i n, .i m, QW ks], .i 3]) o b (.b true) b := fun o b => (qe 17 n m ks 3 hl).conv (by rw [hp]) (by rw [hp]; simp)
   have h2 : ks.length = 3 := by simp [WZ, Q0] at hp; omega
   match ks, h2 with
   | [a, b, c], _ =>
    have hxa := hx a (by simp)
    have hba := hkb a (by simp)
    have hxal := hxl a (by simp)
    have hial := hil a (by simp)
    have hsa := Q6 a
    have hxb := hx b (by simp)
    have hbb := hkb b (by simp)
    have hxbl := hxl b (by simp)
    have hibl := hil b (by simp)
    have hsb := Q6 b
    have hxc := hx c (by simp)
    have hbc := hkb c (by simp)
    have hxcl := hxl c (by simp)
    have hicl := hil c (by simp)
    have hsc := Q6 c
    have hp2 : WZ n m 3 3 = true := hp
    simp only [QD] at hi hlen
    clear hx hkb hxl hil hbl hsimc
    refine Qa Tryz.func49 rfl Tryz.ntmps49 rfl (t := [(0, .ptr 0 g0 0), (1, .i i), (2, .agg [.i _, .i n, .i m, QW [a, b, c]])]) rfl fun E hE => ?_
    (repeat' first | (refine Qg ?_; (first | refine QJ rfl ?_ | refine QN rfl ?_ | (refine QG ?_; (first | refine WL rfl rfl ?_ | refine Qc rfl rfl rfl ?_)) | refine Q1 rfl rfl ?_ | (refine Qt ?_; (first | refine ZX rfl rfl rfl (fun B' hB' => stmt1_c i _ hi1 (by first | omega | (simp only [List.length_append, Q7, List.length_cons, List.length_nil]; omega)) g0 _ _ _ hB') (fun _ _ => ?_) | refine WY 0 1 (hpl _ _) rfl rfl rfl rfl rfl rfl ?_ | refine WY 0 1 (hxa _ _) rfl rfl rfl rfl rfl rfl ?_ | refine s_pm 0 1 (hbb i _ _ _ (by first | decide | (simp only [List.length_append, List.length_cons, List.length_nil]; omega)) (by omega) (by first | omega | (simp only [List.length_append, Q7, List.length_cons, List.length_nil]; omega))) rfl rfl rfl rfl rfl rfl (fun _ => rfl) (fun _ _ => ?_) | refine s_pm 0 1 (hbc i _ _ _ (by first | decide | (simp only [List.length_append, List.length_cons, List.length_nil]; omega)) (by omega) (by first | omega | (simp only [List.length_append, Q7, List.length_cons, List.length_nil]; omega))) rfl rfl rfl rfl rfl rfl (fun _ => rfl) (fun _ _ => ?_))) | refine W1 rfl rfl ?_ | refine Qd rfl rfl ?_ | refine QH rfl rfl ?_ | refine Q9 rfl rfl (fun _ _ => ?_))) | (refine Qk ?_; (first | refine Qi ?_ | refine QK rfl ?_ | refine WM rfl rfl rfl rfl ?_)) | (refine Qj ?_; (first | refine Ql ?_ | refine Qb ?_ | refine Qe ?_ | (refine WF ?_; first | (refine Qv (pfx3 _ _) 100 [(0, true), (1, true), (2, true), (3, true), (4, true), (5, true), (6, true), (7, true), (8, true), (9, false), (10, true), (11, true), (12, false)] (by rfl) (by rfl) (by kernel_rfl) (by decide +kernel) (by decide +kernel) ⟨(_, _, _, _), rfl⟩ ?_) | (refine Qv (pfx3 _ _) 100 [(0, true), (1, true), (2, true), (3, true), (4, true), (5, true), (6, false)] (by rfl) (by rfl) (by kernel_rfl) (by decide +kernel) (by decide +kernel) ⟨(_, _, _, _), rfl⟩ ?_) | (refine Qv (pfx3 _ _) 100 [(0, true), (1, true), (2, true), (3, true), (4, true), (5, true), (6, false), (7, true), (8, true), (9, false)] (by rfl) (by rfl) (by kernel_rfl) (by decide +kernel) (by decide +kernel) ⟨(_, _, _, _), rfl⟩ ?_) | (refine Qv (pfx3 _ _) 100 [(0, true), (1, true), (2, true), (3, true), (4, true), (5, true), (6, true), (7, true), (8, false)] (by rfl) (by rfl) (by kernel_rfl) (by decide +kernel) (by decide +kernel) ⟨(_, _, _, _), rfl⟩ ?_) | refine Wm (by rfl) (by kernel_rfl) (by kernel_rfl) ?_ | refine Wl (by kernel_rfl) (by kernel_rfl) ?_) | refine Qq rfl ?_ | refine Qs rfl ?_)) | (refine W6 ?_; (first | refine ZG ?_ | refine i_st rfl rfl (fun _ => (by (repeat' first | (refine Qg ?_; (first | refine QJ rfl ?_ | (refine QG ?_; (first | refine QO rfl ?_ | refine Qc rfl rfl rfl ?_)) | refine QM rfl rfl (by first | assumption | omega | (simp; done) | (simp; omega)) ?_ | refine s_ad rfl rfl ?_ | refine Qd rfl rfl ?_)) | exact ⟨rfl, rfl⟩))) ?_ | refine i_ef rfl ?_)) | refine And.intro (Exists.intro ((_, _, _, _)) rfl) ?_)
    exact e_0 (Tryz.results49) (c_pm rfl (by simp [hp2]) (by simp [hp2, Bool.or_assoc]) (by omega))
  ·have hp : WZ n m ks.length 3 = false := by rw [<- Bool.not_eq_true]; exact hp
   have hpl : ∀ (o : List UInt8) b, PE Tryz.prog G 87 (fun p g => [.ptr p g 0, .agg [.i 17, .i n, .i m, QW ks], .i 3]) o b (.b false) true := fun o b => (qe 17 n m ks 3 hl).conv (by rw [hp]) (by rw [hp]; simp)
   clear hkb hbl hx hxl hil
   refine Qa Tryz.func49 rfl Tryz.ntmps49 rfl (t := [(0, .ptr 0 g0 0), (1, .i i), (2, .agg [.i _, .i n, .i m, QW ks])]) rfl fun E hE => ?_
   (repeat' first | (refine Qg ?_; (first | refine QJ rfl ?_ | refine QN rfl ?_ | (refine QG ?_; (first | refine WL rfl rfl ?_ | refine Qc rfl rfl rfl ?_)) | refine Q1 rfl rfl ?_ | (refine Qt ?_; (first | refine ZX rfl rfl rfl (fun B' hB' => stmt1_c i _ hi1 (by first | omega | (simp only [List.length_append, Q7, List.length_cons, List.length_nil]; omega)) g0 _ _ _ hB') (fun _ _ => ?_) | refine WY 0 1 (hpl _ _) rfl rfl rfl rfl rfl rfl ?_ | refine WY 0 1 (hsimc _ _) rfl rfl rfl rfl rfl rfl ?_)) | (refine Q8 ?_; (first | refine W1 rfl rfl ?_ | refine WO rfl rfl ?_)) | refine Qd rfl rfl ?_ | refine QH rfl rfl ?_ | refine Q9 rfl rfl (fun _ _ => ?_))) | (refine Qk ?_; (first | refine Qi ?_ | refine QK rfl ?_ | refine WM rfl rfl rfl rfl ?_ | refine W7 rfl rfl rfl rfl ?_)) | (refine Qj ?_; (first | refine Ql ?_ | refine Qb ?_ | refine Qe ?_ | refine Qs rfl ?_)))
   exact e_0 (Tryz.results49) (c_pm rfl (by simp [hp]) (by simp [hp, Bool.or_assoc]) (by omega))
 by_cases k18 : k = 18
 ·subst k18
  by_cases hp : WZ n m ks.length 2 = true
  ·have hpl : ∀ (o : List UInt8) b, PE Tryz.prog G 87 (fun p g => [.ptr p g 0, .agg [.i 18, .i n, .i m, QW ks], .i 2]) o b (.b true) b := fun o b => (qe 18 n m ks 2 hl).conv (by rw [hp]) (by rw [hp]; simp)
   have h2 : ks.length = 2 := by simp [WZ, Q0] at hp; omega
   match ks, h2 with
   | [a, b], _ =>
    have hxa := hx a (by simp)
    have hba := hkb a (by simp)
    have hxal := hxl a (by simp)
    have hial := hil a (by simp)
    have hsa := Q6 a
    have hxb := hx b (by simp)
    have hbb := hkb b (by simp)
    have hxbl := hxl b (by simp)
    have hibl := hil b (by simp)
    have hsb := Q6 b
    have hp2 : WZ n m 2 2 = true := hp
    simp only [QD] at hi hlen
    clear hx hkb hxl hil hbl hsimc
    refine Qa Tryz.func49 rfl Tryz.ntmps49 rfl (t := [(0, .ptr 0 g0 0), (1, .i i), (2, .agg [.i _, .i n, .i m, QW [a, b]])]) rfl fun E hE => ?_
    (repeat' first | (refine Qg ?_; (first | refine QJ rfl ?_ | refine QN rfl ?_ | (refine QG ?_; (first | refine WL rfl rfl ?_ | refine Qc rfl rfl rfl ?_)) | refine Q1 rfl rfl ?_ | (refine Qt ?_; (first | refine ZX rfl rfl rfl (fun B' hB' => stmt1_c i _ hi1 (by first | omega | (simp only [List.length_append, Q7, List.length_cons, List.length_nil]; omega)) g0 _ _ _ hB') (fun _ _ => ?_) | refine WY 0 1 (hpl _ _) rfl rfl rfl rfl rfl rfl ?_ | refine WY 0 1 (hxa _ _) rfl rfl rfl rfl rfl rfl ?_ | refine s_pm 0 1 (hbb i _ _ _ (by first | decide | (simp only [List.length_append, List.length_cons, List.length_nil]; omega)) (by omega) (by first | omega | (simp only [List.length_append, Q7, List.length_cons, List.length_nil]; omega))) rfl rfl rfl rfl rfl rfl (fun _ => rfl) (fun _ _ => ?_))) | (refine Q8 ?_; (first | refine W1 rfl rfl ?_ | refine WO rfl rfl ?_)) | refine Qd rfl rfl ?_ | refine QH rfl rfl ?_ | refine Q9 rfl rfl (fun _ _ => ?_))) | (refine Qk ?_; (first | refine Qi ?_ | refine QK rfl ?_ | refine WM rfl rfl rfl rfl ?_ | refine W7 rfl rfl rfl rfl ?_)) | (refine Qj ?_; (first | refine Ql ?_ | refine Qb ?_ | refine Qe ?_ | (refine WF ?_; first | (refine Qv (pfx3 _ _) 100 [(0, true), (1, true), (2, true), (3, true), (4, true), (5, true), (6, true), (7, true), (8, true), (9, false), (10, true), (11, true), (12, false)] (by rfl) (by rfl) (by kernel_rfl) (by decide +kernel) (by decide +kernel) ⟨(_, _, _, _), rfl⟩ ?_) | (refine Qv (pfx3 _ _) 100 [(0, true), (1, true), (2, true), (3, true), (4, true), (5, true), (6, false)] (by rfl) (by rfl) (by kernel_rfl) (by decide +kernel) (by decide +kernel) ⟨(_, _, _, _), rfl⟩ ?_) | (refine Qv (pfx3 _ _) 100 [(0, true), (1, true), (2, true), (3, true), (4, true), (5, true), (6, false), (7, true), (8, true), (9, false)] (by rfl) (by rfl) (by kernel_rfl) (by decide +kernel) (by decide +kernel) ⟨(_, _, _, _), rfl⟩ ?_) | (refine Qv (pfx3 _ _) 100 [(0, true), (1, true), (2, true), (3, true), (4, true), (5, true), (6, true), (7, true), (8, false)] (by rfl) (by rfl) (by kernel_rfl) (by decide +kernel) (by decide +kernel) ⟨(_, _, _, _), rfl⟩ ?_) | refine Wm (by rfl) (by kernel_rfl) (by kernel_rfl) ?_ | refine Wl (by kernel_rfl) (by kernel_rfl) ?_) | refine Qq rfl ?_ | refine Qs rfl ?_)) | (refine W6 ?_; (first | refine ZG ?_ | refine i_st rfl rfl (fun _ => (by (repeat' first | (refine Qg ?_; (first | refine QJ rfl ?_ | (refine QG ?_; (first | refine QO rfl ?_ | refine Qc rfl rfl rfl ?_)) | refine QM rfl rfl (by first | assumption | omega | (simp; done) | (simp; omega)) ?_ | refine s_ad rfl rfl ?_ | refine Qd rfl rfl ?_)) | exact ⟨rfl, rfl⟩))) ?_ | refine i_ef rfl ?_)) | refine And.intro (Exists.intro ((_, _, _, _)) rfl) ?_)
    exact e_0 (Tryz.results49) (c_pm rfl (by simp [hp2]) (by simp [hp2, Bool.or_assoc]) (by omega))
  ·have hp : WZ n m ks.length 2 = false := by rw [<- Bool.not_eq_true]; exact hp
   have hpl : ∀ (o : List UInt8) b, PE Tryz.prog G 87 (fun p g => [.ptr p g 0, .agg [.i 18, .i n, .i m, QW ks], .i 2]) o b (.b false) true := fun o b => (qe 18 n m ks 2 hl).conv (by rw [hp]) (by rw [hp]; simp)
   clear hkb hbl hx hxl hil
   refine Qa Tryz.func49 rfl Tryz.ntmps49 rfl (t := [(0, .ptr 0 g0 0), (1, .i i), (2, .agg [.i _, .i n, .i m, QW ks])]) rfl fun E hE => ?_
   (repeat' first | (refine Qg ?_; (first | refine QJ rfl ?_ | refine QN rfl ?_ | (refine QG ?_; (first | refine WL rfl rfl ?_ | refine Qc rfl rfl rfl ?_)) | refine Q1 rfl rfl ?_ | (refine Qt ?_; (first | refine ZX rfl rfl rfl (fun B' hB' => stmt1_c i _ hi1 (by first | omega | (simp only [List.length_append, Q7, List.length_cons, List.length_nil]; omega)) g0 _ _ _ hB') (fun _ _ => ?_) | refine WY 0 1 (hpl _ _) rfl rfl rfl rfl rfl rfl ?_ | refine WY 0 1 (hsimc _ _) rfl rfl rfl rfl rfl rfl ?_)) | (refine Q8 ?_; (first | refine W1 rfl rfl ?_ | refine WO rfl rfl ?_)) | refine Qd rfl rfl ?_ | refine QH rfl rfl ?_ | refine Q9 rfl rfl (fun _ _ => ?_))) | (refine Qk ?_; (first | refine Qi ?_ | refine QK rfl ?_ | refine WM rfl rfl rfl rfl ?_ | refine W7 rfl rfl rfl rfl ?_)) | (refine Qj ?_; (first | refine Ql ?_ | refine Qb ?_ | refine Qe ?_ | refine Qs rfl ?_)))
   exact e_0 (Tryz.results49) (c_pm rfl (by simp [hp]) (by simp [hp, Bool.or_assoc]) (by omega))
 by_cases k21 : k = 21
 ·subst k21
  by_cases hp : Q0 m ks.length 2 = true
  ·have hpl : ∀ (o : List UInt8) b, PE Tryz.prog G 42 (fun p g => [.ptr p g 0, .agg [.i 21, .i n, .i m, QW ks], .i 2]) o b (.b true) b := fun o b => (W9 21 n m ks 2 hl).conv (by rw [hp]) (by rw [hp]; simp)
   have h2 : ks.length = 2 := by simp [WZ, Q0] at hp; omega
   match ks, h2 with
   | [a, b], _ =>
    have hxa := hx a (by simp)
    have hba := hkb a (by simp)
    have hxal := hxl a (by simp)
    have hial := hil a (by simp)
    have hsa := Q6 a
    have hxb := hx b (by simp)
    have hbb := hkb b (by simp)
    have hxbl := hxl b (by simp)
    have hibl := hil b (by simp)
    have hsb := Q6 b
    have hp2 : Q0 m 2 2 = true := hp
    simp only [QD] at hi hlen
    clear hx hkb hxl hil hbl hsimc
    refine Qa Tryz.func49 rfl Tryz.ntmps49 rfl (t := [(0, .ptr 0 g0 0), (1, .i i), (2, .agg [.i _, .i n, .i m, QW [a, b]])]) rfl fun E hE => ?_
    (repeat' first | (refine Qg ?_; (first | refine QJ rfl ?_ | refine QN rfl ?_ | (refine QG ?_; (first | refine WL rfl rfl ?_ | refine Qc rfl rfl rfl ?_)) | refine Q1 rfl rfl ?_ | (refine Qt ?_; (first | refine ZX rfl rfl rfl (fun B' hB' => stmt1_c i _ hi1 (by first | omega | (simp only [List.length_append, Q7, List.length_cons, List.length_nil]; omega)) g0 _ _ _ hB') (fun _ _ => ?_) | refine WY 0 1 (hpl _ _) rfl rfl rfl rfl rfl rfl ?_ | refine WY 0 1 (Zf hG _ (by assumption)) rfl rfl rfl rfl rfl rfl ?_ | refine s_pm 0 1 (hba i _ _ _ (by first | decide | (simp only [List.length_append, List.length_cons, List.length_nil]; omega)) (by omega) (by first | omega | (simp only [List.length_append, Q7, List.length_cons, List.length_nil]; omega))) rfl rfl rfl rfl rfl rfl (fun _ => rfl) (fun _ _ => ?_) | refine s_pm 0 1 (hbb i _ _ _ (by first | decide | (simp only [List.length_append, List.length_cons, List.length_nil]; omega)) (by omega) (by first | omega | (simp only [List.length_append, Q7, List.length_cons, List.length_nil]; omega))) rfl rfl rfl rfl rfl rfl (fun _ => rfl) (fun _ _ => ?_))) | (refine Q8 ?_; (first | refine W1 rfl rfl ?_ | refine WO rfl rfl ?_)) | refine Qd rfl rfl ?_ | refine QH rfl rfl ?_ | refine Q9 rfl rfl (fun _ _ => ?_))) | (refine Qk ?_; (first | refine Qi ?_ | refine QK rfl ?_ | refine WM rfl rfl rfl rfl ?_ | refine W7 rfl rfl rfl rfl ?_)) | (refine Qj ?_; (first | refine Ql ?_ | refine Qb ?_ | refine Qe ?_ | (refine WF ?_; first | (refine Qv (pfx3 _ _) 100 [(0, true), (1, true), (2, true), (3, true), (4, true), (5, true), (6, true), (7, true), (8, true), (9, false), (10, true), (11, true), (12, false)] (by rfl) (by rfl) (by kernel_rfl) (by decide +kernel) (by decide +kernel) ⟨(_, _, _, _), rfl⟩ ?_) | (refine Qv (pfx3 _ _) 100 [(0, true), (1, true), (2, true), (3, true), (4, true), (5, true), (6, false)] (by rfl) (by rfl) (by kernel_rfl) (by decide +kernel) (by decide +kernel) ⟨(_, _, _, _), rfl⟩ ?_) | (refine Qv (pfx3 _ _) 100 [(0, true), (1, true), (2, true), (3, true), (4, true), (5, true), (6, false), (7, true), (8, true), (9, false)] (by rfl) (by rfl) (by kernel_rfl) (by decide +kernel) (by decide +kernel) ⟨(_, _, _, _), rfl⟩ ?_) | (refine Qv (pfx3 _ _) 100 [(0, true), (1, true), (2, true), (3, true), (4, true), (5, true), (6, true), (7, true), (8, false)] (by rfl) (by rfl) (by kernel_rfl) (by decide +kernel) (by decide +kernel) ⟨(_, _, _, _), rfl⟩ ?_) | refine Wm (by rfl) (by kernel_rfl) (by kernel_rfl) ?_ | refine Wl (by kernel_rfl) (by kernel_rfl) ?_) | refine Qq rfl ?_ | refine Qs rfl ?_)) | (refine W6 ?_; (first | refine ZG ?_ | refine i_st rfl rfl (fun _ => (by (repeat' first | (refine Qg ?_; (first | (refine QG ?_; (first | refine QO rfl ?_ | refine Qc rfl rfl rfl ?_)) | refine QM rfl rfl (by first | assumption | omega | (simp; done) | (simp; omega)) ?_ | refine s_ad rfl rfl ?_ | refine Qd rfl rfl ?_)) | exact ⟨rfl, rfl⟩))) ?_ | refine i_ef rfl ?_)) | refine And.intro (Exists.intro ((_, _, _, _)) rfl) ?_)
    exact e_0 (Tryz.results49) (c_pm rfl (by simp [hp2]) (by simp [hp2, Bool.or_assoc]) (by omega))
  ·have hp : Q0 m ks.length 2 = false := by rw [<- Bool.not_eq_true]; exact hp
   have hpl : ∀ (o : List UInt8) b, PE Tryz.prog G 42 (fun p g => [.ptr p g 0, .agg [.i 21, .i n, .i m, QW ks], .i 2]) o b (.b false) true := fun o b => (W9 21 n m ks 2 hl).conv (by rw [hp]) (by rw [hp]; simp)
   clear hkb hbl hx hxl hil
   refine Qa Tryz.func49 rfl Tryz.ntmps49 rfl (t := [(0, .ptr 0 g0 0), (1, .i i), (2, .agg [.i _, .i n, .i m, QW ks])]) rfl fun E hE => ?_
   (repeat' first | (refine Qg ?_; (first | refine QJ rfl ?_ | refine QN rfl ?_ | (refine QG ?_; (first | refine WL rfl rfl ?_ | refine Qc rfl rfl rfl ?_)) | refine Q1 rfl rfl ?_ | (refine Qt ?_; (first | refine ZX rfl rfl rfl (fun B' hB' => stmt1_c i _ hi1 (by first | omega | (simp only [List.length_append, Q7, List.length_cons, List.length_nil]; omega)) g0 _ _ _ hB') (fun _ _ => ?_) | refine WY 0 1 (hpl _ _) rfl rfl rfl rfl rfl rfl ?_ | refine WY 0 1 (hsimc _ _) rfl rfl rfl rfl rfl rfl ?_)) | (refine Q8 ?_; (first | refine W1 rfl rfl ?_ | refine WO rfl rfl ?_)) | refine Qd rfl rfl ?_ | refine QH rfl rfl ?_ | refine Q9 rfl rfl (fun _ _ => ?_))) | (refine Qk ?_; (first | refine Qi ?_ | refine QK rfl ?_ | refine WM rfl rfl rfl rfl ?_ | refine W7 rfl rfl rfl rfl ?_)) | (refine Qj ?_; (first | refine Ql ?_ | refine Qb ?_ | refine Qe ?_ | refine Qs rfl ?_)))
   exact e_0 (Tryz.results49) (c_pm rfl (by simp [hp]) (by simp [hp, Bool.or_assoc]) (by omega))
 ·clear hkb hbl hx hxl hil
  refine Qa Tryz.func49 rfl Tryz.ntmps49 rfl (t := [(0, .ptr 0 g0 0), (1, .i i), (2, .agg [.i k, .i n, .i m, QW ks])]) rfl fun E hE => ?_
  (repeat' first | (refine Qg ?_; (first | refine QJ rfl ?_ | refine QN rfl ?_ | (refine QG ?_; (first | refine WL rfl rfl ?_ | refine Qc rfl rfl rfl ?_)) | refine Q1 rfl rfl ?_ | (refine Qt ?_; (first | refine ZX rfl rfl rfl (fun B' hB' => stmt1_c i _ hi1 (by first | omega | (simp only [List.length_append, Q7, List.length_cons, List.length_nil]; omega)) g0 _ _ _ hB') (fun _ _ => ?_) | refine WY 0 1 (hsimc _ _) rfl rfl rfl rfl rfl rfl ?_)) | refine WO rfl rfl ?_ | refine Qd rfl rfl ?_ | refine QH rfl rfl ?_ | refine Q9 rfl rfl (fun _ _ => ?_))) | (refine Qk ?_; (first | refine Qi ?_ | refine QK rfl ?_ | refine W7 rfl rfl rfl rfl ?_ | refine Q5 rfl rfl (by omega) ?_)) | (refine Qj ?_; (first | refine Ql ?_ | refine Qb ?_ | refine Qe ?_ | refine Qs rfl ?_ | refine Qf rfl (by omega) ?_)))
  exact e_0 (Tryz.results49) (c_pm rfl (by simp [*]) (by simp [*, Bool.or_assoc]) (by omega))
theorem stmts_c (hG : G 6 = pow10T) (hG1 : G 1 = spaceT) (t : Nd) : okN t -> StC G t /\ BlC G t := by
 induction t using Nd.ind with
 | h k n m ks ih =>
 intro hok
 have hok2 := hok
 rw [okN] at hok2
 have hb := block_c k n m ks hok fun x hx => (ih x hx (WJ hok2.2 hx)).1
 exact ⟨stmt_c hG hG1 k n m ks hok hb fun x hx => (ih x hx (WJ hok2.2 hx)).2, hb⟩
theorem fun_c (hG : G 6 = pow10T) (hG1 : G 1 = spaceT) (t : Nd) (hok : okN t) (hsz : Qr t <= 1000000) (hlen : o.length + 7000000 * Qr t <= 140737470000000) : PM Tryz.prog G 45 (fun p g => [.ptr p g 0, .agg (Enc.enc t)]) o bad (.tup []) (o ++ funT t) (bad || !funOk t) := fun g0 g1 B h0 h1 => by
 obtain ⟨k, n, m, ks⟩ := t
 rw [okN] at hok
 rw [Qr] at hsz hlen
 have hl1 := WU ks
 have hl : ks.length <= 1048576 := by omega
 have hn : -9223372036854775808 <= n /\ n <= 9223372036854775807 := hok.1.2.1
 have hnl := Zh hok.1.2.1
 rw [funT, funOk, QQ]
 by_cases hk : k = 26
 ·subst hk
  by_cases hp : 0 < ks.length
  ·have hpz : (0 : Int) < (ks.length : Int) := by omega
   by_cases hm : Q0 m ks.length (-1) = true
   ·have hpl : ∀ b, PE Tryz.prog G 42 (fun p g => [.ptr p g 0, .agg [.i 26, .i n, .i m, QW ks], .i (-1)]) o b (.b true) b := fun b => (W9 26 n m ks (-1) hl).conv (by rw [hm]) (by rw [hm]; simp)
    have hsl := sizeL_last hp
    have hmem := last_mem hp
    have hbb := (stmts_c hG hG1 _ (WJ hok.2 hmem)).2
    have hgl : ks.length - 1 < ks.length := by omega
    have hge : ks.getD (ks.length - 1) (.mk 0 0 0 []) = ks[ks.length - 1] := by rw [List.getD_eq_getElem?_getD, List.getElem?_eq_getElem hgl]; rfl
    have hlist : ∀ b, PE Tryz.prog G 84 (fun p g => [QW (ks.take (ks.length - 1)), .fn (.func 47) [.ptr p g 0] []]) o b (WS (Zm ((ks.take (ks.length - 1)).map typT))) (b || !(ks.take (ks.length - 1)).all typOk) := fun b =>
     list_c _ typT typOk _ b (fun x hx b => typed_c hG x (WJ hok.2 (List.mem_of_mem_take hx)) (by have := Wf (List.mem_of_mem_take hx); omega) b) (by simp; omega) (by have := qa typT (M := 30) ks (ks.length - 1) fun x hx => typT_len x (WJ hok.2 hx); have := Wy ks (ks.length - 1); omega)
    have hcl := qa typT (M := 30) ks (ks.length - 1) fun x hx => typT_len x (WJ hok.2 hx)
    rw [hge] at hbb hsl ⊢
    have hq : ((ks.length : Int) - 1).toNat = ks.length - 1 := by omega
    have hgl2 : ((ks.length : Int) - 1).toNat < ks.length := by omega
    have hlist2 : ∀ b, PE Tryz.prog G 84 (fun p g => [QW (ks.take ((ks.length : Int) - 1).toNat), .fn (.func 47) [.ptr p g 0] []]) o b (WS (Zm ((ks.take (ks.length - 1)).map typT))) (b || !(ks.take (ks.length - 1)).all typOk) := by rw [hq]; exact hlist
    have hgq : ks[((ks.length : Int) - 1).toNat] = ks[ks.length - 1] := by congr 1
    have hbb2 : BlC G ks[((ks.length : Int) - 1).toNat] := by rw [hgq]; exact hbb
    have hsl2 : QD (ks.take (ks.length - 1)) + Qr ks[((ks.length : Int) - 1).toNat] = QD ks := by rw [hgq]; exact hsl
    have hsn := Q6 ks[((ks.length : Int) - 1).toNat]
    refine Qa Tryz.func45 rfl Tryz.ntmps45 rfl (t := [(0, .ptr 0 g0 0), (1, .agg [.i _, .i n, .i m, QW ks])]) rfl fun E hE => ?_
    (repeat' first | (refine Qg ?_; (first | refine QJ rfl ?_ | refine QN rfl ?_ | (refine QG ?_; (first | refine WL rfl rfl ?_ | refine QO rfl ?_ | refine Qc rfl rfl rfl ?_)) | refine s_idx_sl rfl rfl (by omega) (by first | assumption | omega | (simp; done) | (simp; omega)) ?_ | (refine Qo ?_; (first | refine ZJ rfl rfl ?_ | refine Q1 rfl rfl ?_ | refine Zj rfl rfl (by omega) ?_)) | (refine Qt ?_; (first | refine QI rfl ?_ | refine WY 0 1 (W5 _) rfl rfl rfl rfl rfl rfl ?_ | refine WY 0 1 (hpl _) rfl rfl rfl rfl rfl rfl ?_ | refine WY 0 1 (Zf hG _ (by assumption)) rfl rfl rfl rfl rfl rfl ?_ | refine WY 0 1 (hlist2 _) rfl rfl rfl rfl rfl rfl ?_ | refine s_pm 0 1 (line_c 0 _ (by omega) (by first | assumption | (simp only [List.length_append, Q7, List.length_cons, List.length_nil]; omega))) rfl rfl rfl rfl rfl rfl (fun _ => rfl) (fun _ _ => ?_) | refine s_pm 0 1 (hbb2 0 _ _ _ (by decide) (by omega) (by first | assumption | omega | (simp only [List.length_append, Q7, List.length_cons, List.length_nil]; omega))) rfl rfl rfl rfl rfl rfl (fun _ => rfl) (fun _ _ => ?_))) | (refine Q8 ?_; (first | refine W1 rfl rfl ?_ | refine WO rfl rfl ?_)) | (refine g_unOp ?_; (first | refine s_not_d rfl ?_ | refine W2 rfl ?_)) | refine Qd rfl rfl ?_ | refine Q9 rfl rfl (fun _ _ => ?_))) | (refine Qk ?_; (first | refine Qi ?_ | refine QK rfl ?_ | refine WM rfl rfl rfl rfl ?_ | refine Q5 rfl rfl (by omega) ?_)) | (refine Qj ?_; (first | refine Ql ?_ | refine Qb ?_ | (refine WF ?_; first | (refine Qv (pfx3 _ _) 100 [(0, true), (1, true), (2, true), (3, true), (7, true), (8, true), (9, true), (10, true), (11, true), (12, true), (4, false), (5, true), (6, true), (13, false), (14, true), (15, true), (16, false)] (by rfl) (by rfl) (by kernel_rfl) (by decide +kernel) (by decide +kernel) ⟨(_, _, _, _), rfl⟩ ?_) | refine Wm (by rfl) (by kernel_rfl) (by kernel_rfl) ?_ | refine Wl (by kernel_rfl) (by kernel_rfl) ?_) | refine QB ?_ | refine Qs rfl ?_)) | (refine W6 ?_; (first | refine ZG ?_ | refine i_st rfl rfl (fun _ => (by (repeat' first | (refine Qg ?_; (first | refine QJ rfl ?_ | refine Qc rfl rfl rfl ?_ | refine s_ad rfl rfl ?_ | refine Qd rfl rfl ?_ | refine s_slice_h rfl rfl (by omega) (by omega) ?_ | refine QH rfl rfl ?_)) | exact ⟨rfl, rfl⟩))) ?_ | refine i_ef rfl ?_)) | refine And.intro (Exists.intro ((_, _, _, _)) rfl) ?_)
    exact e_0 (Tryz.results45) (c_pm rfl (by rw [hgq]; simp [hm, hp]) (by rw [hgq]; simp [hm, hp, Bool.or_assoc]) (by omega))
   ·have hm : Q0 m ks.length (-1) = false := by rw [<- Bool.not_eq_true]; exact hm
    have hpl : ∀ b, PE Tryz.prog G 42 (fun p g => [.ptr p g 0, .agg [.i 26, .i n, .i m, QW ks], .i (-1)]) o b (.b false) true := fun b => (W9 26 n m ks (-1) hl).conv (by rw [hm]) (by rw [hm]; simp)
    refine Qa Tryz.func45 rfl Tryz.ntmps45 rfl (t := [(0, .ptr 0 g0 0), (1, .agg [.i _, .i n, .i m, QW ks])]) rfl fun E hE => ?_
    (repeat' first | (refine Qg ?_; (first | refine QJ rfl ?_ | (refine QG ?_; (first | refine WL rfl rfl ?_ | refine Qc rfl rfl rfl ?_)) | (refine Qo ?_; (first | refine ZJ rfl rfl ?_ | refine Q1 rfl rfl ?_)) | (refine Qt ?_; (first | refine QI rfl ?_ | refine WY 0 1 (W5 _) rfl rfl rfl rfl rfl rfl ?_ | refine WY 0 1 (hpl _) rfl rfl rfl rfl rfl rfl ?_)) | (refine Q8 ?_; (first | refine W1 rfl rfl ?_ | refine WO rfl rfl ?_)) | (refine g_unOp ?_; (first | refine s_not_d rfl ?_ | refine W2 rfl ?_)) | refine Qd rfl rfl ?_ | refine Q9 rfl rfl (fun _ _ => ?_))) | (refine Qk ?_; (first | refine Qi ?_ | refine QK rfl ?_ | refine WM rfl rfl rfl rfl ?_ | refine Q5 rfl rfl (by omega) ?_)) | (refine Qj ?_; (first | refine Ql ?_ | refine Qb ?_ | refine Qq rfl ?_ | refine Qy ?_)))
    exact e_0 (Tryz.results45) (c_pm rfl (by simp [hm, hp]) (by simp [hm, hp]) (by omega))
  ·have hpz : ¬ (0 : Int) < (ks.length : Int) := by omega
   refine Qa Tryz.func45 rfl Tryz.ntmps45 rfl (t := [(0, .ptr 0 g0 0), (1, .agg [.i _, .i n, .i m, QW ks])]) rfl fun E hE => ?_
   (repeat' first | (refine Qg ?_; (first | refine QJ rfl ?_ | refine Qc rfl rfl rfl ?_ | (refine Qo ?_; (first | refine ZJ rfl rfl ?_ | refine Q1 rfl rfl ?_)) | (refine Qt ?_; (first | refine QI rfl ?_ | refine WY 0 1 (W5 _) rfl rfl rfl rfl rfl rfl ?_)) | refine W1 rfl rfl ?_ | refine s_not_d rfl ?_ | refine Qd rfl rfl ?_ | refine Q9 rfl rfl (fun _ _ => ?_))) | (refine Qk ?_; (first | refine Qi ?_ | refine QK rfl ?_ | refine WM rfl rfl rfl rfl ?_ | refine W7 rfl rfl rfl rfl ?_ | refine Wc rfl rfl (by omega) ?_)) | (refine Qj ?_; (first | refine Ql ?_ | refine Qb ?_ | refine Qq rfl ?_ | refine Qy ?_)))
   exact e_0 (Tryz.results45) (c_pm rfl (by simp [hp]) (by simp [hp]) (by omega))
 ·refine Qa Tryz.func45 rfl Tryz.ntmps45 rfl (t := [(0, .ptr 0 g0 0), (1, .agg [.i k, .i n, .i m, QW ks])]) rfl fun E hE => ?_
  (repeat' first | (refine Qg ?_; (first | refine QJ rfl ?_ | refine Qc rfl rfl rfl ?_ | refine Q1 rfl rfl ?_ | refine WY 0 1 (W5 _) rfl rfl rfl rfl rfl rfl ?_ | (refine Q8 ?_; (first | refine W1 rfl rfl ?_ | refine WO rfl rfl ?_)) | refine W2 rfl ?_ | refine Qd rfl rfl ?_ | refine Q9 rfl rfl (fun _ _ => ?_))) | (refine Qk ?_; (first | refine Qi ?_ | refine QK rfl ?_ | refine W7 rfl rfl rfl rfl ?_ | refine Q5 rfl rfl (by omega) ?_)) | (refine Qj ?_; (first | refine Ql ?_ | refine Qb ?_ | refine Qq rfl ?_ | refine Qy ?_)))
  exact e_0 (Tryz.results45) (c_pm rfl (by simp [hk]) (by simp [hk]) (by omega))
end Go.Proofs
end
section
namespace Go.Av
open Go.Bl Go.Proofs
section
variable {P : Program} {G : Nat -> DV} {B : Nat} {f : Operand -> DV} {σ : List ABlk} {K : DV -> List ABlk -> Prop} {dst : Option Tmp} {type : TypeId} {pos : String} {after : Array Edge} {gd : Option (Nat × Bool)}
theorem s_box_bld {x : Operand} (hx : f x = .agg [.sc (.pointer none), .sc (.slice none 0 0), .sc (.bool false)]) (k : ∀ g g1, B < g -> B < g1 -> K (.ptr σ.length g 0) (σ ++ [pRow σ.length (σ.length + 1) g g1 ([] : List UInt8).length false, .row g1 (Ws ([] : List UInt8))])) : OpSem P G B ⟨dst, .box 77 x, type, pos, after, gd⟩ f σ K := fun X ρ hS hσ hB _ hf => by
 subst hσ
 have e1 := hf x (by simp [Op.operands, Call.operands]); rw [hx] at e1
 obtain ⟨h1, h2, h3⟩ := dcells_spec (ds := [.sc (.pointer none), .sc (.slice none 0 0), .sc (.bool false)]) rfl e1
 simp only [execOp, Instr.box, newVar, newRow, run_newObj, Sem.run_bind, Sem.run_pure, Result.andThen_ok, World.alloc_eq]
 generalize ρ x = u at *
 have hk := Keep.alloc X.w (.cells u.cells 77)
 have hnew := heap_alloc_new X.w (.cells u.cells 77)
 have hob : ∀ b' n, some (X.w.heap.size, u.cells.size) = some (b', n) -> X.w.heap.size <= b' := fun b' n h => by cases h; exact Nat.le_refl _
 let R0 : ABlk := .row (X.N + 1) [.sc (.pointer none), .sc (.slice none 0 0), .sc (.bool false)]
 have hh : R0.holds X.lay (X.w.alloc (.cells u.cells 77)) (some (X.w.heap.size, u.cells.size)) := ⟨u.cells, 77, (0, 0), hnew, rfl, by rw [h1]; exact Nat.le_refl _, fun j _ h => by simp at h, h3⟩
 have hS' := hS.push hk (B := R0) rfl hob hh
 have hE' := WExt.push hS hk (B := R0) rfl hob
 have hσ1 : (X.push (X.w.alloc (.cells u.cells 77)) (some (X.w.heap.size, u.cells.size)) R0).σ = X.σ ++ [R0] := rfl
 have hρ1 : (X.push (X.w.alloc (.cells u.cells 77)) (some (X.w.heap.size, u.cells.size)) R0).ρ X.σ.length = some (X.w.heap.size, u.cells.size) := by simp [AX.push]
 have hw1 : (X.push (X.w.alloc (.cells u.cells 77)) (some (X.w.heap.size, u.cells.size)) R0).w = X.w.alloc (.cells u.cells 77) := rfl
 have hN1 : (X.push (X.w.alloc (.cells u.cells 77)) (some (X.w.heap.size, u.cells.size)) R0).N = X.N + 1 := rfl
 generalize X.push (X.w.alloc (.cells u.cells 77)) (some (X.w.heap.size, u.cells.size)) R0 = Y at *
 -- the buffer, which lies nowhere yet
 let R1 : ABlk := .row (Y.N + 1) []
 have hob1 : ∀ b' n, (none : Option (Nat × Nat)) = some (b', n) -> Y.w.heap.size <= b' := fun b' n h => by cases h
 have hS1 := hS'.push (Keep.refl Y.w) (B := R1) rfl hob1 rfl
 have hE1 := WExt.push hS' (Keep.refl Y.w) (B := R1) rfl hob1
 have hlen1 : Y.σ.length = X.σ.length + 1 := by rw [hσ1]; simp
 have hσ2 : (Y.push Y.w none R1).σ = X.σ ++ [R0, .row (X.N + 2) []] := by show Y.σ ++ [ABlk.row (Y.N + 1) []] = _; rw [hσ1, hN1]; simp
 have hρ2 : (Y.push Y.w none R1).ρ X.σ.length = some (X.w.heap.size, u.cells.size) := by simp only [AX.push]; rw [if_neg (by omega)]; exact hρ1
 have hρ3 : (Y.push Y.w none R1).ρ (X.σ.length + 1) = none := by simp only [AX.push]; rw [if_pos hlen1.symm]
 have hw2 : (Y.push Y.w none R1).w = X.w.alloc (.cells u.cells 77) := hw1
 have hN2 : (Y.push Y.w none R1).N = X.N + 2 := by show Y.N + 1 = _; omega
 generalize hZ : Y.push Y.w none R1 = Z at *
 have hk0 : Z.σ[X.σ.length]? = some R0 := by rw [hσ2]; simp
 have hk1 : Z.σ[X.σ.length + 1]? = some (.row (X.N + 2) []) := by rw [hσ2]; simp
 let R2 : ABlk := pRow X.σ.length (X.σ.length + 1) (X.N + 1) (X.N + 2) 0 false
 have hok : ReplOk Z X.σ.length (X.N + 1) Z.w (Z.ρ X.σ.length) R2 Z.N := {
  live := Ww hk0, os := rfl, tape := rfl, output := rfl, size := Nat.le_refl _, block := fun _ _ _ => rfl
  gen := .inr ⟨rfl, Nat.le_refl _, rfl⟩
  lies := fun b n h => .inr ⟨n, h⟩
  shp := fun _ _ h => h }
 have hE2 := WExt.repl hS1 hok
 have hlive : (Z.repl X.σ.length Z.w (Z.ρ X.σ.length) R2 Z.N).live X.σ.length (X.N + 1) := (AX.repl_live (AX.live_lt (Ww hk0))).2 (.inr ⟨rfl, rfl⟩)
 have hlive1 : (Z.repl X.σ.length Z.w (Z.ρ X.σ.length) R2 Z.N).live (X.σ.length + 1) (X.N + 2) := (AX.repl_live (AX.live_lt (Ww hk0))).2 (.inl ⟨by omega, Ww hk1⟩)
 have hc : ∀ j e, [DV.sc (.pointer none), .sc (.slice none 0 0), .sc (.bool false)][j]? = some e -> u.cells.getD j undef = (match e with | .sc v => v | _ => undef) := fun j e hj => by
  have := (h3 j e hj).2
  match j, hj with
  | 0, hj => cases hj; exact VRep.sc_eq this
  | 1, hj => cases hj; exact VRep.sc_eq this
  | 2, hj => cases hj; exact VRep.sc_eq this
 have c0 := hc 0 _ rfl
 have c1 := hc 1 _ rfl
 have c2 := hc 2 _ rfl
 have key : ∀ (ob0 : Option (Nat × Nat)) (w0 : World), ob0 = some (X.w.heap.size, u.cells.size) -> w0 = X.w.alloc (.cells u.cells 77) -> R2.holds (Z.repl X.σ.length Z.w (Z.ρ X.σ.length) R2 Z.N).lay w0 ob0 := fun ob0 w0 e0 ew => by
  subst e0; subst ew
  refine ⟨u.cells, 77, (0, 0), hnew, rfl, by rw [h1]; exact Nat.le_refl _, fun j _ h => by simp at h, fun j e hj => ?_⟩
  match j, hj with
  | 0, hj =>
   cases hj
   refine ⟨rfl, ?_⟩
   rw [c0]
   refine .bld _ _ _ _ (by show X.N + 1 <= Z.N; omega) fun ob hob => ?_
   rw [AX.row_mk hlive] at hob
   simp only [AX.repl, if_true, hρ2, Option.some.injEq] at hob
   refine ⟨X.w.heap.size, u.cells.size, hob.symm, ?_, .inl rfl⟩
   show World.shape? _ _ = _
   simp only [AX.repl, hw2, World.shape?, hnew]
   rw [h1]; rfl
  | 1, hj =>
   cases hj
   refine ⟨rfl, ?_⟩
   rw [c1]
   refine .bref _ _ _ _ _ _ _ (by show X.N + 2 <= Z.N; omega) fun ob hob => ?_
   rw [AX.row_mk hlive1] at hob
   simp only [AX.repl, if_neg (show ¬ X.σ.length + 1 = X.σ.length by omega), hρ3, Option.some.injEq] at hob
   subst hob
   exact ⟨⟨rfl, rfl, rfl⟩, fun b n h => by cases h⟩
  | 2, hj => cases hj; exact ⟨rfl, by rw [c2]; exact .sc _⟩
 have hS2 := Sto.repl' hS1 hok (key _ _ hρ2 hw2)
 have hk2 := k (X.N + 1) (X.N + 2) (by omega) (by omega)
 refine ⟨_, ?_, hS2, (hE'.trans hE1).trans hE2, .ptr X.σ.length (X.N + 1) 0, ?_, ?_⟩
 ·exact hw2
 ·refine .ptr _ _ _ _ (by show X.N + 1 <= Z.N; omega) fun ob hob => ?_
  rw [AX.row_mk hlive] at hob
  simp only [AX.repl, if_true, hρ2, Option.some.injEq] at hob
  exact ⟨_, _, hob.symm, rfl⟩
 ·have : (Z.repl X.σ.length Z.w (Z.ρ X.σ.length) R2 Z.N).σ = X.σ ++ [R2, .row (X.N + 2) []] := by
   simp only [AX.repl, hσ2]
   rw [List.set_append_right _ _ (Nat.le_refl _)]
   simp
  rw [this]; exact hk2
end
theorem freeze_other {b n : Nat} (w : World) {b' : Nat} (o : Nat) (h : b' ≠ b) : (w.drew.freeze ⟨b, n, none⟩ o).heap[b']? = w.heap[b']? := by
 unfold World.freeze
 split
 ·rfl
 ·show (w.heap.modify b _)[b']? = _
  rw [Array.getElem?_modify, if_neg (fun e => h e.symm)]
theorem freeze_size (w : World) (a : Addr) (o : Nat) : (w.drew.freeze a o).heap.size = w.heap.size := by
 unfold World.freeze; split
 ·rfl
 ·show (w.heap.modify _ _).size = _; simp
theorem freeze_os (w : World) (a : Addr) (o : Nat) : (w.drew.freeze a o).os = w.os := by unfold World.freeze; split <;> rfl
theorem freeze_tape (w : World) (a : Addr) (o : Nat) : (w.drew.freeze a o).tape = w.tape := by unfold World.freeze; split <;> rfl
theorem freeze_output (w : World) (a : Addr) (o : Nat) : (w.drew.freeze a o).output = w.output := by unfold World.freeze; split <;> rfl
theorem freeze_shape (w : World) (a : Addr) (o b' : Nat) : (w.drew.freeze a o).shape? b' = w.shape? b' := by
 unfold World.freeze
 split
 ·rfl
 ·have key : ∀ x : Option Obj, (match x.map (fun | .cells c elem (lo, hi) => Obj.cells c elem (if lo == hi then (a.off, a.off + o) else (min lo a.off, max hi (a.off + o))) | x => x) with | some (.cells c elem _) => some (elem, c.size) | _ => none) = (match x with | some (.cells c elem _) => some (elem, c.size) | _ => none) := fun x => by
   cases x with
   | none => rfl
   | some o => cases o <;> rfl
  by_cases h : a.block = b'
  ·subst h
   have := key w.heap[a.block]?
   unfold World.shape?
   show (match (w.heap.modify a.block _)[a.block]? with | some (.cells c elem _) => some (elem, c.size) | _ => none) = _
   rw [Array.getElem?_modify, if_pos rfl]
   exact this
  ·unfold World.shape?
   show (match (w.heap.modify a.block _)[b']? with | some (.cells c elem _) => some (elem, c.size) | _ => none) = _
   rw [Array.getElem?_modify, if_neg h]
   rfl
theorem string_c {G : Nat -> DV} {B k0 k1 g0 g1 : Nat} {σ σ' : List ABlk} {o : List UInt8} {bad : Bool} (h0 : σ[k0]? = some (pRow k0 k1 g0 g1 o.length bad)) (h1 : σ[k1]? = some (.row g1 (Ws o))) (ho : o ≠ []) (hl : o.length <= 9223372036854775807) (hσ' : setA σ k1 .gone = some σ') :
  ACalls Tryz.prog G B 50 [.ptr k0 g0 0] σ (fun d τ => d = WS o /\ τ = σ') := fun X vs hS hσ hB hG hv => by
 subst hσ
 obtain ⟨hv1, hv2⟩ := hv
 have e1 := hv2 0 _ rfl
 obtain ⟨b, n, hρ, e2⟩ := e1.ptr_inv h0
 have hvs : vs = #[.pointer (some ⟨b, 0, none⟩)] := by
  apply Array.ext
  ·simpa using hv1
  ·intro j hj1 hj2
   have hj : j < 1 := by simpa using hj2
   match j, hj with
   | 0, _ => simpa [Array.getD_eq_getD_getElem?, hj1] using e2
 subst hvs
 obtain ⟨arr, T, fr, q1, q2, q3, q4, q5⟩ := hS.row h0 hρ
 have q30 : 3 <= n := q3
 have hr := (q5 1 _ rfl).2
 have hopos : 0 < o.length := List.length_pos_iff.2 ho
 have hel : (Ws o : List DV).length = o.length := by rw [QS]; exact Nat.mul_one _
 obtain ⟨a, l, c, hval⟩ : ∃ a l c, arr.getD 1 undef = .slice a l c := by
  generalize arr.getD 1 undef = u at hr
  cases hr with | bref _ _ _ _ a l c _ _ => exact ⟨a, l, c, rfl⟩
 rw [hval] at hr
 have hinv : RefOk (X.ρ k1) 0 o.length 1 (.slice a l c) /\ ∀ b n, X.ρ k1 = some (b, n) -> ∃ m, X.lay.shp b = some (5, m) := by
  cases hr with | bref _ _ _ _ _ _ _ g1 g2 => exact g2 _ (AX.row_mk (Ww h1))
 obtain ⟨hro, hshp⟩ := hinv
 unfold RefOk at hro
 cases hρ1 : X.ρ k1 with
 | none => rw [hρ1] at hro; obtain ⟨_, _, hz⟩ := hro; omega
 | some z =>
  obtain ⟨b1, n1⟩ := z
  rw [hρ1] at hro
  obtain ⟨a', cap, hsl, hlc, hcase⟩ := hro
  cases hsl
  rcases hcase with hcase | ⟨rfl, hcap⟩
  ·omega
  obtain ⟨m, hm⟩ := hshp b1 n1 hρ1
  obtain ⟨arr1, T1, fr1, r1, r2, r3, r4, r5⟩ := hS.row h1 hρ1
  have hm' : X.w.shape? b1 = some (5, m) := hm
  have hT1 : T1 = 5 /\ arr1.size = m := by simp only [World.shape?, r1, Option.some.injEq, Prod.mk.injEq] at hm'; exact hm'
  obtain ⟨rfl, hsz⟩ := hT1
  have hc1 : X.w.cell? ⟨b, 1, none⟩ = some (.slice (some ⟨b1, 0, none⟩) o.length c) := by
   have : 1 < arr.size := by omega
   simp only [World.cell?, q1]
   rw [<- hval]; simp [Array.getD_eq_getD_getElem?, this]
  rw [hel] at r3
  refine (string_row b b1 c o arr1 X.w ho hc1 (by simp only [World.shape?, r1]) hlc hl (by omega) (fun j x hj => ?_)).mono ?_
  ·have hjl := (List.getElem?_eq_some_iff.1 hj).1
   have hen : (Ws o : List DV)[j]? = some (.u x) := by
    have := encs_at o j hjl 0 (by decide)
    have hes : Enc.es UInt8 = 1 := rfl
    have hx : o[j] = x := (List.getElem?_eq_some_iff.1 hj).2
    rw [hes, Nat.mul_one, Nat.add_zero, hx] at this
    exact this
   have hrep := VRep.sc_eq (r5 j _ hen).2
   have : j < arr1.size := by omega
   simp only [World.cell?, r1]
   rw [<- hrep]; simp [Array.getD_eq_getD_getElem?, this]
  ·rintro e w' ⟨rfl, rfl⟩
   have hmut : X.mut b1 := ⟨k1, g1, n1, Ww h1, hρ1⟩
   have hoth : ∀ b', b' ≠ b1 -> (X.w.drew.freeze ⟨b1, 0, none⟩ o.length).heap[b']? = X.w.heap[b']? := fun b' hb' => freeze_other _ _ hb'
   have hset := qi hσ'
   have hlive : ∀ k g, (X.σ.set k1 .gone)[k]?.bind ABlk.gen? = some g -> k ≠ k1 /\ X.live k g := fun k g hg => by
    rw [List.getElem?_set] at hg
    split at hg
    ·split at hg <;> simp [ABlk.gen?] at hg
    ·rename_i hne; exact ⟨fun e => hne e.symm, hg⟩
   let X' : AX := { X with w := X.w.drew.freeze ⟨b1, 0, none⟩ o.length, σ := X.σ.set k1 .gone }
   have hE : WExt X X' := {
    hid := rfl, top := Nat.le_refl _, os := freeze_os _ _ _, tape := freeze_tape _ _ _, output := freeze_output _ _ _, size := Nat.le_of_eq (freeze_size _ _ _).symm
    old := fun b' _ hm' => ⟨hoth b' fun e => hm' (e ▸ hmut), fun ⟨k, g, n, hl', hr'⟩ => hm' ⟨k, g, n, (hlive k g hl').2, hr'⟩⟩
    rows := fun k g _ hl' => ⟨(hlive k g hl').2, rfl⟩
    shp := fun b' s hs => by rw [freeze_shape]; exact hs }
   have hS' : Sto X' := {
    inj := fun k k' g g' b n n' hl hl' hr hr' => hS.inj k k' g g' b n n' (hlive k g hl).2 (hlive k' g' hl').2 hr hr'
    gen := fun k g hl => hS.gen k g (hlive k g hl).2
    hid := fun b ⟨k, g, n, hl, hr⟩ hh => hS.hid b ⟨k, g, n, (hlive k g hl).2, hr⟩ hh
    hidlt := fun b hb => Nat.lt_of_lt_of_le (hS.hidlt b hb) (Nat.le_of_eq (freeze_size _ _ _).symm)
    holds := fun k B hB => by
     have hB' : (X.σ.set k1 .gone)[k]? = some B := hB
     cases hg : B.gen? with
     | none => cases B <;> first | trivial | cases hg
     | some g =>
      obtain ⟨hne, hl⟩ := hlive k g (by rw [hB']; exact hg)
      have hBX : X.σ[k]? = some B := by rw [List.getElem?_set_ne (fun e => hne e.symm)] at hB'; exact hB'
      exact (hS.holds k B hBX).mono hE.le fun b' n' hb' => hoth b' fun e => hne (hS.inj k k1 g g1 b' n' n1 hl (Ww h1) hb' (by rw [e]; exact hρ1)) }
   exact ⟨_, rfl, X', rfl, hS', hE, _, .sc _, rfl, hset.symm⟩
abbrev pfx4 (b : ABlk) (g0 : Nat) (p : DV × DV × DV × ABlk) : List ABlk := b :: .row g0 [p.1, p.2.1, p.2.2.1] :: p.2.2.2 :: []
theorem s_call_str {G : Nat -> DV} {B : Nat} {f : Operand -> DV} {σ σ' : List ABlk} {K : DV -> List ABlk -> Prop} {dst : Option Tmp} {type : TypeId} {pos : String} {after : Array Edge} {gd : Option (Nat × Bool)} {args : Array Operand} {ts : Array TypeId} {k0 k1 g0 g1 : Nat} {o : List UInt8} {bad : Bool} (hx : f (.func 50) = .fn (.func 50) [] []) (hds : reL (args.toList.map f) = some [.ptr k0 g0 0]) (h0 : σ[k0]? = some (pRow k0 k1 g0 g1 o.length bad)) (h1 : σ[k1]? = some (.row g1 (Ws o))) (ho : o ≠ []) (hl : o.length <= 9223372036854775807) (hσ' : setA σ k1 .gone = some σ') (kk : K (WS o) σ') :
  OpSem Tryz.prog G B ⟨dst, .call ⟨.value (.func 50), args, ts⟩, type, pos, after, gd⟩ f σ K := s_call hx hds ((string_c h0 h1 ho hl hσ').mono fun _ _ ⟨e1, e2⟩ => by rw [e1, e2]; exact kk)
end Go.Av
end
section
namespace Go.Proofs
open Go.Av
variable {G : Nat -> DV}
attribute [local irreducible] OpSem Za Zv qc ACalls AEnd AClose RV
open Go.Bl
theorem itoa_ne (n : Int) : Lib.itoa n ≠ [] := by
 intro h
 have h2 := congrArg List.length h
 unfold Lib.itoa at h2
 split at h2
 ·simp at h2
 ·rw [Lib.decDigits_length] at h2
  have := Lib.nDigits_pos n.toNat
  simp at h2; omega
theorem typT_ne (t : Nd) (h : typOk t = true) : typT t ≠ [] := by
 obtain ⟨k, n, m, ks⟩ := t
 rw [typOk] at h
 rw [typT]
 split at h
 ·rename_i hk
  rcases hk with hk | hk <;> simp [hk]
 split at h
 ·rename_i h1 hk; simp [hk]
 split at h
 ·rename_i h1 h2 hk; simp [hk]
 ·cases h
theorem exT_ne (t : Nd) (h : exOk t = true) : exT t ≠ [] := by
 obtain ⟨k, n, m, ks⟩ := t
 rw [exOk] at h
 rw [exT]
 split at h
 ·rename_i hk; rw [if_pos hk]; exact itoa_ne n
 split at h
 ·rename_i h1 hk; simp [hk]; split <;> simp
 split at h
 ·rename_i h1 h2 hk; simp [hk]
 split at h
 ·rename_i h1 h2 h3 hk; simp [hk]
 split at h
 ·rename_i h1 h2 h3 h4 hk; simp [hk]
 split at h
 ·rename_i h1 h2 h3 h4 h5 hk
  rw [if_neg h1, if_neg h2, if_neg h3, if_neg h4, if_neg h5, if_pos hk, if_pos (by simp at h; simp [h])]
  simp
 split at h
 ·rename_i h1 h2 h3 h4 h5 h6 hk; simp [hk]
 split at h
 ·rename_i h1 h2 h3 h4 h5 h6 h7 hk; simp [hk]
 split at h
 ·rename_i h1 h2 h3 h4 h5 h6 h7 h8 hk; simp [hk]
 ·cases h
theorem line_ne (i : Nat) (s r : List UInt8) : ZN i s ++ r ≠ [] := by simp [ZN]
theorem stT_ne (t : Nd) (i : Nat) : stT t i ≠ [] := by
 obtain ⟨k, n, m, ks⟩ := t
 rw [stT]
 repeat' split
 all_goals simp [ZN]
theorem prT_ne (t : Nd) (h : prOk t = true) : prT t ≠ [] := by
 obtain ⟨k, n, m, ks⟩ := t
 rw [prOk] at h
 rw [prT]
 split
 ·exact line_ne _ _ _
 split
 ·rename_i h1 hk
  rw [if_neg h1, if_pos hk] at h
  rw [funOk] at h
  rw [funT, if_pos (by simp at h; simp [h])]
  exact line_ne _ _ _
 split
 ·rename_i h1 h2 hk
  rw [if_neg h1, if_neg h2, if_pos hk] at h
  exact typT_ne _ h
 split
 ·rename_i h1 h2 h3 hk
  rw [if_neg h1, if_neg h2, if_neg h3, if_pos hk] at h
  exact exT_ne _ h
 ·exact stT_ne _ _
theorem okL_take {ks : List Nd} (h : okL ks) : ∀ j, okL (ks.take j) := fun j => by
 induction ks generalizing j with
 | nil => simpa using h
 | cons x r ih =>
  rw [okL] at h
  cases j with
  | zero => rw [List.take_zero, okL]; trivial
  | succ j => rw [List.take_succ_cons, okL]; exact ⟨h.1, ih h.2 j⟩
theorem print_c (hG : G 6 = pow10T) (hG1 : G 1 = spaceT) (t : Nd) (hok : okN t) (hsz : Qr t <= 1000000) : Go.Av.Pure Tryz.prog G 18 [.agg (Enc.enc t)] (WS (Wb t)) := fun B => by
 have htyp := fun (o : List UInt8) (b : Bool) => typed_c (G := G) (o := o) hG t hok hsz b
 have hex := fun (o : List UInt8) (b : Bool) => expr_c (G := G) (o := o) hG hG1 t hok hsz b
 have hstm := (stmts_c (G := G) hG hG1 t hok).1
 have hfun := fun (o : List UInt8) (b : Bool) (h : o.length + 7000000 * Qr t <= 140737470000000) => fun_c (G := G) (o := o) (bad := b) hG hG1 t hok hsz h
 have hpne := prT_ne t
 obtain ⟨k, n, m, ks⟩ := t
 unfold Wb
 have hse : Qr (.mk k n m ks) = 1 + QD ks := by rw [Qr]
 have hok2 := hok
 rw [okN] at hok2
 have hl1 := WU ks
 have hl : ks.length <= 1048576 := by omega
 have hn : -9223372036854775808 <= n /\ n <= 9223372036854775807 := hok2.1.2.1
 have hnl := Zh hok2.1.2.1
 rw [prOk, prT] at *
 rw [QQ] at htyp hex hfun ⊢
 by_cases k27 : k = 27
 ·subst k27
  have hfs : ∀ x ∈ ks, ∀ (o : List UInt8) (b : Bool), o.length + 7000000 * Qr x <= 140737470000000 -> PM Tryz.prog G 45 (fun p g => [.ptr p g 0, .agg (Enc.enc x)]) o b (.tup []) (o ++ funT x) (b || !funOk x) := fun x hx o b h => fun_c (G := G) (o := o) (bad := b) hG hG1 x (WJ hok2.2 hx) (by have := Wf hx; omega) h
  have hfl := funs_len ks hok2.2 (by omega)
  clear htyp hex hstm hfun
  refine Qa Tryz.func18 rfl Tryz.ntmps18 rfl (t := [(0, .agg [.i _, .i n, .i m, QW ks])]) rfl fun E hE => ?_
  (repeat' first | (refine Qg ?_; (first | refine QJ rfl ?_ | refine QN rfl ?_ | (refine QG ?_; (first | refine WL rfl rfl ?_ | refine Qc rfl rfl rfl ?_)) | (refine Qo ?_; (first | refine Q1 rfl rfl ?_ | refine s_ad rfl rfl ?_)) | (refine Qt ?_; (first | refine WY 1 2 (W9 _ _ _ _ _ (by assumption)) rfl rfl rfl rfl rfl rfl ?_ | refine WY 1 2 (Zf hG _ (by assumption)) rfl rfl rfl rfl rfl rfl ?_ | refine s_pm 1 2 (line_c 0 _ (by omega) (by first | assumption | omega | (simp only [List.length_append, Q7, List.length_cons, List.length_nil]; omega))) rfl rfl rfl rfl rfl rfl (fun _ => rfl) (fun _ _ => ?_) | refine QI rfl ?_)) | (refine g_box ?_; (first | refine s_box_bld rfl (fun _ _ _ _ => ?_) | refine Q9 rfl rfl (fun _ _ => ?_))) | refine Qd rfl rfl ?_ | refine QA rfl rfl ?_)) | (refine Qk ?_; (first | refine Qi ?_ | refine QK rfl ?_)) | (refine Qj ?_; (first | refine Ql ?_ | refine Qb ?_ | refine Qe ?_ | refine Qq rfl ?_)))
  rename_i gn hgn gp gb hgp hgb gb2 hgb2
  generalize hhd : [] ++ ZN 0 ([112, 114, 111, 103, 114, 97, 109, 32] ++ Lib.itoa n) = hd at *
  have hhl : hd.length <= 1000 := by rw [<- hhd]; simp only [List.length_append, List.length_nil, List.length_cons, Q7]; omega
  have hhd2 : ZN 0 ([112, 114, 111, 103, 114, 97, 109, 32] ++ Lib.itoa n) = hd := by rw [<- hhd]; simp
  generalize hb0 : (false || !Q0 m ks.length (-1) || !Ze n) = b0 at *
  refine r_loop2 (fun (j : Nat) (g : Nat) => ⟨[(1, .ptr 0 gn 0), (2, WS []), (3, .ptr 1 gp 0), (26, QW ks), (27, .i ks.length), (28, .i j)], [.row gn [.i 27, .i n, .i m, QW ks], pRow 1 2 gp g (hd ++ ((ks.take j).map funT).flatten).length (b0 || !(ks.take j).all funOk), .row g (Ws (hd ++ ((ks.take j).map funT).flatten))]⟩) (fun j g => j <= ks.length /\ (g = gb2 \/ E.N < g)) (fun j _ => ks.length - j) 0 gb2 ?_ (by omega) ?_
  ·rw [show (b0 || !(ks.take 0).all funOk) = b0 by simp, show hd ++ ((ks.take 0).map funT).flatten = hd by simp]
   exact zal rfl
  intro j g hj
  have hsl := Wy ks j
  have hfl2 := funs_len (ks.take j) (okL_take hok2.2 j) (by omega)
  by_cases hjl : j < ks.length
  ·have hsm := Wf (List.getElem_mem hjl)
   have hst1 := qh ks j hjl
   have hst2 := Wy ks (j + 1)
   have hsx := hfs _ (List.getElem_mem hjl) (hd ++ ((ks.take j).map funT).flatten) (b0 || !(ks.take j).all funOk) (by rw [List.length_append]; omega)
   have e1 : hd ++ ((ks.take (j + 1)).map funT).flatten = (hd ++ ((ks.take j).map funT).flatten) ++ funT ks[j] := by rw [flatten_take _ hjl, List.append_assoc]
   have e2 : (b0 || !(ks.take (j + 1)).all funOk) = ((b0 || !(ks.take j).all funOk) || !funOk ks[j]) := by rw [List.take_succ_eq_append_getElem hjl, List.all_append]; cases b0 <;> simp
   clear hfs
   (repeat' first | (refine Qg ?_; (first | refine QJ rfl ?_ | (refine QG ?_; (first | refine WL rfl rfl ?_ | refine QO rfl ?_)) | refine QM rfl rfl (by first | assumption | omega | (simp; done) | (simp; omega)) ?_ | (refine Qo ?_; (first | refine QX rfl rfl ?_ | refine W3 rfl rfl (by omega) ?_)) | refine s_pm 1 2 (hsx) rfl rfl rfl rfl rfl rfl (fun _ => rfl) (fun _ _ => ?_) | refine WD rfl rfl rfl rfl ?_ | refine Qu (fun _ _ => ?_))) | (refine Qk ?_; (first | refine Qi ?_ | refine QK rfl ?_ | refine QR ?_)) | (refine Qj ?_; (first | refine Ql ?_ | refine Qb ?_ | refine Qe ?_ | refine QB ?_ | refine Qm rfl (by omega) ?_)))
   rename_i g' hg'
   refine ⟨j + 1, g', ⟨by omega, by omega⟩, by omega, ?_⟩
   rw [e1, e2]
   exact zal rfl
  ·have hje : j = ks.length := by omega
   subst hje
   rw [List.take_length] at *
   (repeat' first | (refine Qg ?_; (first | refine QJ rfl ?_ | refine Qc rfl rfl rfl ?_ | refine QX rfl rfl ?_ | refine Qd rfl rfl ?_ | refine Qp rfl rfl ?_)) | (refine Qk ?_; (first | refine Qi ?_ | refine QK rfl ?_)) | (refine Qj ?_; (first | refine Ql ?_ | refine Qb ?_ | refine Qf rfl (by omega) ?_ | refine WC rfl ?_)))
   refine r_cond rfl (fun hb => ?_) (fun hb => ?_)
   ·have hb2 : (Q0 m ks.length (-1) && Ze n && ks.all funOk) = false := by rw [<- hb0] at hb; revert hb; cases Q0 m ks.length (-1) <;> cases Ze n <;> simp
    (repeat' first | refine QN rfl ?_ | (refine Qk ?_; (first | refine Qi ?_ | refine QK rfl ?_)) | (refine Qj ?_; (first | refine Ql ?_ | refine Qb ?_ | refine Qy ?_)))
    refine e_1 Tryz.results18 (Qx rfl) (QY ?_)
    rw [if_pos rfl, hb2]; rfl
   ·have hb2 : (Q0 m ks.length (-1) && Ze n && ks.all funOk) = true := by rw [<- hb0] at hb; revert hb; cases Q0 m ks.length (-1) <;> cases Ze n <;> simp
    have hne : hd ++ (ks.map funT).flatten ≠ [] := by rw [<- hhd]; simp [ZN]
    have hlim : (hd ++ (ks.map funT).flatten).length <= 9223372036854775807 := by rw [List.length_append]; omega
    (repeat' first | (refine Qg ?_; (first | refine QJ rfl ?_ | refine QN rfl ?_ | refine s_call_str (k0 := 1) (k1 := 2) rfl rfl rfl rfl hne hlim rfl ?_ | refine Qd rfl rfl ?_ | refine Qp rfl rfl ?_)) | (refine Qk ?_; (first | refine Qi ?_ | refine QK rfl ?_)) | (refine Qj ?_; (first | refine Ql ?_ | refine Qb ?_ | refine QB ?_ | refine Qy ?_)))
    refine e_1 Tryz.results18 (Qx rfl) (QY ?_)
    rw [if_pos rfl, if_pos rfl, hhd2, if_pos hb2]
 by_cases k26 : k = 26
 ·subst k26
  have hlx := funT_len _ hok hsz
  refine Qa Tryz.func18 rfl Tryz.ntmps18 rfl (t := [(0, .agg [.i _, .i n, .i m, QW ks])]) rfl fun E hE => ?_
  (repeat' first | (refine Qg ?_; (first | refine QJ rfl ?_ | refine QN rfl ?_ | (refine QG ?_; (first | refine WL rfl rfl ?_ | refine Qc rfl rfl rfl ?_)) | refine Q1 rfl rfl ?_ | refine s_pm 1 2 (hfun _ _ (by first | assumption | omega | (simp only [List.length_append, Q7, List.length_cons, List.length_nil]; omega))) rfl rfl rfl rfl rfl rfl (fun _ => rfl) (fun _ _ => ?_) | (refine g_box ?_; (first | refine s_box_bld rfl (fun _ _ _ _ => ?_) | refine Q9 rfl rfl (fun _ _ => ?_))) | refine Qd rfl rfl ?_ | refine QA rfl rfl ?_ | refine Qp rfl rfl ?_)) | (refine Qk ?_; (first | refine Qi ?_ | refine QK rfl ?_)) | (refine Qj ?_; (first | refine Ql ?_ | refine Qb ?_ | refine Qe ?_ | refine Qq rfl ?_ | refine Qs rfl ?_)))
  refine r_cond rfl (fun hb => ?_) (fun hb => ?_)
  ·have hb2 : funOk (.mk 26 n m ks) = false := by simpa using hb
   (repeat' first | refine QN rfl ?_ | (refine Qk ?_; (first | refine Qi ?_ | refine QK rfl ?_)) | (refine Qj ?_; (first | refine Ql ?_ | refine Qb ?_ | refine Qy ?_)))
   refine e_1 Tryz.results18 (Qx rfl) (QY ?_)
   simp [hb2, *]
  ·have hb2 : funOk (.mk 26 n m ks) = true := by simpa using hb
   have hne : ([] ++ funT (.mk 26 n m ks)) ≠ [] := by have := hpne (by simp [hb2, *]); simpa [*] using this
   have hlim : (([] ++ funT (.mk 26 n m ks))).length <= 9223372036854775807 := by have hll := hlx; simp only [List.length_append, List.length_nil, List.length_cons, Q7]; omega
   (repeat' first | (refine Qg ?_; (first | refine QJ rfl ?_ | refine QN rfl ?_ | refine s_call_str (k0 := 1) (k1 := 2) rfl rfl rfl rfl hne hlim rfl ?_ | refine Qd rfl rfl ?_ | refine Qp rfl rfl ?_)) | (refine Qk ?_; (first | refine Qi ?_ | refine QK rfl ?_)) | (refine Qj ?_; (first | refine Ql ?_ | refine Qb ?_ | refine QB ?_ | refine Qy ?_)))
   refine e_1 Tryz.results18 (Qx rfl) (QY ?_)
   simp [hb2, *]
 by_cases kt : 0 <= k /\ k <= 3
 ·obtain ⟨kt0, kt3⟩ := kt
  have hlx := typT_len _ hok
  refine Qa Tryz.func18 rfl Tryz.ntmps18 rfl (t := [(0, .agg [.i k, .i n, .i m, QW ks])]) rfl fun E hE => ?_
  (repeat' first | (refine Qg ?_; (first | refine QJ rfl ?_ | refine QN rfl ?_ | refine Qc rfl rfl rfl ?_ | (refine Qo ?_; (first | refine Zb rfl rfl ?_ | refine W4 rfl rfl ?_ | refine Q1 rfl rfl ?_)) | (refine Qt ?_; (first | refine WY 1 2 (htyp _ _) rfl rfl rfl rfl rfl rfl ?_ | refine s_pm 1 2 (write_c _ (by first | assumption | omega | (simp only [List.length_append, List.length_cons, List.length_nil]; omega))) rfl rfl rfl rfl rfl rfl (fun _ => rfl) (fun _ _ => ?_))) | refine W1 rfl rfl ?_ | (refine g_box ?_; (first | refine s_box_bld rfl (fun _ _ _ _ => ?_) | refine Q9 rfl rfl (fun _ _ => ?_))) | refine Qd rfl rfl ?_ | refine QA rfl rfl ?_ | refine Qp rfl rfl ?_)) | (refine Qk ?_; (first | refine Qi ?_ | refine QK rfl ?_ | refine WM rfl rfl rfl rfl ?_ | refine Wc rfl rfl (by omega) ?_)) | (refine Qj ?_; (first | refine Ql ?_ | refine Qb ?_ | refine Qe ?_ | (refine WF ?_; first | (refine Qv (pfx4 _ _) 100 [(0, true), (1, true), (2, true), (3, true), (4, true), (5, false), (6, false)] (by rfl) (by rfl) (by kernel_rfl) (by decide +kernel) (by decide +kernel) ⟨(_, _, _, _), rfl⟩ ?_) | refine Wm (by rfl) (by kernel_rfl) (by kernel_rfl) ?_ | refine Wl (by kernel_rfl) (by kernel_rfl) ?_) | refine Qm rfl (by omega) ?_ | refine Qf rfl (by omega) ?_)) | (refine W6 ?_; (first | refine ZG ?_ | refine i_st rfl rfl (fun _ => (by (repeat' first | (refine Qg ?_; (first | refine QJ rfl ?_ | refine WL rfl rfl ?_ | refine Qd rfl rfl ?_ | refine Qp rfl rfl ?_)) | exact ⟨rfl, rfl⟩))) ?_ | refine i_ef rfl ?_)) | refine And.intro (Exists.intro ((_, _, _, _)) rfl) ?_)
  refine r_cond rfl (fun hb => ?_) (fun hb => ?_)
  ·have hb2 : typOk (.mk k n m ks) = false := by simpa using hb
   (repeat' first | refine QN rfl ?_ | (refine Qk ?_; (first | refine Qi ?_ | refine QK rfl ?_)) | (refine Qj ?_; (first | refine Ql ?_ | refine Qb ?_ | refine Qy ?_)))
   refine e_1 Tryz.results18 (Qx rfl) (QY ?_)
   simp [hb2, *]
  ·have hb2 : typOk (.mk k n m ks) = true := by simpa using hb
   have hne : ([] ++ typT (.mk k n m ks)) ≠ [] := by have := hpne (by simp [hb2, *]); simpa [*] using this
   have hlim : (([] ++ typT (.mk k n m ks))).length <= 9223372036854775807 := by have hll := hlx; simp only [List.length_append, List.length_nil, List.length_cons, Q7]; omega
   (repeat' first | (refine Qg ?_; (first | refine QJ rfl ?_ | refine QN rfl ?_ | refine s_call_str (k0 := 1) (k1 := 2) rfl rfl rfl rfl hne hlim rfl ?_ | refine Qd rfl rfl ?_ | refine Qp rfl rfl ?_)) | (refine Qk ?_; (first | refine Qi ?_ | refine QK rfl ?_)) | (refine Qj ?_; (first | refine Ql ?_ | refine Qb ?_ | refine QB ?_ | refine Qy ?_)))
   refine e_1 Tryz.results18 (Qx rfl) (QY ?_)
   simp [hb2, *]
 by_cases ke : 4 <= k /\ k <= 12
 ·obtain ⟨ke0, ke3⟩ := ke
  have hlx := exT_len _ hok
  refine Qa Tryz.func18 rfl Tryz.ntmps18 rfl (t := [(0, .agg [.i k, .i n, .i m, QW ks])]) rfl fun E hE => ?_
  (repeat' first | (refine Qg ?_; (first | refine QJ rfl ?_ | refine QN rfl ?_ | refine Qc rfl rfl rfl ?_ | (refine Qo ?_; (first | refine Zb rfl rfl ?_ | refine W4 rfl rfl ?_ | refine Q1 rfl rfl ?_)) | (refine Qt ?_; (first | refine WY 1 2 (hex _ _) rfl rfl rfl rfl rfl rfl ?_ | refine s_pm 1 2 (write_c _ (by first | assumption | omega | (simp only [List.length_append, List.length_cons, List.length_nil]; omega))) rfl rfl rfl rfl rfl rfl (fun _ => rfl) (fun _ _ => ?_))) | refine W1 rfl rfl ?_ | (refine g_box ?_; (first | refine s_box_bld rfl (fun _ _ _ _ => ?_) | refine Q9 rfl rfl (fun _ _ => ?_))) | refine Qd rfl rfl ?_ | refine QA rfl rfl ?_ | refine Qp rfl rfl ?_)) | (refine Qk ?_; (first | refine Qi ?_ | refine QK rfl ?_ | refine WM rfl rfl rfl rfl ?_ | refine Wc rfl rfl (by omega) ?_)) | (refine Qj ?_; (first | refine Ql ?_ | refine Qb ?_ | refine Qe ?_ | (refine WF ?_; first | (refine Qv (pfx4 _ _) 100 [(0, true), (1, true), (2, true), (3, true), (4, true), (5, false), (6, false)] (by rfl) (by rfl) (by kernel_rfl) (by decide +kernel) (by decide +kernel) ⟨(_, _, _, _), rfl⟩ ?_) | refine Wm (by rfl) (by kernel_rfl) (by kernel_rfl) ?_ | refine Wl (by kernel_rfl) (by kernel_rfl) ?_) | refine Qm rfl (by omega) ?_ | refine Qf rfl (by omega) ?_)) | (refine W6 ?_; (first | refine ZG ?_ | refine i_st rfl rfl (fun _ => (by (repeat' first | (refine Qg ?_; (first | refine QJ rfl ?_ | refine WL rfl rfl ?_ | refine Qd rfl rfl ?_ | refine Qp rfl rfl ?_)) | exact ⟨rfl, rfl⟩))) ?_ | refine i_ef rfl ?_)) | refine And.intro (Exists.intro ((_, _, _, _)) rfl) ?_)
  refine r_cond rfl (fun hb => ?_) (fun hb => ?_)
  ·have hb2 : exOk (.mk k n m ks) = false := by simpa using hb
   (repeat' first | refine QN rfl ?_ | (refine Qk ?_; (first | refine Qi ?_ | refine QK rfl ?_)) | (refine Qj ?_; (first | refine Ql ?_ | refine Qb ?_ | refine Qy ?_)))
   refine e_1 Tryz.results18 (Qx rfl) (QY ?_)
   simp [hb2, *]
  ·have hb2 : exOk (.mk k n m ks) = true := by simpa using hb
   have hne : ([] ++ exT (.mk k n m ks)) ≠ [] := by have := hpne (by simp [hb2, *]); simpa [*] using this
   have hlim : (([] ++ exT (.mk k n m ks))).length <= 9223372036854775807 := by have hll := hlx; simp only [List.length_append, List.length_nil, List.length_cons, Q7]; omega
   (repeat' first | (refine Qg ?_; (first | refine QJ rfl ?_ | refine QN rfl ?_ | refine s_call_str (k0 := 1) (k1 := 2) rfl rfl rfl rfl hne hlim rfl ?_ | refine Qd rfl rfl ?_ | refine Qp rfl rfl ?_)) | (refine Qk ?_; (first | refine Qi ?_ | refine QK rfl ?_)) | (refine Qj ?_; (first | refine Ql ?_ | refine Qb ?_ | refine QB ?_ | refine Qy ?_)))
   refine e_1 Tryz.results18 (Qx rfl) (QY ?_)
   simp [hb2, *]
 ·have hlx := (st_lenX hok (i := 0) (by omega)).1
  have hst0 : ∀ (o : List UInt8) (b : Bool), o.length + 7000000 * Qr (.mk k n m ks) <= 140737470000000 -> PM Tryz.prog G 49 (fun p g => [.ptr p g 0, .i 0, .agg [.i k, .i n, .i m, QW ks]]) o b (.tup []) (o ++ stT (.mk k n m ks) 0) (b || !stOk (.mk k n m ks)) := fun o b h => by
   have := hstm 0 o b (by omega) h
   rwa [QQ] at this
  clear hstm
  by_cases kn : 0 <= k
  ·have k13 : 13 <= k := by omega
   have k3n : ¬ k <= 3 := by omega
   have k12n : ¬ k <= 12 := by omega
   refine Qa Tryz.func18 rfl Tryz.ntmps18 rfl (t := [(0, .agg [.i k, .i n, .i m, QW ks])]) rfl fun E hE => ?_
   (repeat' first | (refine Qg ?_; (first | refine QJ rfl ?_ | refine QN rfl ?_ | (refine QG ?_; (first | refine WL rfl rfl ?_ | refine Qc rfl rfl rfl ?_)) | (refine Qo ?_; (first | refine Zb rfl rfl ?_ | refine W4 rfl rfl ?_ | refine Q1 rfl rfl ?_)) | refine s_pm 1 2 (hst0 _ _ (by first | assumption | omega | (simp only [List.length_append, Q7, List.length_cons, List.length_nil]; omega))) rfl rfl rfl rfl rfl rfl (fun _ => rfl) (fun _ _ => ?_) | refine W1 rfl rfl ?_ | (refine g_box ?_; (first | refine s_box_bld rfl (fun _ _ _ _ => ?_) | refine Q9 rfl rfl (fun _ _ => ?_))) | refine Qd rfl rfl ?_ | refine QA rfl rfl ?_ | refine Qp rfl rfl ?_)) | (refine Qk ?_; (first | refine Qi ?_ | refine QK rfl ?_ | refine WM rfl rfl rfl rfl ?_ | refine Wc rfl rfl (by omega) ?_)) | (refine Qj ?_; (first | refine Ql ?_ | refine Qb ?_ | refine Qe ?_ | refine Qf rfl (by omega) ?_)))
   refine r_cond rfl (fun hb => ?_) (fun hb => ?_)
   ·have hb2 : stOk (.mk k n m ks) = false := by simpa using hb
    (repeat' first | refine QN rfl ?_ | (refine Qk ?_; (first | refine Qi ?_ | refine QK rfl ?_)) | (refine Qj ?_; (first | refine Ql ?_ | refine Qb ?_ | refine Qy ?_)))
    refine e_1 Tryz.results18 (Qx rfl) (QY ?_)
    simp [hb2, *]
   ·have hb2 : stOk (.mk k n m ks) = true := by simpa using hb
    have hne : ([] ++ stT (.mk k n m ks) 0) ≠ [] := by have := hpne (by simp [hb2, *]); simpa [*] using this
    have hlim : (([] ++ stT (.mk k n m ks) 0)).length <= 9223372036854775807 := by have hll := hlx; simp only [List.length_append, List.length_nil, List.length_cons, Q7]; omega
    (repeat' first | (refine Qg ?_; (first | refine QJ rfl ?_ | refine QN rfl ?_ | refine s_call_str (k0 := 1) (k1 := 2) rfl rfl rfl rfl hne hlim rfl ?_ | refine Qd rfl rfl ?_ | refine Qp rfl rfl ?_)) | (refine Qk ?_; (first | refine Qi ?_ | refine QK rfl ?_)) | (refine Qj ?_; (first | refine Ql ?_ | refine Qb ?_ | refine QB ?_ | refine Qy ?_)))
    refine e_1 Tryz.results18 (Qx rfl) (QY ?_)
    simp [hb2, *]
  ·refine Qa Tryz.func18 rfl Tryz.ntmps18 rfl (t := [(0, .agg [.i k, .i n, .i m, QW ks])]) rfl fun E hE => ?_
   (repeat' first | (refine Qg ?_; (first | refine QJ rfl ?_ | refine QN rfl ?_ | (refine QG ?_; (first | refine WL rfl rfl ?_ | refine Qc rfl rfl rfl ?_)) | (refine Qo ?_; (first | refine W4 rfl rfl ?_ | refine Q1 rfl rfl ?_)) | refine s_pm 1 2 (hst0 _ _ (by first | assumption | omega | (simp only [List.length_append, Q7, List.length_cons, List.length_nil]; omega))) rfl rfl rfl rfl rfl rfl (fun _ => rfl) (fun _ _ => ?_) | refine WO rfl rfl ?_ | (refine g_box ?_; (first | refine s_box_bld rfl (fun _ _ _ _ => ?_) | refine Q9 rfl rfl (fun _ _ => ?_))) | refine Qd rfl rfl ?_ | refine QA rfl rfl ?_ | refine Qp rfl rfl ?_)) | (refine Qk ?_; (first | refine Qi ?_ | refine QK rfl ?_ | refine W7 rfl rfl rfl rfl ?_ | refine Q5 rfl rfl (by omega) ?_)) | (refine Qj ?_; (first | refine Ql ?_ | refine Qb ?_ | refine Qe ?_ | refine Qs rfl ?_ | refine Qf rfl (by omega) ?_)))
   refine r_cond rfl (fun hb => ?_) (fun hb => ?_)
   ·have hb2 : stOk (.mk k n m ks) = false := by simpa using hb
    (repeat' first | refine QN rfl ?_ | (refine Qk ?_; (first | refine Qi ?_ | refine QK rfl ?_)) | (refine Qj ?_; (first | refine Ql ?_ | refine Qb ?_ | refine Qy ?_)))
    refine e_1 Tryz.results18 (Qx rfl) (QY ?_)
    simp [hb2, *]
   ·have hb2 : stOk (.mk k n m ks) = true := by simpa using hb
    have hne : ([] ++ stT (.mk k n m ks) 0) ≠ [] := by have := hpne (by simp [hb2, *]); simpa [*] using this
    have hlim : (([] ++ stT (.mk k n m ks) 0)).length <= 9223372036854775807 := by have hll := hlx; simp only [List.length_append, List.length_nil, List.length_cons, Q7]; omega
    (repeat' first | (refine Qg ?_; (first | refine QJ rfl ?_ | refine QN rfl ?_ | refine s_call_str (k0 := 1) (k1 := 2) rfl rfl rfl rfl hne hlim rfl ?_ | refine Qd rfl rfl ?_ | refine Qp rfl rfl ?_)) | (refine Qk ?_; (first | refine Qi ?_ | refine QK rfl ?_)) | (refine Qj ?_; (first | refine Ql ?_ | refine Qb ?_ | refine QB ?_ | refine Qy ?_)))
    refine e_1 Tryz.results18 (Qx rfl) (QY ?_)
    simp [hb2, *]
def befP (ks : List Nd) : Nat := (ks.map fun x => nlC (Wb x)).sum
theorem befP_take {ks : List Nd} {i : Nat} (h : i < ks.length) : befP (ks.take (i + 1)) = befP (ks.take i) + nlC (Wb ks[i]) := by
 unfold befP
 rw [List.take_succ_eq_append_getElem h, List.map_append, List.sum_append]; simp
theorem befP_le : ∀ (ks : List Nd), okL ks -> QD ks <= 1000000 -> befP ks <= 7000000 * QD ks
 | [], _, _ => by simp [befP]
 | x :: r, h, hs => by
  rw [okL] at h
  rw [QD] at hs ⊢
  have h1 := print_len x h.1 (by omega)
  have h2 := nl_le (Wb x)
  have h3 := befP_le r h.2 (by omega)
  have : befP (x :: r) = nlC (Wb x) + befP r := by unfold befP; rw [List.map_cons, List.sum_cons]
  rw [this, Nat.mul_add]; omega
def Zn (k : Int) (ks : List Nd) (a : Int) : Int :=
 if k = 27 \/ k = 13 then 1 + (befP (ks.take a.toNat) : Nat) else if (k = 17 /\ a = 2) \/ (k = 21 /\ a = 1) then (nlC (Wb (ks.getD (a - 1).toNat (.mk 0 0 0 []))) : Nat) - 1 else 0
def Z7 : List Int -> Nd -> Int -> Int
 | [], _, at_ => at_
 | a :: p, .mk k n m ks, at_ => Z7 p (ks.getD a.toNat (.mk 0 0 0 [])) (at_ + Zn k ks a)
def Z8 : Nd -> Int
 | .mk k _ _ _ => k
def lineM (t : Nd) (path : List Int) : Int := if atM path t = none \/ Z8 t ≠ 27 \/ Wb t = [] then 0 else Z7 path t 1
theorem okL_at {ks : List Nd} (h : okL ks) {i : Nat} (hi : i < ks.length) : okN ks[i] := WJ h (List.getElem_mem hi)
theorem step_bound {k : Int} {n m : Int} {ks : List Nd} {a : Int} (hok : okN (.mk k n m ks)) (hs : Qr (.mk k n m ks) <= 1000000) (h0 : 0 <= a) (h1 : a.toNat < ks.length) :
  -1 <= Zn k ks a /\ Zn k ks a + 8000000 * (Qr ks[a.toNat] : Int) <= 8000000 * (Qr (.mk k n m ks) : Int) := by
 rw [okN] at hok
 rw [Qr] at hs ⊢
 have hsm := Wf (List.getElem_mem h1)
 unfold Zn
 split
 ·have hb := befP_le (ks.take a.toNat) (okL_take hok.2 _) (by have := Wy ks a.toNat; omega)
  have ht := qh ks a.toNat h1
  have hl := Wy ks (a.toNat + 1)
  omega
 ·split
  ·rename_i hc
   have h3 : (a - 1).toNat < ks.length := by omega
   have e : ks.getD (a - 1).toNat (.mk 0 0 0 []) = ks[(a - 1).toNat] := by rw [List.getD_eq_getElem?_getD, List.getElem?_eq_getElem h3]; rfl
   rw [e]
   have hp := print_len _ (okL_at hok.2 h3) (by have := Wf (List.getElem_mem h3); omega)
   have hn := nl_le (Wb ks[(a - 1).toNat])
   have ht := qh ks (a - 1).toNat h3
   have e2 : a.toNat = (a - 1).toNat + 1 := by omega
   have h4 : (a - 1).toNat + 1 < ks.length := by omega
   have ht2 := qh ks ((a - 1).toNat + 1) h4
   have hl := Wy ks ((a - 1).toNat + 1 + 1)
   have hx : Qr ks[a.toNat] = Qr ks[(a - 1).toNat + 1] := by simp only [e2]
   omega
  ·omega
theorem before_c (hG : G 6 = pow10T) (hG1 : G 1 = spaceT) (k n m : Int) (ks : List Nd) (hok : okL ks) (hs : QD ks <= 1000000) (a : Int) (h0 : 0 <= a) (h1 : a.toNat < ks.length) (at_ : Int) (ha1 : -5000000000000000000 <= at_) (ha2 : at_ <= 9000000000000) (c5 : List DV) (g2 g5 g7 g9 B : Nat) :
  ACalls Tryz.prog G B 68 [.ptr 0 g2 0, .ptr 3 g9 0, .ptr 2 g7 0] [.row g2 [.i k, .i n, .i m, QW ks], .row g5 c5, .row g7 [.i at_], .row g9 [.i a]] (fun d τ => d = .tup [] /\ τ = [.row g2 [.i k, .i n, .i m, QW ks], .row g5 c5, .row g7 [.i (at_ + (befP (ks.take a.toNat) : Nat))], .row g9 [.i a]]) := by
 have hln := WU ks
 refine Qa Tryz.func68 rfl Tryz.ntmps68 rfl (t := [(0, .ptr 0 g2 0), (1, .ptr 3 g9 0), (2, .ptr 2 g7 0)]) rfl fun E hE => ?_
 (repeat' first | (refine Qg ?_; (first | refine QJ rfl ?_ | refine Qc rfl rfl rfl ?_ | refine QI rfl ?_ | refine Qd rfl rfl ?_ | refine s_slice_h rfl rfl (by omega) (by omega) ?_)) | (refine Qk ?_; (first | refine Qi ?_ | refine QK rfl ?_)) | (refine Qj ?_; (first | refine Ql ?_ | refine Qb ?_ | refine Qe ?_)))
 have hsub : ∀ (i : Nat) (h : i < (ks.take a.toNat).length), Go.Av.Pure Tryz.prog G 18 [.agg (Enc.enc (ks.take a.toNat)[i])] (WS (Wb (ks.take a.toNat)[i])) /\ Go.Av.Pure Tryz.prog G 69 [WS (Wb (ks.take a.toNat)[i])] (.i (nlC (Wb (ks.take a.toNat)[i]))) := fun i h => by
  have hm : (ks.take a.toNat)[i] ∈ ks := List.mem_of_mem_take (List.getElem_mem h)
  have hsz := Wf hm
  have hle := print_len _ (WJ hok hm) (by omega)
  exact ⟨print_c hG hG1 _ (WJ hok hm) (by omega), lines_c _ (print_asc _) (by omega)⟩
 have hbl := befP_le (ks.take a.toNat) (okL_take hok _) (by have := Wy ks a.toNat; omega)
 have hsl := Wy ks a.toNat
 have hbm : ∀ i, befP ((ks.take a.toNat).take i) <= 7000000000000 := fun i => by
  have h2 := befP_le ((ks.take a.toNat).take i) (okL_take (okL_take hok _) _) (by have := Wy (ks.take a.toNat) i; omega)
  have := Wy (ks.take a.toNat) i; omega
 have hll2 : (ks.take a.toNat).length <= 1000000 := by rw [List.length_take]; omega
 generalize hll : ks.take a.toNat = l at *
 refine ZZ (fun (i : Nat) => ⟨[(2, .ptr 2 g7 0), (8, QW l), (9, .i l.length), (10, .i i)], [.row g2 [.i k, .i n, .i m, QW ks], .row g5 c5, .row g7 [.i (at_ + (befP (l.take i) : Nat))], .row g9 [.i a]]⟩) (fun i => i <= l.length) (fun i => l.length - i) 0 ?_ (by omega) ?_
 ·rw [show at_ + ((befP (l.take 0) : Nat) : Int) = at_ by simp [befP]]
  exact zal rfl
 intro i hi
 have hb0 := hbm i
 by_cases hil : i < l.length
 ·obtain ⟨hp1, hl1⟩ := hsub i hil
  have hst := befP_take hil
  have hb1 := hbm (i + 1)
  have e : at_ + ((befP (l.take (i + 1)) : Nat) : Int) = at_ + ((befP (l.take i) : Nat) : Int) + ((nlC (Wb l[i]) : Nat) : Int) := by rw [hst]; omega
  clear hsub hbm
  (repeat' first | (refine Qg ?_; (first | refine QJ rfl ?_ | refine QO rfl ?_ | refine QM rfl rfl (by first | assumption | omega | (simp; done) | (simp; omega)) ?_ | (refine Qo ?_; (first | refine QX rfl rfl ?_ | refine W3 rfl rfl (by omega) ?_)) | (refine Wg ?_; (first | refine WD rfl rfl rfl rfl ?_ | refine QZ rfl rfl rfl rfl (by rfl) (by rfl) (by rfl) ?_)) | refine Qu (fun _ _ => ?_))) | (refine Qk ?_; (first | refine Qi ?_ | refine QK rfl ?_ | refine QR ?_)) | (refine Qj ?_; (first | refine Ql ?_ | refine Qb ?_ | refine Qe ?_ | (refine WF ?_; first | refine Wm (by rfl) (by kernel_rfl) (by kernel_rfl) ?_ | refine Wl (by kernel_rfl) (by kernel_rfl) ?_) | refine QB ?_ | refine Qm rfl (by omega) ?_)) | (refine g_lex ?_; (first | refine x_op rfl (by (repeat' first | (refine Qg ?_; (first | (refine QG ?_; (first | refine WL rfl rfl ?_ | refine Qc rfl rfl rfl ?_)) | refine W3 rfl rfl (by omega) ?_ | (refine Qt ?_; (first | refine WR rfl rfl (hp1) ?_ | refine WR rfl rfl (hl1) ?_)))) | exact ⟨rfl, rfl⟩)) ?_ | refine x_nil ?_)))
  refine ⟨i + 1, by omega, by omega, ?_⟩
  rw [e]
  exact zal rfl
 ·have hie : i = l.length := by omega
  subst hie
  rw [List.take_length]
  clear hsub hbm
  (repeat' first | refine QX rfl rfl ?_ | (refine Qk ?_; (first | refine Qi ?_ | refine QK rfl ?_)) | (refine Qj ?_; (first | refine Ql ?_ | refine Qb ?_ | refine Qf rfl (by omega) ?_ | refine WC rfl ?_)))
  exact e_0 (Tryz.results68) (WW (σ := [_, _, _, _]) ⟨rfl, rfl⟩)
theorem line_c1 (hG : G 6 = pow10T) (hG1 : G 1 = spaceT) (t : Nd) (hok : okN t) (hs : Qr t <= 1000000) (path : List Int) (hpl : path.length <= 4611686018427387904) : Go.Av.Pure Tryz.prog G 26 [.agg (Enc.enc t), QW path] (.i (lineM t path)) := fun B => by
 have hat := trAt_c (G := G) t hs path hpl
 have hpt := print_c hG hG1 t hok hs
 unfold lineM
 cases ha : atM path t with
 | none =>
  rw [ha] at hat
  have hat : Go.Av.Pure Tryz.prog G 67 [.agg (Enc.enc t), QW path] (.tup [.agg (Enc.enc (Nd.mk 0 0 0 [])), .b false]) := hat
  rw [if_pos (by simp)]
  refine Qa Tryz.func26 rfl Tryz.ntmps26 rfl (t := [(0, .agg (Enc.enc t)), (1, QW path)]) rfl fun E hE => ?_
  (repeat' first | (refine Qg ?_; (first | refine QJ rfl ?_ | refine QN rfl ?_ | refine WL rfl rfl ?_ | refine Z5 rfl rfl hat (WV (Wp (WK (Enc.clo _)) (Wp Wh W0))) ?_ | refine W1 rfl rfl ?_ | refine WD rfl rfl rfl rfl ?_ | refine W2 rfl ?_ | refine ZP rfl rfl rfl ?_ | refine Qu (fun _ _ => ?_) | refine Q9 rfl rfl (fun _ _ => ?_))) | (refine Qk ?_; (first | refine Qi ?_ | refine QK rfl ?_ | refine QR ?_ | refine W7 rfl rfl rfl rfl ?_)) | (refine Qj ?_; (first | refine Ql ?_ | refine Qb ?_ | refine Qq rfl ?_ | refine Qy ?_)))
  all_goals exact e_1 (Tryz.results26) (Qx rfl) (QY rfl)
 | some x =>
 rw [ha] at hat
 have hat : Go.Av.Pure Tryz.prog G 67 [.agg (Enc.enc t), QW path] (.tup [.agg (Enc.enc x), .b true]) := hat
 obtain ⟨k, n, m, ks⟩ := t
 rw [QQ k n m ks] at hat hpt ⊢
 by_cases hk : k = 27
 case neg =>
  rw [if_pos (by simp [Z8, hk])]
  refine Qa Tryz.func26 rfl Tryz.ntmps26 rfl (t := [(0, .agg [.i k, .i n, .i m, QW ks]), (1, QW path)]) rfl fun E hE => ?_
  (repeat' first | (refine Qg ?_; (first | refine QJ rfl ?_ | refine QN rfl ?_ | (refine QG ?_; (first | refine WL rfl rfl ?_ | refine Qc rfl rfl rfl ?_)) | refine s_neq rfl rfl ?_ | refine Z5 rfl rfl hat (WV (Wp (WK (Enc.clo _)) (Wp Wh W0))) ?_ | (refine Q8 ?_; (first | refine W1 rfl rfl ?_ | refine WO rfl rfl ?_)) | refine WD rfl rfl rfl rfl ?_ | refine W2 rfl ?_ | refine Qd rfl rfl ?_ | refine ZP rfl rfl rfl ?_ | refine Qu (fun _ _ => ?_) | refine Q9 rfl rfl (fun _ _ => ?_))) | (refine Qk ?_; (first | refine Qi ?_ | refine QK rfl ?_ | refine QR ?_ | refine WM rfl rfl rfl rfl ?_ | refine W7 rfl rfl rfl rfl ?_ | refine Wc rfl rfl (by omega) ?_)) | (refine Qj ?_; (first | refine Ql ?_ | refine Qb ?_ | refine Qq rfl ?_ | refine Qy ?_)))
  all_goals exact e_1 (Tryz.results26) (Qx rfl) (QY rfl)
 by_cases hp0 : Wb (.mk k n m ks) = []
 ·have hd : decide (Wb (.mk k n m ks) = []) = true := decide_eq_true hp0
  rw [if_pos (by simp [hp0])]
  refine Qa Tryz.func26 rfl Tryz.ntmps26 rfl (t := [(0, .agg [.i k, .i n, .i m, QW ks]), (1, QW path)]) rfl fun E hE => ?_
  (repeat' first | (refine Qg ?_; (first | refine QJ rfl ?_ | refine QN rfl ?_ | (refine QG ?_; (first | refine WL rfl rfl ?_ | refine Qc rfl rfl rfl ?_)) | (refine Qo ?_; (first | refine Wx rfl rfl ?_ | refine s_neq rfl rfl ?_)) | (refine Qt ?_; (first | refine Z5 rfl rfl hat (WV (Wp (WK (Enc.clo _)) (Wp Wh W0))) ?_ | refine WR rfl rfl (hpt) ?_)) | refine WO rfl rfl ?_ | refine WD rfl rfl rfl rfl ?_ | refine W2 rfl ?_ | refine Qd rfl rfl ?_ | refine ZP rfl rfl rfl ?_ | refine Qu (fun _ _ => ?_) | refine Q9 rfl rfl (fun _ _ => ?_))) | (refine Qk ?_; (first | refine Qi ?_ | refine QK rfl ?_ | refine QR ?_ | refine WM rfl rfl rfl rfl ?_ | refine Q5 rfl rfl (by omega) ?_)) | (refine Qj ?_; (first | refine Ql ?_ | refine Qb ?_ | refine Qm rfl (by omega) ?_ | refine Qy ?_)))
  all_goals exact e_1 (Tryz.results26) (Qx rfl) (QY rfl)
 have hd : decide (Wb (.mk k n m ks) = []) = false := decide_eq_false hp0
 subst hk
 rw [if_neg (by simp [Z8, hp0])]
 refine Qa Tryz.func26 rfl Tryz.ntmps26 rfl (t := [(0, .agg [.i 27, .i n, .i m, QW ks]), (1, QW path)]) rfl fun E hE => ?_
 (repeat' first | (refine Qg ?_; (first | refine QJ rfl ?_ | refine QN rfl ?_ | (refine QG ?_; (first | refine WL rfl rfl ?_ | refine Qc rfl rfl rfl ?_)) | (refine Qo ?_; (first | refine Wx rfl rfl ?_ | refine s_neq rfl rfl ?_)) | (refine Qt ?_; (first | refine Z5 rfl rfl hat (WV (Wp (WK (Enc.clo _)) (Wp Wh W0))) ?_ | refine WR rfl rfl (hpt) ?_ | refine QI rfl ?_)) | refine WO rfl rfl ?_ | (refine Wg ?_; (first | refine WD rfl rfl rfl rfl ?_ | refine QZ rfl rfl rfl rfl (by rfl) (by rfl) (by rfl) ?_)) | refine W2 rfl ?_ | refine Qd rfl rfl ?_ | refine ZP rfl rfl rfl ?_ | refine Qu (fun _ _ => ?_) | refine Q9 rfl rfl (fun _ _ => ?_))) | (refine Qk ?_; (first | refine Qi ?_ | refine QK rfl ?_ | refine QR ?_ | refine WM rfl rfl rfl rfl ?_)) | (refine Qj ?_; (first | refine Ql ?_ | refine Qb ?_ | refine Qe ?_ | refine QB ?_ | refine Qf rfl (by omega) ?_)))
 rename_i g2 hg2 g5 hg5 g7 hg7
 clear hpt hat
 rw [<- QQ 27 n m ks]
 generalize hT : Nd.mk 27 n m ks = t at *
 generalize (Enc.enc x : List DV) = c5 at *
 refine r_loop3 (fun (j : Nat) (cur : Nd) (at_ : Int) => ⟨[(2, .ptr 0 g2 0), (7, .ptr 2 g7 0), (29, QW path), (30, .i path.length), (31, .i j)], [.row g2 (Enc.enc cur), .row g5 c5, .row g7 [.i at_]]⟩) (fun j cur at_ => j <= path.length /\ atM path t = atM (path.drop j) cur /\ Z7 path t 1 = Z7 (path.drop j) cur at_ /\ okN cur /\ Qr cur <= 1000000 /\ -(j : Int) <= at_ /\ at_ + 8000000 * (Qr cur : Int) <= 1 + 8000000 * (Qr t : Int)) (fun j _ _ => path.length - j) 0 t 1 ?_ ⟨by omega, by simp, by simp, hok, hs, by omega, by omega⟩ ?_
 ·exact zal rfl
 intro j cur at_ ⟨hj, he, hgo, hco, hcs, hlo, hhi⟩
 clear hT hok n m ks
 obtain ⟨k, n, m, ks⟩ := cur
 have hpos := Q6 (.mk k n m ks)
 have hse : Qr (.mk k n m ks) = 1 + QD ks := by rw [Qr]
 have hln := WU ks
 rw [QQ]
 by_cases hjl : j < path.length
 case neg =>
  have hje : j = path.length := by omega
  subst hje
  rw [List.drop_length, Z7] at hgo
  rw [hgo]
  (repeat' first | (refine Qg ?_; (first | refine QN rfl ?_ | refine Qc rfl rfl rfl ?_ | refine QX rfl rfl ?_)) | (refine Qk ?_; (first | refine Qi ?_ | refine QK rfl ?_)) | (refine Qj ?_; (first | refine Ql ?_ | refine Qb ?_ | refine Qf rfl (by omega) ?_ | refine WC rfl ?_ | refine Qy ?_)))
  all_goals exact e_1 (Tryz.results26) (Qx rfl) (QY rfl)
 rw [List.drop_eq_getElem_cons hjl] at he hgo
 have hc : 0 <= path[j] /\ path[j].toNat < ks.length := by
  rcases Classical.em (0 <= path[j] /\ path[j].toNat < ks.length) with h | h
  ·exact h
  ·rw [atM_none (by omega), ha] at he; cases he
 rw [atM_cons hc.1 hc.2] at he
 have hgd : ks.getD path[j].toNat (.mk 0 0 0 []) = ks[path[j].toNat] := by rw [List.getD_eq_getElem?_getD, List.getElem?_eq_getElem hc.2]; rfl
 rw [Z7, hgd] at hgo
 have hsb := step_bound hco hcs hc.1 hc.2
 have hco2 := hco
 rw [okN] at hco2
 have hsm := Wf (List.getElem_mem hc.2)
 have hcN : okN ks[path[j].toNat] := okL_at hco2.2 hc.2
 obtain ⟨hc0, hc1⟩ := hc
 unfold Zn at hgo hsb
 by_cases hk1 : k = 27 \/ k = 13
 ·rw [if_pos hk1] at hgo hsb
  have hbef := fun (g2 g5 g9 g7 : Nat) => before_c (G := G) hG hG1 k n m ks hco2.2 (by omega) path[j] hc0 hc1 (at_ + 1) (by omega) (by omega) c5 g2 g5 g7 g9 E.N
  have e3 : at_ + (1 + ((befP (ks.take path[j].toNat) : Nat) : Int)) = at_ + 1 + ((befP (ks.take path[j].toNat) : Nat) : Int) := by omega
  rw [e3] at hgo
  rcases hk1 with hk1 | hk1
  all_goals
   (repeat' first | (refine Qg ?_; (first | refine QJ rfl ?_ | refine QN rfl ?_ | (refine QG ?_; (first | refine Wa rfl ?_ | refine QO rfl ?_ | refine Qc rfl rfl rfl ?_)) | (refine g_indexAddr ?_; (first | refine QM rfl rfl (by first | assumption | omega | (simp; done) | (simp; omega)) ?_ | refine s_idx_sl rfl rfl (by omega) (by first | assumption | omega | (simp; done) | (simp; omega)) ?_)) | (refine Qo ?_; (first | refine QX rfl rfl ?_ | refine Q1 rfl rfl ?_ | refine W3 rfl rfl (by omega) ?_)) | refine ZY rfl rfl (hbef _ _ _ _) ?_ | (refine Wg ?_; (first | refine WD rfl rfl rfl rfl ?_ | refine QZ rfl rfl rfl rfl (by rfl) (by rfl) (by rfl) ?_)) | refine Qd rfl rfl ?_ | refine QH rfl rfl ?_ | refine Qu (fun _ _ => ?_))) | (refine Qk ?_; (first | refine Qi ?_ | refine QK rfl ?_ | refine QR ?_)) | (refine Qj ?_; (first | refine Ql ?_ | refine Qb ?_ | refine Qe ?_ | refine QB ?_ | refine Qm rfl (by omega) ?_ | refine Qf rfl (by omega) ?_)))
   refine ⟨j + 1, ks[path[j].toNat], _, ⟨by omega, he, hgo, hcN, by omega, by omega, by omega⟩, by omega, ?_⟩
   exact zal rfl
 rw [if_neg hk1] at hgo hsb
 have hbef : True := trivial
 by_cases hk2 : (k = 17 /\ path[j] = 2) \/ (k = 21 /\ path[j] = 1)
 ·rw [if_pos hk2] at hgo hsb
  have h3 : (path[j] - 1).toNat < ks.length := by omega
  have h30 : 0 <= path[j] - 1 := by omega
  have e4 : ks.getD (path[j] - 1).toNat (.mk 0 0 0 []) = ks[(path[j] - 1).toNat] := by rw [List.getD_eq_getElem?_getD, List.getElem?_eq_getElem h3]; rfl
  rw [e4] at hgo hsb
  have hsz3 := Wf (List.getElem_mem h3)
  have hpl3 := print_len _ (okL_at hco2.2 h3) (by omega)
  have hnl3 := nl_le (Wb ks[(path[j] - 1).toNat])
  have hp1 := print_c (G := G) hG hG1 _ (okL_at hco2.2 h3) (by omega)
  have hl1 := lines_c (G := G) (Wb ks[(path[j] - 1).toNat]) (print_asc _) (by omega)
  rcases hk2 with hk2 | hk2
  all_goals
   (repeat' first | (refine Qg ?_; (first | refine QJ rfl ?_ | refine QN rfl ?_ | (refine QG ?_; (first | refine Wa rfl ?_ | refine QO rfl ?_ | refine Qc rfl rfl rfl ?_)) | (refine g_indexAddr ?_; (first | refine QM rfl rfl (by first | assumption | omega | (simp; done) | (simp; omega)) ?_ | refine s_idx_sl rfl rfl (by omega) (by first | assumption | omega | (simp; done) | (simp; omega)) ?_)) | (refine Qo ?_; (first | refine QX rfl rfl ?_ | refine Q1 rfl rfl ?_ | refine W3 rfl rfl (by omega) ?_)) | (refine Q8 ?_; (first | refine W1 rfl rfl ?_ | refine WO rfl rfl ?_)) | (refine Wg ?_; (first | refine WD rfl rfl rfl rfl ?_ | refine QZ rfl rfl rfl rfl (by rfl) (by rfl) (by rfl) ?_)) | refine Qd rfl rfl ?_ | refine QH rfl rfl ?_ | refine Qu (fun _ _ => ?_))) | (refine Qk ?_; (first | refine Qi ?_ | refine QK rfl ?_ | refine QR ?_ | refine WM rfl rfl rfl rfl ?_ | refine W7 rfl rfl rfl rfl ?_ | refine Wc rfl rfl (by omega) ?_ | refine Q5 rfl rfl (by omega) ?_)) | (refine Qj ?_; (first | refine Ql ?_ | refine Qb ?_ | refine Qe ?_ | (refine WF ?_; first | refine Wm (by rfl) (by kernel_rfl) (by kernel_rfl) ?_ | refine Wl (by kernel_rfl) (by kernel_rfl) ?_) | refine QB ?_ | refine Qs rfl ?_ | refine Qm rfl (by omega) ?_ | refine Qf rfl (by omega) ?_)) | (refine g_lex ?_; (first | refine x_op rfl (by (repeat' first | (refine Qg ?_; (first | (refine QG ?_; (first | refine QO rfl ?_ | refine Qc rfl rfl rfl ?_)) | refine s_idx_sl rfl rfl (by omega) (by first | assumption | omega | (simp; done) | (simp; omega)) ?_ | (refine Qo ?_; (first | refine W3 rfl rfl (by omega) ?_ | refine Zj rfl rfl (by omega) ?_)) | (refine Qt ?_; (first | refine WR rfl rfl (hp1) ?_ | refine WR rfl rfl (hl1) ?_)) | refine Qd rfl rfl ?_)) | exact ⟨rfl, rfl⟩)) ?_ | refine x_nil ?_)))
   refine ⟨j + 1, ks[path[j].toNat], _, ⟨by omega, he, hgo, hcN, by omega, by omega, by omega⟩, by omega, ?_⟩
   exact zal rfl
 ·rw [if_neg hk2] at hgo hsb
  rw [Int.add_zero] at hgo
  (repeat' first | (refine Qg ?_; (first | refine QJ rfl ?_ | refine QN rfl ?_ | (refine QG ?_; (first | refine Wa rfl ?_ | refine QO rfl ?_ | refine Qc rfl rfl rfl ?_)) | (refine g_indexAddr ?_; (first | refine QM rfl rfl (by first | assumption | omega | (simp; done) | (simp; omega)) ?_ | refine s_idx_sl rfl rfl (by omega) (by first | assumption | omega | (simp; done) | (simp; omega)) ?_)) | (refine Qo ?_; (first | refine QX rfl rfl ?_ | refine Q1 rfl rfl ?_ | refine W3 rfl rfl (by omega) ?_)) | (refine Q8 ?_; (first | refine W1 rfl rfl ?_ | refine WO rfl rfl ?_)) | (refine Wg ?_; (first | refine WD rfl rfl rfl rfl ?_ | refine QZ rfl rfl rfl rfl (by rfl) (by rfl) (by rfl) ?_)) | refine Qd rfl rfl ?_ | refine QH rfl rfl ?_ | refine Qu (fun _ _ => ?_))) | (refine Qk ?_; (first | refine Qi ?_ | refine QK rfl ?_ | refine QR ?_ | refine WM rfl rfl rfl rfl ?_ | refine W7 rfl rfl rfl rfl ?_ | refine Q5 rfl rfl (by omega) ?_ | refine qw rfl rfl (fun _ => ?_) (fun _ => ?_))) | (refine Qj ?_; (first | refine Ql ?_ | refine Qb ?_ | refine Qe ?_ | refine QB ?_ | refine Qs rfl ?_ | refine Qm rfl (by omega) ?_ | refine Qf rfl (by omega) ?_)))
  all_goals
   refine ⟨j + 1, ks[path[j].toNat], _, ⟨by omega, he, hgo, hcN, by omega, by omega, by omega⟩, by omega, ?_⟩
   exact zal rfl
mutual
def Zp : Nd -> List (List Int)
 | .mk _ _ _ ks => [] :: ZF 0 ks
def ZF : Nat -> List Nd -> List (List Int)
 | _, [] => []
 | i, x :: r => (Zp x).map (fun p => (i : Int) :: p) ++ ZF (i + 1) r
end
theorem ZE (k n m : Int) (ks : List Nd) : Zp (.mk k n m ks) = [] :: ZF 0 ks := by rw [Zp]
theorem pathsL_snoc (x : Nd) : ∀ (i : Nat) (a : List Nd), ZF i (a ++ [x]) = ZF i a ++ (Zp x).map fun p => ((i + a.length : Nat) : Int) :: p
 | i, [] => by simp [ZF]
 | i, y :: r => by
  rw [List.cons_append, ZF, ZF, pathsL_snoc x (i + 1) r, List.append_assoc, show i + 1 + r.length = i + (y :: r).length by simp; omega]
theorem pathsL_take {ks : List Nd} {i : Nat} (h : i < ks.length) : ZF 0 (ks.take (i + 1)) = ZF 0 (ks.take i) ++ (Zp ks[i]).map fun p => (i : Int) :: p := by
 rw [List.take_succ_eq_append_getElem h, pathsL_snoc, List.length_take, Nat.min_eq_left (by omega), Nat.zero_add]
mutual
theorem pathsN_len : ∀ t : Nd, (Zp t).length = Qr t
 | .mk k n m ks => by
  have := pathsL_len 0 ks
  rw [ZE, Qr, List.length_cons]; omega
theorem pathsL_len : ∀ (i : Nat) (ts : List Nd), (ZF i ts).length = QD ts
 | _, [] => rfl
 | i, x :: r => by
  have := pathsN_len x
  have := pathsL_len (i + 1) r
  rw [ZF, QD, List.length_append, List.length_map]; omega
end
theorem mem_pathsL {p : List Int} : ∀ {i : Nat} {ks : List Nd}, p ∈ ZF i ks -> ∃ (j : Nat) (h : j < ks.length) (q : List Int), p = ((i + j : Nat) : Int) :: q /\ q ∈ Zp ks[j]
 | i, [], h => by rw [ZF] at h; cases h
 | i, x :: r, h => by
  rw [ZF, List.mem_append, List.mem_map] at h
  rcases h with ⟨q, hq, rfl⟩ | h
  ·exact ⟨0, by simp, q, rfl, hq⟩
  ·obtain ⟨j, hj, q, rfl, hq⟩ := mem_pathsL h
   exact ⟨j + 1, by simpa using hj, q, by rw [show i + (j + 1) = i + 1 + j by omega], hq⟩
theorem paths_lens : ∀ (t : Nd), ∀ p ∈ Zp t, p.length < Qr t := fun t => by
 induction t using Nd.ind with
 | h k n m ks ih =>
 intro p hp
 rw [ZE] at hp
 rw [Qr]
 rcases List.mem_cons.1 hp with rfl | hp
 ·show 0 < 1 + QD ks; omega
 ·obtain ⟨j, hj, q, rfl, hq⟩ := mem_pathsL hp
  have h1 := ih _ (List.getElem_mem hj) q hq
  have h2 := Wf (List.getElem_mem hj)
  rw [List.length_cons]; omega
theorem paths_c (t : Nd) : Qr t <= 100000 -> Own Tryz.prog G 12 [.agg (Enc.enc t)] (Zp t).length 1 (Ws (Zp t)) := by
 induction t using Nd.ind with
 | h k n m ks ih =>
 intro hsz B
 have hse : Qr (.mk k n m ks) = 1 + QD ks := by rw [Qr]
 rw [hse] at hsz
 have hln := WU ks
 have hi : ∀ x ∈ ks, Go.Av.Pure Tryz.prog G 12 [.agg (Enc.enc x)] (QW (Zp x)) := fun x hx => (ih x hx (by have := Wf hx; omega)).read
 clear ih
 rw [ZE, QQ]
 refine Qa Tryz.func12 rfl Tryz.ntmps12 rfl (t := [(0, .agg [.i k, .i n, .i m, QW ks])]) rfl fun E hE => ?_
 (repeat' first | (refine Qg ?_; (first | refine QN rfl ?_ | refine s_bslice_own_sub (cs := [.nil]) (cs' := [QW ([] : List Int)]) rfl rfl (by decide) rfl rfl rfl (sub_cons (.nil _) sub_nil) (fun _ _ => ?_) | refine Q9 rfl rfl (fun _ _ => ?_))) | (refine Qk ?_; (first | refine Qi ?_ | refine QK rfl ?_)) | (refine Qj ?_; (first | refine Ql ?_ | refine Qb ?_ | refine Qe ?_)))
 rename_i g1 hg1 g3 hg3
 refine r_loopg (fun (i : Nat) g => ⟨[(1, .ptr 0 g1 0), (3, .ref 1 g 0 ([] :: ZF 0 (ks.take i)).length 1), (4, .i i)], [.row g1 [.i k, .i n, .i m, QW ks], .row g (Ws ([] :: ZF 0 (ks.take i)))]⟩) (fun i => i <= ks.length) (fun i => ks.length - i) 0 g3 hg3 ?_ (by omega) ?_
 ·exact zal rfl
 intro i g hi2 hg
 by_cases hil : i < ks.length
 ·have hi1 := hi _ (List.getElem_mem hil)
  have hpl := pathsN_len ks[i]
  have hsm := Wf (List.getElem_mem hil)
  have hst := pathsL_take hil
  have hl0 := pathsL_len 0 (ks.take i)
  have hl1 := Wy ks i
  have hlens : ∀ p ∈ Zp ks[i], p.length <= 100000 := fun p hp => by have := paths_lens _ p hp; omega
  have hal : ([] :: ZF 0 (ks.take i)).length <= 100001 := by rw [List.length_cons]; omega
  have hst2 : ([] :: ZF 0 (ks.take (i + 1))) = ([] :: ZF 0 (ks.take i)) ++ (Zp ks[i]).map fun p => (i : Int) :: p := by rw [hst]; rfl
  have hpl2 : (Zp ks[i]).length <= 100000 := by omega
  clear hi hst hpl hsm hl0 hl1
  generalize ([] :: ZF 0 (ks.take i)) = acc at *
  generalize Zp ks[i] = L at *
  (repeat' first | (refine Qg ?_; (first | refine QJ rfl ?_ | refine QN rfl ?_ | (refine QG ?_; (first | refine QO rfl ?_ | refine Qc rfl rfl rfl ?_)) | refine QM rfl rfl (by first | assumption | omega | (simp; done) | (simp; omega)) ?_ | refine QX rfl rfl ?_ | (refine Qt ?_; (first | refine WR rfl rfl (hi1) ?_ | refine QI rfl ?_)) | refine Qd rfl rfl ?_)) | (refine Qk ?_; (first | refine Qi ?_ | refine QK rfl ?_)) | (refine Qj ?_; (first | refine Ql ?_ | refine Qb ?_ | refine Qe ?_ | refine QB ?_ | refine Qm rfl (by omega) ?_)))
  refine r_loopg (fun (q : Nat) g => ⟨[(1, .ptr 0 g1 0), (3, .ref 1 g 0 (acc ++ (L.take q).map fun p => (i : Int) :: p).length 1), (4, .i i), (5, QW L), (6, .i q)], [.row g1 [.i k, .i n, .i m, QW ks], .row g (Ws (acc ++ (L.take q).map fun p => (i : Int) :: p))]⟩) (fun q => q <= L.length) (fun q => L.length - q) 0 g hg ?_ (by omega) ?_
  ·rw [List.take_zero, List.map_nil, List.append_nil]
   exact zal rfl
  intro q gq hq hgq
  by_cases hql : q < L.length
  ·have hse : acc ++ (L.take (q + 1)).map (fun p => (i : Int) :: p) = (acc ++ (L.take q).map fun p => (i : Int) :: p) ++ [(i : Int) :: L[q]] := by
    rw [List.take_succ_eq_append_getElem hql, List.map_append, List.append_assoc]; rfl
   have hlq := hlens _ (List.getElem_mem hql)
   have hcl : (acc ++ (L.take q).map fun p => (i : Int) :: p).length <= 300000 := by rw [List.length_append, List.length_map, List.length_take]; omega
   clear hi1 hlens hst2
   generalize (acc ++ (L.take q).map fun p => (i : Int) :: p) = cur at *
   (repeat' first | (refine Qg ?_; (first | refine QJ rfl ?_ | refine QN rfl ?_ | refine Wa rfl ?_ | refine QM rfl rfl (by first | assumption | omega | (simp; done) | (simp; omega)) ?_ | (refine Qo ?_; (first | refine QX rfl rfl ?_ | refine W3 rfl rfl (by omega) ?_)) | (refine Qt ?_; (first | refine QI rfl ?_ | refine Zt rfl rfl rfl rfl rfl rfl rfl (by first | omega | (simp; omega)) (by first | omega | (simp; omega)) (fun _ => rfl) (fun _ _ => ?_) | refine s_app_r rfl rfl rfl rfl rfl rfl rfl (by first | omega | (simp; omega)) (by first | omega | (simp; omega)) (fun _ => rfl) (fun _ _ => ?_))) | (refine Zl ?_; (first | refine s_bslice_own (cs := Ws [(_ : Int)]) rfl rfl (by decide) rfl rfl (fun _ _ => ?_) | refine s_bslice_pub rfl rfl (by first | rfl | exact (QS _).symm) rfl ?_ | refine Zk rfl rfl (by decide) rfl ?_)))) | (refine Qk ?_; (first | refine Qi ?_ | refine QK rfl ?_)) | (refine Qj ?_; (first | refine Ql ?_ | refine Qb ?_ | refine Qe ?_ | refine QB ?_ | refine Qm rfl (by omega) ?_)))
   rename_i ga hga gb hgb gc hgc
   refine ⟨q + 1, gc, by omega, by omega, by omega, ?_⟩
   rw [hse]
   exact zal rfl
  ·have hq2 : q = L.length := by omega
   subst hq2
   rw [List.take_length]
   rw [<- hst2]
   clear hi1 hlens hst2
   (repeat' first | (refine Qg ?_; (first | refine QJ rfl ?_ | refine QN rfl ?_ | (refine Qo ?_; (first | refine QX rfl rfl ?_ | refine W3 rfl rfl (by omega) ?_)) | refine QI rfl ?_)) | (refine Qk ?_; (first | refine Qi ?_ | refine QK rfl ?_)) | (refine Qj ?_; (first | refine Ql ?_ | refine Qb ?_ | refine Qf rfl (by omega) ?_ | refine WC rfl ?_)))
   refine ⟨i + 1, gq, by omega, by omega, by omega, ?_⟩
   exact zal rfl
 ·have hi3 : i = ks.length := by omega
  subst hi3
  rw [List.take_length]
  clear hi
  (repeat' first | (refine Qg ?_; (first | refine QJ rfl ?_ | refine QN rfl ?_ | refine Qc rfl rfl rfl ?_ | refine QX rfl rfl ?_ | refine QI rfl ?_ | refine Qd rfl rfl ?_)) | (refine Qk ?_; (first | refine Qi ?_ | refine QK rfl ?_)) | (refine Qj ?_; (first | refine Ql ?_ | refine Qb ?_ | refine Qf rfl (by omega) ?_ | refine WC rfl ?_ | refine Qy ?_)))
  exact e_1 Tryz.results12 (Qx rfl) (c_ownedB hE rfl rfl rfl rfl)
def subN : List Int -> Nd -> Nd
 | [], t => t
 | i :: p, .mk _ _ _ ks => subN p (ks.getD i.toNat (.mk 0 0 0 []))
end Go.Proofs
end
section
namespace Go.Proofs
open Go.Av Go.Bl
theorem nl_sts (i : Nat) : ∀ ks : List Nd, nlC (stTs ks i) = (ks.map fun x => nlC (stT x 0)).sum
 | [] => by rw [stTs]; rfl
 | x :: r => by
  rw [stTs, Z0, nl_sts i r, List.map_cons, List.sum_cons, ((st_asc x i).1).2]
theorem ZW {s : List UInt8} (h : Li s) (i : Nat) : nlC (ZN i s) = 1 := (ZS h i).2
theorem nl_block {x : Nd} (h : inOk x = true) : nlC (stT x 0) = nlC (inT x 0) + 2 /\ Z8 x = 13 := by
 obtain ⟨k, n, m, ks⟩ := x
 rw [inOk] at h
 simp only [Bool.and_eq_true, decide_eq_true_eq] at h
 obtain ⟨⟨h1, h2⟩, h3⟩ := h
 rw [stT, if_pos h1, if_pos h2, inT, decide_eq_true h1, h2, Z0, Z0, ZW (WI (by decide)), ZW (WI (by decide))]
 refine ⟨?_, h1⟩
 show 1 + nlC (stTs ks (0 + 1)) + 1 = nlC (stTs ks (0 + 1)) + 2
 omega
theorem print_st {k n m : Int} {ks : List Nd} (hk : 13 <= k /\ k <= 25) (h : stOk (.mk k n m ks) = true) : Wb (.mk k n m ks) = stT (.mk k n m ks) 0 := by
 have h1 : ¬ k = 27 := by omega
 have h2 : ¬ k = 26 := by omega
 have h3 : ¬ (0 <= k /\ k <= 3) := by omega
 have h4 : ¬ (4 <= k /\ k <= 12) := by omega
 unfold Wb
 rw [prOk, prT]
 simp only [h1, h2, h3, h4, if_false, h, if_true]
theorem flat_print {k n m : Int} {ks : List Nd} (hk : 0 <= k /\ k <= 12) : nlC (Wb (.mk k n m ks)) = 0 := by
 have h1 : ¬ k = 27 := by omega
 have h2 : ¬ k = 26 := by omega
 unfold Wb
 split
 ·rw [prT]
  simp only [h1, h2, if_false]
  split
  ·exact nl_li (li_typ _)
  ·rw [if_pos (by omega)]
   exact nl_li (li_ex _)
 ·rfl
theorem flat_kind {x : Nd} (hk : 0 <= Z8 x /\ Z8 x <= 12) : nlC (Wb x) = 0 := by
 obtain ⟨k, n, m, ks⟩ := x
 exact flat_print hk
theorem nl_fun {x : Nd} (h : Q2 x 1 = true) : ∃ k n m ks, x = .mk k n m ks /\ k = 26 /\ 0 < ks.length /\ nlC (Wb x) = nlC (stT (ks.getD (ks.length - 1) (.mk 0 0 0 [])) 0) /\ inOk (ks.getD (ks.length - 1) (.mk 0 0 0 [])) = true /\ nlC (Wb x) = nlC (funT x) := by
 have hf := fit_funok x h
 obtain ⟨k, n, m, ks⟩ := x
 have hk := (kind_is h).2.2.2.1 rfl
 have h1 : ¬ k = 27 := by omega
 have hpr : Wb (.mk k n m ks) = funT (.mk k n m ks) := by
  unfold Wb
  rw [prOk, prT]
  simp only [h1, hk, if_false, if_true]
  rw [hk] at hf
  rw [if_pos (by simpa using hf)]
  simp
 have hf2 := hf
 rw [funOk] at hf2
 simp only [Bool.and_eq_true, decide_eq_true_eq] at hf2
 obtain ⟨⟨⟨⟨⟨a1, a2⟩, a3⟩, a4⟩, a5⟩, a6⟩ := hf2
 refine ⟨k, n, m, ks, rfl, hk, a2, ?_, a6, by rw [hpr]⟩
 have hc : Li (Zm ((ks.take (ks.length - 1)).map typT)) := li_commas _ fun x hx => by obtain ⟨y, _, rfl⟩ := List.mem_map.1 hx; exact li_typ y
 rw [hpr, funT, decide_eq_true a1, decide_eq_true a2, a3, Bool.and_self, Bool.and_self, if_pos rfl, Z0, Z0, ZW (Zc (Zc (Zc (Zc (WI (by decide)) (qt n)) (WI (by decide))) hc) (WI (by decide))), ZW (WI (by decide)), (nl_block a6).1]
 omega
theorem kind_typ {x : Nd} {w : Int} (hw : w = 2 \/ w = 3) (h : Q2 x w = true) : 0 <= Z8 x /\ Z8 x <= 12 := by
 have ht := fit_typ x w hw h
 obtain ⟨k, n, m, ks⟩ := x
 show 0 <= k /\ k <= 12
 rw [typOk] at ht
 by_cases h3 : 0 <= k /\ k <= 3
 ·omega
 ·rw [if_neg (by omega), if_neg (by omega), if_neg (by omega)] at ht
  cases ht
theorem kind_flat {x : Nd} {w : Int} (hw : w = 2 \/ w = 3 \/ w = 4) (h : Q2 x w = true) : 0 <= Z8 x /\ Z8 x <= 12 := by
 rcases hw with rfl | rfl | rfl
 ·exact kind_typ (.inl rfl) h
 ·exact kind_typ (.inr rfl) h
 ·obtain ⟨k, n, m, ks⟩ := x
  have := (kind_is h).1 rfl
  show 0 <= k /\ k <= 12
  omega
theorem want_tab : ∀ j : Fin 28, ∀ i : Fin 9, (i.val : Int) < ((shapesL.getD j.val noSh).kids.length : Int) + (shapesL.getD j.val noSh).more ->
  (j.val <= 12 -> qq (shapesL.getD j.val noSh) i.val = 3 \/ qq (shapesL.getD j.val noSh) i.val = 4) /\ (j.val = 13 -> qq (shapesL.getD j.val noSh) i.val = 5) /\
  (14 <= j.val -> j.val <= 25 -> j.val ≠ 17 -> j.val ≠ 18 -> j.val ≠ 21 -> qq (shapesL.getD j.val noSh) i.val = 4) /\ (j.val = 17 \/ j.val = 18 -> qq (shapesL.getD j.val noSh) i.val = if i.val = 0 then 4 else 6) /\
  (j.val = 21 -> qq (shapesL.getD j.val noSh) i.val = 6) /\ (j.val = 27 -> qq (shapesL.getD j.val noSh) i.val = 1) := by decide +kernel
theorem more_tab : ∀ j : Fin 28, ((shapesL.getD j.val noSh).kids.length : Int) + (shapesL.getD j.val noSh).more <= 8 := by decide
structure Asked (k : Int) (ks : List Nd) : Prop where
 flat : (k <= 12 \/ (14 <= k /\ k <= 25 /\ k ≠ 17 /\ k ≠ 18 /\ k ≠ 21)) -> ∀ x ∈ ks, 0 <= Z8 x /\ Z8 x <= 12
 blk : k = 13 -> ∀ x ∈ ks, Q2 x 5 = true
 cond : k = 17 \/ k = 18 -> ∀ i (h : i < ks.length), if i = 0 then 0 <= Z8 ks[i] /\ Z8 ks[i] <= 12 else Q2 ks[i] 6 = true
 tri : k = 21 -> ∀ x ∈ ks, Q2 x 6 = true
 prog : k = 27 -> ∀ x ∈ ks, Q2 x 1 = true
 fn : k = 26 -> 0 < ks.length /\ ∀ i (h : i < ks.length), if i + 1 = ks.length then Q2 ks[i] 6 = true else 0 <= Z8 ks[i] /\ Z8 ks[i] <= 12
 len : (k = 17 -> ks.length = 3) /\ (k = 18 -> ks.length = 2) /\ (k = 21 -> ks.length = 2)
 kid : ∀ x ∈ ks, ∃ w, Q2 x w = true
theorem asked {k n m w : Int} {ks : List Nd} (h : Q2 (.mk k n m ks) w = true) : Asked k ks := by
 have hk := fit_k h
 by_cases h26 : k = 26
 ·subst h26
  rw [Q2, if_pos (by decide), if_pos rfl, fitsF_eq] at h
  simp only [Bool.and_eq_true] at h
  obtain ⟨⟨_, h1⟩, h2⟩ := h
  unfold rngB at h1
  unfold funB at h2
  simp only [Bool.and_eq_true, decide_eq_true_eq, List.length_map] at h1 h2
  simp [shapesL] at h1
  obtain ⟨⟨⟨c1, c2⟩, c3⟩, c4⟩ := h2
  have hl : 0 < ks.length := by
   by_cases h0 : ks.length = 0
   ·omega
   ·omega
  rw [ZB ks Q2 (by omega)] at c3
  have hkid : ∀ i (h : i < ks.length), if i + 1 = ks.length then Q2 ks[i] 6 = true else ∃ w, (w = 2 \/ w = 3) /\ Q2 ks[i] w = true := fun i hi => by
   split
   ·rename_i e
    have e2 : ks[i] = ks[ks.length - 1] := by congr 1; omega
    rw [e2]; exact c3
   ·have h3 := allI_iff.1 c4 i (by omega)
    rw [ZB ks Q2 (by omega)] at h3
    exact ⟨_, by split <;> simp, h3⟩
  refine ⟨fun h => by omega, fun h => by omega, fun h => by omega, fun h => by omega, fun h => by omega, fun _ => ⟨hl, fun i hi => ?_⟩, ⟨fun h => by omega, fun h => by omega, fun h => by omega⟩, fun x hx => ?_⟩
  ·have := hkid i hi
   split
   ·rename_i e; rw [if_pos e] at this; exact this
   ·rename_i e
    rw [if_neg e] at this
    obtain ⟨w, hw, hf⟩ := this
    exact kind_typ hw hf
  ·obtain ⟨i, hi, rfl⟩ := List.getElem_of_mem hx
   have := hkid i hi
   split at this
   ·exact ⟨_, this⟩
   ·obtain ⟨w, _, hf⟩ := this
    exact ⟨w, hf⟩
 ·have hf := fit_inv h h26
  have hmt := more_tab ⟨k.toNat, by omega⟩
  have hwt := fun i (hi : i < ks.length) => want_tab ⟨k.toNat, by omega⟩ ⟨i, by have := hf.more; dsimp only at hmt; omega⟩ (by have := hf.more; dsimp only; omega)
  dsimp only at hwt
  have hkd := hf.kid
  refine ⟨fun hc x hx => ?_, fun hc x hx => ?_, fun hc i hi => ?_, fun hc x hx => ?_, fun hc x hx => ?_, fun hc => absurd hc h26, ⟨fun hc => ?_, fun hc => ?_, fun hc => ?_⟩, fun x hx => ?_⟩
  ·obtain ⟨i, hi, rfl⟩ := List.getElem_of_mem hx
   obtain ⟨t1, _, t3, _⟩ := hwt i hi
   have h4 := hkd i hi
   rcases hc with hc | hc
   ·refine kind_flat ?_ h4
    rcases t1 (by omega) with h | h
    ·exact .inr (.inl h)
    ·exact .inr (.inr h)
   ·exact kind_flat (.inr (.inr (t3 (by omega) (by omega) (by omega) (by omega) (by omega)))) h4
  ·obtain ⟨i, hi, rfl⟩ := List.getElem_of_mem hx
   obtain ⟨_, t2, _⟩ := hwt i hi
   have h4 := hkd i hi
   rwa [t2 (by omega)] at h4
  ·obtain ⟨_, _, _, t4, _⟩ := hwt i hi
   have h4 := hkd i hi
   rw [t4 (by omega)] at h4
   split
   ·rename_i e
    rw [if_pos e] at h4
    exact kind_flat (.inr (.inr rfl)) h4
   ·rename_i e
    rwa [if_neg e] at h4
  ·obtain ⟨i, hi, rfl⟩ := List.getElem_of_mem hx
   obtain ⟨_, _, _, _, t5, _⟩ := hwt i hi
   have h4 := hkd i hi
   rwa [t5 (by omega)] at h4
  ·obtain ⟨i, hi, rfl⟩ := List.getElem_of_mem hx
   obtain ⟨_, _, _, _, _, t6⟩ := hwt i hi
   have h4 := hkd i hi
   rwa [t6 (by omega)] at h4
  ·subst hc
   have h1 := hf.least
   have h2 := hf.more
   simp [shapesL] at h1 h2
   omega
  ·subst hc
   have h1 := hf.least
   have h2 := hf.more
   simp [shapesL] at h1 h2
   omega
  ·subst hc
   have h1 := hf.least
   have h2 := hf.more
   simp [shapesL] at h1 h2
   omega
  ·obtain ⟨i, hi, rfl⟩ := List.getElem_of_mem hx
   exact ⟨_, hkd i hi⟩
theorem nl_st {x : Nd} (h : Q2 x 5 = true) : nlC (Wb x) = nlC (stT x 0) /\ 1 <= nlC (stT x 0) := by
 have hs := (fit_st x).1 h
 obtain ⟨k, n, m, ks⟩ := x
 have hk := (kind_is h).2.2.1 rfl
 refine ⟨by rw [print_st hk hs], ?_⟩
 have lo : ∀ s : List UInt8, Li s -> 1 <= nlC (ZN 0 s) := fun s hs => by rw [ZW hs]; exact Nat.le_refl _
 have lc := lo sClose (WI (by decide))
 rw [stT]
 repeat' split
 all_goals try simp only [Z0]
 all_goals first | omega | exact lo _ (li_sim _)
theorem nl_blk {x : Nd} (h : Q2 x 6 = true) : nlC (Wb x) = nlC (stT x 0) /\ nlC (stT x 0) = nlC (inT x 0) + 2 /\ Z8 x = 13 := by
 obtain ⟨h1, h2⟩ := nl_block ((fit_st x).2 h)
 exact ⟨(nl_st (fit_block h)).1, h1, h2⟩
theorem befP_split (ks : List Nd) (i : Nat) : befP ks = befP (ks.take i) + befP (ks.drop i) := by
 unfold befP
 rw [<- List.sum_append, <- List.map_append, List.take_append_drop]
structure NodeL (k n m : Int) (ks : List Nd) : Prop where
 low : ∀ i, i < ks.length -> 0 <= Zn k ks (i : Nat)
 first : k = 13 -> ∀ i, i < ks.length -> 0 < Zn k ks (i : Nat)
 grow : k = 13 -> ∀ i, i + 1 < ks.length -> Zn k ks (i : Nat) < Zn k ks ((i + 1 : Nat) : Int)
 flat : ∀ i (h : i < ks.length), 0 <= Z8 ks[i] -> Z8 ks[i] <= 12 -> Zn k ks (i : Nat) = 0
 top : ∀ i (h : i < ks.length), Zn k ks (i : Nat) + ((max (nlC (Wb ks[i])) 1 : Nat) : Int) <= ((max (nlC (Wb (.mk k n m ks))) 1 : Nat) : Int)
theorem step_none {k : Int} {ks : List Nd} (h : k ≠ 27 /\ k ≠ 13 /\ k ≠ 17 /\ k ≠ 21) (a : Int) : Zn k ks a = 0 := by
 unfold Zn
 rw [if_neg (by omega), if_neg (by omega)]
theorem getD_nd {ks : List Nd} {i : Nat} (h : i < ks.length) : ks.getD i (.mk 0 0 0 []) = ks[i] := by
 rw [List.getD_eq_getElem?_getD, List.getElem?_eq_getElem h]; rfl
theorem kindN_eq {x : Nd} {w : Int} (h : Q2 x w = true) : (w = 5 -> 13 <= Z8 x /\ Z8 x <= 25) /\ (w = 1 -> Z8 x = 26) := by
 obtain ⟨k, n, m, ks⟩ := x
 exact ⟨(kind_is h).2.2.1, (kind_is h).2.2.2.1⟩
theorem node_l {k n m w : Int} {ks : List Nd} (h : Q2 (.mk k n m ks) w = true) : NodeL k n m ks := by
 have hk := fit_k h
 have ha := asked h
 by_cases hflat : k <= 12 \/ (14 <= k /\ k <= 25 /\ k ≠ 17 /\ k ≠ 18 /\ k ≠ 21)
 ·have hst := fun a => step_none (k := k) (ks := ks) (by omega) a
  refine ⟨fun i hi => by rw [hst]; exact Int.le_refl _, fun h => by omega, fun h => by omega, fun i hi _ _ => hst _, fun i hi => ?_⟩
  have := flat_kind (ha.flat hflat _ (List.getElem_mem hi))
  rw [hst, this]
  omega
 by_cases h13 : k = 13
 ·have hb := ha.blk h13
  have hst : ∀ i : Nat, Zn k ks (i : Nat) = 1 + (befP (ks.take i) : Nat) := fun i => by
   unfold Zn
   rw [if_pos (.inr h13), Int.toNat_natCast]
  have hg : ∀ i (h : i < ks.length), 1 <= nlC (Wb ks[i]) := fun i hi => by
   have := nl_st (hb _ (List.getElem_mem hi))
   omega
  have hself : nlC (Wb (.mk k n m ks)) = 2 + befP ks := by
   have hw : Q2 (.mk k n m ks) 6 = true \/ True := .inr trivial
   have hin : inOk (.mk k n m ks) = true := by
    have hf := fit_inv h (by omega)
    have his := hf.is
    subst h13
    simp [shapesL] at his
    rcases his with e | e
    ·rw [<- e] at h; exact (fit_st _).2 h
    ·rw [e] at h
     have h6 : Q2 (.mk 13 n m ks) 6 = true := by
      rw [Q2] at h ⊢
      rw [if_pos (by decide)] at h ⊢
      simp only [Bool.and_eq_true] at h ⊢
      exact ⟨⟨by decide, h.1.2⟩, h.2⟩
     exact (fit_st _).2 h6
   have h5 : stOk (.mk k n m ks) = true := by
    rw [inOk] at hin
    simp only [Bool.and_eq_true, decide_eq_true_eq] at hin
    rw [stOk, if_pos h13, hin.1.2, hin.2]; rfl
   rw [print_st (by omega) h5, (nl_block hin).1]
   rw [inOk] at hin
   simp only [Bool.and_eq_true, decide_eq_true_eq] at hin
   rw [inT, decide_eq_true h13, hin.1.2, Bool.and_self, if_pos rfl, nl_sts]
   have : (ks.map fun x => nlC (stT x 0)) = ks.map fun x => nlC (Wb x) := List.map_congr_left fun x hx => by
    rw [(nl_st (hb x hx)).1]
   rw [this]
   unfold befP
   omega
  refine ⟨fun i hi => by rw [hst]; omega, fun _ i hi => by rw [hst]; omega, fun _ i hi => ?_, fun i hi h1 h2 => ?_, fun i hi => ?_⟩
  ·rw [hst, hst, befP_take (show i < ks.length by omega)]
   have := hg i (by omega)
   omega
  ·have := (kindN_eq (hb _ (List.getElem_mem hi))).1 rfl
   omega
  ·rw [hst, hself]
   have h1 := befP_take hi
   have h2 := befP_split ks (i + 1)
   have h3 := hg i hi
   omega
 by_cases h17 : k = 17
 ·have hl := ha.len.1 h17
  have hc := ha.cond (.inl h17)
  have hok : stOk (.mk k n m ks) = true := by
   have hf := fit_inv h (by omega)
   have his := hf.is
   subst h17
   simp [shapesL] at his
   rw [<- his] at h
   exact (fit_st _).1 h
  match ks, hl, hc with
  | [a, b, c], _, hc =>
  have c0 : 0 <= Z8 a /\ Z8 a <= 12 := hc 0 (by simp)
  have c1 : Q2 b 6 = true := hc 1 (by simp)
  have c2 : Q2 c 6 = true := hc 2 (by simp)
  obtain ⟨b1, b2, b3⟩ := nl_blk c1
  obtain ⟨d1, d2, d3⟩ := nl_blk c2
  have e0 := flat_kind c0
  have hex : Li (exT a) := li_ex a
  have hok2 := hok
  rw [stOk, if_neg h13, if_pos h17] at hok2
  simp only [Bool.and_eq_true] at hok2
  have hself : nlC (Wb (.mk k n m [a, b, c])) + 1 = nlC (Wb b) + nlC (Wb c) := by
   rw [print_st (by omega) hok, stT, if_neg h13, if_pos ⟨h17, hok2.1.1.1⟩, inTs_eq]
   simp only [Z0]
   rw [ZW (Zc (Zc (WI (by decide)) (by exact hex)) (WI (by decide))), ZW (s := sElse) (WI (by decide)), ZW (s := sClose) (WI (by decide))]
   show 1 + nlC (inT b 0) + 1 + nlC (inT c 0) + 1 + 1 = _
   omega
  have s0 : Zn k [a, b, c] ((0 : Nat) : Int) = 0 := by unfold Zn; rw [if_neg (by omega), if_neg (by omega)]
  have s1 : Zn k [a, b, c] ((1 : Nat) : Int) = 0 := by unfold Zn; rw [if_neg (by omega), if_neg (by omega)]
  have s2 : Zn k [a, b, c] ((2 : Nat) : Int) = (nlC (Wb b) : Nat) - 1 := by unfold Zn; rw [if_neg (by omega), if_pos (.inl ⟨h17, rfl⟩)]; rfl
  refine ⟨fun i hi => ?_, fun h => by omega, fun h => by omega, fun i hi q1 q2 => ?_, fun i hi => ?_⟩
  ·match i, hi with
   | 0, _ => omega
   | 1, _ => omega
   | 2, _ => omega
   | i + 3, hi => simp at hi; omega
  ·match i, hi with
   | 0, _ => exact s0
   | 1, _ => exact s1
   | 2, _ => exfalso; have : Z8 ([a, b, c][2]) = 13 := d3; omega
   | i + 3, hi => simp at hi; omega
  ·match i, hi with
   | 0, _ => show Zn k [a, b, c] ((0 : Nat) : Int) + ((max (nlC (Wb a)) 1 : Nat) : Int) <= _; omega
   | 1, _ => show Zn k [a, b, c] ((1 : Nat) : Int) + ((max (nlC (Wb b)) 1 : Nat) : Int) <= _; omega
   | 2, _ => show Zn k [a, b, c] ((2 : Nat) : Int) + ((max (nlC (Wb c)) 1 : Nat) : Int) <= _; omega
   | i + 3, hi => simp at hi; omega
 by_cases h18 : k = 18
 ·have hl := ha.len.2.1 h18
  have hc := ha.cond (.inr h18)
  have hok : stOk (.mk k n m ks) = true := by
   have hf := fit_inv h (by omega)
   have his := hf.is
   subst h18
   simp [shapesL] at his
   rw [<- his] at h
   exact (fit_st _).1 h
  match ks, hl, hc with
  | [a, b], _, hc =>
  have c0 : 0 <= Z8 a /\ Z8 a <= 12 := hc 0 (by simp)
  have c1 : Q2 b 6 = true := hc 1 (by simp)
  obtain ⟨b1, b2, b3⟩ := nl_blk c1
  have e0 := flat_kind c0
  have hex : Li (exT a) := li_ex a
  have hok2 := hok
  rw [stOk, if_neg h13, if_neg h17, if_pos h18] at hok2
  simp only [Bool.and_eq_true] at hok2
  have hself : nlC (Wb (.mk k n m [a, b])) = nlC (Wb b) := by
   rw [print_st (by omega) hok, stT, if_neg h13, if_neg (by omega), if_pos ⟨h18, hok2.1.1⟩, inTs_eq]
   simp only [Z0]
   rw [ZW (Zc (Zc (WI (by decide)) (by exact hex)) (WI (by decide))), ZW (s := sClose) (WI (by decide))]
   show 1 + nlC (inT b 0) + 1 = _
   omega
  have hst := fun q => step_none (k := k) (ks := [a, b]) (by omega) q
  refine ⟨fun i hi => by rw [hst]; exact Int.le_refl _, fun h => by omega, fun h => by omega, fun i hi _ _ => hst _, fun i hi => ?_⟩
  rw [hst, hself]
  match i, hi with
  | 0, _ => show 0 + ((max (nlC (Wb a)) 1 : Nat) : Int) <= _; omega
  | 1, _ => show 0 + ((max (nlC (Wb b)) 1 : Nat) : Int) <= _; omega
  | i + 2, hi => simp at hi; omega
 by_cases h21 : k = 21
 ·have hl := ha.len.2.2 h21
  have hc := ha.tri h21
  have hok : stOk (.mk k n m ks) = true := by
   have hf := fit_inv h (by omega)
   have his := hf.is
   subst h21
   simp [shapesL] at his
   rw [<- his] at h
   exact (fit_st _).1 h
  match ks, hl, hc with
  | [b, c], _, hc =>
  have c1 : Q2 b 6 = true := hc b (by simp)
  have c2 : Q2 c 6 = true := hc c (by simp)
  obtain ⟨b1, b2, b3⟩ := nl_blk c1
  obtain ⟨d1, d2, d3⟩ := nl_blk c2
  have hok2 := hok
  rw [stOk, if_neg h13, if_neg h17, if_neg h18, if_pos h21] at hok2
  simp only [Bool.and_eq_true] at hok2
  have hself : nlC (Wb (.mk k n m [b, c])) + 1 = nlC (Wb b) + nlC (Wb c) := by
   rw [print_st (by omega) hok, stT, if_neg h13, if_neg (by omega), if_neg (by omega), if_pos ⟨h21, hok2.1.1.1⟩, inTs_eq]
   simp only [Z0]
   rw [ZW (s := sTry) (WI (by decide)), ZW (s := sCatch ++ Lib.itoa n ++ sBr) (Zc (Zc (WI (by decide)) (qt n)) (WI (by decide))), ZW (s := sClose) (WI (by decide))]
   show 1 + nlC (inT b 0) + 1 + nlC (inT c 0) + 1 + 1 = _
   omega
  have s0 : Zn k [b, c] ((0 : Nat) : Int) = 0 := by unfold Zn; rw [if_neg (by omega), if_neg (by omega)]
  have s1 : Zn k [b, c] ((1 : Nat) : Int) = (nlC (Wb b) : Nat) - 1 := by unfold Zn; rw [if_neg (by omega), if_pos (.inr ⟨h21, rfl⟩)]; rfl
  refine ⟨fun i hi => ?_, fun h => by omega, fun h => by omega, fun i hi q1 q2 => ?_, fun i hi => ?_⟩
  ·match i, hi with
   | 0, _ => omega
   | 1, _ => omega
   | i + 2, hi => simp at hi; omega
  ·match i, hi with
   | 0, _ => exact s0
   | 1, _ => exfalso; have : Z8 ([b, c][1]) = 13 := d3; omega
   | i + 2, hi => simp at hi; omega
  ·match i, hi with
   | 0, _ => show Zn k [b, c] ((0 : Nat) : Int) + ((max (nlC (Wb b)) 1 : Nat) : Int) <= _; omega
   | 1, _ => show Zn k [b, c] ((1 : Nat) : Int) + ((max (nlC (Wb c)) 1 : Nat) : Int) <= _; omega
   | i + 2, hi => simp at hi; omega
 by_cases h26 : k = 26
 ·obtain ⟨hl, hfn⟩ := ha.fn h26
  have hw : Q2 (.mk k n m ks) 1 = true := by
   have his := fit_is h
   subst h26
   simp [shapesL] at his
   rw [<- his] at h
   exact h
  obtain ⟨k', n', m', ks', he, _, _, e1, e2, _⟩ := nl_fun hw
  cases he
  rw [getD_nd (show ks.length - 1 < ks.length by omega)] at e1 e2
  have hlast := hfn (ks.length - 1) (by omega)
  rw [if_pos (by omega)] at hlast
  obtain ⟨b1, b2, b3⟩ := nl_blk hlast
  have hst := fun q => step_none (k := k) (ks := ks) (by omega) q
  refine ⟨fun i hi => by rw [hst]; exact Int.le_refl _, fun h => by omega, fun h => by omega, fun i hi _ _ => hst _, fun i hi => ?_⟩
  rw [hst, e1]
  have := hfn i hi
  split at this
  ·have e3 : ks[i] = ks[ks.length - 1] := by congr 1; omega
   rw [e3, b1]; omega
  ·rw [flat_kind this]; omega
 ·have h27 : k = 27 := by omega
  have hb := ha.prog h27
  have hst : ∀ i : Nat, Zn k ks (i : Nat) = 1 + (befP (ks.take i) : Nat) := fun i => by
   unfold Zn
   rw [if_pos (.inl h27), Int.toNat_natCast]
  have hg : ∀ i (h : i < ks.length), 1 <= nlC (Wb ks[i]) := fun i hi => by
   obtain ⟨k', n', m', ks', he, _, _, e1, e2, _⟩ := nl_fun (hb _ (List.getElem_mem hi))
   rw [e1, (nl_block e2).1]; omega
  have hself : nlC (Wb (.mk k n m ks)) = 1 + befP ks := by
   have hw : Q2 (.mk k n m ks) 0 = true := by
    have his := fit_is h
    subst h27
    simp [shapesL] at his
    rw [<- his] at h
    exact h
   have hp := fit_pr _ hw
   unfold Wb
   rw [if_pos hp, prT, if_pos h27, Z0, ZW (Zc (WI (by decide)) (qt n))]
   have : ∀ l : List Nd, (∀ x ∈ l, nlC (Wb x) = nlC (funT x)) -> nlC ((l.map funT).flatten) = befP l := by
    intro l
    induction l with
    | nil => intro _; rfl
    | cons x r ih =>
     intro hx
     rw [List.map_cons, List.flatten_cons, Z0, ih fun y hy => hx y (by simp [hy])]
     have := hx x (by simp)
     have e : befP (x :: r) = nlC (Wb x) + befP r := by unfold befP; rw [List.map_cons, List.sum_cons]
     omega
   rw [this ks fun x hx => by obtain ⟨k', n', m', ks', he, _, _, e1, e2, e3⟩ := nl_fun (hb x hx); exact e3]
  refine ⟨fun i hi => by rw [hst]; omega, fun h => absurd h h13, fun h => absurd h h13, fun i hi h1 h2 => ?_, fun i hi => ?_⟩
  ·have := (kindN_eq (hb _ (List.getElem_mem hi))).2 rfl
   omega
  ·rw [hst, hself]
   have h1 := befP_take hi
   have h2 := befP_split ks (i + 1)
   have h3 := hg i hi
   omega
theorem line_in (x : Nd) : ∀ (w a : Int) (p : List Int), Q2 x w = true -> p ∈ Zp x -> a <= Z7 p x a /\ Z7 p x a + 1 <= a + ((max (nlC (Wb x)) 1 : Nat) : Int) := by
 induction x using Nd.ind with
 | h k n m ks ih =>
 intro w a p h hp
 rw [ZE] at hp
 rcases List.mem_cons.1 hp with rfl | hp
 ·rw [Z7]; omega
 ·obtain ⟨j, hj, q, rfl, hq⟩ := mem_pathsL hp
  rw [Nat.zero_add]
  have hn := node_l h
  obtain ⟨w', hw'⟩ := (asked h).kid _ (List.getElem_mem hj)
  rw [Z7, Int.toNat_natCast, getD_nd hj]
  obtain ⟨i1, i2⟩ := ih _ (List.getElem_mem hj) w' (a + Zn k ks (j : Nat)) q hw' hq
  have l1 := hn.low j hj
  have l2 := hn.top j hj
  omega
theorem lineGo_app (q : List Int) : ∀ (p : List Int) (t : Nd) (a : Int), Z7 (p ++ q) t a = Z7 q (subN p t) (Z7 p t a)
 | [], t, a => by rw [List.nil_append, Z7, subN]
 | i :: p, .mk k n m ks, a => by rw [List.cons_append, Z7, Z7, subN, lineGo_app q p]
theorem subN_cons {j : Nat} {p : List Int} {k n m : Int} {ks : List Nd} (h : j < ks.length) : subN ((j : Int) :: p) (.mk k n m ks) = subN p ks[j] := by
 rw [subN, Int.toNat_natCast, getD_nd h]
theorem sub_fit (p : List Int) : ∀ (t : Nd) (w : Int), Q2 t w = true -> p ∈ Zp t -> ∃ w', Q2 (subN p t) w' = true := by
 induction p with
 | nil => intro t w h _; exact ⟨w, by rw [subN]; exact h⟩
 | cons i p ih =>
  rintro ⟨k, n, m, ks⟩ w h hp
  rw [ZE] at hp
  rcases List.mem_cons.1 hp with e | hp
  ·cases e
  obtain ⟨j, hj, q, he, hq⟩ := mem_pathsL hp
  rw [Nat.zero_add] at he
  cases he
  rw [subN_cons hj]
  obtain ⟨w', hw'⟩ := (asked h).kid _ (List.getElem_mem hj)
  exact ih _ w' hw' hq
theorem subN_app (q : List Int) : ∀ (p : List Int) (t : Nd), subN (p ++ q) t = subN q (subN p t)
 | [], t => by rw [List.nil_append, subN]
 | i :: p, .mk k n m ks => by rw [List.cons_append, subN, subN, subN_app q p]
theorem sub_size (p : List Int) : ∀ t : Nd, Qr (subN p t) <= Qr t := by
 induction p with
 | nil => intro t; rw [subN]; exact Nat.le_refl _
 | cons i p ih =>
  rintro ⟨k, n, m, ks⟩
  rw [subN, Qr]
  have h1 := ih (ks.getD i.toNat (.mk 0 0 0 []))
  by_cases h : i.toNat < ks.length
  ·rw [getD_nd h] at h1 ⊢
   have := Wf (List.getElem_mem h)
   omega
  ·have e : ks.getD i.toNat (.mk 0 0 0 []) = .mk 0 0 0 [] := by rw [List.getD_eq_getElem?_getD, List.getElem?_eq_none (by omega)]; rfl
   rw [e] at h1 ⊢
   rw [Qr, QD] at h1
   omega
theorem mem_pathsL_of {ks : List Nd} {q : List Int} : ∀ {i j : Nat} (h : j < ks.length), q ∈ Zp ks[j] -> ((i + j : Nat) : Int) :: q ∈ ZF i ks := by
 induction ks with
 | nil => intro i j h; exact absurd h (Nat.not_lt_zero _)
 | cons x r ih =>
  intro i j h hq
  rw [ZF, List.mem_append, List.mem_map]
  cases j with
  | zero => exact .inl ⟨q, hq, rfl⟩
  | succ j =>
   right
   have := ih (i := i + 1) (j := j) (by simpa using h) hq
   rwa [show i + 1 + j = i + (j + 1) by omega] at this
theorem sub_path (p : List Int) : ∀ (t : Nd), p ∈ Zp t -> ∀ {k n m : Int} {ks : List Nd}, subN p t = .mk k n m ks -> ∀ i, i < ks.length -> p ++ [(i : Int)] ∈ Zp t := by
 induction p with
 | nil =>
  rintro t _ k n m ks he i hi
  rw [subN] at he
  subst he
  rw [ZE, List.nil_append]
  refine List.mem_cons_of_mem _ ?_
  have := mem_pathsL_of (i := 0) (q := []) hi (by obtain ⟨a, b, c, d⟩ := ks[i]; rw [ZE]; exact List.mem_cons_self ..)
  rwa [Nat.zero_add] at this
 | cons a p ih =>
  rintro ⟨k0, n0, m0, ks0⟩ hp k n m ks he i hi
  rw [ZE] at hp
  rcases List.mem_cons.1 hp with e | hp
  ·cases e
  obtain ⟨j, hj, q, he2, hq⟩ := mem_pathsL hp
  rw [Nat.zero_add] at he2
  cases he2
  rw [subN_cons hj] at he
  have := ih _ hq he i hi
  rw [ZE, List.cons_append]
  refine List.mem_cons_of_mem _ ?_
  have := mem_pathsL_of (i := 0) hj this
  rwa [Nat.zero_add] at this
theorem at_sub (p : List Int) : ∀ t : Nd, p ∈ Zp t -> atM p t = some (subN p t) := by
 induction p with
 | nil => intro t _; rw [atM, subN]
 | cons a p ih =>
  rintro ⟨k, n, m, ks⟩ hp
  rw [ZE] at hp
  rcases List.mem_cons.1 hp with e | hp
  ·cases e
  obtain ⟨j, hj, q, he, hq⟩ := mem_pathsL hp
  rw [Nat.zero_add] at he
  cases he
  rw [subN_cons hj, atM_cons (by omega) (by simpa using hj)]
  exact ih _ hq
structure LineL (v : Nd) : Prop where
 here : ∀ p ∈ Zp v, 1 <= lineM v p /\ lineM v p <= nlC (Wb v)
 below : ∀ p ∈ Zp v, ∀ {k n m : Int} {ks : List Nd}, subN p v = .mk k n m ks -> ∀ i, i < ks.length -> lineM v (p ++ [(i : Int)]) = lineM v p + Zn k ks (i : Nat)
 node : ∀ p ∈ Zp v, ∀ {k n m : Int} {ks : List Nd}, subN p v = .mk k n m ks -> NodeL k n m ks
theorem line_l {v : Nd} (hv : validM v = true) : LineL v := by
 have hpo := valid_pr hv
 unfold validM at hv
 simp only [Bool.and_eq_true, decide_eq_true_eq] at hv
 have hf := hv.2
 have hk : Z8 v = 27 := by
  obtain ⟨k, n, m, ks⟩ := v
  exact (kind_is hf).2.2.2.2 rfl
 have hne : 1 <= nlC (Wb v) := by
  obtain ⟨k, n, m, ks⟩ := v
  have hk : k = 27 := hk
  unfold Wb
  rw [if_pos hpo, prT, if_pos hk, Z0, ZW (Zc (WI (by decide)) (qt n))]
  omega
 have hp0 : Wb v ≠ [] := fun e => by rw [e] at hne; exact absurd hne (by decide)
 have hl : ∀ p ∈ Zp v, lineM v p = Z7 p v 1 := fun p hp => by
  unfold lineM
  rw [if_neg]
  rintro (e | e | e)
  ·rw [at_sub p v hp] at e; cases e
  ·exact e hk
  ·exact hp0 e
 refine ⟨fun p hp => ?_, fun p hp k n m ks he i hi => ?_, fun p hp k n m ks he => ?_⟩
 ·obtain ⟨h1, h2⟩ := line_in v 0 1 p hf hp
  rw [hl p hp]; omega
 ·rw [hl _ (sub_path p v hp he i hi), hl p hp, lineGo_app, he, Z7, Z7]
 ·obtain ⟨w, hw⟩ := sub_fit p v 0 hf hp
  rw [he] at hw
  exact node_l hw
end Go.Proofs
end
