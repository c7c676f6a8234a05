/-
  Part 5 of the proof: T7 T9 TB PN TC LI CP AvD2 LV AvL5.
-/
import Derived.Test.YtnppaoeijmgneaaGreatDoorZD1
import Derived.Test.YtnppaoeijmgneaaGreatDoorZD2
import Derived.Test.YtnppaoeijmgneaaGreatDoorZD3
import Derived.Test.YtnppaoeijmgneaaGreatDoorZD4
set_option linter.unusedSimpArgs false
set_option linter.unusedVariables false
set_option maxRecDepth 10000
set_option maxHeartbeats 4000000
section
namespace Go.Proofs
open Go.Av
variable {G : Nat -> DV}
attribute [local irreducible] OpSem Zh ZB ZP ACalls qu AClose RV
open Go.Bl
variable {o : List UInt8}
theorem simple1_c {k n m : Int} {ks : List Nd} (b : Bool) (g0 g1 gp gn : Nat) {B : Nat} (hlist : ∀ b, PE Tryz.prog G 84 (fun p g => [QT ks, .fn (.func 48) [.ptr p g 0] []]) o b (WA (WO (ks.map exT))) (b || !ks.all Zs)) : 
  ACalls Tryz.prog G B 138 [.ptr 3 gn 0, .ptr 2 gp 0] [pRow 0 1 g0 g1 o.length b, .row g1 (WE o), .row gp [.ptr 0 g0 0], .row gn [.i k, .i n, .i m, QT ks]]
   (fun d τ => d = WA (WO (ks.map exT)) /\ τ = [pRow 0 1 g0 g1 o.length (b || !ks.all Zs), .row g1 (WE o), .row gp [.ptr 0 g0 0], .row gn [.i k, .i n, .i m, QT ks]]) := by
 refine Qa Tryz.func138 rfl Tryz.ntmps138 rfl (t := [(0, .ptr 3 gn 0), (1, .ptr 2 gp 0)]) rfl fun E hE => ?_
 (repeat' first|(refine Qe ?_;(first|refine QJ rfl ?_|refine Qb rfl rfl rfl ?_|refine Zi 0 1 (hlist _) rfl rfl rfl rfl rfl rfl ?_|refine Qd rfl rfl ?_|refine QU rfl rfl ?_))|(refine Qk ?_;(first|refine Qi ?_|refine QK rfl ?_))|(refine Qj ?_;(first|refine Ql ?_|refine Qc ?_|refine Qt ?_)))
 exact e_1 (Tryz.results138) (Qg rfl) (c_same ⟨rfl, rfl⟩)
theorem simple_c (hG : G 6 = pow10T) (hG1 : G 1 = spaceT) (t : Nd) (hok : okN t) (hsz : Qx t <= 1000000) (bad : Bool) : PE Tryz.prog G 91 (fun p g => [.ptr p g 0, .agg (Enc.enc t)]) o bad (WA (simT t)) (bad || !ZA t) := fun g0 g1 B h0 h1 => by
 obtain ⟨k, n, m, ks⟩ := t
 rw [okN] at hok
 rw [Qx] at hsz
 have hl1 := WV ks
 have hl : ks.length <= 1048576 := by omega
 have hn : -9223372036854775808 <= n /\ n <= 9223372036854775807 := hok.1.2.1
 have hm : -9223372036854775808 <= m /\ m <= 9223372036854775807 := hok.1.2.2
 have hnl := W5 hok.1.2.1
 have hml := W5 hok.1.2.2
 have hcl := ZO exT ks (exs_len hok.2)
 have hlist : ∀ b, PE Tryz.prog G 84 (fun p g => [QT ks, .fn (.func 48) [.ptr p g 0] []]) o b (WA (WO (ks.map exT))) (b || !ks.all Zs) := fun b => list_c _ exT Zs ks b (fun x hx b => expr_c hG hG1 x (Ws hok.2 hx) (by have := Q9 hx;omega) b) hl (by omega)
 have hx : ∀ x ∈ ks, ∀ b, PE Tryz.prog G 48 (fun p g => [.ptr p g 0, .agg (Enc.enc x)]) o b (WA (exT x)) (b || !Zs x) := fun x hx b => expr_c hG hG1 x (Ws hok.2 hx) (by have := Q9 hx;omega) b
 have hxl : ∀ x ∈ ks, (exT x).length <= 60000000 := fun x hx => by have := qK x (Ws hok.2 hx);have := Q9 hx;omega
 clear hok
 rw [simT, ZA]
 rw [Q0]
 by_cases k14 : k = 14
 ·subst k14
  by_cases hp : Q3 m ks.length 1 = true
  ·have hpl : ∀ b, PE Tryz.prog G 42 (fun p g => [.ptr p g 0, .agg [.i 14, .i n, .i m, QT ks], .i 1]) o b (.b true) b := fun b => (Zp 14 n m ks 1 hl).conv (by rw [hp]) (by rw [hp];simp)
   refine Qa Tryz.func91 rfl Tryz.ntmps91 rfl (t := [(0, .ptr 0 g0 0), (1, .agg [.i _, .i n, .i m, QT ks])]) rfl fun E hE => ?_
   (repeat' first|(refine Qe ?_;(first|refine QI rfl ?_|refine QJ rfl ?_|(refine QB ?_;(first|refine WQ rfl rfl ?_|refine Qb rfl rfl rfl ?_))|(refine Qo ?_;(first|refine QO rfl rfl ?_|refine qe rfl rfl ?_))|(refine Qp ?_;(first|refine qq rfl rfl (simple1_c _ g0 g1 _ _ hlist) ?_|refine Zi 0 1 (hpl _) rfl rfl rfl rfl rfl rfl ?_|refine Zi 0 1 (Zw hG _ (by assumption)) rfl rfl rfl rfl rfl rfl ?_))|refine WK rfl rfl ?_|refine Qd rfl rfl ?_|refine QU rfl rfl ?_|refine QV rfl rfl (fun _ _ => ?_)))|(refine Qk ?_;(first|refine Qi ?_|refine QK rfl ?_|refine Wx rfl rfl rfl rfl ?_))|(refine Qj ?_;(first|refine Ql ?_|refine Qc ?_|refine Qf ?_|refine Qh rfl ?_|refine Qt ?_)))
   exact e_1 Tryz.results91 (Qg rfl) (c_pe (by simp [*]) (by simp [*, Bool.or_assoc]))
  ·have hp : Q3 m ks.length 1 = false := by rw [<- Bool.not_eq_true];exact hp
   have hpl : ∀ b, PE Tryz.prog G 42 (fun p g => [.ptr p g 0, .agg [.i 14, .i n, .i m, QT ks], .i 1]) o b (.b false) true := fun b => (Zp 14 n m ks 1 hl).conv (by rw [hp]) (by rw [hp];simp)
   refine Qa Tryz.func91 rfl Tryz.ntmps91 rfl (t := [(0, .ptr 0 g0 0), (1, .agg [.i _, .i n, .i m, QT ks])]) rfl fun E hE => ?_
   (repeat' first|(refine Qe ?_;(first|refine QI rfl ?_|refine QJ rfl ?_|(refine QB ?_;(first|refine WQ rfl rfl ?_|refine Qb rfl rfl rfl ?_))|refine QO rfl rfl ?_|(refine Qp ?_;(first|refine Zi 0 1 (Zl _) rfl rfl rfl rfl rfl rfl ?_|refine Zi 0 1 (hpl _) rfl rfl rfl rfl rfl rfl ?_))|(refine QX ?_;(first|refine WK rfl rfl ?_|refine Wr rfl rfl ?_))|refine Qd rfl rfl ?_|refine QU rfl rfl ?_|refine QV rfl rfl (fun _ _ => ?_)))|(refine Qk ?_;(first|refine Qi ?_|refine QK rfl ?_|refine Wx rfl rfl rfl rfl ?_|refine W1 rfl rfl rfl rfl ?_))|(refine Qj ?_;(first|refine Ql ?_|refine Qc ?_|refine Qf ?_|refine Qu ?_|refine Qm rfl ?_|refine Qt ?_)))
   exact e_1 Tryz.results91 (Qg rfl) (c_pe (by simp [*]) (by simp [*, Bool.or_assoc]))
 by_cases k15 : k = 15
 ·subst k15
  by_cases hp : Q3 m ks.length 2 = true
  ·have hpl : ∀ b, PE Tryz.prog G 42 (fun p g => [.ptr p g 0, .agg [.i 15, .i n, .i m, QT ks], .i 2]) o b (.b true) b := fun b => (Zp 15 n m ks 2 hl).conv (by rw [hp]) (by rw [hp];simp)
   have h2 : ks.length = 2 := by simp [Q3] at hp;omega
   match ks, h2 with
   | [a, b], _ =>
    have ha := hx a (by simp)
    have hb := hx b (by simp)
    have hal := hxl a (by simp)
    have hbl := hxl b (by simp)
    clear hx hxl hlist hcl
    refine Qa Tryz.func91 rfl Tryz.ntmps91 rfl (t := [(0, .ptr 0 g0 0), (1, .agg [.i _, .i n, .i m, QT [a, b]])]) rfl fun E hE => ?_
    (repeat' first|(refine Qe ?_;(first|refine QI rfl ?_|refine QJ rfl ?_|(refine QB ?_;(first|refine WQ rfl rfl ?_|refine Qb rfl rfl rfl ?_))|refine QO rfl rfl ?_|(refine Qp ?_;(first|refine Zi 0 1 (hpl _) rfl rfl rfl rfl rfl rfl ?_|refine Zi 0 1 (Zw hG _ (by assumption)) rfl rfl rfl rfl rfl rfl ?_|refine Zi 0 1 (ha _) rfl rfl rfl rfl rfl rfl ?_|refine Zi 0 1 (hb _) rfl rfl rfl rfl rfl rfl ?_))|(refine QX ?_;(first|refine WK rfl rfl ?_|refine Wr rfl rfl ?_))|refine Qd rfl rfl ?_|refine QU rfl rfl ?_|refine QV rfl rfl (fun _ _ => ?_)))|(refine Qk ?_;(first|refine Qi ?_|refine QK rfl ?_|refine Wx rfl rfl rfl rfl ?_|refine W1 rfl rfl rfl rfl ?_))|(refine Qj ?_;(first|refine Ql ?_|refine Qc ?_|refine Qf ?_|(refine Wn ?_;first|(refine QG (pfx3 _ _) 100 [(0, true), (1, true), (2, true), (6, true), (7, true), (8, true), (12, true), (3, false), (4, true), (5, true), (9, false), (10, true), (11, true), (13, false), (14, true), (15, true)] (by rfl) (by rfl) (by kernel_rfl) (by decide +kernel) (by decide +kernel) ⟨(_, _, _, _), rfl⟩ ?_)|(refine QG (pfx3 _ _) 100 [(0, true), (1, true), (2, true), (6, true), (7, true), (8, true), (9, true), (10, true), (14, true), (15, true), (16, true), (17, true), (18, true), (3, false), (4, true), (5, true), (11, false), (12, true), (13, true), (19, false), (20, true), (21, true)] (by rfl) (by rfl) (by kernel_rfl) (by decide +kernel) (by decide +kernel) ⟨(_, _, _, _), rfl⟩ ?_)|refine Q6 (by rfl) (by kernel_rfl) (by kernel_rfl) ?_|refine Q5 (by kernel_rfl) (by kernel_rfl) ?_)|refine Qh rfl ?_|refine Qm rfl ?_|refine Qt ?_))|(refine Zf ?_;(first|refine ZY ?_|refine i_st rfl rfl (fun _ => (by (repeat' first|(refine Qe ?_;(first|refine QJ rfl ?_|(refine QB ?_;(first|refine QR rfl ?_|refine Qb rfl rfl rfl ?_))|refine QC rfl rfl (by first|assumption|omega|(simp;done)|(simp;omega)) ?_|refine qe rfl rfl ?_|refine Qd rfl rfl ?_))|exact ⟨rfl, rfl⟩))) ?_|refine i_ef rfl ?_))|refine And.intro (Exists.intro ((_, _, _, _)) rfl) ?_)
    have hp2 : Q3 m 2 2 = true := hp
    exact e_1 Tryz.results91 (Qg rfl) (c_pe (by simp [*]) (by simp [*, Bool.or_assoc]))
  ·have hp : Q3 m ks.length 2 = false := by rw [<- Bool.not_eq_true];exact hp
   have hpl : ∀ b, PE Tryz.prog G 42 (fun p g => [.ptr p g 0, .agg [.i 15, .i n, .i m, QT ks], .i 2]) o b (.b false) true := fun b => (Zp 15 n m ks 2 hl).conv (by rw [hp]) (by rw [hp];simp)
   refine Qa Tryz.func91 rfl Tryz.ntmps91 rfl (t := [(0, .ptr 0 g0 0), (1, .agg [.i _, .i n, .i m, QT ks])]) rfl fun E hE => ?_
   (repeat' first|(refine Qe ?_;(first|refine QI rfl ?_|refine QJ rfl ?_|(refine QB ?_;(first|refine WQ rfl rfl ?_|refine Qb rfl rfl rfl ?_))|refine QO rfl rfl ?_|(refine Qp ?_;(first|refine Zi 0 1 (Zl _) rfl rfl rfl rfl rfl rfl ?_|refine Zi 0 1 (hpl _) rfl rfl rfl rfl rfl rfl ?_))|(refine QX ?_;(first|refine WK rfl rfl ?_|refine Wr rfl rfl ?_))|refine Qd rfl rfl ?_|refine QU rfl rfl ?_|refine QV rfl rfl (fun _ _ => ?_)))|(refine Qk ?_;(first|refine Qi ?_|refine QK rfl ?_|refine Wx rfl rfl rfl rfl ?_|refine W1 rfl rfl rfl rfl ?_))|(refine Qj ?_;(first|refine Ql ?_|refine Qc ?_|refine Qf ?_|refine Qu ?_|refine Qm rfl ?_|refine Qt ?_)))
   exact e_1 Tryz.results91 (Qg rfl) (c_pe (by simp [*]) (by simp [*, Bool.or_assoc]))
 by_cases k19 : k = 19
 ·subst k19
  by_cases hp : WJ n m ks.length 1 = true
  ·have hpl : ∀ b, PE Tryz.prog G 87 (fun p g => [.ptr p g 0, .agg [.i 19, .i n, .i m, QT ks], .i 1]) o b (.b true) b := fun b => (qE 19 n m ks 1 hl).conv (by rw [hp]) (by rw [hp];simp)
   refine Qa Tryz.func91 rfl Tryz.ntmps91 rfl (t := [(0, .ptr 0 g0 0), (1, .agg [.i _, .i n, .i m, QT ks])]) rfl fun E hE => ?_
   (repeat' first|(refine Qe ?_;(first|refine QI rfl ?_|refine QJ rfl ?_|(refine QB ?_;(first|refine WQ rfl rfl ?_|refine Qb rfl rfl rfl ?_))|(refine Qo ?_;(first|refine QO rfl rfl ?_|refine qe rfl rfl ?_))|(refine Qp ?_;(first|refine qq rfl rfl (simple1_c _ g0 g1 _ _ hlist) ?_|refine Zi 0 1 (hpl _) rfl rfl rfl rfl rfl rfl ?_))|(refine QX ?_;(first|refine WK rfl rfl ?_|refine Wr rfl rfl ?_))|refine Qd rfl rfl ?_|refine QU rfl rfl ?_|refine QV rfl rfl (fun _ _ => ?_)))|(refine Qk ?_;(first|refine Qi ?_|refine QK rfl ?_|refine Wx rfl rfl rfl rfl ?_|refine W1 rfl rfl rfl rfl ?_))|(refine Qj ?_;(first|refine Ql ?_|refine Qc ?_|refine Qf ?_|refine Qh rfl ?_|refine Qm rfl ?_|refine Qt ?_)))
   exact e_1 Tryz.results91 (Qg rfl) (c_pe (by simp [*]) (by simp [*, Bool.or_assoc]))
  ·have hp : WJ n m ks.length 1 = false := by rw [<- Bool.not_eq_true];exact hp
   have hpl : ∀ b, PE Tryz.prog G 87 (fun p g => [.ptr p g 0, .agg [.i 19, .i n, .i m, QT ks], .i 1]) o b (.b false) true := fun b => (qE 19 n m ks 1 hl).conv (by rw [hp]) (by rw [hp];simp)
   refine Qa Tryz.func91 rfl Tryz.ntmps91 rfl (t := [(0, .ptr 0 g0 0), (1, .agg [.i _, .i n, .i m, QT ks])]) rfl fun E hE => ?_
   (repeat' first|(refine Qe ?_;(first|refine QI rfl ?_|refine QJ rfl ?_|(refine QB ?_;(first|refine WQ rfl rfl ?_|refine Qb rfl rfl rfl ?_))|refine QO rfl rfl ?_|(refine Qp ?_;(first|refine Zi 0 1 (Zl _) rfl rfl rfl rfl rfl rfl ?_|refine Zi 0 1 (hpl _) rfl rfl rfl rfl rfl rfl ?_))|(refine QX ?_;(first|refine WK rfl rfl ?_|refine Wr rfl rfl ?_))|refine Qd rfl rfl ?_|refine QU rfl rfl ?_|refine QV rfl rfl (fun _ _ => ?_)))|(refine Qk ?_;(first|refine Qi ?_|refine QK rfl ?_|refine Wx rfl rfl rfl rfl ?_|refine W1 rfl rfl rfl rfl ?_))|(refine Qj ?_;(first|refine Ql ?_|refine Qc ?_|refine Qf ?_|refine Qu ?_|refine Qm rfl ?_|refine Qt ?_)))
   exact e_1 Tryz.results91 (Qg rfl) (c_pe (by simp [*]) (by simp [*, Bool.or_assoc]))
 by_cases k20 : k = 20
 ·subst k20
  by_cases hp : WJ n m ks.length 1 = true
  ·have hpl : ∀ b, PE Tryz.prog G 87 (fun p g => [.ptr p g 0, .agg [.i 20, .i n, .i m, QT ks], .i 1]) o b (.b true) b := fun b => (qE 20 n m ks 1 hl).conv (by rw [hp]) (by rw [hp];simp)
   refine Qa Tryz.func91 rfl Tryz.ntmps91 rfl (t := [(0, .ptr 0 g0 0), (1, .agg [.i _, .i n, .i m, QT ks])]) rfl fun E hE => ?_
   (repeat' first|(refine Qe ?_;(first|refine QI rfl ?_|refine QJ rfl ?_|(refine QB ?_;(first|refine WQ rfl rfl ?_|refine Qb rfl rfl rfl ?_))|(refine Qo ?_;(first|refine QO rfl rfl ?_|refine qe rfl rfl ?_))|(refine Qp ?_;(first|refine qq rfl rfl (simple1_c _ g0 g1 _ _ hlist) ?_|refine Zi 0 1 (hpl _) rfl rfl rfl rfl rfl rfl ?_))|(refine QX ?_;(first|refine WK rfl rfl ?_|refine Wr rfl rfl ?_))|refine Qd rfl rfl ?_|refine QU rfl rfl ?_|refine QV rfl rfl (fun _ _ => ?_)))|(refine Qk ?_;(first|refine Qi ?_|refine QK rfl ?_|refine Wx rfl rfl rfl rfl ?_|refine W1 rfl rfl rfl rfl ?_))|(refine Qj ?_;(first|refine Ql ?_|refine Qc ?_|refine Qf ?_|refine Qh rfl ?_|refine Qm rfl ?_|refine Qt ?_)))
   exact e_1 Tryz.results91 (Qg rfl) (c_pe (by simp [*]) (by simp [*, Bool.or_assoc]))
  ·have hp : WJ n m ks.length 1 = false := by rw [<- Bool.not_eq_true];exact hp
   have hpl : ∀ b, PE Tryz.prog G 87 (fun p g => [.ptr p g 0, .agg [.i 20, .i n, .i m, QT ks], .i 1]) o b (.b false) true := fun b => (qE 20 n m ks 1 hl).conv (by rw [hp]) (by rw [hp];simp)
   refine Qa Tryz.func91 rfl Tryz.ntmps91 rfl (t := [(0, .ptr 0 g0 0), (1, .agg [.i _, .i n, .i m, QT ks])]) rfl fun E hE => ?_
   (repeat' first|(refine Qe ?_;(first|refine QI rfl ?_|refine QJ rfl ?_|(refine QB ?_;(first|refine WQ rfl rfl ?_|refine Qb rfl rfl rfl ?_))|refine QO rfl rfl ?_|(refine Qp ?_;(first|refine Zi 0 1 (Zl _) rfl rfl rfl rfl rfl rfl ?_|refine Zi 0 1 (hpl _) rfl rfl rfl rfl rfl rfl ?_))|(refine QX ?_;(first|refine WK rfl rfl ?_|refine Wr rfl rfl ?_))|refine Qd rfl rfl ?_|refine QU rfl rfl ?_|refine QV rfl rfl (fun _ _ => ?_)))|(refine Qk ?_;(first|refine Qi ?_|refine QK rfl ?_|refine Wx rfl rfl rfl rfl ?_|refine W1 rfl rfl rfl rfl ?_))|(refine Qj ?_;(first|refine Ql ?_|refine Qc ?_|refine Qf ?_|refine Qu ?_|refine Qm rfl ?_|refine Qt ?_)))
   exact e_1 Tryz.results91 (Qg rfl) (c_pe (by simp [*]) (by simp [*, Bool.or_assoc]))
 by_cases k24 : k = 24
 ·subst k24
  by_cases hp : WJ n m ks.length 1 = true
  ·have hpl : ∀ b, PE Tryz.prog G 87 (fun p g => [.ptr p g 0, .agg [.i 24, .i n, .i m, QT ks], .i 1]) o b (.b true) b := fun b => (qE 24 n m ks 1 hl).conv (by rw [hp]) (by rw [hp];simp)
   refine Qa Tryz.func91 rfl Tryz.ntmps91 rfl (t := [(0, .ptr 0 g0 0), (1, .agg [.i _, .i n, .i m, QT ks])]) rfl fun E hE => ?_
   (repeat' first|(refine Qe ?_;(first|refine QI rfl ?_|refine QJ rfl ?_|(refine QB ?_;(first|refine WQ rfl rfl ?_|refine Qb rfl rfl rfl ?_))|(refine Qo ?_;(first|refine QO rfl rfl ?_|refine qe rfl rfl ?_))|(refine Qp ?_;(first|refine qq rfl rfl (simple1_c _ g0 g1 _ _ hlist) ?_|refine Zi 0 1 (hpl _) rfl rfl rfl rfl rfl rfl ?_))|(refine QX ?_;(first|refine WK rfl rfl ?_|refine Wr rfl rfl ?_))|refine Qd rfl rfl ?_|refine QU rfl rfl ?_|refine QV rfl rfl (fun _ _ => ?_)))|(refine Qk ?_;(first|refine Qi ?_|refine QK rfl ?_|refine Wx rfl rfl rfl rfl ?_|refine W1 rfl rfl rfl rfl ?_))|(refine Qj ?_;(first|refine Ql ?_|refine Qc ?_|refine Qf ?_|refine Qh rfl ?_|refine Qm rfl ?_|refine Qt ?_)))
   exact e_1 Tryz.results91 (Qg rfl) (c_pe (by simp [*]) (by simp [*, Bool.or_assoc]))
  ·have hp : WJ n m ks.length 1 = false := by rw [<- Bool.not_eq_true];exact hp
   have hpl : ∀ b, PE Tryz.prog G 87 (fun p g => [.ptr p g 0, .agg [.i 24, .i n, .i m, QT ks], .i 1]) o b (.b false) true := fun b => (qE 24 n m ks 1 hl).conv (by rw [hp]) (by rw [hp];simp)
   refine Qa Tryz.func91 rfl Tryz.ntmps91 rfl (t := [(0, .ptr 0 g0 0), (1, .agg [.i _, .i n, .i m, QT ks])]) rfl fun E hE => ?_
   (repeat' first|(refine Qe ?_;(first|refine QI rfl ?_|refine QJ rfl ?_|(refine QB ?_;(first|refine WQ rfl rfl ?_|refine Qb rfl rfl rfl ?_))|refine QO rfl rfl ?_|(refine Qp ?_;(first|refine Zi 0 1 (Zl _) rfl rfl rfl rfl rfl rfl ?_|refine Zi 0 1 (hpl _) rfl rfl rfl rfl rfl rfl ?_))|(refine QX ?_;(first|refine WK rfl rfl ?_|refine Wr rfl rfl ?_))|refine Qd rfl rfl ?_|refine QU rfl rfl ?_|refine QV rfl rfl (fun _ _ => ?_)))|(refine Qk ?_;(first|refine Qi ?_|refine QK rfl ?_|refine Wx rfl rfl rfl rfl ?_|refine W1 rfl rfl rfl rfl ?_))|(refine Qj ?_;(first|refine Ql ?_|refine Qc ?_|refine Qf ?_|refine Qu ?_|refine Qm rfl ?_|refine Qt ?_)))
   exact e_1 Tryz.results91 (Qg rfl) (c_pe (by simp [*]) (by simp [*, Bool.or_assoc]))
 by_cases k25 : k = 25
 ·subst k25
  by_cases hp : WJ n m ks.length 0 = true
  ·have hpl : ∀ b, PE Tryz.prog G 87 (fun p g => [.ptr p g 0, .agg [.i 25, .i n, .i m, QT ks], .i 0]) o b (.b true) b := fun b => (qE 25 n m ks 0 hl).conv (by rw [hp]) (by rw [hp];simp)
   refine Qa Tryz.func91 rfl Tryz.ntmps91 rfl (t := [(0, .ptr 0 g0 0), (1, .agg [.i _, .i n, .i m, QT ks])]) rfl fun E hE => ?_
   (repeat' first|(refine Qe ?_;(first|refine QI rfl ?_|refine QJ rfl ?_|(refine QB ?_;(first|refine WQ rfl rfl ?_|refine Qb rfl rfl rfl ?_))|refine QO rfl rfl ?_|refine Zi 0 1 (hpl _) rfl rfl rfl rfl rfl rfl ?_|(refine QX ?_;(first|refine WK rfl rfl ?_|refine Wr rfl rfl ?_))|refine Qd rfl rfl ?_|refine QU rfl rfl ?_|refine QV rfl rfl (fun _ _ => ?_)))|(refine Qk ?_;(first|refine Qi ?_|refine QK rfl ?_|refine Wx rfl rfl rfl rfl ?_|refine W1 rfl rfl rfl rfl ?_))|(refine Qj ?_;(first|refine Ql ?_|refine Qc ?_|refine Qf ?_|refine Qh rfl ?_|refine Qm rfl ?_|refine Qt ?_)))
   exact e_1 Tryz.results91 (Qg rfl) (c_pe (by simp [*]) (by simp [*, Bool.or_assoc]))
  ·have hp : WJ n m ks.length 0 = false := by rw [<- Bool.not_eq_true];exact hp
   have hpl : ∀ b, PE Tryz.prog G 87 (fun p g => [.ptr p g 0, .agg [.i 25, .i n, .i m, QT ks], .i 0]) o b (.b false) true := fun b => (qE 25 n m ks 0 hl).conv (by rw [hp]) (by rw [hp];simp)
   refine Qa Tryz.func91 rfl Tryz.ntmps91 rfl (t := [(0, .ptr 0 g0 0), (1, .agg [.i _, .i n, .i m, QT ks])]) rfl fun E hE => ?_
   (repeat' first|(refine Qe ?_;(first|refine QI rfl ?_|refine QJ rfl ?_|(refine QB ?_;(first|refine WQ rfl rfl ?_|refine Qb rfl rfl rfl ?_))|refine QO rfl rfl ?_|(refine Qp ?_;(first|refine Zi 0 1 (Zl _) rfl rfl rfl rfl rfl rfl ?_|refine Zi 0 1 (hpl _) rfl rfl rfl rfl rfl rfl ?_))|(refine QX ?_;(first|refine WK rfl rfl ?_|refine Wr rfl rfl ?_))|refine Qd rfl rfl ?_|refine QU rfl rfl ?_|refine QV rfl rfl (fun _ _ => ?_)))|(refine Qk ?_;(first|refine Qi ?_|refine QK rfl ?_|refine Wx rfl rfl rfl rfl ?_|refine W1 rfl rfl rfl rfl ?_))|(refine Qj ?_;(first|refine Ql ?_|refine Qc ?_|refine Qf ?_|refine Qu ?_|refine Qm rfl ?_|refine Qt ?_)))
   exact e_1 Tryz.results91 (Qg rfl) (c_pe (by simp [*]) (by simp [*, Bool.or_assoc]))
 by_cases k22 : k = 22
 ·subst k22
  by_cases hp : Q3 m ks.length 1 = true
  ·have hpl : ∀ b, PE Tryz.prog G 42 (fun p g => [.ptr p g 0, .agg [.i 22, .i n, .i m, QT ks], .i 1]) o b (.b true) b := fun b => (Zp 22 n m ks 1 hl).conv (by rw [hp]) (by rw [hp];simp)
   refine Qa Tryz.func91 rfl Tryz.ntmps91 rfl (t := [(0, .ptr 0 g0 0), (1, .agg [.i _, .i n, .i m, QT ks])]) rfl fun E hE => ?_
   (repeat' first|(refine Qe ?_;(first|refine QI rfl ?_|refine QJ rfl ?_|(refine QB ?_;(first|refine WQ rfl rfl ?_|refine Qb rfl rfl rfl ?_))|(refine Qo ?_;(first|refine QO rfl rfl ?_|refine qe rfl rfl ?_))|(refine Qp ?_;(first|refine qq rfl rfl (simple1_c _ g0 g1 _ _ hlist) ?_|refine Zi 0 1 (hpl _) rfl rfl rfl rfl rfl rfl ?_|refine Zi 0 1 (Zw hG _ (by assumption)) rfl rfl rfl rfl rfl rfl ?_))|(refine QX ?_;(first|refine WK rfl rfl ?_|refine Wr rfl rfl ?_))|refine Qd rfl rfl ?_|refine QU rfl rfl ?_|refine QV rfl rfl (fun _ _ => ?_)))|(refine Qk ?_;(first|refine Qi ?_|refine QK rfl ?_|refine Wx rfl rfl rfl rfl ?_|refine W1 rfl rfl rfl rfl ?_))|(refine Qj ?_;(first|refine Ql ?_|refine Qc ?_|refine Qf ?_|refine Qh rfl ?_|refine Qm rfl ?_|refine Qt ?_)))
   exact e_1 Tryz.results91 (Qg rfl) (c_pe (by simp [*]) (by simp [*, Bool.or_assoc]))
  ·have hp : Q3 m ks.length 1 = false := by rw [<- Bool.not_eq_true];exact hp
   have hpl : ∀ b, PE Tryz.prog G 42 (fun p g => [.ptr p g 0, .agg [.i 22, .i n, .i m, QT ks], .i 1]) o b (.b false) true := fun b => (Zp 22 n m ks 1 hl).conv (by rw [hp]) (by rw [hp];simp)
   refine Qa Tryz.func91 rfl Tryz.ntmps91 rfl (t := [(0, .ptr 0 g0 0), (1, .agg [.i _, .i n, .i m, QT ks])]) rfl fun E hE => ?_
   (repeat' first|(refine Qe ?_;(first|refine QI rfl ?_|refine QJ rfl ?_|(refine QB ?_;(first|refine WQ rfl rfl ?_|refine Qb rfl rfl rfl ?_))|refine QO rfl rfl ?_|(refine Qp ?_;(first|refine Zi 0 1 (Zl _) rfl rfl rfl rfl rfl rfl ?_|refine Zi 0 1 (hpl _) rfl rfl rfl rfl rfl rfl ?_))|(refine QX ?_;(first|refine WK rfl rfl ?_|refine Wr rfl rfl ?_))|refine Qd rfl rfl ?_|refine QU rfl rfl ?_|refine QV rfl rfl (fun _ _ => ?_)))|(refine Qk ?_;(first|refine Qi ?_|refine QK rfl ?_|refine Wx rfl rfl rfl rfl ?_|refine W1 rfl rfl rfl rfl ?_))|(refine Qj ?_;(first|refine Ql ?_|refine Qc ?_|refine Qf ?_|refine Qu ?_|refine Qm rfl ?_|refine Qt ?_)))
   exact e_1 Tryz.results91 (Qg rfl) (c_pe (by simp [*]) (by simp [*, Bool.or_assoc]))
 by_cases k23 : k = 23
 ·subst k23
  by_cases hp : Q3 m ks.length (-1) = true
  ·have hpl : ∀ b, PE Tryz.prog G 42 (fun p g => [.ptr p g 0, .agg [.i 23, .i n, .i m, QT ks], .i (-1)]) o b (.b true) b := fun b => (Zp 23 n m ks (-1) hl).conv (by rw [hp]) (by rw [hp];simp)
   refine Qa Tryz.func91 rfl Tryz.ntmps91 rfl (t := [(0, .ptr 0 g0 0), (1, .agg [.i _, .i n, .i m, QT ks])]) rfl fun E hE => ?_
   (repeat' first|(refine Qe ?_;(first|refine QI rfl ?_|refine QJ rfl ?_|(refine QB ?_;(first|refine WQ rfl rfl ?_|refine Qb rfl rfl rfl ?_))|(refine Qo ?_;(first|refine QO rfl rfl ?_|refine qe rfl rfl ?_))|(refine Qp ?_;(first|refine qq rfl rfl (simple1_c _ g0 g1 _ _ hlist) ?_|refine Zi 0 1 (hpl _) rfl rfl rfl rfl rfl rfl ?_|refine Zi 0 1 (Zw hG _ (by assumption)) rfl rfl rfl rfl rfl rfl ?_))|(refine QX ?_;(first|refine WK rfl rfl ?_|refine Wr rfl rfl ?_))|refine Qd rfl rfl ?_|refine QU rfl rfl ?_|refine QV rfl rfl (fun _ _ => ?_)))|(refine Qk ?_;(first|refine Qi ?_|refine QK rfl ?_|refine Wx rfl rfl rfl rfl ?_|refine W1 rfl rfl rfl rfl ?_))|(refine Qj ?_;(first|refine Ql ?_|refine Qc ?_|refine Qf ?_|refine Qh rfl ?_|refine Qm rfl ?_|refine Qt ?_)))
   exact e_1 Tryz.results91 (Qg rfl) (c_pe (by simp [*]) (by simp [*, Bool.or_assoc]))
  ·have hp : Q3 m ks.length (-1) = false := by rw [<- Bool.not_eq_true];exact hp
   have hpl : ∀ b, PE Tryz.prog G 42 (fun p g => [.ptr p g 0, .agg [.i 23, .i n, .i m, QT ks], .i (-1)]) o b (.b false) true := fun b => (Zp 23 n m ks (-1) hl).conv (by rw [hp]) (by rw [hp];simp)
   refine Qa Tryz.func91 rfl Tryz.ntmps91 rfl (t := [(0, .ptr 0 g0 0), (1, .agg [.i _, .i n, .i m, QT ks])]) rfl fun E hE => ?_
   (repeat' first|(refine Qe ?_;(first|refine QI rfl ?_|refine QJ rfl ?_|(refine QB ?_;(first|refine WQ rfl rfl ?_|refine Qb rfl rfl rfl ?_))|refine QO rfl rfl ?_|(refine Qp ?_;(first|refine Zi 0 1 (Zl _) rfl rfl rfl rfl rfl rfl ?_|refine Zi 0 1 (hpl _) rfl rfl rfl rfl rfl rfl ?_))|(refine QX ?_;(first|refine WK rfl rfl ?_|refine Wr rfl rfl ?_))|refine Qd rfl rfl ?_|refine QU rfl rfl ?_|refine QV rfl rfl (fun _ _ => ?_)))|(refine Qk ?_;(first|refine Qi ?_|refine QK rfl ?_|refine Wx rfl rfl rfl rfl ?_|refine W1 rfl rfl rfl rfl ?_))|(refine Qj ?_;(first|refine Ql ?_|refine Qc ?_|refine Qf ?_|refine Qu ?_|refine Qm rfl ?_|refine Qt ?_)))
   exact e_1 Tryz.results91 (Qg rfl) (c_pe (by simp [*]) (by simp [*, Bool.or_assoc]))
 by_cases k16 : k = 16
 ·subst k16
  by_cases hp : ks.length = 1
  ·refine Qa Tryz.func91 rfl Tryz.ntmps91 rfl (t := [(0, .ptr 0 g0 0), (1, .agg [.i _, .i n, .i m, QT ks])]) rfl fun E hE => ?_
   (repeat' first|(refine Qe ?_;(first|refine QI rfl ?_|refine QJ rfl ?_|refine Qb rfl rfl rfl ?_|refine QO rfl rfl ?_|(refine Qp ?_;(first|refine qq rfl rfl (simple1_c _ g0 g1 _ _ hlist) ?_|refine Zi 0 1 (Zl _) rfl rfl rfl rfl rfl rfl ?_|refine Zi 0 1 (Zw hG _ (by assumption)) rfl rfl rfl rfl rfl rfl ?_|refine Qz rfl ?_))|(refine QX ?_;(first|refine WK rfl rfl ?_|refine Wr rfl rfl ?_))|refine Qd rfl rfl ?_|refine QU rfl rfl ?_|refine QV rfl rfl (fun _ _ => ?_)))|(refine Qk ?_;(first|refine Qi ?_|refine QK rfl ?_|refine Wx rfl rfl rfl rfl ?_|refine W1 rfl rfl rfl rfl ?_))|(refine Qj ?_;(first|refine Ql ?_|refine Qc ?_|refine Qf ?_|(refine Wn ?_;first|(refine QG (pfx3 _ _) 100 [(0, true), (1, true), (2, true), (6, true), (7, true), (8, true), (12, true), (3, false), (4, true), (5, true), (9, false), (10, true), (11, true), (13, false), (14, true), (15, true)] (by rfl) (by rfl) (by kernel_rfl) (by decide +kernel) (by decide +kernel) ⟨(_, _, _, _), rfl⟩ ?_)|(refine QG (pfx3 _ _) 100 [(0, true), (1, true), (2, true), (6, true), (7, true), (8, true), (9, true), (10, true), (14, true), (15, true), (16, true), (17, true), (18, true), (3, false), (4, true), (5, true), (11, false), (12, true), (13, true), (19, false), (20, true), (21, true)] (by rfl) (by rfl) (by kernel_rfl) (by decide +kernel) (by decide +kernel) ⟨(_, _, _, _), rfl⟩ ?_)|refine Q6 (by rfl) (by kernel_rfl) (by kernel_rfl) ?_|refine Q5 (by kernel_rfl) (by kernel_rfl) ?_)|refine Qm rfl ?_|refine Qq rfl (by omega) ?_|refine Qt ?_))|(refine Zf ?_;(first|refine ZY ?_|refine i_st rfl rfl (fun _ => (by (repeat' first|(refine Qe ?_;(first|refine QI rfl ?_|refine QJ rfl ?_|refine Qb rfl rfl rfl ?_|refine qe rfl rfl ?_|refine Qd rfl rfl ?_))|exact ⟨rfl, rfl⟩))) ?_|refine i_ef rfl ?_))|refine And.intro (Exists.intro ((_, _, _, _)) rfl) ?_)
   exact e_1 Tryz.results91 (Qg rfl) (c_pe (by simp [*]) (by simp [*, Bool.or_assoc]))
  ·refine Qa Tryz.func91 rfl Tryz.ntmps91 rfl (t := [(0, .ptr 0 g0 0), (1, .agg [.i _, .i n, .i m, QT ks])]) rfl fun E hE => ?_
   (repeat' first|(refine Qe ?_;(first|refine QI rfl ?_|refine QJ rfl ?_|refine Qb rfl rfl rfl ?_|refine QO rfl rfl ?_|(refine Qp ?_;(first|refine Zi 0 1 (Zl _) rfl rfl rfl rfl rfl rfl ?_|refine Qz rfl ?_))|(refine QX ?_;(first|refine WK rfl rfl ?_|refine Wr rfl rfl ?_))|refine Qd rfl rfl ?_|refine QU rfl rfl ?_|refine QV rfl rfl (fun _ _ => ?_)))|(refine Qk ?_;(first|refine Qi ?_|refine QK rfl ?_|refine Wx rfl rfl rfl rfl ?_|refine W1 rfl rfl rfl rfl ?_))|(refine Qj ?_;(first|refine Ql ?_|refine Qc ?_|refine Qf ?_|refine Qu ?_|refine Qm rfl ?_|refine Qn rfl (by omega) ?_|refine Qt ?_)))
   exact e_1 Tryz.results91 (Qg rfl) (c_pe (by simp [*]) (by simp [*, Bool.or_assoc]))
 ·refine Qa Tryz.func91 rfl Tryz.ntmps91 rfl (t := [(0, .ptr 0 g0 0), (1, .agg [.i k, .i n, .i m, QT ks])]) rfl fun E hE => ?_
  (repeat' first|(refine Qe ?_;(first|refine QI rfl ?_|refine QJ rfl ?_|refine Qb rfl rfl rfl ?_|refine QO rfl rfl ?_|refine Zi 0 1 (Zl _) rfl rfl rfl rfl rfl rfl ?_|refine Wr rfl rfl ?_|refine Qd rfl rfl ?_|refine QU rfl rfl ?_|refine QV rfl rfl (fun _ _ => ?_)))|(refine Qk ?_;(first|refine Qi ?_|refine QK rfl ?_|refine W1 rfl rfl rfl rfl ?_|refine Q2 rfl rfl (by omega) ?_))|(refine Qj ?_;(first|refine Ql ?_|refine Qc ?_|refine Qf ?_|refine Qu ?_|refine Qm rfl ?_|refine Qt ?_)))
  exact e_1 Tryz.results91 (Qg rfl) (c_pe (by simp [*]) (by simp [*, Bool.or_assoc]))
end Go.Proofs
end
section
namespace Go.Proofs
open Go.Av
variable {G : Nat -> DV}
attribute [local irreducible] OpSem Zh ZB ZP ACalls qu AClose RV
open Go.Bl
variable {o : List UInt8} {bad : Bool}
theorem line_c (i : Nat) (s : List UInt8) (hi : i <= 1000000) (hlen : o.length + s.length <= 140737480000000) : PM Tryz.prog G 43 (fun p g => [.ptr p g 0, .i i, WA s]) o bad (.tup []) (o ++ ZR i s) bad := fun g0 g1 B h0 h1 => by
 have hrl : (Lib.repeatL [32, 32] i).length = 2 * i := by rw [Lib.repeatL_length];show i * 2 = _;omega
 have hwr : PM Tryz.prog G 46 (fun k g => [.ptr k g 0, WA (Lib.repeatL [32, 32] i ++ s ++ [10])]) o bad (.tup [.i (Lib.repeatL [32, 32] i ++ s ++ [10]).length, .sc .nilIface]) (o ++ ZR i s) bad := write_c _ (by simp only [List.length_append, List.length_cons, List.length_nil];omega)
 refine Qa Tryz.func43 rfl Tryz.ntmps43 rfl (t := [(0, .ptr 0 g0 0), (1, .i i), (2, WA s)]) rfl fun E hE => ?_
 (repeat' first|refine s_pm 0 1 (hwr) rfl rfl rfl rfl rfl rfl (fun _ => rfl) (fun _ _ => ?_)|(refine Qj ?_;(refine Wn ?_;first|(refine QG (pfx3 _ _) 100 [(0, true), (1, true), (2, true), (3, true), (4, true), (5, true), (6, true), (7, true), (8, true), (9, false), (10, true), (11, true), (12, false)] (by rfl) (by rfl) (by kernel_rfl) (by decide +kernel) (by decide +kernel) ⟨(_, _, _, _), rfl⟩ ?_)|(refine QG (pfx3 _ _) 100 [(0, true), (1, true), (2, true), (3, true), (4, true), (5, true), (6, false)] (by rfl) (by rfl) (by kernel_rfl) (by decide +kernel) (by decide +kernel) ⟨(_, _, _, _), rfl⟩ ?_)|(refine QG (pfx3 _ _) 100 [(0, true), (1, true), (2, true), (3, true), (4, true), (5, true), (6, false), (7, true), (8, true), (9, false)] (by rfl) (by rfl) (by kernel_rfl) (by decide +kernel) (by decide +kernel) ⟨(_, _, _, _), rfl⟩ ?_)|(refine QG (pfx3 _ _) 100 [(0, true), (1, true), (2, true), (3, true), (4, true), (5, true), (6, true), (7, true), (8, false)] (by rfl) (by rfl) (by kernel_rfl) (by decide +kernel) (by decide +kernel) ⟨(_, _, _, _), rfl⟩ ?_)|refine Q6 (by rfl) (by kernel_rfl) (by kernel_rfl) ?_|refine Q5 (by kernel_rfl) (by kernel_rfl) ?_))|(refine Zf ?_;(first|refine ZY ?_|refine i_st rfl rfl (fun _ => (by (repeat' first|(refine Qe ?_;(first|refine QI rfl ?_|refine qe rfl rfl ?_|refine QZ rfl rfl (repeat_c _ _ (by omega) (by simp only [List.length_cons, List.length_nil];omega)) ?_|refine Qd rfl rfl ?_|refine Qv rfl rfl ?_))|exact ⟨rfl, rfl⟩))) ?_|refine i_ef rfl ?_))|refine And.intro (Exists.intro ((_, _, _, _)) rfl) ?_)
 exact e_0 (Tryz.results43) (c_pm rfl rfl rfl (by omega))
theorem stmt1_c (i : Nat) (s : List UInt8) (hi : i <= 1000000) (hlen : o.length + s.length <= 140737480000000) (g0 g1 gp gi : Nat) {B : Nat} {bl : ABlk} (h1 : g1 <= B) : 
  ACalls Tryz.prog G B 90 [WA s, .ptr 2 gp 0, .ptr 3 gi 0] [pRow 0 1 g0 g1 o.length bad, .row g1 (WE o), .row gp [.ptr 0 g0 0], .row gi [.i i], bl]
   (fun d τ => d = .tup [] /\ ∃ g', (g' = g1 \/ B < g') /\ τ = [pRow 0 1 g0 g' (o ++ ZR i s).length bad, .row g' (WE (o ++ ZR i s)), .row gp [.ptr 0 g0 0], .row gi [.i i], bl]) := by
 refine Qa Tryz.func90 rfl Tryz.ntmps90 rfl (t := [(0, WA s), (1, .ptr 2 gp 0), (2, .ptr 3 gi 0)]) rfl fun E hE => ?_
 (repeat' first|(refine Qe ?_;(first|refine QI rfl ?_|refine Qb rfl rfl rfl ?_|refine s_pm 0 1 (line_c _ _ (by first|assumption|omega) (by first|assumption|(simp only [List.length_append, Wh, List.length_cons, List.length_nil];omega))) rfl rfl rfl rfl rfl rfl (fun _ => rfl) (fun _ _ => ?_)))|(refine Qk ?_;(first|refine Qi ?_|refine QK rfl ?_))|refine Qc ?_)
 rename_i g' hg'
 exact e_0 (Tryz.results90) (c_same ⟨rfl, g', by omega, rfl⟩)
theorem st_lenX {t : Nd} (hok : okN t) {i : Nat} (hi : i + Qx t <= 1000000) : (stT t i).length <= 7000000 * Qx t /\ (inT t i).length <= 7000000 * (Qx t - 1) := by
 obtain ⟨h1, h2⟩ := st_len t hok i
 exact ⟨Nat.le_trans h1 (Nat.mul_le_mul (by omega) (Nat.le_refl _)), Nat.le_trans h2 (Nat.mul_le_mul (by omega) (Nat.le_refl _))⟩
def StC (G : Nat -> DV) (t : Nd) : Prop := ∀ (i : Nat) (o : List UInt8) (bad : Bool), i + Qx t <= 1000000 -> o.length + 7000000 * Qx t <= 140737470000000 -> PM Tryz.prog G 49 (fun p g => [.ptr p g 0, .i i, .agg (Enc.enc t)]) o bad (.tup []) (o ++ stT t i) (bad || !qh t)
def BlC (G : Nat -> DV) (t : Nd) : Prop := ∀ (i : Nat) (e : List UInt8) (o : List UInt8) (bad : Bool), e.length <= 100 -> i + Qx t <= 1000000 -> o.length + 7000000 * Qx t <= 140737475000000 -> PM Tryz.prog G 85 (fun p g => [.ptr p g 0, .i i, .agg (Enc.enc t), WA e]) o bad (.tup []) (o ++ (inT t i ++ ZR i e)) (bad || !inOk t)
theorem block_c (k n m : Int) (ks : List Nd) (hok : okN (.mk k n m ks)) (hst : ∀ x ∈ ks, StC G x) : BlC G (.mk k n m ks) := fun i e o bad hel hi hlen g0 g1 B h0 h1 => by
 rw [okN] at hok
 rw [Qx] at hi hlen
 have hl1 := WV ks
 have hl : ks.length <= 1048576 := by omega
 rw [Q0, inT, inOk]
 by_cases hk : k = 13
 ·subst hk
  by_cases hp : WJ n m ks.length (-1) = true
  ·have hpl : ∀ b, PE Tryz.prog G 87 (fun p g => [.ptr p g 0, .agg [.i 13, .i n, .i m, QT ks], .i (-1)]) o b (.b true) b := fun b => (qE 13 n m ks (-1) hl).conv (by rw [hp]) (by rw [hp];simp)
   refine Qa Tryz.func85 rfl Tryz.ntmps85 rfl (t := [(0, .ptr 0 g0 0), (1, .i i), (2, .agg [.i _, .i n, .i m, QT ks]), (3, WA e)]) rfl fun E hE => ?_
   (repeat' first|(refine Qe ?_;(first|refine QI rfl ?_|(refine QB ?_;(first|refine WQ rfl rfl ?_|refine Qb rfl rfl rfl ?_))|refine QO rfl rfl ?_|(refine Qp ?_;(first|refine Zi 0 1 (Zl _) rfl rfl rfl rfl rfl rfl ?_|refine Zi 0 1 (hpl _) rfl rfl rfl rfl rfl rfl ?_|refine Qz rfl ?_))|refine WK rfl rfl ?_|refine Qd rfl rfl ?_|refine QV rfl rfl (fun _ _ => ?_)))|(refine Qk ?_;(first|refine Qi ?_|refine QK rfl ?_|refine Wx rfl rfl rfl rfl ?_))|(refine Qj ?_;(first|refine Ql ?_|refine Qc ?_|refine Qf ?_|refine Qh rfl ?_)))
   rename_i gn hgn
   have hpos := hst
   rw [show (bad || !decide ((13 : Int) = 13)) = bad by simp]
   refine r_loop2 (fun (j : Nat) (g : Nat) => ⟨[(0, .ptr 0 g0 0), (1, .i i), (3, WA e), (21, QT ks), (22, .i ks.length), (23, .i j)], [pRow 0 1 g0 g (o ++ stTs (ks.take j) (i + 1)).length (bad || !stOks (ks.take j)), .row g (WE (o ++ stTs (ks.take j) (i + 1))), .row gn [.i 13, .i n, .i m, QT ks]]⟩) (fun j g => j <= ks.length /\ (g = g1 \/ E.N < g)) (fun j _ => ks.length - j) 0 g1 ?_ (by omega) ?_
   ·rw [show (bad || !stOks (ks.take 0)) = bad by simp [stOks], show o ++ stTs (ks.take 0) (i + 1) = o by simp [stTs]]
    exact zal rfl
   intro j g hj
   have hpre := stTs_len (C := 7000000) (ks.take j) (i + 1) fun x hx => (st_lenX (Ws hok.2 (List.mem_of_mem_take hx)) (by have := Q9 (List.mem_of_mem_take hx);omega)).1
   have hsl := WP ks j
   by_cases hjl : j < ks.length
   ·have hsm := Q9 (List.getElem_mem hjl)
    have hst1 := qG ks j hjl
    have hst2 := WP ks (j + 1)
    have hsx := hst _ (List.getElem_mem hjl) (i + 1) (o ++ stTs (ks.take j) (i + 1)) (bad || !stOks (ks.take j)) (by omega) (by rw [List.length_append];omega)
    have e1 : o ++ stTs (ks.take (j + 1)) (i + 1) = (o ++ stTs (ks.take j) (i + 1)) ++ stT ks[j] (i + 1) := by rw [stTs_take hjl, List.append_assoc]
    have e2 : (bad || !stOks (ks.take (j + 1))) = ((bad || !stOks (ks.take j)) || !qh ks[j]) := by rw [stOks_take hjl];cases bad <;> simp
    clear hpos hst
    (repeat' first|(refine Qe ?_;(first|refine QI rfl ?_|(refine QB ?_;(first|refine WQ rfl rfl ?_|refine QR rfl ?_))|refine QC rfl rfl (by first|assumption|omega|(simp;done)|(simp;omega)) ?_|(refine Qo ?_;(first|refine QY rfl rfl ?_|refine W7 rfl rfl (by omega) ?_))|refine s_pm 0 1 (hsx) rfl rfl rfl rfl rfl rfl (fun _ => rfl) (fun _ _ => ?_)|refine WR rfl rfl rfl rfl ?_|refine QD (fun _ _ => ?_)))|(refine Qk ?_;(first|refine Qi ?_|refine QK rfl ?_|refine Q1 ?_))|(refine Qj ?_;(first|refine Ql ?_|refine Qc ?_|refine Qf ?_|refine Qu ?_|refine Qq rfl (by omega) ?_)))
    rename_i g' hg'
    refine ⟨j + 1, g', ⟨by omega, by omega⟩, by omega, ?_⟩
    rw [e1, e2]
    exact zal rfl
   ·have hje : j = ks.length := by omega
    subst hje
    rw [List.take_length] at *
    have hll : (o ++ stTs ks (i + 1)).length + e.length <= 140737480000000 := by rw [List.length_append];omega
    have hi1 : i <= 1000000 := by omega
    (repeat' first|(refine Qe ?_;(first|refine QI rfl ?_|refine QY rfl rfl ?_|refine s_pm 0 1 (line_c _ _ (by first|assumption|omega) (by first|assumption|(simp only [List.length_append, Wh, List.length_cons, List.length_nil];omega))) rfl rfl rfl rfl rfl rfl (fun _ => rfl) (fun _ _ => ?_)))|(refine Qk ?_;(first|refine Qi ?_|refine QK rfl ?_))|(refine Qj ?_;(first|refine Ql ?_|refine Qc ?_|refine Qn rfl (by omega) ?_|refine Wp rfl ?_)))
    exact e_0 (Tryz.results85) (c_pm rfl (by simp [hp]) (by simp [hp]) (by omega))
  ·have hp : WJ n m ks.length (-1) = false := by rw [<- Bool.not_eq_true];exact hp
   have hpl : ∀ b, PE Tryz.prog G 87 (fun p g => [.ptr p g 0, .agg [.i 13, .i n, .i m, QT ks], .i (-1)]) o b (.b false) true := fun b => (qE 13 n m ks (-1) hl).conv (by rw [hp]) (by rw [hp];simp)
   have hll : o.length + e.length <= 140737480000000 := by omega
   have hi1 : i <= 1000000 := by omega
   refine Qa Tryz.func85 rfl Tryz.ntmps85 rfl (t := [(0, .ptr 0 g0 0), (1, .i i), (2, .agg [.i _, .i n, .i m, QT ks]), (3, WA e)]) rfl fun E hE => ?_
   (repeat' first|(refine Qe ?_;(first|refine QI rfl ?_|(refine QB ?_;(first|refine WQ rfl rfl ?_|refine Qb rfl rfl rfl ?_))|refine QO rfl rfl ?_|(refine Qp ?_;(first|refine Zi 0 1 (Zl _) rfl rfl rfl rfl rfl rfl ?_|refine Zi 0 1 (hpl _) rfl rfl rfl rfl rfl rfl ?_|refine s_pm 0 1 (line_c _ _ (by first|assumption|omega) (by first|assumption|(simp only [List.length_append, Wh, List.length_cons, List.length_nil];omega))) rfl rfl rfl rfl rfl rfl (fun _ => rfl) (fun _ _ => ?_)))|refine WK rfl rfl ?_|refine Qd rfl rfl ?_|refine QV rfl rfl (fun _ _ => ?_)))|(refine Qk ?_;(first|refine Qi ?_|refine QK rfl ?_|refine Wx rfl rfl rfl rfl ?_))|(refine Qj ?_;(first|refine Ql ?_|refine Qc ?_|refine Qu ?_|refine Qm rfl ?_)))
   exact e_0 (Tryz.results85) (c_pm rfl (by simp [hp]) (by simp [hp]) (by omega))
 ·have hll : o.length + e.length <= 140737480000000 := by omega
  have hi1 : i <= 1000000 := by omega
  refine Qa Tryz.func85 rfl Tryz.ntmps85 rfl (t := [(0, .ptr 0 g0 0), (1, .i i), (2, .agg [.i k, .i n, .i m, QT ks]), (3, WA e)]) rfl fun E hE => ?_
  (repeat' first|(refine Qe ?_;(first|refine QI rfl ?_|refine Qb rfl rfl rfl ?_|refine QO rfl rfl ?_|(refine Qp ?_;(first|refine Zi 0 1 (Zl _) rfl rfl rfl rfl rfl rfl ?_|refine s_pm 0 1 (line_c _ _ (by first|assumption|omega) (by first|assumption|(simp only [List.length_append, Wh, List.length_cons, List.length_nil];omega))) rfl rfl rfl rfl rfl rfl (fun _ => rfl) (fun _ _ => ?_)))|refine Wr rfl rfl ?_|refine Qd rfl rfl ?_|refine QV rfl rfl (fun _ _ => ?_)))|(refine Qk ?_;(first|refine Qi ?_|refine QK rfl ?_|refine W1 rfl rfl rfl rfl ?_|refine Q2 rfl rfl (by omega) ?_))|(refine Qj ?_;(first|refine Ql ?_|refine Qc ?_|refine Qu ?_|refine Qm rfl ?_)))
  exact e_0 (Tryz.results85) (c_pm rfl (by simp [hk]) (by simp [hk]) (by omega))
theorem stmt_c (hG : G 6 = pow10T) (hG1 : G 1 = spaceT) (k n m : Int) (ks : List Nd) (hok0 : okN (.mk k n m ks)) (hbl : BlC G (.mk k n m ks)) (hkb : ∀ x ∈ ks, BlC G x) : StC G (.mk k n m ks) := fun i o bad hi hlen g0 g1 B h0 h1 => by
 have hok := hok0
 rw [okN] at hok
 have hse : Qx (.mk k n m ks) = 1 + QQ ks := by rw [Qx]
 have hl1 := WV ks
 have hsim := simT_len _ hok0
 have hsimc := fun (o : List UInt8) (b : Bool) => simple_c (G := G) (o := o) hG hG1 _ hok0 (by omega) b
 rw [hse] at hi hlen hsim
 have hl : ks.length <= 1048576 := by omega
 have hi1 : i <= 1000000 := by omega
 have hn : -9223372036854775808 <= n /\ n <= 9223372036854775807 := hok.1.2.1
 have hnl := W5 hok.1.2.1
 have hx : ∀ x ∈ ks, ∀ (o : List UInt8) b, PE Tryz.prog G 48 (fun p g => [.ptr p g 0, .agg (Enc.enc x)]) o b (WA (exT x)) (b || !Zs x) := fun x hx o b => expr_c hG hG1 x (Ws hok.2 hx) (by have := Q9 hx;omega) b
 have hxl := exs_len hok.2
 have hil : ∀ x ∈ ks, (inT x i).length <= 7000000 * (Qx x - 1) := fun x hx => (st_lenX (Ws hok.2 hx) (by have := Q9 hx;omega)).2
 rw [stT, qh, inTs_eq, ql]
 rw [Q0] at hsimc ⊢
 by_cases k13 : k = 13
 ·subst k13
  have hb1 := hbl i sClose (o ++ ZR i sOpen) bad (by decide) (by rw [hse];omega) (by rw [hse, List.length_append, Wh];simp only [List.length_cons, List.length_nil];omega)
  rw [Q0, inT, inOk] at hb1
  clear hkb hbl hx hxl hil hsimc
  refine Qa Tryz.func49 rfl Tryz.ntmps49 rfl (t := [(0, .ptr 0 g0 0), (1, .i i), (2, .agg [.i _, .i n, .i m, QT ks])]) rfl fun E hE => ?_
  (repeat' first|(refine Qe ?_;(first|refine QI rfl ?_|refine QJ rfl ?_|(refine QB ?_;(first|refine WQ rfl rfl ?_|refine Qb rfl rfl rfl ?_))|refine QO rfl rfl ?_|(refine Qp ?_;(first|refine qp rfl rfl rfl (fun B' hB' => stmt1_c i _ hi1 (by first|omega|(simp only [List.length_append, Wh, List.length_cons, List.length_nil];omega)) g0 _ _ _ hB') (fun _ _ => ?_)|refine s_pm 0 1 (hb1) rfl rfl rfl rfl rfl rfl (fun _ => rfl) (fun _ _ => ?_)))|refine Qd rfl rfl ?_|refine QU rfl rfl ?_|refine QV rfl rfl (fun _ _ => ?_)))|(refine Qk ?_;(first|refine Qi ?_|refine QK rfl ?_))|(refine Qj ?_;(first|refine Ql ?_|refine Qc ?_|refine Qf ?_|refine Qh rfl ?_)))
  exact e_0 (Tryz.results49) (c_pm rfl (by simp) (by simp [Bool.or_assoc]) (by omega))
 by_cases k17 : k = 17
 ·subst k17
  by_cases hp : WJ n m ks.length 3 = true
  ·have hpl : ∀ (o : List UInt8) b, PE Tryz.prog G 87 (fun p g => [.ptr p g 0, .agg [.i 17, .i n, .i m, QT ks], .i 3]) o b (.b true) b := fun o b => (qE 17 n m ks 3 hl).conv (by rw [hp]) (by rw [hp];simp)
   have h2 : ks.length = 3 := by simp [WJ, Q3] at hp;omega
   match ks, h2 with
   | [a, b, c], _ =>
    have hxa := hx a (by simp)
    have hba := hkb a (by simp)
    have hxal := hxl a (by simp)
    have hial := hil a (by simp)
    have hsa := Wj a
    have hxb := hx b (by simp)
    have hbb := hkb b (by simp)
    have hxbl := hxl b (by simp)
    have hibl := hil b (by simp)
    have hsb := Wj b
    have hxc := hx c (by simp)
    have hbc := hkb c (by simp)
    have hxcl := hxl c (by simp)
    have hicl := hil c (by simp)
    have hsc := Wj c
    have hp2 : WJ n m 3 3 = true := hp
    simp only [QQ] at hi hlen
    clear hx hkb hxl hil hbl hsimc
    refine Qa Tryz.func49 rfl Tryz.ntmps49 rfl (t := [(0, .ptr 0 g0 0), (1, .i i), (2, .agg [.i _, .i n, .i m, QT [a, b, c]])]) rfl fun E hE => ?_
    (repeat' first|(refine Qe ?_;(first|refine QI rfl ?_|refine QJ rfl ?_|(refine QB ?_;(first|refine WQ rfl rfl ?_|refine Qb rfl rfl rfl ?_))|refine QO rfl rfl ?_|(refine Qp ?_;(first|refine qp rfl rfl rfl (fun B' hB' => stmt1_c i _ hi1 (by first|omega|(simp only [List.length_append, Wh, List.length_cons, List.length_nil];omega)) g0 _ _ _ hB') (fun _ _ => ?_)|refine Zi 0 1 (hpl _ _) rfl rfl rfl rfl rfl rfl ?_|refine Zi 0 1 (hxa _ _) rfl rfl rfl rfl rfl rfl ?_|refine s_pm 0 1 (hbb i _ _ _ (by first|decide|(simp only [List.length_append, List.length_cons, List.length_nil];omega)) (by omega) (by first|omega|(simp only [List.length_append, Wh, List.length_cons, List.length_nil];omega))) rfl rfl rfl rfl rfl rfl (fun _ => rfl) (fun _ _ => ?_)|refine s_pm 0 1 (hbc i _ _ _ (by first|decide|(simp only [List.length_append, List.length_cons, List.length_nil];omega)) (by omega) (by first|omega|(simp only [List.length_append, Wh, List.length_cons, List.length_nil];omega))) rfl rfl rfl rfl rfl rfl (fun _ => rfl) (fun _ _ => ?_)))|refine WK rfl rfl ?_|refine Qd rfl rfl ?_|refine QU rfl rfl ?_|refine QV rfl rfl (fun _ _ => ?_)))|(refine Qk ?_;(first|refine Qi ?_|refine QK rfl ?_|refine Wx rfl rfl rfl rfl ?_))|(refine Qj ?_;(first|refine Ql ?_|refine Qc ?_|refine Qf ?_|(refine Wn ?_;first|(refine QG (pfx3 _ _) 100 [(0, true), (1, true), (2, true), (3, true), (4, true), (5, true), (6, true), (7, true), (8, true), (9, false), (10, true), (11, true), (12, false)] (by rfl) (by rfl) (by kernel_rfl) (by decide +kernel) (by decide +kernel) ⟨(_, _, _, _), rfl⟩ ?_)|(refine QG (pfx3 _ _) 100 [(0, true), (1, true), (2, true), (3, true), (4, true), (5, true), (6, false)] (by rfl) (by rfl) (by kernel_rfl) (by decide +kernel) (by decide +kernel) ⟨(_, _, _, _), rfl⟩ ?_)|(refine QG (pfx3 _ _) 100 [(0, true), (1, true), (2, true), (3, true), (4, true), (5, true), (6, false), (7, true), (8, true), (9, false)] (by rfl) (by rfl) (by kernel_rfl) (by decide +kernel) (by decide +kernel) ⟨(_, _, _, _), rfl⟩ ?_)|(refine QG (pfx3 _ _) 100 [(0, true), (1, true), (2, true), (3, true), (4, true), (5, true), (6, true), (7, true), (8, false)] (by rfl) (by rfl) (by kernel_rfl) (by decide +kernel) (by decide +kernel) ⟨(_, _, _, _), rfl⟩ ?_)|refine Q6 (by rfl) (by kernel_rfl) (by kernel_rfl) ?_|refine Q5 (by kernel_rfl) (by kernel_rfl) ?_)|refine Qh rfl ?_|refine Qm rfl ?_))|(refine Zf ?_;(first|refine ZY ?_|refine i_st rfl rfl (fun _ => (by (repeat' first|(refine Qe ?_;(first|refine QI rfl ?_|(refine QB ?_;(first|refine QR rfl ?_|refine Qb rfl rfl rfl ?_))|refine QC rfl rfl (by first|assumption|omega|(simp;done)|(simp;omega)) ?_|refine qe rfl rfl ?_|refine Qd rfl rfl ?_))|exact ⟨rfl, rfl⟩))) ?_|refine i_ef rfl ?_))|refine And.intro (Exists.intro ((_, _, _, _)) rfl) ?_)
    exact e_0 (Tryz.results49) (c_pm rfl (by simp [hp2]) (by simp [hp2, Bool.or_assoc]) (by omega))
  ·have hp : WJ n m ks.length 3 = false := by rw [<- Bool.not_eq_true];exact hp
   have hpl : ∀ (o : List UInt8) b, PE Tryz.prog G 87 (fun p g => [.ptr p g 0, .agg [.i 17, .i n, .i m, QT ks], .i 3]) o b (.b false) true := fun o b => (qE 17 n m ks 3 hl).conv (by rw [hp]) (by rw [hp];simp)
   clear hkb hbl hx hxl hil
   refine Qa Tryz.func49 rfl Tryz.ntmps49 rfl (t := [(0, .ptr 0 g0 0), (1, .i i), (2, .agg [.i _, .i n, .i m, QT ks])]) rfl fun E hE => ?_
   (repeat' first|(refine Qe ?_;(first|refine QI rfl ?_|refine QJ rfl ?_|(refine QB ?_;(first|refine WQ rfl rfl ?_|refine Qb rfl rfl rfl ?_))|refine QO rfl rfl ?_|(refine Qp ?_;(first|refine qp rfl rfl rfl (fun B' hB' => stmt1_c i _ hi1 (by first|omega|(simp only [List.length_append, Wh, List.length_cons, List.length_nil];omega)) g0 _ _ _ hB') (fun _ _ => ?_)|refine Zi 0 1 (hpl _ _) rfl rfl rfl rfl rfl rfl ?_|refine Zi 0 1 (hsimc _ _) rfl rfl rfl rfl rfl rfl ?_))|(refine QX ?_;(first|refine WK rfl rfl ?_|refine Wr rfl rfl ?_))|refine Qd rfl rfl ?_|refine QU rfl rfl ?_|refine QV rfl rfl (fun _ _ => ?_)))|(refine Qk ?_;(first|refine Qi ?_|refine QK rfl ?_|refine Wx rfl rfl rfl rfl ?_|refine W1 rfl rfl rfl rfl ?_))|(refine Qj ?_;(first|refine Ql ?_|refine Qc ?_|refine Qf ?_|refine Qm rfl ?_)))
   exact e_0 (Tryz.results49) (c_pm rfl (by simp [hp]) (by simp [hp, Bool.or_assoc]) (by omega))
 by_cases k18 : k = 18
 ·subst k18
  by_cases hp : WJ n m ks.length 2 = true
  ·have hpl : ∀ (o : List UInt8) b, PE Tryz.prog G 87 (fun p g => [.ptr p g 0, .agg [.i 18, .i n, .i m, QT ks], .i 2]) o b (.b true) b := fun o b => (qE 18 n m ks 2 hl).conv (by rw [hp]) (by rw [hp];simp)
   have h2 : ks.length = 2 := by simp [WJ, Q3] at hp;omega
   match ks, h2 with
   | [a, b], _ =>
    have hxa := hx a (by simp)
    have hba := hkb a (by simp)
    have hxal := hxl a (by simp)
    have hial := hil a (by simp)
    have hsa := Wj a
    have hxb := hx b (by simp)
    have hbb := hkb b (by simp)
    have hxbl := hxl b (by simp)
    have hibl := hil b (by simp)
    have hsb := Wj b
    have hp2 : WJ n m 2 2 = true := hp
    simp only [QQ] at hi hlen
    clear hx hkb hxl hil hbl hsimc
    refine Qa Tryz.func49 rfl Tryz.ntmps49 rfl (t := [(0, .ptr 0 g0 0), (1, .i i), (2, .agg [.i _, .i n, .i m, QT [a, b]])]) rfl fun E hE => ?_
    (repeat' first|(refine Qe ?_;(first|refine QI rfl ?_|refine QJ rfl ?_|(refine QB ?_;(first|refine WQ rfl rfl ?_|refine Qb rfl rfl rfl ?_))|refine QO rfl rfl ?_|(refine Qp ?_;(first|refine qp rfl rfl rfl (fun B' hB' => stmt1_c i _ hi1 (by first|omega|(simp only [List.length_append, Wh, List.length_cons, List.length_nil];omega)) g0 _ _ _ hB') (fun _ _ => ?_)|refine Zi 0 1 (hpl _ _) rfl rfl rfl rfl rfl rfl ?_|refine Zi 0 1 (hxa _ _) rfl rfl rfl rfl rfl rfl ?_|refine s_pm 0 1 (hbb i _ _ _ (by first|decide|(simp only [List.length_append, List.length_cons, List.length_nil];omega)) (by omega) (by first|omega|(simp only [List.length_append, Wh, List.length_cons, List.length_nil];omega))) rfl rfl rfl rfl rfl rfl (fun _ => rfl) (fun _ _ => ?_)))|(refine QX ?_;(first|refine WK rfl rfl ?_|refine Wr rfl rfl ?_))|refine Qd rfl rfl ?_|refine QU rfl rfl ?_|refine QV rfl rfl (fun _ _ => ?_)))|(refine Qk ?_;(first|refine Qi ?_|refine QK rfl ?_|refine Wx rfl rfl rfl rfl ?_|refine W1 rfl rfl rfl rfl ?_))|(refine Qj ?_;(first|refine Ql ?_|refine Qc ?_|refine Qf ?_|(refine Wn ?_;first|(refine QG (pfx3 _ _) 100 [(0, true), (1, true), (2, true), (3, true), (4, true), (5, true), (6, true), (7, true), (8, true), (9, false), (10, true), (11, true), (12, false)] (by rfl) (by rfl) (by kernel_rfl) (by decide +kernel) (by decide +kernel) ⟨(_, _, _, _), rfl⟩ ?_)|(refine QG (pfx3 _ _) 100 [(0, true), (1, true), (2, true), (3, true), (4, true), (5, true), (6, false)] (by rfl) (by rfl) (by kernel_rfl) (by decide +kernel) (by decide +kernel) ⟨(_, _, _, _), rfl⟩ ?_)|(refine QG (pfx3 _ _) 100 [(0, true), (1, true), (2, true), (3, true), (4, true), (5, true), (6, false), (7, true), (8, true), (9, false)] (by rfl) (by rfl) (by kernel_rfl) (by decide +kernel) (by decide +kernel) ⟨(_, _, _, _), rfl⟩ ?_)|(refine QG (pfx3 _ _) 100 [(0, true), (1, true), (2, true), (3, true), (4, true), (5, true), (6, true), (7, true), (8, false)] (by rfl) (by rfl) (by kernel_rfl) (by decide +kernel) (by decide +kernel) ⟨(_, _, _, _), rfl⟩ ?_)|refine Q6 (by rfl) (by kernel_rfl) (by kernel_rfl) ?_|refine Q5 (by kernel_rfl) (by kernel_rfl) ?_)|refine Qh rfl ?_|refine Qm rfl ?_))|(refine Zf ?_;(first|refine ZY ?_|refine i_st rfl rfl (fun _ => (by (repeat' first|(refine Qe ?_;(first|refine QI rfl ?_|(refine QB ?_;(first|refine QR rfl ?_|refine Qb rfl rfl rfl ?_))|refine QC rfl rfl (by first|assumption|omega|(simp;done)|(simp;omega)) ?_|refine qe rfl rfl ?_|refine Qd rfl rfl ?_))|exact ⟨rfl, rfl⟩))) ?_|refine i_ef rfl ?_))|refine And.intro (Exists.intro ((_, _, _, _)) rfl) ?_)
    exact e_0 (Tryz.results49) (c_pm rfl (by simp [hp2]) (by simp [hp2, Bool.or_assoc]) (by omega))
  ·have hp : WJ n m ks.length 2 = false := by rw [<- Bool.not_eq_true];exact hp
   have hpl : ∀ (o : List UInt8) b, PE Tryz.prog G 87 (fun p g => [.ptr p g 0, .agg [.i 18, .i n, .i m, QT ks], .i 2]) o b (.b false) true := fun o b => (qE 18 n m ks 2 hl).conv (by rw [hp]) (by rw [hp];simp)
   clear hkb hbl hx hxl hil
   refine Qa Tryz.func49 rfl Tryz.ntmps49 rfl (t := [(0, .ptr 0 g0 0), (1, .i i), (2, .agg [.i _, .i n, .i m, QT ks])]) rfl fun E hE => ?_
   (repeat' first|(refine Qe ?_;(first|refine QI rfl ?_|refine QJ rfl ?_|(refine QB ?_;(first|refine WQ rfl rfl ?_|refine Qb rfl rfl rfl ?_))|refine QO rfl rfl ?_|(refine Qp ?_;(first|refine qp rfl rfl rfl (fun B' hB' => stmt1_c i _ hi1 (by first|omega|(simp only [List.length_append, Wh, List.length_cons, List.length_nil];omega)) g0 _ _ _ hB') (fun _ _ => ?_)|refine Zi 0 1 (hpl _ _) rfl rfl rfl rfl rfl rfl ?_|refine Zi 0 1 (hsimc _ _) rfl rfl rfl rfl rfl rfl ?_))|(refine QX ?_;(first|refine WK rfl rfl ?_|refine Wr rfl rfl ?_))|refine Qd rfl rfl ?_|refine QU rfl rfl ?_|refine QV rfl rfl (fun _ _ => ?_)))|(refine Qk ?_;(first|refine Qi ?_|refine QK rfl ?_|refine Wx rfl rfl rfl rfl ?_|refine W1 rfl rfl rfl rfl ?_))|(refine Qj ?_;(first|refine Ql ?_|refine Qc ?_|refine Qf ?_|refine Qm rfl ?_)))
   exact e_0 (Tryz.results49) (c_pm rfl (by simp [hp]) (by simp [hp, Bool.or_assoc]) (by omega))
 by_cases k21 : k = 21
 ·subst k21
  by_cases hp : Q3 m ks.length 2 = true
  ·have hpl : ∀ (o : List UInt8) b, PE Tryz.prog G 42 (fun p g => [.ptr p g 0, .agg [.i 21, .i n, .i m, QT ks], .i 2]) o b (.b true) b := fun o b => (Zp 21 n m ks 2 hl).conv (by rw [hp]) (by rw [hp];simp)
   have h2 : ks.length = 2 := by simp [WJ, Q3] at hp;omega
   match ks, h2 with
   | [a, b], _ =>
    have hxa := hx a (by simp)
    have hba := hkb a (by simp)
    have hxal := hxl a (by simp)
    have hial := hil a (by simp)
    have hsa := Wj a
    have hxb := hx b (by simp)
    have hbb := hkb b (by simp)
    have hxbl := hxl b (by simp)
    have hibl := hil b (by simp)
    have hsb := Wj b
    have hp2 : Q3 m 2 2 = true := hp
    simp only [QQ] at hi hlen
    clear hx hkb hxl hil hbl hsimc
    refine Qa Tryz.func49 rfl Tryz.ntmps49 rfl (t := [(0, .ptr 0 g0 0), (1, .i i), (2, .agg [.i _, .i n, .i m, QT [a, b]])]) rfl fun E hE => ?_
    (repeat' first|(refine Qe ?_;(first|refine QI rfl ?_|refine QJ rfl ?_|(refine QB ?_;(first|refine WQ rfl rfl ?_|refine Qb rfl rfl rfl ?_))|refine QO rfl rfl ?_|(refine Qp ?_;(first|refine qp rfl rfl rfl (fun B' hB' => stmt1_c i _ hi1 (by first|omega|(simp only [List.length_append, Wh, List.length_cons, List.length_nil];omega)) g0 _ _ _ hB') (fun _ _ => ?_)|refine Zi 0 1 (hpl _ _) rfl rfl rfl rfl rfl rfl ?_|refine Zi 0 1 (Zw hG _ (by assumption)) rfl rfl rfl rfl rfl rfl ?_|refine s_pm 0 1 (hba i _ _ _ (by first|decide|(simp only [List.length_append, List.length_cons, List.length_nil];omega)) (by omega) (by first|omega|(simp only [List.length_append, Wh, List.length_cons, List.length_nil];omega))) rfl rfl rfl rfl rfl rfl (fun _ => rfl) (fun _ _ => ?_)|refine s_pm 0 1 (hbb i _ _ _ (by first|decide|(simp only [List.length_append, List.length_cons, List.length_nil];omega)) (by omega) (by first|omega|(simp only [List.length_append, Wh, List.length_cons, List.length_nil];omega))) rfl rfl rfl rfl rfl rfl (fun _ => rfl) (fun _ _ => ?_)))|(refine QX ?_;(first|refine WK rfl rfl ?_|refine Wr rfl rfl ?_))|refine Qd rfl rfl ?_|refine QU rfl rfl ?_|refine QV rfl rfl (fun _ _ => ?_)))|(refine Qk ?_;(first|refine Qi ?_|refine QK rfl ?_|refine Wx rfl rfl rfl rfl ?_|refine W1 rfl rfl rfl rfl ?_))|(refine Qj ?_;(first|refine Ql ?_|refine Qc ?_|refine Qf ?_|(refine Wn ?_;first|(refine QG (pfx3 _ _) 100 [(0, true), (1, true), (2, true), (3, true), (4, true), (5, true), (6, true), (7, true), (8, true), (9, false), (10, true), (11, true), (12, false)] (by rfl) (by rfl) (by kernel_rfl) (by decide +kernel) (by decide +kernel) ⟨(_, _, _, _), rfl⟩ ?_)|(refine QG (pfx3 _ _) 100 [(0, true), (1, true), (2, true), (3, true), (4, true), (5, true), (6, false)] (by rfl) (by rfl) (by kernel_rfl) (by decide +kernel) (by decide +kernel) ⟨(_, _, _, _), rfl⟩ ?_)|(refine QG (pfx3 _ _) 100 [(0, true), (1, true), (2, true), (3, true), (4, true), (5, true), (6, false), (7, true), (8, true), (9, false)] (by rfl) (by rfl) (by kernel_rfl) (by decide +kernel) (by decide +kernel) ⟨(_, _, _, _), rfl⟩ ?_)|(refine QG (pfx3 _ _) 100 [(0, true), (1, true), (2, true), (3, true), (4, true), (5, true), (6, true), (7, true), (8, false)] (by rfl) (by rfl) (by kernel_rfl) (by decide +kernel) (by decide +kernel) ⟨(_, _, _, _), rfl⟩ ?_)|refine Q6 (by rfl) (by kernel_rfl) (by kernel_rfl) ?_|refine Q5 (by kernel_rfl) (by kernel_rfl) ?_)|refine Qh rfl ?_|refine Qm rfl ?_))|(refine Zf ?_;(first|refine ZY ?_|refine i_st rfl rfl (fun _ => (by (repeat' first|(refine Qe ?_;(first|(refine QB ?_;(first|refine QR rfl ?_|refine Qb rfl rfl rfl ?_))|refine QC rfl rfl (by first|assumption|omega|(simp;done)|(simp;omega)) ?_|refine qe rfl rfl ?_|refine Qd rfl rfl ?_))|exact ⟨rfl, rfl⟩))) ?_|refine i_ef rfl ?_))|refine And.intro (Exists.intro ((_, _, _, _)) rfl) ?_)
    exact e_0 (Tryz.results49) (c_pm rfl (by simp [hp2]) (by simp [hp2, Bool.or_assoc]) (by omega))
  ·have hp : Q3 m ks.length 2 = false := by rw [<- Bool.not_eq_true];exact hp
   have hpl : ∀ (o : List UInt8) b, PE Tryz.prog G 42 (fun p g => [.ptr p g 0, .agg [.i 21, .i n, .i m, QT ks], .i 2]) o b (.b false) true := fun o b => (Zp 21 n m ks 2 hl).conv (by rw [hp]) (by rw [hp];simp)
   clear hkb hbl hx hxl hil
   refine Qa Tryz.func49 rfl Tryz.ntmps49 rfl (t := [(0, .ptr 0 g0 0), (1, .i i), (2, .agg [.i _, .i n, .i m, QT ks])]) rfl fun E hE => ?_
   (repeat' first|(refine Qe ?_;(first|refine QI rfl ?_|refine QJ rfl ?_|(refine QB ?_;(first|refine WQ rfl rfl ?_|refine Qb rfl rfl rfl ?_))|refine QO rfl rfl ?_|(refine Qp ?_;(first|refine qp rfl rfl rfl (fun B' hB' => stmt1_c i _ hi1 (by first|omega|(simp only [List.length_append, Wh, List.length_cons, List.length_nil];omega)) g0 _ _ _ hB') (fun _ _ => ?_)|refine Zi 0 1 (hpl _ _) rfl rfl rfl rfl rfl rfl ?_|refine Zi 0 1 (hsimc _ _) rfl rfl rfl rfl rfl rfl ?_))|(refine QX ?_;(first|refine WK rfl rfl ?_|refine Wr rfl rfl ?_))|refine Qd rfl rfl ?_|refine QU rfl rfl ?_|refine QV rfl rfl (fun _ _ => ?_)))|(refine Qk ?_;(first|refine Qi ?_|refine QK rfl ?_|refine Wx rfl rfl rfl rfl ?_|refine W1 rfl rfl rfl rfl ?_))|(refine Qj ?_;(first|refine Ql ?_|refine Qc ?_|refine Qf ?_|refine Qm rfl ?_)))
   exact e_0 (Tryz.results49) (c_pm rfl (by simp [hp]) (by simp [hp, Bool.or_assoc]) (by omega))
 ·clear hkb hbl hx hxl hil
  refine Qa Tryz.func49 rfl Tryz.ntmps49 rfl (t := [(0, .ptr 0 g0 0), (1, .i i), (2, .agg [.i k, .i n, .i m, QT ks])]) rfl fun E hE => ?_
  (repeat' first|(refine Qe ?_;(first|refine QI rfl ?_|refine QJ rfl ?_|(refine QB ?_;(first|refine WQ rfl rfl ?_|refine Qb rfl rfl rfl ?_))|refine QO rfl rfl ?_|(refine Qp ?_;(first|refine qp rfl rfl rfl (fun B' hB' => stmt1_c i _ hi1 (by first|omega|(simp only [List.length_append, Wh, List.length_cons, List.length_nil];omega)) g0 _ _ _ hB') (fun _ _ => ?_)|refine Zi 0 1 (hsimc _ _) rfl rfl rfl rfl rfl rfl ?_))|refine Wr rfl rfl ?_|refine Qd rfl rfl ?_|refine QU rfl rfl ?_|refine QV rfl rfl (fun _ _ => ?_)))|(refine Qk ?_;(first|refine Qi ?_|refine QK rfl ?_|refine W1 rfl rfl rfl rfl ?_|refine Q2 rfl rfl (by omega) ?_))|(refine Qj ?_;(first|refine Ql ?_|refine Qc ?_|refine Qf ?_|refine Qm rfl ?_|refine Qn rfl (by omega) ?_)))
  exact e_0 (Tryz.results49) (c_pm rfl (by simp [*]) (by simp [*, Bool.or_assoc]) (by omega))
theorem stmts_c (hG : G 6 = pow10T) (hG1 : G 1 = spaceT) (t : Nd) : okN t -> StC G t /\ BlC G t := by
 induction t using Nd.ind with
 | h k n m ks ih =>
 intro hok
 have hok2 := hok
 rw [okN] at hok2
 have hb := block_c k n m ks hok fun x hx => (ih x hx (Ws hok2.2 hx)).1
 exact ⟨stmt_c hG hG1 k n m ks hok hb fun x hx => (ih x hx (Ws hok2.2 hx)).2, hb⟩
theorem fun_c (hG : G 6 = pow10T) (hG1 : G 1 = spaceT) (t : Nd) (hok : okN t) (hsz : Qx t <= 1000000) (hlen : o.length + 7000000 * Qx t <= 140737470000000) : PM Tryz.prog G 45 (fun p g => [.ptr p g 0, .agg (Enc.enc t)]) o bad (.tup []) (o ++ funT t) (bad || !ZF t) := fun g0 g1 B h0 h1 => by
 obtain ⟨k, n, m, ks⟩ := t
 rw [okN] at hok
 rw [Qx] at hsz hlen
 have hl1 := WV ks
 have hl : ks.length <= 1048576 := by omega
 have hn : -9223372036854775808 <= n /\ n <= 9223372036854775807 := hok.1.2.1
 have hnl := W5 hok.1.2.1
 rw [funT, ZF, Q0]
 by_cases hk : k = 26
 ·subst hk
  by_cases hp : 0 < ks.length
  ·have hpz : (0 : Int) < (ks.length : Int) := by omega
   by_cases hm : Q3 m ks.length (-1) = true
   ·have hpl : ∀ b, PE Tryz.prog G 42 (fun p g => [.ptr p g 0, .agg [.i 26, .i n, .i m, QT ks], .i (-1)]) o b (.b true) b := fun b => (Zp 26 n m ks (-1) hl).conv (by rw [hm]) (by rw [hm];simp)
    have hsl := sizeL_last hp
    have hmem := last_mem hp
    have hbb := (stmts_c hG hG1 _ (Ws hok.2 hmem)).2
    have hgl : ks.length - 1 < ks.length := by omega
    have hge : ks.getD (ks.length - 1) (.mk 0 0 0 []) = ks[ks.length - 1] := by rw [List.getD_eq_getElem?_getD, List.getElem?_eq_getElem hgl];rfl
    have hlist : ∀ b, PE Tryz.prog G 84 (fun p g => [QT (ks.take (ks.length - 1)), .fn (.func 47) [.ptr p g 0] []]) o b (WA (WO ((ks.take (ks.length - 1)).map qv))) (b || !(ks.take (ks.length - 1)).all ZH) := fun b =>
     list_c _ qv ZH _ b (fun x hx b => typed_c hG x (Ws hok.2 (List.mem_of_mem_take hx)) (by have := Q9 (List.mem_of_mem_take hx);omega) b) (by simp;omega) (by have := Z8 qv (M := 30) ks (ks.length - 1) fun x hx => qL x (Ws hok.2 hx);have := WP ks (ks.length - 1);omega)
    have hcl := Z8 qv (M := 30) ks (ks.length - 1) fun x hx => qL x (Ws hok.2 hx)
    rw [hge] at hbb hsl ⊢
    have hq : ((ks.length : Int) - 1).toNat = ks.length - 1 := by omega
    have hgl2 : ((ks.length : Int) - 1).toNat < ks.length := by omega
    have hlist2 : ∀ b, PE Tryz.prog G 84 (fun p g => [QT (ks.take ((ks.length : Int) - 1).toNat), .fn (.func 47) [.ptr p g 0] []]) o b (WA (WO ((ks.take (ks.length - 1)).map qv))) (b || !(ks.take (ks.length - 1)).all ZH) := by rw [hq];exact hlist
    have hgq : ks[((ks.length : Int) - 1).toNat] = ks[ks.length - 1] := by congr 1
    have hbb2 : BlC G ks[((ks.length : Int) - 1).toNat] := by rw [hgq];exact hbb
    have hsl2 : QQ (ks.take (ks.length - 1)) + Qx ks[((ks.length : Int) - 1).toNat] = QQ ks := by rw [hgq];exact hsl
    have hsn := Wj ks[((ks.length : Int) - 1).toNat]
    refine Qa Tryz.func45 rfl Tryz.ntmps45 rfl (t := [(0, .ptr 0 g0 0), (1, .agg [.i _, .i n, .i m, QT ks])]) rfl fun E hE => ?_
    (repeat' first|(refine Qe ?_;(first|refine QI rfl ?_|refine QJ rfl ?_|(refine QB ?_;(first|refine WQ rfl rfl ?_|refine QR rfl ?_|refine Qb rfl rfl rfl ?_))|refine qi rfl rfl (by omega) (by first|assumption|omega|(simp;done)|(simp;omega)) ?_|(refine Qo ?_;(first|refine ZC rfl rfl ?_|refine QO rfl rfl ?_|refine Zk rfl rfl (by omega) ?_))|(refine Qp ?_;(first|refine Qz rfl ?_|refine Zi 0 1 (Zl _) rfl rfl rfl rfl rfl rfl ?_|refine Zi 0 1 (hpl _) rfl rfl rfl rfl rfl rfl ?_|refine Zi 0 1 (Zw hG _ (by assumption)) rfl rfl rfl rfl rfl rfl ?_|refine Zi 0 1 (hlist2 _) rfl rfl rfl rfl rfl rfl ?_|refine s_pm 0 1 (line_c 0 _ (by omega) (by first|assumption|(simp only [List.length_append, Wh, List.length_cons, List.length_nil];omega))) rfl rfl rfl rfl rfl rfl (fun _ => rfl) (fun _ _ => ?_)|refine s_pm 0 1 (hbb2 0 _ _ _ (by decide) (by omega) (by first|assumption|omega|(simp only [List.length_append, Wh, List.length_cons, List.length_nil];omega))) rfl rfl rfl rfl rfl rfl (fun _ => rfl) (fun _ _ => ?_)))|(refine QX ?_;(first|refine WK rfl rfl ?_|refine Wr rfl rfl ?_))|(refine g_unOp ?_;(first|refine s_not_d rfl ?_|refine Wo rfl ?_))|refine Qd rfl rfl ?_|refine QV rfl rfl (fun _ _ => ?_)))|(refine Qk ?_;(first|refine Qi ?_|refine QK rfl ?_|refine Wx rfl rfl rfl rfl ?_|refine Q2 rfl rfl (by omega) ?_))|(refine Qj ?_;(first|refine Ql ?_|refine Qc ?_|(refine Wn ?_;first|(refine QG (pfx3 _ _) 100 [(0, true), (1, true), (2, true), (3, true), (7, true), (8, true), (9, true), (10, true), (11, true), (12, true), (4, false), (5, true), (6, true), (13, false), (14, true), (15, true), (16, false)] (by rfl) (by rfl) (by kernel_rfl) (by decide +kernel) (by decide +kernel) ⟨(_, _, _, _), rfl⟩ ?_)|refine Q6 (by rfl) (by kernel_rfl) (by kernel_rfl) ?_|refine Q5 (by kernel_rfl) (by kernel_rfl) ?_)|refine Qu ?_|refine Qm rfl ?_))|(refine Zf ?_;(first|refine ZY ?_|refine i_st rfl rfl (fun _ => (by (repeat' first|(refine Qe ?_;(first|refine QI rfl ?_|refine Qb rfl rfl rfl ?_|refine qe rfl rfl ?_|refine Qd rfl rfl ?_|refine s_slice_h rfl rfl (by omega) (by omega) ?_|refine QU rfl rfl ?_))|exact ⟨rfl, rfl⟩))) ?_|refine i_ef rfl ?_))|refine And.intro (Exists.intro ((_, _, _, _)) rfl) ?_)
    exact e_0 (Tryz.results45) (c_pm rfl (by rw [hgq];simp [hm, hp]) (by rw [hgq];simp [hm, hp, Bool.or_assoc]) (by omega))
   ·have hm : Q3 m ks.length (-1) = false := by rw [<- Bool.not_eq_true];exact hm
    have hpl : ∀ b, PE Tryz.prog G 42 (fun p g => [.ptr p g 0, .agg [.i 26, .i n, .i m, QT ks], .i (-1)]) o b (.b false) true := fun b => (Zp 26 n m ks (-1) hl).conv (by rw [hm]) (by rw [hm];simp)
    refine Qa Tryz.func45 rfl Tryz.ntmps45 rfl (t := [(0, .ptr 0 g0 0), (1, .agg [.i _, .i n, .i m, QT ks])]) rfl fun E hE => ?_
    (repeat' first|(refine Qe ?_;(first|refine QI rfl ?_|(refine QB ?_;(first|refine WQ rfl rfl ?_|refine Qb rfl rfl rfl ?_))|(refine Qo ?_;(first|refine ZC rfl rfl ?_|refine QO rfl rfl ?_))|(refine Qp ?_;(first|refine Qz rfl ?_|refine Zi 0 1 (Zl _) rfl rfl rfl rfl rfl rfl ?_|refine Zi 0 1 (hpl _) rfl rfl rfl rfl rfl rfl ?_))|(refine QX ?_;(first|refine WK rfl rfl ?_|refine Wr rfl rfl ?_))|(refine g_unOp ?_;(first|refine s_not_d rfl ?_|refine Wo rfl ?_))|refine Qd rfl rfl ?_|refine QV rfl rfl (fun _ _ => ?_)))|(refine Qk ?_;(first|refine Qi ?_|refine QK rfl ?_|refine Wx rfl rfl rfl rfl ?_|refine Q2 rfl rfl (by omega) ?_))|(refine Qj ?_;(first|refine Ql ?_|refine Qc ?_|refine Qh rfl ?_|refine Qt ?_)))
    exact e_0 (Tryz.results45) (c_pm rfl (by simp [hm, hp]) (by simp [hm, hp]) (by omega))
  ·have hpz : ¬ (0 : Int) < (ks.length : Int) := by omega
   refine Qa Tryz.func45 rfl Tryz.ntmps45 rfl (t := [(0, .ptr 0 g0 0), (1, .agg [.i _, .i n, .i m, QT ks])]) rfl fun E hE => ?_
   (repeat' first|(refine Qe ?_;(first|refine QI rfl ?_|refine Qb rfl rfl rfl ?_|(refine Qo ?_;(first|refine ZC rfl rfl ?_|refine QO rfl rfl ?_))|(refine Qp ?_;(first|refine Qz rfl ?_|refine Zi 0 1 (Zl _) rfl rfl rfl rfl rfl rfl ?_))|refine WK rfl rfl ?_|refine s_not_d rfl ?_|refine Qd rfl rfl ?_|refine QV rfl rfl (fun _ _ => ?_)))|(refine Qk ?_;(first|refine Qi ?_|refine QK rfl ?_|refine Wx rfl rfl rfl rfl ?_|refine W1 rfl rfl rfl rfl ?_|refine Q7 rfl rfl (by omega) ?_))|(refine Qj ?_;(first|refine Ql ?_|refine Qc ?_|refine Qh rfl ?_|refine Qt ?_)))
   exact e_0 (Tryz.results45) (c_pm rfl (by simp [hp]) (by simp [hp]) (by omega))
 ·refine Qa Tryz.func45 rfl Tryz.ntmps45 rfl (t := [(0, .ptr 0 g0 0), (1, .agg [.i k, .i n, .i m, QT ks])]) rfl fun E hE => ?_
  (repeat' first|(refine Qe ?_;(first|refine QI rfl ?_|refine Qb rfl rfl rfl ?_|refine QO rfl rfl ?_|refine Zi 0 1 (Zl _) rfl rfl rfl rfl rfl rfl ?_|(refine QX ?_;(first|refine WK rfl rfl ?_|refine Wr rfl rfl ?_))|refine Wo rfl ?_|refine Qd rfl rfl ?_|refine QV rfl rfl (fun _ _ => ?_)))|(refine Qk ?_;(first|refine Qi ?_|refine QK rfl ?_|refine W1 rfl rfl rfl rfl ?_|refine Q2 rfl rfl (by omega) ?_))|(refine Qj ?_;(first|refine Ql ?_|refine Qc ?_|refine Qh rfl ?_|refine Qt ?_)))
  exact e_0 (Tryz.results45) (c_pm rfl (by simp [hk]) (by simp [hk]) (by omega))
end Go.Proofs
end
section
namespace Go.Av
open Go.Bl Go.Proofs
section
variable {P : Program} {G : Nat -> DV} {B : Nat} {f : Operand -> DV} {σ : List ABlk} {K : DV -> List ABlk -> Prop} {dst : Option Tmp} {type : TypeId} {pos : String} {after : Array Edge} {gd : Option (Nat × Bool)}
theorem s_box_bld {x : Operand} (hx : f x = .agg [.sc (.pointer none), .sc (.slice none 0 0), .sc (.bool false)]) (k : ∀ g g1, B < g -> B < g1 -> K (.ptr σ.length g 0) (σ ++ [pRow σ.length (σ.length + 1) g g1 ([] : List UInt8).length false, .row g1 (WE ([] : List UInt8))])) : OpSem P G B ⟨dst, .box 77 x, type, pos, after, gd⟩ f σ K := fun X ρ hS hσ hB _ hf => by
 subst hσ
 have e1 := hf x (by simp [Op.operands, Call.operands]);rw [hx] at e1
 obtain ⟨h1, h2, h3⟩ := dcells_spec (ds := [.sc (.pointer none), .sc (.slice none 0 0), .sc (.bool false)]) rfl e1
 simp only [execOp, Instr.box, newVar, newRow, run_newObj, Sem.run_bind, Sem.run_pure, Result.andThen_ok, World.alloc_eq]
 generalize ρ x = u at *
 have hk := Keep.alloc X.w (.cells u.cells 77)
 have hnew := heap_alloc_new X.w (.cells u.cells 77)
 have hob : ∀ b' n, some (X.w.heap.size, u.cells.size) = some (b', n) -> X.w.heap.size <= b' := fun b' n h => by cases h;exact Nat.le_refl _
 let R0 : ABlk := .row (X.N + 1) [.sc (.pointer none), .sc (.slice none 0 0), .sc (.bool false)]
 have hh : R0.holds X.lay (X.w.alloc (.cells u.cells 77)) (some (X.w.heap.size, u.cells.size)) := ⟨u.cells, 77, (0, 0), hnew, rfl, by rw [h1];exact Nat.le_refl _, fun j _ h => by simp at h, h3⟩
 have hS' := hS.push hk (B := R0) rfl hob hh
 have hE' := WExt.push hS hk (B := R0) rfl hob
 have hσ1 : (X.push (X.w.alloc (.cells u.cells 77)) (some (X.w.heap.size, u.cells.size)) R0).σ = X.σ ++ [R0] := rfl
 have hρ1 : (X.push (X.w.alloc (.cells u.cells 77)) (some (X.w.heap.size, u.cells.size)) R0).ρ X.σ.length = some (X.w.heap.size, u.cells.size) := by simp [AX.push]
 have hw1 : (X.push (X.w.alloc (.cells u.cells 77)) (some (X.w.heap.size, u.cells.size)) R0).w = X.w.alloc (.cells u.cells 77) := rfl
 have hN1 : (X.push (X.w.alloc (.cells u.cells 77)) (some (X.w.heap.size, u.cells.size)) R0).N = X.N + 1 := rfl
 generalize X.push (X.w.alloc (.cells u.cells 77)) (some (X.w.heap.size, u.cells.size)) R0 = Y at *
 -- the buffer, which lies nowhere yet
 let R1 : ABlk := .row (Y.N + 1) []
 have hob1 : ∀ b' n, (none : Option (Nat × Nat)) = some (b', n) -> Y.w.heap.size <= b' := fun b' n h => by cases h
 have hS1 := hS'.push (Keep.refl Y.w) (B := R1) rfl hob1 rfl
 have hE1 := WExt.push hS' (Keep.refl Y.w) (B := R1) rfl hob1
 have hlen1 : Y.σ.length = X.σ.length + 1 := by rw [hσ1];simp
 have hσ2 : (Y.push Y.w none R1).σ = X.σ ++ [R0, .row (X.N + 2) []] := by show Y.σ ++ [ABlk.row (Y.N + 1) []] = _;rw [hσ1, hN1];simp
 have hρ2 : (Y.push Y.w none R1).ρ X.σ.length = some (X.w.heap.size, u.cells.size) := by simp only [AX.push];rw [if_neg (by omega)];exact hρ1
 have hρ3 : (Y.push Y.w none R1).ρ (X.σ.length + 1) = none := by simp only [AX.push];rw [if_pos hlen1.symm]
 have hw2 : (Y.push Y.w none R1).w = X.w.alloc (.cells u.cells 77) := hw1
 have hN2 : (Y.push Y.w none R1).N = X.N + 2 := by show Y.N + 1 = _;omega
 generalize hZ : Y.push Y.w none R1 = Z at *
 have hk0 : Z.σ[X.σ.length]? = some R0 := by rw [hσ2];simp
 have hk1 : Z.σ[X.σ.length + 1]? = some (.row (X.N + 2) []) := by rw [hσ2];simp
 let R2 : ABlk := pRow X.σ.length (X.σ.length + 1) (X.N + 1) (X.N + 2) 0 false
 have hok : ReplOk Z X.σ.length (X.N + 1) Z.w (Z.ρ X.σ.length) R2 Z.N := {
  live := WI hk0, os := rfl, tape := rfl, output := rfl, size := Nat.le_refl _, block := fun _ _ _ => rfl
  gen := .inr ⟨rfl, Nat.le_refl _, rfl⟩
  lies := fun b n h => .inr ⟨n, h⟩
  shp := fun _ _ h => h }
 have hE2 := WExt.repl hS1 hok
 have hlive : (Z.repl X.σ.length Z.w (Z.ρ X.σ.length) R2 Z.N).live X.σ.length (X.N + 1) := (AX.repl_live (AX.live_lt (WI hk0))).2 (.inr ⟨rfl, rfl⟩)
 have hlive1 : (Z.repl X.σ.length Z.w (Z.ρ X.σ.length) R2 Z.N).live (X.σ.length + 1) (X.N + 2) := (AX.repl_live (AX.live_lt (WI hk0))).2 (.inl ⟨by omega, WI hk1⟩)
 have hc : ∀ j e, [DV.sc (.pointer none), .sc (.slice none 0 0), .sc (.bool false)][j]? = some e -> u.cells.getD j undef = (match e with|.sc v => v|_ => undef) := fun j e hj => by
  have := (h3 j e hj).2
  match j, hj with
  | 0, hj => cases hj;exact VRep.sc_eq this
  | 1, hj => cases hj;exact VRep.sc_eq this
  | 2, hj => cases hj;exact VRep.sc_eq this
 have c0 := hc 0 _ rfl
 have c1 := hc 1 _ rfl
 have c2 := hc 2 _ rfl
 have key : ∀ (ob0 : Option (Nat × Nat)) (w0 : World), ob0 = some (X.w.heap.size, u.cells.size) -> w0 = X.w.alloc (.cells u.cells 77) -> R2.holds (Z.repl X.σ.length Z.w (Z.ρ X.σ.length) R2 Z.N).lay w0 ob0 := fun ob0 w0 e0 ew => by
  subst e0;subst ew
  refine ⟨u.cells, 77, (0, 0), hnew, rfl, by rw [h1];exact Nat.le_refl _, fun j _ h => by simp at h, fun j e hj => ?_⟩
  match j, hj with
  | 0, hj =>
   cases hj
   refine ⟨rfl, ?_⟩
   rw [c0]
   refine .bld _ _ _ _ (by show X.N + 1 <= Z.N;omega) fun ob hob => ?_
   rw [AX.row_mk hlive] at hob
   simp only [AX.repl, if_true, hρ2, Option.some.injEq] at hob
   refine ⟨X.w.heap.size, u.cells.size, hob.symm, ?_, .inl rfl⟩
   show World.shape? _ _ = _
   simp only [AX.repl, hw2, World.shape?, hnew]
   rw [h1];rfl
  | 1, hj =>
   cases hj
   refine ⟨rfl, ?_⟩
   rw [c1]
   refine .bref _ _ _ _ _ _ _ (by show X.N + 2 <= Z.N;omega) fun ob hob => ?_
   rw [AX.row_mk hlive1] at hob
   simp only [AX.repl, if_neg (show ¬ X.σ.length + 1 = X.σ.length by omega), hρ3, Option.some.injEq] at hob
   subst hob
   exact ⟨⟨rfl, rfl, rfl⟩, fun b n h => by cases h⟩
  | 2, hj => cases hj;exact ⟨rfl, by rw [c2];exact .sc _⟩
 have hS2 := Sto.repl' hS1 hok (key _ _ hρ2 hw2)
 have hk2 := k (X.N + 1) (X.N + 2) (by omega) (by omega)
 refine ⟨_, ?_, hS2, (hE'.trans hE1).trans hE2, .ptr X.σ.length (X.N + 1) 0, ?_, ?_⟩
 ·exact hw2
 ·refine .ptr _ _ _ _ (by show X.N + 1 <= Z.N;omega) fun ob hob => ?_
  rw [AX.row_mk hlive] at hob
  simp only [AX.repl, if_true, hρ2, Option.some.injEq] at hob
  exact ⟨_, _, hob.symm, rfl⟩
 ·have : (Z.repl X.σ.length Z.w (Z.ρ X.σ.length) R2 Z.N).σ = X.σ ++ [R2, .row (X.N + 2) []] := by
   simp only [AX.repl, hσ2]
   rw [List.set_append_right _ _ (Nat.le_refl _)]
   simp
  rw [this];exact hk2
end
theorem freeze_other {b n : Nat} (w : World) {b' : Nat} (o : Nat) (h : b' ≠ b) : (w.drew.freeze ⟨b, n, none⟩ o).heap[b']? = w.heap[b']? := by
 unfold World.freeze
 split
 ·rfl
 ·show (w.heap.modify b _)[b']? = _
  rw [Array.getElem?_modify, if_neg (fun e => h e.symm)]
theorem freeze_size (w : World) (a : Addr) (o : Nat) : (w.drew.freeze a o).heap.size = w.heap.size := by
 unfold World.freeze;split
 ·rfl
 ·show (w.heap.modify _ _).size = _;simp
theorem freeze_os (w : World) (a : Addr) (o : Nat) : (w.drew.freeze a o).os = w.os := by unfold World.freeze;split <;> rfl
theorem freeze_tape (w : World) (a : Addr) (o : Nat) : (w.drew.freeze a o).tape = w.tape := by unfold World.freeze;split <;> rfl
theorem freeze_output (w : World) (a : Addr) (o : Nat) : (w.drew.freeze a o).output = w.output := by unfold World.freeze;split <;> rfl
theorem freeze_shape (w : World) (a : Addr) (o b' : Nat) : (w.drew.freeze a o).shape? b' = w.shape? b' := by
 unfold World.freeze
 split
 ·rfl
 ·have key : ∀ x : Option Obj, (match x.map (fun|.cells c elem (lo, hi) => Obj.cells c elem (if lo == hi then (a.off, a.off + o) else (min lo a.off, max hi (a.off + o)))|x => x) with|some (.cells c elem _) => some (elem, c.size)|_ => none) = (match x with|some (.cells c elem _) => some (elem, c.size)|_ => none) := fun x => by
   cases x with
   | none => rfl
   | some o => cases o <;> rfl
  by_cases h : a.block = b'
  ·subst h
   have := key w.heap[a.block]?
   unfold World.shape?
   show (match (w.heap.modify a.block _)[a.block]? with|some (.cells c elem _) => some (elem, c.size)|_ => none) = _
   rw [Array.getElem?_modify, if_pos rfl]
   exact this
  ·unfold World.shape?
   show (match (w.heap.modify a.block _)[b']? with|some (.cells c elem _) => some (elem, c.size)|_ => none) = _
   rw [Array.getElem?_modify, if_neg h]
   rfl
theorem string_c {G : Nat -> DV} {B k0 k1 g0 g1 : Nat} {σ σ' : List ABlk} {o : List UInt8} {bad : Bool} (h0 : σ[k0]? = some (pRow k0 k1 g0 g1 o.length bad)) (h1 : σ[k1]? = some (.row g1 (WE o))) (ho : o ≠ []) (hl : o.length <= 9223372036854775807) (hσ' : setA σ k1 .gone = some σ') :
  ACalls Tryz.prog G B 50 [.ptr k0 g0 0] σ (fun d τ => d = WA o /\ τ = σ') := fun X vs hS hσ hB hG hv => by
 subst hσ
 obtain ⟨hv1, hv2⟩ := hv
 have e1 := hv2 0 _ rfl
 obtain ⟨b, n, hρ, e2⟩ := e1.ptr_inv h0
 have hvs : vs = #[.pointer (some ⟨b, 0, none⟩)] := by
  apply Array.ext
  ·simpa using hv1
  ·intro j hj1 hj2
   have hj : j < 1 := by simpa using hj2
   match j, hj with
   | 0, _ => simpa [Array.getD_eq_getD_getElem?, hj1] using e2
 subst hvs
 obtain ⟨arr, T, fr, q1, q2, q3, q4, q5⟩ := hS.row h0 hρ
 have q30 : 3 <= n := q3
 have hr := (q5 1 _ rfl).2
 have hopos : 0 < o.length := List.length_pos_iff.2 ho
 have hel : (WE o : List DV).length = o.length := by rw [Q4];exact Nat.mul_one _
 obtain ⟨a, l, c, hval⟩ : ∃ a l c, arr.getD 1 undef = .slice a l c := by
  generalize arr.getD 1 undef = u at hr
  cases hr with|bref _ _ _ _ a l c _ _ => exact ⟨a, l, c, rfl⟩
 rw [hval] at hr
 have hinv : RefOk (X.ρ k1) 0 o.length 1 (.slice a l c) /\ ∀ b n, X.ρ k1 = some (b, n) -> ∃ m, X.lay.shp b = some (5, m) := by
  cases hr with|bref _ _ _ _ _ _ _ g1 g2 => exact g2 _ (AX.row_mk (WI h1))
 obtain ⟨hro, hshp⟩ := hinv
 unfold RefOk at hro
 cases hρ1 : X.ρ k1 with
 | none => rw [hρ1] at hro;obtain ⟨_, _, hz⟩ := hro;omega
 | some z =>
  obtain ⟨b1, n1⟩ := z
  rw [hρ1] at hro
  obtain ⟨a', cap, hsl, hlc, hcase⟩ := hro
  cases hsl
  rcases hcase with hcase|⟨rfl, hcap⟩
  ·omega
  obtain ⟨m, hm⟩ := hshp b1 n1 hρ1
  obtain ⟨arr1, T1, fr1, r1, r2, r3, r4, r5⟩ := hS.row h1 hρ1
  have hm' : X.w.shape? b1 = some (5, m) := hm
  have hT1 : T1 = 5 /\ arr1.size = m := by simp only [World.shape?, r1, Option.some.injEq, Prod.mk.injEq] at hm';exact hm'
  obtain ⟨rfl, hsz⟩ := hT1
  have hc1 : X.w.cell? ⟨b, 1, none⟩ = some (.slice (some ⟨b1, 0, none⟩) o.length c) := by
   have : 1 < arr.size := by omega
   simp only [World.cell?, q1]
   rw [<- hval];simp [Array.getD_eq_getD_getElem?, this]
  rw [hel] at r3
  refine (string_row b b1 c o arr1 X.w ho hc1 (by simp only [World.shape?, r1]) hlc hl (by omega) (fun j x hj => ?_)).mono ?_
  ·have hjl := (List.getElem?_eq_some_iff.1 hj).1
   have hen : (WE o : List DV)[j]? = some (.u x) := by
    have := encs_at o j hjl 0 (by decide)
    have hes : Enc.es UInt8 = 1 := rfl
    have hx : o[j] = x := (List.getElem?_eq_some_iff.1 hj).2
    rw [hes, Nat.mul_one, Nat.add_zero, hx] at this
    exact this
   have hrep := VRep.sc_eq (r5 j _ hen).2
   have : j < arr1.size := by omega
   simp only [World.cell?, r1]
   rw [<- hrep];simp [Array.getD_eq_getD_getElem?, this]
  ·rintro e w' ⟨rfl, rfl⟩
   have hmut : X.mut b1 := ⟨k1, g1, n1, WI h1, hρ1⟩
   have hoth : ∀ b', b' ≠ b1 -> (X.w.drew.freeze ⟨b1, 0, none⟩ o.length).heap[b']? = X.w.heap[b']? := fun b' hb' => freeze_other _ _ hb'
   have hset := qH hσ'
   have hlive : ∀ k g, (X.σ.set k1 .gone)[k]?.bind ABlk.gen? = some g -> k ≠ k1 /\ X.live k g := fun k g hg => by
    rw [List.getElem?_set] at hg
    split at hg
    ·split at hg <;> simp [ABlk.gen?] at hg
    ·rename_i hne;exact ⟨fun e => hne e.symm, hg⟩
   let X' : AX := { X with w := X.w.drew.freeze ⟨b1, 0, none⟩ o.length, σ := X.σ.set k1 .gone }
   have hE : WExt X X' := {
    hid := rfl, top := Nat.le_refl _, os := freeze_os _ _ _, tape := freeze_tape _ _ _, output := freeze_output _ _ _, size := Nat.le_of_eq (freeze_size _ _ _).symm
    old := fun b' _ hm' => ⟨hoth b' fun e => hm' (e ▸ hmut), fun ⟨k, g, n, hl', hr'⟩ => hm' ⟨k, g, n, (hlive k g hl').2, hr'⟩⟩
    rows := fun k g _ hl' => ⟨(hlive k g hl').2, rfl⟩
    shp := fun b' s hs => by rw [freeze_shape];exact hs }
   have hS' : Sto X' := {
    inj := fun k k' g g' b n n' hl hl' hr hr' => hS.inj k k' g g' b n n' (hlive k g hl).2 (hlive k' g' hl').2 hr hr'
    gen := fun k g hl => hS.gen k g (hlive k g hl).2
    hid := fun b ⟨k, g, n, hl, hr⟩ hh => hS.hid b ⟨k, g, n, (hlive k g hl).2, hr⟩ hh
    hidlt := fun b hb => Nat.lt_of_lt_of_le (hS.hidlt b hb) (Nat.le_of_eq (freeze_size _ _ _).symm)
    holds := fun k B hB => by
     have hB' : (X.σ.set k1 .gone)[k]? = some B := hB
     cases hg : B.gen? with
     | none => cases B <;> first|trivial|cases hg
     | some g =>
      obtain ⟨hne, hl⟩ := hlive k g (by rw [hB'];exact hg)
      have hBX : X.σ[k]? = some B := by rw [List.getElem?_set_ne (fun e => hne e.symm)] at hB';exact hB'
      exact (hS.holds k B hBX).mono hE.le fun b' n' hb' => hoth b' fun e => hne (hS.inj k k1 g g1 b' n' n1 hl (WI h1) hb' (by rw [e];exact hρ1)) }
   exact ⟨_, rfl, X', rfl, hS', hE, _, .sc _, rfl, hset.symm⟩
abbrev pfx4 (b : ABlk) (g0 : Nat) (p : DV × DV × DV × ABlk) : List ABlk := b :: .row g0 [p.1, p.2.1, p.2.2.1] :: p.2.2.2 :: []
theorem s_call_str {G : Nat -> DV} {B : Nat} {f : Operand -> DV} {σ σ' : List ABlk} {K : DV -> List ABlk -> Prop} {dst : Option Tmp} {type : TypeId} {pos : String} {after : Array Edge} {gd : Option (Nat × Bool)} {args : Array Operand} {ts : Array TypeId} {k0 k1 g0 g1 : Nat} {o : List UInt8} {bad : Bool} (hx : f (.func 50) = .fn (.func 50) [] []) (hds : reL (args.toList.map f) = some [.ptr k0 g0 0]) (h0 : σ[k0]? = some (pRow k0 k1 g0 g1 o.length bad)) (h1 : σ[k1]? = some (.row g1 (WE o))) (ho : o ≠ []) (hl : o.length <= 9223372036854775807) (hσ' : setA σ k1 .gone = some σ') (kk : K (WA o) σ') :
  OpSem Tryz.prog G B ⟨dst, .call ⟨.value (.func 50), args, ts⟩, type, pos, after, gd⟩ f σ K := s_call hx hds ((string_c h0 h1 ho hl hσ').mono fun _ _ ⟨e1, e2⟩ => by rw [e1, e2];exact kk)
end Go.Av
end
section
namespace Go.Proofs
open Go.Av
variable {G : Nat -> DV}
attribute [local irreducible] OpSem Zh ZB ZP ACalls qu AClose RV
open Go.Bl
theorem itoa_ne (n : Int) : Lib.itoa n ≠ [] := by
 intro h
 have h2 := congrArg List.length h
 unfold Lib.itoa at h2
 split at h2
 ·simp at h2
 ·rw [Lib.decDigits_length] at h2
  have := Lib.nDigits_pos n.toNat
  simp at h2;omega
theorem typT_ne (t : Nd) (h : ZH t = true) : qv t ≠ [] := by
 obtain ⟨k, n, m, ks⟩ := t
 rw [ZH] at h
 rw [qv]
 split at h
 ·rename_i hk
  rcases hk with hk|hk <;> simp [hk]
 split at h
 ·rename_i h1 hk;simp [hk]
 split at h
 ·rename_i h1 h2 hk;simp [hk]
 ·cases h
theorem exT_ne (t : Nd) (h : Zs t = true) : exT t ≠ [] := by
 obtain ⟨k, n, m, ks⟩ := t
 rw [Zs] at h
 rw [exT]
 split at h
 ·rename_i hk;rw [if_pos hk];exact itoa_ne n
 split at h
 ·rename_i h1 hk;simp [hk];split <;> simp
 split at h
 ·rename_i h1 h2 hk;simp [hk]
 split at h
 ·rename_i h1 h2 h3 hk;simp [hk]
 split at h
 ·rename_i h1 h2 h3 h4 hk;simp [hk]
 split at h
 ·rename_i h1 h2 h3 h4 h5 hk
  rw [if_neg h1, if_neg h2, if_neg h3, if_neg h4, if_neg h5, if_pos hk, if_pos (by simp at h;simp [h])]
  simp
 split at h
 ·rename_i h1 h2 h3 h4 h5 h6 hk;simp [hk]
 split at h
 ·rename_i h1 h2 h3 h4 h5 h6 h7 hk;simp [hk]
 split at h
 ·rename_i h1 h2 h3 h4 h5 h6 h7 h8 hk;simp [hk]
 ·cases h
theorem line_ne (i : Nat) (s r : List UInt8) : ZR i s ++ r ≠ [] := by simp [ZR]
theorem stT_ne (t : Nd) (i : Nat) : stT t i ≠ [] := by
 obtain ⟨k, n, m, ks⟩ := t
 rw [stT]
 repeat' split
 all_goals simp [ZR]
theorem prT_ne (t : Nd) (h : prOk t = true) : prT t ≠ [] := by
 obtain ⟨k, n, m, ks⟩ := t
 rw [prOk] at h
 rw [prT]
 split
 ·exact line_ne _ _ _
 split
 ·rename_i h1 hk
  rw [if_neg h1, if_pos hk] at h
  rw [ZF] at h
  rw [funT, if_pos (by simp at h;simp [h])]
  exact line_ne _ _ _
 split
 ·rename_i h1 h2 hk
  rw [if_neg h1, if_neg h2, if_pos hk] at h
  exact typT_ne _ h
 split
 ·rename_i h1 h2 h3 hk
  rw [if_neg h1, if_neg h2, if_neg h3, if_pos hk] at h
  exact exT_ne _ h
 ·exact stT_ne _ _
theorem okL_take {ks : List Nd} (h : okL ks) : ∀ j, okL (ks.take j) := fun j => by
 induction ks generalizing j with
 | nil => simpa using h
 | cons x r ih =>
  rw [okL] at h
  cases j with
  | zero => rw [List.take_zero, okL];trivial
  | succ j => rw [List.take_succ_cons, okL];exact ⟨h.1, ih h.2 j⟩
theorem print_c (hG : G 6 = pow10T) (hG1 : G 1 = spaceT) (t : Nd) (hok : okN t) (hsz : Qx t <= 1000000) : Go.Av.Pure Tryz.prog G 18 [.agg (Enc.enc t)] (WA (ZD t)) := fun B => by
 have htyp := fun (o : List UInt8) (b : Bool) => typed_c (G := G) (o := o) hG t hok hsz b
 have hex := fun (o : List UInt8) (b : Bool) => expr_c (G := G) (o := o) hG hG1 t hok hsz b
 have hstm := (stmts_c (G := G) hG hG1 t hok).1
 have hfun := fun (o : List UInt8) (b : Bool) (h : o.length + 7000000 * Qx t <= 140737470000000) => fun_c (G := G) (o := o) (bad := b) hG hG1 t hok hsz h
 have hpne := prT_ne t
 obtain ⟨k, n, m, ks⟩ := t
 unfold ZD
 have hse : Qx (.mk k n m ks) = 1 + QQ ks := by rw [Qx]
 have hok2 := hok
 rw [okN] at hok2
 have hl1 := WV ks
 have hl : ks.length <= 1048576 := by omega
 have hn : -9223372036854775808 <= n /\ n <= 9223372036854775807 := hok2.1.2.1
 have hnl := W5 hok2.1.2.1
 rw [prOk, prT] at *
 rw [Q0] at htyp hex hfun ⊢
 by_cases k27 : k = 27
 ·subst k27
  have hfs : ∀ x ∈ ks, ∀ (o : List UInt8) (b : Bool), o.length + 7000000 * Qx x <= 140737470000000 -> PM Tryz.prog G 45 (fun p g => [.ptr p g 0, .agg (Enc.enc x)]) o b (.tup []) (o ++ funT x) (b || !ZF x) := fun x hx o b h => fun_c (G := G) (o := o) (bad := b) hG hG1 x (Ws hok2.2 hx) (by have := Q9 hx;omega) h
  have hfl := funs_len ks hok2.2 (by omega)
  clear htyp hex hstm hfun
  refine Qa Tryz.func18 rfl Tryz.ntmps18 rfl (t := [(0, .agg [.i _, .i n, .i m, QT ks])]) rfl fun E hE => ?_
  (repeat' first|(refine Qe ?_;(first|refine QI rfl ?_|refine QJ rfl ?_|(refine QB ?_;(first|refine WQ rfl rfl ?_|refine Qb rfl rfl rfl ?_))|(refine Qo ?_;(first|refine QO rfl rfl ?_|refine qe rfl rfl ?_))|(refine Qp ?_;(first|refine Zi 1 2 (Zp _ _ _ _ _ (by assumption)) rfl rfl rfl rfl rfl rfl ?_|refine Zi 1 2 (Zw hG _ (by assumption)) rfl rfl rfl rfl rfl rfl ?_|refine s_pm 1 2 (line_c 0 _ (by omega) (by first|assumption|omega|(simp only [List.length_append, Wh, List.length_cons, List.length_nil];omega))) rfl rfl rfl rfl rfl rfl (fun _ => rfl) (fun _ _ => ?_)|refine Qz rfl ?_))|(refine g_box ?_;(first|refine s_box_bld rfl (fun _ _ _ _ => ?_)|refine QV rfl rfl (fun _ _ => ?_)))|refine Qd rfl rfl ?_|refine QH rfl rfl ?_))|(refine Qk ?_;(first|refine Qi ?_|refine QK rfl ?_))|(refine Qj ?_;(first|refine Ql ?_|refine Qc ?_|refine Qf ?_|refine Qh rfl ?_)))
  rename_i gn hgn gp gb hgp hgb gb2 hgb2
  generalize hhd : [] ++ ZR 0 ([112, 114, 111, 103, 114, 97, 109, 32] ++ Lib.itoa n) = hd at *
  have hhl : hd.length <= 1000 := by rw [<- hhd];simp only [List.length_append, List.length_nil, List.length_cons, Wh];omega
  have hhd2 : ZR 0 ([112, 114, 111, 103, 114, 97, 109, 32] ++ Lib.itoa n) = hd := by rw [<- hhd];simp
  generalize hb0 : (false || !Q3 m ks.length (-1) || !WX n) = b0 at *
  refine r_loop2 (fun (j : Nat) (g : Nat) => ⟨[(1, .ptr 0 gn 0), (2, WA []), (3, .ptr 1 gp 0), (26, QT ks), (27, .i ks.length), (28, .i j)], [.row gn [.i 27, .i n, .i m, QT ks], pRow 1 2 gp g (hd ++ ((ks.take j).map funT).flatten).length (b0 || !(ks.take j).all ZF), .row g (WE (hd ++ ((ks.take j).map funT).flatten))]⟩) (fun j g => j <= ks.length /\ (g = gb2 \/ E.N < g)) (fun j _ => ks.length - j) 0 gb2 ?_ (by omega) ?_
  ·rw [show (b0 || !(ks.take 0).all ZF) = b0 by simp, show hd ++ ((ks.take 0).map funT).flatten = hd by simp]
   exact zal rfl
  intro j g hj
  have hsl := WP ks j
  have hfl2 := funs_len (ks.take j) (okL_take hok2.2 j) (by omega)
  by_cases hjl : j < ks.length
  ·have hsm := Q9 (List.getElem_mem hjl)
   have hst1 := qG ks j hjl
   have hst2 := WP ks (j + 1)
   have hsx := hfs _ (List.getElem_mem hjl) (hd ++ ((ks.take j).map funT).flatten) (b0 || !(ks.take j).all ZF) (by rw [List.length_append];omega)
   have e1 : hd ++ ((ks.take (j + 1)).map funT).flatten = (hd ++ ((ks.take j).map funT).flatten) ++ funT ks[j] := by rw [flatten_take _ hjl, List.append_assoc]
   have e2 : (b0 || !(ks.take (j + 1)).all ZF) = ((b0 || !(ks.take j).all ZF) || !ZF ks[j]) := by rw [List.take_succ_eq_append_getElem hjl, List.all_append];cases b0 <;> simp
   clear hfs
   (repeat' first|(refine Qe ?_;(first|refine QI rfl ?_|(refine QB ?_;(first|refine WQ rfl rfl ?_|refine QR rfl ?_))|refine QC rfl rfl (by first|assumption|omega|(simp;done)|(simp;omega)) ?_|(refine Qo ?_;(first|refine QY rfl rfl ?_|refine W7 rfl rfl (by omega) ?_))|refine s_pm 1 2 (hsx) rfl rfl rfl rfl rfl rfl (fun _ => rfl) (fun _ _ => ?_)|refine WR rfl rfl rfl rfl ?_|refine QD (fun _ _ => ?_)))|(refine Qk ?_;(first|refine Qi ?_|refine QK rfl ?_|refine Q1 ?_))|(refine Qj ?_;(first|refine Ql ?_|refine Qc ?_|refine Qf ?_|refine Qu ?_|refine Qq rfl (by omega) ?_)))
   rename_i g' hg'
   refine ⟨j + 1, g', ⟨by omega, by omega⟩, by omega, ?_⟩
   rw [e1, e2]
   exact zal rfl
  ·have hje : j = ks.length := by omega
   subst hje
   rw [List.take_length] at *
   (repeat' first|(refine Qe ?_;(first|refine QI rfl ?_|refine Qb rfl rfl rfl ?_|refine QY rfl rfl ?_|refine Qd rfl rfl ?_|refine Qv rfl rfl ?_))|(refine Qk ?_;(first|refine Qi ?_|refine QK rfl ?_))|(refine Qj ?_;(first|refine Ql ?_|refine Qc ?_|refine Qn rfl (by omega) ?_|refine Wp rfl ?_)))
   refine r_cond rfl (fun hb => ?_) (fun hb => ?_)
   ·have hb2 : (Q3 m ks.length (-1) && WX n && ks.all ZF) = false := by rw [<- hb0] at hb;revert hb;cases Q3 m ks.length (-1) <;> cases WX n <;> simp
    (repeat' first|refine QJ rfl ?_|(refine Qk ?_;(first|refine Qi ?_|refine QK rfl ?_))|(refine Qj ?_;(first|refine Ql ?_|refine Qc ?_|refine Qt ?_)))
    refine e_1 Tryz.results18 (Qg rfl) (Qs ?_)
    rw [if_pos rfl, hb2];rfl
   ·have hb2 : (Q3 m ks.length (-1) && WX n && ks.all ZF) = true := by rw [<- hb0] at hb;revert hb;cases Q3 m ks.length (-1) <;> cases WX n <;> simp
    have hne : hd ++ (ks.map funT).flatten ≠ [] := by rw [<- hhd];simp [ZR]
    have hlim : (hd ++ (ks.map funT).flatten).length <= 9223372036854775807 := by rw [List.length_append];omega
    (repeat' first|(refine Qe ?_;(first|refine QI rfl ?_|refine QJ rfl ?_|refine s_call_str (k0 := 1) (k1 := 2) rfl rfl rfl rfl hne hlim rfl ?_|refine Qd rfl rfl ?_|refine Qv rfl rfl ?_))|(refine Qk ?_;(first|refine Qi ?_|refine QK rfl ?_))|(refine Qj ?_;(first|refine Ql ?_|refine Qc ?_|refine Qu ?_|refine Qt ?_)))
    refine e_1 Tryz.results18 (Qg rfl) (Qs ?_)
    rw [if_pos rfl, if_pos rfl, hhd2, if_pos hb2]
 by_cases k26 : k = 26
 ·subst k26
  have hlx := funT_len _ hok hsz
  refine Qa Tryz.func18 rfl Tryz.ntmps18 rfl (t := [(0, .agg [.i _, .i n, .i m, QT ks])]) rfl fun E hE => ?_
  (repeat' first|(refine Qe ?_;(first|refine QI rfl ?_|refine QJ rfl ?_|(refine QB ?_;(first|refine WQ rfl rfl ?_|refine Qb rfl rfl rfl ?_))|refine QO rfl rfl ?_|refine s_pm 1 2 (hfun _ _ (by first|assumption|omega|(simp only [List.length_append, Wh, List.length_cons, List.length_nil];omega))) rfl rfl rfl rfl rfl rfl (fun _ => rfl) (fun _ _ => ?_)|(refine g_box ?_;(first|refine s_box_bld rfl (fun _ _ _ _ => ?_)|refine QV rfl rfl (fun _ _ => ?_)))|refine Qd rfl rfl ?_|refine QH rfl rfl ?_|refine Qv rfl rfl ?_))|(refine Qk ?_;(first|refine Qi ?_|refine QK rfl ?_))|(refine Qj ?_;(first|refine Ql ?_|refine Qc ?_|refine Qf ?_|refine Qh rfl ?_|refine Qm rfl ?_)))
  refine r_cond rfl (fun hb => ?_) (fun hb => ?_)
  ·have hb2 : ZF (.mk 26 n m ks) = false := by simpa using hb
   (repeat' first|refine QJ rfl ?_|(refine Qk ?_;(first|refine Qi ?_|refine QK rfl ?_))|(refine Qj ?_;(first|refine Ql ?_|refine Qc ?_|refine Qt ?_)))
   refine e_1 Tryz.results18 (Qg rfl) (Qs ?_)
   simp [hb2, *]
  ·have hb2 : ZF (.mk 26 n m ks) = true := by simpa using hb
   have hne : ([] ++ funT (.mk 26 n m ks)) ≠ [] := by have := hpne (by simp [hb2, *]);simpa [*] using this
   have hlim : (([] ++ funT (.mk 26 n m ks))).length <= 9223372036854775807 := by have hll := hlx;simp only [List.length_append, List.length_nil, List.length_cons, Wh];omega
   (repeat' first|(refine Qe ?_;(first|refine QI rfl ?_|refine QJ rfl ?_|refine s_call_str (k0 := 1) (k1 := 2) rfl rfl rfl rfl hne hlim rfl ?_|refine Qd rfl rfl ?_|refine Qv rfl rfl ?_))|(refine Qk ?_;(first|refine Qi ?_|refine QK rfl ?_))|(refine Qj ?_;(first|refine Ql ?_|refine Qc ?_|refine Qu ?_|refine Qt ?_)))
   refine e_1 Tryz.results18 (Qg rfl) (Qs ?_)
   simp [hb2, *]
 by_cases kt : 0 <= k /\ k <= 3
 ·obtain ⟨kt0, kt3⟩ := kt
  have hlx := qL _ hok
  refine Qa Tryz.func18 rfl Tryz.ntmps18 rfl (t := [(0, .agg [.i k, .i n, .i m, QT ks])]) rfl fun E hE => ?_
  (repeat' first|(refine Qe ?_;(first|refine QI rfl ?_|refine QJ rfl ?_|refine Qb rfl rfl rfl ?_|(refine Qo ?_;(first|refine Zd rfl rfl ?_|refine W8 rfl rfl ?_|refine QO rfl rfl ?_))|(refine Qp ?_;(first|refine Zi 1 2 (htyp _ _) rfl rfl rfl rfl rfl rfl ?_|refine s_pm 1 2 (write_c _ (by first|assumption|omega|(simp only [List.length_append, List.length_cons, List.length_nil];omega))) rfl rfl rfl rfl rfl rfl (fun _ => rfl) (fun _ _ => ?_)))|refine WK rfl rfl ?_|(refine g_box ?_;(first|refine s_box_bld rfl (fun _ _ _ _ => ?_)|refine QV rfl rfl (fun _ _ => ?_)))|refine Qd rfl rfl ?_|refine QH rfl rfl ?_|refine Qv rfl rfl ?_))|(refine Qk ?_;(first|refine Qi ?_|refine QK rfl ?_|refine Wx rfl rfl rfl rfl ?_|refine Q7 rfl rfl (by omega) ?_))|(refine Qj ?_;(first|refine Ql ?_|refine Qc ?_|refine Qf ?_|(refine Wn ?_;first|(refine QG (pfx4 _ _) 100 [(0, true), (1, true), (2, true), (3, true), (4, true), (5, false), (6, false)] (by rfl) (by rfl) (by kernel_rfl) (by decide +kernel) (by decide +kernel) ⟨(_, _, _, _), rfl⟩ ?_)|refine Q6 (by rfl) (by kernel_rfl) (by kernel_rfl) ?_|refine Q5 (by kernel_rfl) (by kernel_rfl) ?_)|refine Qq rfl (by omega) ?_|refine Qn rfl (by omega) ?_))|(refine Zf ?_;(first|refine ZY ?_|refine i_st rfl rfl (fun _ => (by (repeat' first|(refine Qe ?_;(first|refine QI rfl ?_|refine WQ rfl rfl ?_|refine Qd rfl rfl ?_|refine Qv rfl rfl ?_))|exact ⟨rfl, rfl⟩))) ?_|refine i_ef rfl ?_))|refine And.intro (Exists.intro ((_, _, _, _)) rfl) ?_)
  refine r_cond rfl (fun hb => ?_) (fun hb => ?_)
  ·have hb2 : ZH (.mk k n m ks) = false := by simpa using hb
   (repeat' first|refine QJ rfl ?_|(refine Qk ?_;(first|refine Qi ?_|refine QK rfl ?_))|(refine Qj ?_;(first|refine Ql ?_|refine Qc ?_|refine Qt ?_)))
   refine e_1 Tryz.results18 (Qg rfl) (Qs ?_)
   simp [hb2, *]
  ·have hb2 : ZH (.mk k n m ks) = true := by simpa using hb
   have hne : ([] ++ qv (.mk k n m ks)) ≠ [] := by have := hpne (by simp [hb2, *]);simpa [*] using this
   have hlim : (([] ++ qv (.mk k n m ks))).length <= 9223372036854775807 := by have hll := hlx;simp only [List.length_append, List.length_nil, List.length_cons, Wh];omega
   (repeat' first|(refine Qe ?_;(first|refine QI rfl ?_|refine QJ rfl ?_|refine s_call_str (k0 := 1) (k1 := 2) rfl rfl rfl rfl hne hlim rfl ?_|refine Qd rfl rfl ?_|refine Qv rfl rfl ?_))|(refine Qk ?_;(first|refine Qi ?_|refine QK rfl ?_))|(refine Qj ?_;(first|refine Ql ?_|refine Qc ?_|refine Qu ?_|refine Qt ?_)))
   refine e_1 Tryz.results18 (Qg rfl) (Qs ?_)
   simp [hb2, *]
 by_cases ke : 4 <= k /\ k <= 12
 ·obtain ⟨ke0, ke3⟩ := ke
  have hlx := qK _ hok
  refine Qa Tryz.func18 rfl Tryz.ntmps18 rfl (t := [(0, .agg [.i k, .i n, .i m, QT ks])]) rfl fun E hE => ?_
  (repeat' first|(refine Qe ?_;(first|refine QI rfl ?_|refine QJ rfl ?_|refine Qb rfl rfl rfl ?_|(refine Qo ?_;(first|refine Zd rfl rfl ?_|refine W8 rfl rfl ?_|refine QO rfl rfl ?_))|(refine Qp ?_;(first|refine Zi 1 2 (hex _ _) rfl rfl rfl rfl rfl rfl ?_|refine s_pm 1 2 (write_c _ (by first|assumption|omega|(simp only [List.length_append, List.length_cons, List.length_nil];omega))) rfl rfl rfl rfl rfl rfl (fun _ => rfl) (fun _ _ => ?_)))|refine WK rfl rfl ?_|(refine g_box ?_;(first|refine s_box_bld rfl (fun _ _ _ _ => ?_)|refine QV rfl rfl (fun _ _ => ?_)))|refine Qd rfl rfl ?_|refine QH rfl rfl ?_|refine Qv rfl rfl ?_))|(refine Qk ?_;(first|refine Qi ?_|refine QK rfl ?_|refine Wx rfl rfl rfl rfl ?_|refine Q7 rfl rfl (by omega) ?_))|(refine Qj ?_;(first|refine Ql ?_|refine Qc ?_|refine Qf ?_|(refine Wn ?_;first|(refine QG (pfx4 _ _) 100 [(0, true), (1, true), (2, true), (3, true), (4, true), (5, false), (6, false)] (by rfl) (by rfl) (by kernel_rfl) (by decide +kernel) (by decide +kernel) ⟨(_, _, _, _), rfl⟩ ?_)|refine Q6 (by rfl) (by kernel_rfl) (by kernel_rfl) ?_|refine Q5 (by kernel_rfl) (by kernel_rfl) ?_)|refine Qq rfl (by omega) ?_|refine Qn rfl (by omega) ?_))|(refine Zf ?_;(first|refine ZY ?_|refine i_st rfl rfl (fun _ => (by (repeat' first|(refine Qe ?_;(first|refine QI rfl ?_|refine WQ rfl rfl ?_|refine Qd rfl rfl ?_|refine Qv rfl rfl ?_))|exact ⟨rfl, rfl⟩))) ?_|refine i_ef rfl ?_))|refine And.intro (Exists.intro ((_, _, _, _)) rfl) ?_)
  refine r_cond rfl (fun hb => ?_) (fun hb => ?_)
  ·have hb2 : Zs (.mk k n m ks) = false := by simpa using hb
   (repeat' first|refine QJ rfl ?_|(refine Qk ?_;(first|refine Qi ?_|refine QK rfl ?_))|(refine Qj ?_;(first|refine Ql ?_|refine Qc ?_|refine Qt ?_)))
   refine e_1 Tryz.results18 (Qg rfl) (Qs ?_)
   simp [hb2, *]
  ·have hb2 : Zs (.mk k n m ks) = true := by simpa using hb
   have hne : ([] ++ exT (.mk k n m ks)) ≠ [] := by have := hpne (by simp [hb2, *]);simpa [*] using this
   have hlim : (([] ++ exT (.mk k n m ks))).length <= 9223372036854775807 := by have hll := hlx;simp only [List.length_append, List.length_nil, List.length_cons, Wh];omega
   (repeat' first|(refine Qe ?_;(first|refine QI rfl ?_|refine QJ rfl ?_|refine s_call_str (k0 := 1) (k1 := 2) rfl rfl rfl rfl hne hlim rfl ?_|refine Qd rfl rfl ?_|refine Qv rfl rfl ?_))|(refine Qk ?_;(first|refine Qi ?_|refine QK rfl ?_))|(refine Qj ?_;(first|refine Ql ?_|refine Qc ?_|refine Qu ?_|refine Qt ?_)))
   refine e_1 Tryz.results18 (Qg rfl) (Qs ?_)
   simp [hb2, *]
 ·have hlx := (st_lenX hok (i := 0) (by omega)).1
  have hst0 : ∀ (o : List UInt8) (b : Bool), o.length + 7000000 * Qx (.mk k n m ks) <= 140737470000000 -> PM Tryz.prog G 49 (fun p g => [.ptr p g 0, .i 0, .agg [.i k, .i n, .i m, QT ks]]) o b (.tup []) (o ++ stT (.mk k n m ks) 0) (b || !qh (.mk k n m ks)) := fun o b h => by
   have := hstm 0 o b (by omega) h
   rwa [Q0] at this
  clear hstm
  by_cases kn : 0 <= k
  ·have k13 : 13 <= k := by omega
   have k3n : ¬ k <= 3 := by omega
   have k12n : ¬ k <= 12 := by omega
   refine Qa Tryz.func18 rfl Tryz.ntmps18 rfl (t := [(0, .agg [.i k, .i n, .i m, QT ks])]) rfl fun E hE => ?_
   (repeat' first|(refine Qe ?_;(first|refine QI rfl ?_|refine QJ rfl ?_|(refine QB ?_;(first|refine WQ rfl rfl ?_|refine Qb rfl rfl rfl ?_))|(refine Qo ?_;(first|refine Zd rfl rfl ?_|refine W8 rfl rfl ?_|refine QO rfl rfl ?_))|refine s_pm 1 2 (hst0 _ _ (by first|assumption|omega|(simp only [List.length_append, Wh, List.length_cons, List.length_nil];omega))) rfl rfl rfl rfl rfl rfl (fun _ => rfl) (fun _ _ => ?_)|refine WK rfl rfl ?_|(refine g_box ?_;(first|refine s_box_bld rfl (fun _ _ _ _ => ?_)|refine QV rfl rfl (fun _ _ => ?_)))|refine Qd rfl rfl ?_|refine QH rfl rfl ?_|refine Qv rfl rfl ?_))|(refine Qk ?_;(first|refine Qi ?_|refine QK rfl ?_|refine Wx rfl rfl rfl rfl ?_|refine Q7 rfl rfl (by omega) ?_))|(refine Qj ?_;(first|refine Ql ?_|refine Qc ?_|refine Qf ?_|refine Qn rfl (by omega) ?_)))
   refine r_cond rfl (fun hb => ?_) (fun hb => ?_)
   ·have hb2 : qh (.mk k n m ks) = false := by simpa using hb
    (repeat' first|refine QJ rfl ?_|(refine Qk ?_;(first|refine Qi ?_|refine QK rfl ?_))|(refine Qj ?_;(first|refine Ql ?_|refine Qc ?_|refine Qt ?_)))
    refine e_1 Tryz.results18 (Qg rfl) (Qs ?_)
    simp [hb2, *]
   ·have hb2 : qh (.mk k n m ks) = true := by simpa using hb
    have hne : ([] ++ stT (.mk k n m ks) 0) ≠ [] := by have := hpne (by simp [hb2, *]);simpa [*] using this
    have hlim : (([] ++ stT (.mk k n m ks) 0)).length <= 9223372036854775807 := by have hll := hlx;simp only [List.length_append, List.length_nil, List.length_cons, Wh];omega
    (repeat' first|(refine Qe ?_;(first|refine QI rfl ?_|refine QJ rfl ?_|refine s_call_str (k0 := 1) (k1 := 2) rfl rfl rfl rfl hne hlim rfl ?_|refine Qd rfl rfl ?_|refine Qv rfl rfl ?_))|(refine Qk ?_;(first|refine Qi ?_|refine QK rfl ?_))|(refine Qj ?_;(first|refine Ql ?_|refine Qc ?_|refine Qu ?_|refine Qt ?_)))
    refine e_1 Tryz.results18 (Qg rfl) (Qs ?_)
    simp [hb2, *]
  ·refine Qa Tryz.func18 rfl Tryz.ntmps18 rfl (t := [(0, .agg [.i k, .i n, .i m, QT ks])]) rfl fun E hE => ?_
   (repeat' first|(refine Qe ?_;(first|refine QI rfl ?_|refine QJ rfl ?_|(refine QB ?_;(first|refine WQ rfl rfl ?_|refine Qb rfl rfl rfl ?_))|(refine Qo ?_;(first|refine W8 rfl rfl ?_|refine QO rfl rfl ?_))|refine s_pm 1 2 (hst0 _ _ (by first|assumption|omega|(simp only [List.length_append, Wh, List.length_cons, List.length_nil];omega))) rfl rfl rfl rfl rfl rfl (fun _ => rfl) (fun _ _ => ?_)|refine Wr rfl rfl ?_|(refine g_box ?_;(first|refine s_box_bld rfl (fun _ _ _ _ => ?_)|refine QV rfl rfl (fun _ _ => ?_)))|refine Qd rfl rfl ?_|refine QH rfl rfl ?_|refine Qv rfl rfl ?_))|(refine Qk ?_;(first|refine Qi ?_|refine QK rfl ?_|refine W1 rfl rfl rfl rfl ?_|refine Q2 rfl rfl (by omega) ?_))|(refine Qj ?_;(first|refine Ql ?_|refine Qc ?_|refine Qf ?_|refine Qm rfl ?_|refine Qn rfl (by omega) ?_)))
   refine r_cond rfl (fun hb => ?_) (fun hb => ?_)
   ·have hb2 : qh (.mk k n m ks) = false := by simpa using hb
    (repeat' first|refine QJ rfl ?_|(refine Qk ?_;(first|refine Qi ?_|refine QK rfl ?_))|(refine Qj ?_;(first|refine Ql ?_|refine Qc ?_|refine Qt ?_)))
    refine e_1 Tryz.results18 (Qg rfl) (Qs ?_)
    simp [hb2, *]
   ·have hb2 : qh (.mk k n m ks) = true := by simpa using hb
    have hne : ([] ++ stT (.mk k n m ks) 0) ≠ [] := by have := hpne (by simp [hb2, *]);simpa [*] using this
    have hlim : (([] ++ stT (.mk k n m ks) 0)).length <= 9223372036854775807 := by have hll := hlx;simp only [List.length_append, List.length_nil, List.length_cons, Wh];omega
    (repeat' first|(refine Qe ?_;(first|refine QI rfl ?_|refine QJ rfl ?_|refine s_call_str (k0 := 1) (k1 := 2) rfl rfl rfl rfl hne hlim rfl ?_|refine Qd rfl rfl ?_|refine Qv rfl rfl ?_))|(refine Qk ?_;(first|refine Qi ?_|refine QK rfl ?_))|(refine Qj ?_;(first|refine Ql ?_|refine Qc ?_|refine Qu ?_|refine Qt ?_)))
    refine e_1 Tryz.results18 (Qg rfl) (Qs ?_)
    simp [hb2, *]
def befP (ks : List Nd) : Nat := (ks.map fun x => nlC (ZD x)).sum
theorem befP_take {ks : List Nd} {i : Nat} (h : i < ks.length) : befP (ks.take (i + 1)) = befP (ks.take i) + nlC (ZD ks[i]) := by
 unfold befP
 rw [List.take_succ_eq_append_getElem h, List.map_append, List.sum_append];simp
theorem befP_le : ∀ (ks : List Nd), okL ks -> QQ ks <= 1000000 -> befP ks <= 7000000 * QQ ks
 | [], _, _ => by simp [befP]
 | x :: r, h, hs => by
  rw [okL] at h
  rw [QQ] at hs ⊢
  have h1 := print_len x h.1 (by omega)
  have h2 := nl_le (ZD x)
  have h3 := befP_le r h.2 (by omega)
  have : befP (x :: r) = nlC (ZD x) + befP r := by unfold befP;rw [List.map_cons, List.sum_cons]
  rw [this, Nat.mul_add];omega
def stepL (k : Int) (ks : List Nd) (a : Int) : Int :=
 if k = 27 \/ k = 13 then 1 + (befP (ks.take a.toNat) : Nat) else if (k = 17 /\ a = 2) \/ (k = 21 /\ a = 1) then (nlC (ZD (ks.getD (a - 1).toNat (.mk 0 0 0 []))) : Nat) - 1 else 0
def lineGo : List Int -> Nd -> Int -> Int
 | [], _, at_ => at_
 | a :: p, .mk k n m ks, at_ => lineGo p (ks.getD a.toNat (.mk 0 0 0 [])) (at_ + stepL k ks a)
def kindN : Nd -> Int
 | .mk k _ _ _ => k
def lineM (t : Nd) (path : List Int) : Int := if atM path t = none \/ kindN t ≠ 27 \/ ZD t = [] then 0 else lineGo path t 1
theorem okL_at {ks : List Nd} (h : okL ks) {i : Nat} (hi : i < ks.length) : okN ks[i] := Ws h (List.getElem_mem hi)
theorem step_bound {k : Int} {n m : Int} {ks : List Nd} {a : Int} (hok : okN (.mk k n m ks)) (hs : Qx (.mk k n m ks) <= 1000000) (h0 : 0 <= a) (h1 : a.toNat < ks.length) :
  -1 <= stepL k ks a /\ stepL k ks a + 8000000 * (Qx ks[a.toNat] : Int) <= 8000000 * (Qx (.mk k n m ks) : Int) := by
 rw [okN] at hok
 rw [Qx] at hs ⊢
 have hsm := Q9 (List.getElem_mem h1)
 unfold stepL
 split
 ·have hb := befP_le (ks.take a.toNat) (okL_take hok.2 _) (by have := WP ks a.toNat;omega)
  have ht := qG ks a.toNat h1
  have hl := WP ks (a.toNat + 1)
  omega
 ·split
  ·rename_i hc
   have h3 : (a - 1).toNat < ks.length := by omega
   have e : ks.getD (a - 1).toNat (.mk 0 0 0 []) = ks[(a - 1).toNat] := by rw [List.getD_eq_getElem?_getD, List.getElem?_eq_getElem h3];rfl
   rw [e]
   have hp := print_len _ (okL_at hok.2 h3) (by have := Q9 (List.getElem_mem h3);omega)
   have hn := nl_le (ZD ks[(a - 1).toNat])
   have ht := qG ks (a - 1).toNat h3
   have e2 : a.toNat = (a - 1).toNat + 1 := by omega
   have h4 : (a - 1).toNat + 1 < ks.length := by omega
   have ht2 := qG ks ((a - 1).toNat + 1) h4
   have hl := WP ks ((a - 1).toNat + 1 + 1)
   have hx : Qx ks[a.toNat] = Qx ks[(a - 1).toNat + 1] := by simp only [e2]
   omega
  ·omega
theorem before_c (hG : G 6 = pow10T) (hG1 : G 1 = spaceT) (k n m : Int) (ks : List Nd) (hok : okL ks) (hs : QQ ks <= 1000000) (a : Int) (h0 : 0 <= a) (h1 : a.toNat < ks.length) (at_ : Int) (ha1 : -5000000000000000000 <= at_) (ha2 : at_ <= 9000000000000) (c5 : List DV) (g2 g5 g7 g9 B : Nat) :
  ACalls Tryz.prog G B 68 [.ptr 0 g2 0, .ptr 3 g9 0, .ptr 2 g7 0] [.row g2 [.i k, .i n, .i m, QT ks], .row g5 c5, .row g7 [.i at_], .row g9 [.i a]] (fun d τ => d = .tup [] /\ τ = [.row g2 [.i k, .i n, .i m, QT ks], .row g5 c5, .row g7 [.i (at_ + (befP (ks.take a.toNat) : Nat))], .row g9 [.i a]]) := by
 have hln := WV ks
 refine Qa Tryz.func68 rfl Tryz.ntmps68 rfl (t := [(0, .ptr 0 g2 0), (1, .ptr 3 g9 0), (2, .ptr 2 g7 0)]) rfl fun E hE => ?_
 (repeat' first|(refine Qe ?_;(first|refine QI rfl ?_|refine Qb rfl rfl rfl ?_|refine Qz rfl ?_|refine Qd rfl rfl ?_|refine s_slice_h rfl rfl (by omega) (by omega) ?_))|(refine Qk ?_;(first|refine Qi ?_|refine QK rfl ?_))|(refine Qj ?_;(first|refine Ql ?_|refine Qc ?_|refine Qf ?_)))
 have hsub : ∀ (i : Nat) (h : i < (ks.take a.toNat).length), Go.Av.Pure Tryz.prog G 18 [.agg (Enc.enc (ks.take a.toNat)[i])] (WA (ZD (ks.take a.toNat)[i])) /\ Go.Av.Pure Tryz.prog G 69 [WA (ZD (ks.take a.toNat)[i])] (.i (nlC (ZD (ks.take a.toNat)[i]))) := fun i h => by
  have hm : (ks.take a.toNat)[i] ∈ ks := List.mem_of_mem_take (List.getElem_mem h)
  have hsz := Q9 hm
  have hle := print_len _ (Ws hok hm) (by omega)
  exact ⟨print_c hG hG1 _ (Ws hok hm) (by omega), lines_c _ (print_asc _) (by omega)⟩
 have hbl := befP_le (ks.take a.toNat) (okL_take hok _) (by have := WP ks a.toNat;omega)
 have hsl := WP ks a.toNat
 have hbm : ∀ i, befP ((ks.take a.toNat).take i) <= 7000000000000 := fun i => by
  have h2 := befP_le ((ks.take a.toNat).take i) (okL_take (okL_take hok _) _) (by have := WP (ks.take a.toNat) i;omega)
  have := WP (ks.take a.toNat) i;omega
 have hll2 : (ks.take a.toNat).length <= 1000000 := by rw [List.length_take];omega
 generalize hll : ks.take a.toNat = l at *
 refine ZQ (fun (i : Nat) => ⟨[(2, .ptr 2 g7 0), (8, QT l), (9, .i l.length), (10, .i i)], [.row g2 [.i k, .i n, .i m, QT ks], .row g5 c5, .row g7 [.i (at_ + (befP (l.take i) : Nat))], .row g9 [.i a]]⟩) (fun i => i <= l.length) (fun i => l.length - i) 0 ?_ (by omega) ?_
 ·rw [show at_ + ((befP (l.take 0) : Nat) : Int) = at_ by simp [befP]]
  exact zal rfl
 intro i hi
 have hb0 := hbm i
 by_cases hil : i < l.length
 ·obtain ⟨hp1, hl1⟩ := hsub i hil
  have hst := befP_take hil
  have hb1 := hbm (i + 1)
  have e : at_ + ((befP (l.take (i + 1)) : Nat) : Int) = at_ + ((befP (l.take i) : Nat) : Int) + ((nlC (ZD l[i]) : Nat) : Int) := by rw [hst];omega
  clear hsub hbm
  (repeat' first|(refine Qe ?_;(first|refine QI rfl ?_|refine QR rfl ?_|refine QC rfl rfl (by first|assumption|omega|(simp;done)|(simp;omega)) ?_|(refine Qo ?_;(first|refine QY rfl rfl ?_|refine W7 rfl rfl (by omega) ?_))|(refine Wv ?_;(first|refine WR rfl rfl rfl rfl ?_|refine We rfl rfl rfl rfl (by rfl) (by rfl) (by rfl) ?_))|refine QD (fun _ _ => ?_)))|(refine Qk ?_;(first|refine Qi ?_|refine QK rfl ?_|refine Q1 ?_))|(refine Qj ?_;(first|refine Ql ?_|refine Qc ?_|refine Qf ?_|(refine Wn ?_;first|refine Q6 (by rfl) (by kernel_rfl) (by kernel_rfl) ?_|refine Q5 (by kernel_rfl) (by kernel_rfl) ?_)|refine Qu ?_|refine Qq rfl (by omega) ?_))|(refine ZZ ?_;(first|refine x_op rfl (by (repeat' first|(refine Qe ?_;(first|(refine QB ?_;(first|refine WQ rfl rfl ?_|refine Qb rfl rfl rfl ?_))|refine W7 rfl rfl (by omega) ?_|(refine Qp ?_;(first|refine QZ rfl rfl (hp1) ?_|refine QZ rfl rfl (hl1) ?_))))|exact ⟨rfl, rfl⟩)) ?_|refine ZT ?_)))
  refine ⟨i + 1, by omega, by omega, ?_⟩
  rw [e]
  exact zal rfl
 ·have hie : i = l.length := by omega
  subst hie
  rw [List.take_length]
  clear hsub hbm
  (repeat' first|refine QY rfl rfl ?_|(refine Qk ?_;(first|refine Qi ?_|refine QK rfl ?_))|(refine Qj ?_;(first|refine Ql ?_|refine Qc ?_|refine Qn rfl (by omega) ?_|refine Wp rfl ?_)))
  exact e_0 (Tryz.results68) (Ze (σ := [_, _, _, _]) ⟨rfl, rfl⟩)
theorem line_c1 (hG : G 6 = pow10T) (hG1 : G 1 = spaceT) (t : Nd) (hok : okN t) (hs : Qx t <= 1000000) (path : List Int) (hpl : path.length <= 4611686018427387904) : Go.Av.Pure Tryz.prog G 26 [.agg (Enc.enc t), QT path] (.i (lineM t path)) := fun B => by
 have hat := trAt_c (G := G) t hs path hpl
 have hpt := print_c hG hG1 t hok hs
 unfold lineM
 cases ha : atM path t with
 | none =>
  rw [ha] at hat
  have hat : Go.Av.Pure Tryz.prog G 67 [.agg (Enc.enc t), QT path] (.tup [.agg (Enc.enc (Nd.mk 0 0 0 [])), .b false]) := hat
  rw [if_pos (by simp)]
  refine Qa Tryz.func26 rfl Tryz.ntmps26 rfl (t := [(0, .agg (Enc.enc t)), (1, QT path)]) rfl fun E hE => ?_
  (repeat' first|(refine Qe ?_;(first|refine QI rfl ?_|refine QJ rfl ?_|refine WQ rfl rfl ?_|refine Zn rfl rfl hat (WS (Wl (WF (Enc.clo _)) (Wl Wm WZ))) ?_|refine WK rfl rfl ?_|refine WR rfl rfl rfl rfl ?_|refine Wo rfl ?_|refine QM rfl rfl rfl ?_|refine QD (fun _ _ => ?_)|refine QV rfl rfl (fun _ _ => ?_)))|(refine Qk ?_;(first|refine Qi ?_|refine QK rfl ?_|refine Q1 ?_|refine W1 rfl rfl rfl rfl ?_))|(refine Qj ?_;(first|refine Ql ?_|refine Qc ?_|refine Qh rfl ?_|refine Qt ?_)))
  all_goals exact e_1 (Tryz.results26) (Qg rfl) (Qs rfl)
 | some x =>
 rw [ha] at hat
 have hat : Go.Av.Pure Tryz.prog G 67 [.agg (Enc.enc t), QT path] (.tup [.agg (Enc.enc x), .b true]) := hat
 obtain ⟨k, n, m, ks⟩ := t
 rw [Q0 k n m ks] at hat hpt ⊢
 by_cases hk : k = 27
 case neg =>
  rw [if_pos (by simp [kindN, hk])]
  refine Qa Tryz.func26 rfl Tryz.ntmps26 rfl (t := [(0, .agg [.i k, .i n, .i m, QT ks]), (1, QT path)]) rfl fun E hE => ?_
  (repeat' first|(refine Qe ?_;(first|refine QI rfl ?_|refine QJ rfl ?_|(refine QB ?_;(first|refine WQ rfl rfl ?_|refine Qb rfl rfl rfl ?_))|refine ZV rfl rfl ?_|refine Zn rfl rfl hat (WS (Wl (WF (Enc.clo _)) (Wl Wm WZ))) ?_|(refine QX ?_;(first|refine WK rfl rfl ?_|refine Wr rfl rfl ?_))|refine WR rfl rfl rfl rfl ?_|refine Wo rfl ?_|refine Qd rfl rfl ?_|refine QM rfl rfl rfl ?_|refine QD (fun _ _ => ?_)|refine QV rfl rfl (fun _ _ => ?_)))|(refine Qk ?_;(first|refine Qi ?_|refine QK rfl ?_|refine Q1 ?_|refine Wx rfl rfl rfl rfl ?_|refine W1 rfl rfl rfl rfl ?_|refine Q7 rfl rfl (by omega) ?_))|(refine Qj ?_;(first|refine Ql ?_|refine Qc ?_|refine Qh rfl ?_|refine Qt ?_)))
  all_goals exact e_1 (Tryz.results26) (Qg rfl) (Qs rfl)
 by_cases hp0 : ZD (.mk k n m ks) = []
 ·have hd : decide (ZD (.mk k n m ks) = []) = true := decide_eq_true hp0
  rw [if_pos (by simp [hp0])]
  refine Qa Tryz.func26 rfl Tryz.ntmps26 rfl (t := [(0, .agg [.i k, .i n, .i m, QT ks]), (1, QT path)]) rfl fun E hE => ?_
  (repeat' first|(refine Qe ?_;(first|refine QI rfl ?_|refine QJ rfl ?_|(refine QB ?_;(first|refine WQ rfl rfl ?_|refine Qb rfl rfl rfl ?_))|(refine Qo ?_;(first|refine Wu rfl rfl ?_|refine ZV rfl rfl ?_))|(refine Qp ?_;(first|refine Zn rfl rfl hat (WS (Wl (WF (Enc.clo _)) (Wl Wm WZ))) ?_|refine QZ rfl rfl (hpt) ?_))|refine Wr rfl rfl ?_|refine WR rfl rfl rfl rfl ?_|refine Wo rfl ?_|refine Qd rfl rfl ?_|refine QM rfl rfl rfl ?_|refine QD (fun _ _ => ?_)|refine QV rfl rfl (fun _ _ => ?_)))|(refine Qk ?_;(first|refine Qi ?_|refine QK rfl ?_|refine Q1 ?_|refine Wx rfl rfl rfl rfl ?_|refine Q2 rfl rfl (by omega) ?_))|(refine Qj ?_;(first|refine Ql ?_|refine Qc ?_|refine Qq rfl (by omega) ?_|refine Qt ?_)))
  all_goals exact e_1 (Tryz.results26) (Qg rfl) (Qs rfl)
 have hd : decide (ZD (.mk k n m ks) = []) = false := decide_eq_false hp0
 subst hk
 rw [if_neg (by simp [kindN, hp0])]
 refine Qa Tryz.func26 rfl Tryz.ntmps26 rfl (t := [(0, .agg [.i 27, .i n, .i m, QT ks]), (1, QT path)]) rfl fun E hE => ?_
 (repeat' first|(refine Qe ?_;(first|refine QI rfl ?_|refine QJ rfl ?_|(refine QB ?_;(first|refine WQ rfl rfl ?_|refine Qb rfl rfl rfl ?_))|(refine Qo ?_;(first|refine Wu rfl rfl ?_|refine ZV rfl rfl ?_))|(refine Qp ?_;(first|refine Zn rfl rfl hat (WS (Wl (WF (Enc.clo _)) (Wl Wm WZ))) ?_|refine QZ rfl rfl (hpt) ?_|refine Qz rfl ?_))|refine Wr rfl rfl ?_|(refine Wv ?_;(first|refine WR rfl rfl rfl rfl ?_|refine We rfl rfl rfl rfl (by rfl) (by rfl) (by rfl) ?_))|refine Wo rfl ?_|refine Qd rfl rfl ?_|refine QM rfl rfl rfl ?_|refine QD (fun _ _ => ?_)|refine QV rfl rfl (fun _ _ => ?_)))|(refine Qk ?_;(first|refine Qi ?_|refine QK rfl ?_|refine Q1 ?_|refine Wx rfl rfl rfl rfl ?_))|(refine Qj ?_;(first|refine Ql ?_|refine Qc ?_|refine Qf ?_|refine Qu ?_|refine Qn rfl (by omega) ?_)))
 rename_i g2 hg2 g5 hg5 g7 hg7
 clear hpt hat
 rw [<- Q0 27 n m ks]
 generalize hT : Nd.mk 27 n m ks = t at *
 generalize (Enc.enc x : List DV) = c5 at *
 refine r_loop3 (fun (j : Nat) (cur : Nd) (at_ : Int) => ⟨[(2, .ptr 0 g2 0), (7, .ptr 2 g7 0), (29, QT path), (30, .i path.length), (31, .i j)], [.row g2 (Enc.enc cur), .row g5 c5, .row g7 [.i at_]]⟩) (fun j cur at_ => j <= path.length /\ atM path t = atM (path.drop j) cur /\ lineGo path t 1 = lineGo (path.drop j) cur at_ /\ okN cur /\ Qx cur <= 1000000 /\ -(j : Int) <= at_ /\ at_ + 8000000 * (Qx cur : Int) <= 1 + 8000000 * (Qx t : Int)) (fun j _ _ => path.length - j) 0 t 1 ?_ ⟨by omega, by simp, by simp, hok, hs, by omega, by omega⟩ ?_
 ·exact zal rfl
 intro j cur at_ ⟨hj, he, hgo, hco, hcs, hlo, hhi⟩
 clear hT hok n m ks
 obtain ⟨k, n, m, ks⟩ := cur
 have hpos := Wj (.mk k n m ks)
 have hse : Qx (.mk k n m ks) = 1 + QQ ks := by rw [Qx]
 have hln := WV ks
 rw [Q0]
 by_cases hjl : j < path.length
 case neg =>
  have hje : j = path.length := by omega
  subst hje
  rw [List.drop_length, lineGo] at hgo
  rw [hgo]
  (repeat' first|(refine Qe ?_;(first|refine QJ rfl ?_|refine Qb rfl rfl rfl ?_|refine QY rfl rfl ?_))|(refine Qk ?_;(first|refine Qi ?_|refine QK rfl ?_))|(refine Qj ?_;(first|refine Ql ?_|refine Qc ?_|refine Qn rfl (by omega) ?_|refine Wp rfl ?_|refine Qt ?_)))
  all_goals exact e_1 (Tryz.results26) (Qg rfl) (Qs rfl)
 rw [List.drop_eq_getElem_cons hjl] at he hgo
 have hc : 0 <= path[j] /\ path[j].toNat < ks.length := by
  rcases Classical.em (0 <= path[j] /\ path[j].toNat < ks.length) with h|h
  ·exact h
  ·rw [atM_none (by omega), ha] at he;cases he
 rw [atM_cons hc.1 hc.2] at he
 have hgd : ks.getD path[j].toNat (.mk 0 0 0 []) = ks[path[j].toNat] := by rw [List.getD_eq_getElem?_getD, List.getElem?_eq_getElem hc.2];rfl
 rw [lineGo, hgd] at hgo
 have hsb := step_bound hco hcs hc.1 hc.2
 have hco2 := hco
 rw [okN] at hco2
 have hsm := Q9 (List.getElem_mem hc.2)
 have hcN : okN ks[path[j].toNat] := okL_at hco2.2 hc.2
 obtain ⟨hc0, hc1⟩ := hc
 unfold stepL at hgo hsb
 by_cases hk1 : k = 27 \/ k = 13
 ·rw [if_pos hk1] at hgo hsb
  have hbef := fun (g2 g5 g9 g7 : Nat) => before_c (G := G) hG hG1 k n m ks hco2.2 (by omega) path[j] hc0 hc1 (at_ + 1) (by omega) (by omega) c5 g2 g5 g7 g9 E.N
  have e3 : at_ + (1 + ((befP (ks.take path[j].toNat) : Nat) : Int)) = at_ + 1 + ((befP (ks.take path[j].toNat) : Nat) : Int) := by omega
  rw [e3] at hgo
  rcases hk1 with hk1|hk1
  all_goals
   (repeat' first|(refine Qe ?_;(first|refine QI rfl ?_|refine QJ rfl ?_|(refine QB ?_;(first|refine QS rfl ?_|refine QR rfl ?_|refine Qb rfl rfl rfl ?_))|(refine qJ ?_;(first|refine QC rfl rfl (by first|assumption|omega|(simp;done)|(simp;omega)) ?_|refine qi rfl rfl (by omega) (by first|assumption|omega|(simp;done)|(simp;omega)) ?_))|(refine Qo ?_;(first|refine QY rfl rfl ?_|refine QO rfl rfl ?_|refine W7 rfl rfl (by omega) ?_))|refine qq rfl rfl (hbef _ _ _ _) ?_|(refine Wv ?_;(first|refine WR rfl rfl rfl rfl ?_|refine We rfl rfl rfl rfl (by rfl) (by rfl) (by rfl) ?_))|refine Qd rfl rfl ?_|refine QU rfl rfl ?_|refine QD (fun _ _ => ?_)))|(refine Qk ?_;(first|refine Qi ?_|refine QK rfl ?_|refine Q1 ?_))|(refine Qj ?_;(first|refine Ql ?_|refine Qc ?_|refine Qf ?_|refine Qu ?_|refine Qq rfl (by omega) ?_|refine Qn rfl (by omega) ?_)))
   refine ⟨j + 1, ks[path[j].toNat], _, ⟨by omega, he, hgo, hcN, by omega, by omega, by omega⟩, by omega, ?_⟩
   exact zal rfl
 rw [if_neg hk1] at hgo hsb
 have hbef : True := trivial
 by_cases hk2 : (k = 17 /\ path[j] = 2) \/ (k = 21 /\ path[j] = 1)
 ·rw [if_pos hk2] at hgo hsb
  have h3 : (path[j] - 1).toNat < ks.length := by omega
  have h30 : 0 <= path[j] - 1 := by omega
  have e4 : ks.getD (path[j] - 1).toNat (.mk 0 0 0 []) = ks[(path[j] - 1).toNat] := by rw [List.getD_eq_getElem?_getD, List.getElem?_eq_getElem h3];rfl
  rw [e4] at hgo hsb
  have hsz3 := Q9 (List.getElem_mem h3)
  have hpl3 := print_len _ (okL_at hco2.2 h3) (by omega)
  have hnl3 := nl_le (ZD ks[(path[j] - 1).toNat])
  have hp1 := print_c (G := G) hG hG1 _ (okL_at hco2.2 h3) (by omega)
  have hl1 := lines_c (G := G) (ZD ks[(path[j] - 1).toNat]) (print_asc _) (by omega)
  rcases hk2 with hk2|hk2
  all_goals
   (repeat' first|(refine Qe ?_;(first|refine QI rfl ?_|refine QJ rfl ?_|(refine QB ?_;(first|refine QS rfl ?_|refine QR rfl ?_|refine Qb rfl rfl rfl ?_))|(refine qJ ?_;(first|refine QC rfl rfl (by first|assumption|omega|(simp;done)|(simp;omega)) ?_|refine qi rfl rfl (by omega) (by first|assumption|omega|(simp;done)|(simp;omega)) ?_))|(refine Qo ?_;(first|refine QY rfl rfl ?_|refine QO rfl rfl ?_|refine W7 rfl rfl (by omega) ?_))|(refine QX ?_;(first|refine WK rfl rfl ?_|refine Wr rfl rfl ?_))|(refine Wv ?_;(first|refine WR rfl rfl rfl rfl ?_|refine We rfl rfl rfl rfl (by rfl) (by rfl) (by rfl) ?_))|refine Qd rfl rfl ?_|refine QU rfl rfl ?_|refine QD (fun _ _ => ?_)))|(refine Qk ?_;(first|refine Qi ?_|refine QK rfl ?_|refine Q1 ?_|refine Wx rfl rfl rfl rfl ?_|refine W1 rfl rfl rfl rfl ?_|refine Q7 rfl rfl (by omega) ?_|refine Q2 rfl rfl (by omega) ?_))|(refine Qj ?_;(first|refine Ql ?_|refine Qc ?_|refine Qf ?_|(refine Wn ?_;first|refine Q6 (by rfl) (by kernel_rfl) (by kernel_rfl) ?_|refine Q5 (by kernel_rfl) (by kernel_rfl) ?_)|refine Qu ?_|refine Qm rfl ?_|refine Qq rfl (by omega) ?_|refine Qn rfl (by omega) ?_))|(refine ZZ ?_;(first|refine x_op rfl (by (repeat' first|(refine Qe ?_;(first|(refine QB ?_;(first|refine QR rfl ?_|refine Qb rfl rfl rfl ?_))|refine qi rfl rfl (by omega) (by first|assumption|omega|(simp;done)|(simp;omega)) ?_|(refine Qo ?_;(first|refine W7 rfl rfl (by omega) ?_|refine Zk rfl rfl (by omega) ?_))|(refine Qp ?_;(first|refine QZ rfl rfl (hp1) ?_|refine QZ rfl rfl (hl1) ?_))|refine Qd rfl rfl ?_))|exact ⟨rfl, rfl⟩)) ?_|refine ZT ?_)))
   refine ⟨j + 1, ks[path[j].toNat], _, ⟨by omega, he, hgo, hcN, by omega, by omega, by omega⟩, by omega, ?_⟩
   exact zal rfl
 ·rw [if_neg hk2] at hgo hsb
  rw [Int.add_zero] at hgo
  (repeat' first|(refine Qe ?_;(first|refine QI rfl ?_|refine QJ rfl ?_|(refine QB ?_;(first|refine QS rfl ?_|refine QR rfl ?_|refine Qb rfl rfl rfl ?_))|(refine qJ ?_;(first|refine QC rfl rfl (by first|assumption|omega|(simp;done)|(simp;omega)) ?_|refine qi rfl rfl (by omega) (by first|assumption|omega|(simp;done)|(simp;omega)) ?_))|(refine Qo ?_;(first|refine QY rfl rfl ?_|refine QO rfl rfl ?_|refine W7 rfl rfl (by omega) ?_))|(refine QX ?_;(first|refine WK rfl rfl ?_|refine Wr rfl rfl ?_))|(refine Wv ?_;(first|refine WR rfl rfl rfl rfl ?_|refine We rfl rfl rfl rfl (by rfl) (by rfl) (by rfl) ?_))|refine Qd rfl rfl ?_|refine QU rfl rfl ?_|refine QD (fun _ _ => ?_)))|(refine Qk ?_;(first|refine Qi ?_|refine QK rfl ?_|refine Q1 ?_|refine Wx rfl rfl rfl rfl ?_|refine W1 rfl rfl rfl rfl ?_|refine Q2 rfl rfl (by omega) ?_|refine qY rfl rfl (fun _ => ?_) (fun _ => ?_)))|(refine Qj ?_;(first|refine Ql ?_|refine Qc ?_|refine Qf ?_|refine Qu ?_|refine Qm rfl ?_|refine Qq rfl (by omega) ?_|refine Qn rfl (by omega) ?_)))
  all_goals
   refine ⟨j + 1, ks[path[j].toNat], _, ⟨by omega, he, hgo, hcN, by omega, by omega, by omega⟩, by omega, ?_⟩
   exact zal rfl
theorem nan_c (a : Int) : Go.Av.Pure Tryz.prog G 124 [.i a] (.b false) := fun B => by
 refine Qa Tryz.func124 rfl Tryz.ntmps124 rfl (t := [(0, .i a)]) rfl fun E hE => ?_
 (repeat' first|(refine Qe ?_;(first|refine QI rfl ?_|refine QJ rfl ?_|refine ZV rfl rfl ?_))|(refine Qk ?_;(first|refine Qi ?_|refine QK rfl ?_))|(refine Qj ?_;(first|refine Ql ?_|refine Qc ?_|refine Qt ?_)))
 refine e_1 Tryz.results124 (Qg rfl) (Qs ?_)
 simp
theorem cmpI_c (a : Int) : Go.Av.Pure Tryz.prog G 77 [.i a, .i a] (.i 0) := fun B => by
 refine Qa Tryz.func77 rfl Tryz.ntmps77 rfl (t := [(0, .i a), (1, .i a)]) rfl fun E hE => ?_
 (repeat' first|(refine Qe ?_;(first|refine QI rfl ?_|refine QJ rfl ?_|(refine Qo ?_;(first|refine QY rfl rfl ?_|refine ZC rfl rfl ?_))|refine QZ rfl rfl (nan_c _) ?_))|(refine Qk ?_;(first|refine Qi ?_|refine QK rfl ?_))|(refine Qj ?_;(first|refine Ql ?_|refine Qc ?_|refine Qu ?_|refine Qm rfl ?_|refine Qn rfl (by omega) ?_|refine Qt ?_)))
 refine e_1 Tryz.results77 (Qg rfl) (Qs ?_)
 rfl
theorem or_c (l : List Int) (hl : l.length <= 4) (h : ∀ x ∈ l, x = 0) : Go.Av.Pure Tryz.prog G 76 [QT l] (.i 0) := fun B => by
 refine Qa Tryz.func76 rfl Tryz.ntmps76 rfl (t := [(0, QT l)]) rfl fun E hE => ?_
 (repeat' first|(refine Qe ?_;(first|refine QI rfl ?_|refine QJ rfl ?_|refine Qz rfl ?_))|(refine Qk ?_;(first|refine Qi ?_|refine QK rfl ?_))|(refine Qj ?_;(first|refine Ql ?_|refine Qc ?_|refine Qf ?_)))
 refine ZQ (fun (i : Nat) => ⟨[(3, .i 0), (6, QT l), (7, .i l.length), (8, .i i)], []⟩) (fun i => i <= l.length) (fun i => l.length - i) 0 ?_ (by omega) ?_
 ·exact zal rfl
 intro i hi
 by_cases hil : i < l.length
 ·have h0 := h _ (List.getElem_mem hil)
  (repeat' first|(refine Qe ?_;(first|refine QI rfl ?_|refine QJ rfl ?_|refine QS rfl ?_|refine QC rfl rfl (by first|assumption|omega|(simp;done)|(simp;omega)) ?_|(refine Qo ?_;(first|refine QY rfl rfl ?_|refine ZV rfl rfl ?_|refine W7 rfl rfl (by omega) ?_))))|(refine Qk ?_;(first|refine Qi ?_|refine QK rfl ?_))|(refine Qj ?_;(first|refine Ql ?_|refine Qc ?_|refine Qf ?_|refine Qu ?_|refine Qq rfl (by omega) ?_|refine Qn rfl (by omega) ?_)))
  refine ⟨i + 1, by omega, by omega, ?_⟩
  exact zal rfl
 ·(repeat' first|(refine Qe ?_;(first|refine QI rfl ?_|refine QJ rfl ?_|refine QY rfl rfl ?_))|(refine Qk ?_;(first|refine Qi ?_|refine QK rfl ?_))|(refine Qj ?_;(first|refine Ql ?_|refine Qc ?_|refine Qn rfl (by omega) ?_|refine Wp rfl ?_|refine Qt ?_)))
  refine e_1 Tryz.results76 (Qg rfl) (Qs ?_)
  rfl
theorem cmpF_c (l : List Nd) (hl : l.length <= 1000000) (h : ∀ x ∈ l, Go.Av.Pure Tryz.prog G 32 [.agg (Enc.enc x), .agg (Enc.enc x)] (.i 0)) : Go.Av.Pure Tryz.prog G 78 [QT l, QT l, .fn (.func 32) [] []] (.i 0) := fun B => by
 refine Qa Tryz.func78 rfl Tryz.ntmps78 rfl (t := [(0, QT l), (1, QT l), (2, .fn (.func 32) [] [])]) rfl fun E hE => ?_
 (repeat' first|(refine Qe ?_;(first|refine QI rfl ?_|refine QJ rfl ?_|refine Qz rfl ?_))|(refine Qk ?_;(first|refine Qi ?_|refine QK rfl ?_))|(refine Qj ?_;(first|refine Ql ?_|refine Qc ?_|refine Qf ?_)))
 refine ZQ (fun (i : Nat) => ⟨[(0, QT l), (1, QT l), (2, .fn (.func 32) [] []), (11, QT l), (12, .i l.length), (13, .i i)], []⟩) (fun i => i <= l.length) (fun i => l.length - i) 0 ?_ (by omega) ?_
 ·exact zal rfl
 intro i hi
 by_cases hil : i < l.length
 ·have hfi := h _ (List.getElem_mem hil)
  clear h
  (repeat' first|(refine Qe ?_;(first|refine QI rfl ?_|refine QJ rfl ?_|(refine QB ?_;(first|refine WQ rfl rfl ?_|refine QR rfl ?_))|refine QC rfl rfl (by first|assumption|omega|(simp;done)|(simp;omega)) ?_|(refine Qo ?_;(first|refine QY rfl rfl ?_|refine W8 rfl rfl ?_|refine ZV rfl rfl ?_|refine W7 rfl rfl (by omega) ?_))|(refine Qp ?_;(first|refine Qz rfl ?_|refine qy rfl (hfi) (by repeat' first|exact Wm|exact WD _|exact WH (QN _)|exact QN _|refine ZG ?_ ?_|refine Zy ?_|refine WS ?_|refine WF ?_|exact WZ|refine Wl ?_ ?_|refine WH ?_) ?_))|refine WR rfl rfl rfl rfl ?_|refine QD (fun _ _ => ?_)))|(refine Qk ?_;(first|refine Qi ?_|refine QK rfl ?_|refine Q1 ?_))|(refine Qj ?_;(first|refine Ql ?_|refine Qc ?_|refine Qf ?_|refine Qu ?_|refine Qm rfl ?_|refine Qq rfl (by omega) ?_|refine Qn rfl (by omega) ?_)))
  refine ⟨i + 1, by omega, by omega, ?_⟩
  exact zal rfl
 ·clear h
  (repeat' first|(refine Qe ?_;(first|refine QI rfl ?_|refine QJ rfl ?_|refine QY rfl rfl ?_|refine Qz rfl ?_))|(refine Qk ?_;(first|refine Qi ?_|refine QK rfl ?_))|(refine Qj ?_;(first|refine Ql ?_|refine Qc ?_|refine Qu ?_|refine Qn rfl (by omega) ?_|refine Wp rfl ?_|refine Qt ?_)))
  refine e_1 Tryz.results78 (Qg rfl) (Qs ?_)
  rfl
theorem trCompare_c (t : Nd) : Qx t <= 1000000 -> Go.Av.Pure Tryz.prog G 32 [.agg (Enc.enc t), .agg (Enc.enc t)] (.i 0) := by
 induction t using Nd.ind with
 | h k n m ks ih =>
 intro hsz B
 have hse : Qx (.mk k n m ks) = 1 + QQ ks := by rw [Qx]
 rw [hse] at hsz
 have hln := WV ks
 have hcf := cmpF_c (G := G) ks (by omega) fun x hx => ih x hx (by have := Q9 hx;omega)
 have h4 : ∀ x ∈ [(0 : Int), 0, 0, 0], x = 0 := by decide
 clear ih
 rw [Q0]
 refine Qa Tryz.func32 rfl Tryz.ntmps32 rfl (t := [(0, .agg [.i k, .i n, .i m, QT ks]), (1, .agg [.i k, .i n, .i m, QT ks])]) rfl fun E hE => ?_
 (repeat' first|(refine Qe ?_;(first|refine QJ rfl ?_|refine QV rfl rfl (fun _ _ => ?_)))|(refine Qk ?_;(first|refine Qi ?_|refine QK rfl ?_))|(refine Qj ?_;(first|refine Ql ?_|refine Qc ?_|(refine Wn ?_;first|refine Q6 (by rfl) (by kernel_rfl) (by kernel_rfl) ?_|refine Q5 (by kernel_rfl) (by kernel_rfl) ?_)|refine Qt ?_))|(refine ZZ ?_;(first|refine x_op rfl (by (repeat' first|(refine Qe ?_;(first|refine QJ rfl ?_|refine Qb rfl rfl rfl ?_|(refine Qp ?_;(first|refine QZ rfl rfl (cmpI_c _) ?_|refine QZ rfl rfl (or_c _ (by decide) h4) ?_|refine QZ rfl rfl (hcf) ?_))|refine W4 (cs := WE [(0 : Int), 0, 0, 0]) rfl rfl (by decide) rfl ?_|refine Qd rfl rfl ?_))|exact ⟨rfl, rfl⟩)) ?_|refine ZT ?_)))
 all_goals exact e_1 (Tryz.results32) (Qg rfl) (Qs rfl)
theorem sign_c (a : Int) : Go.Av.Pure Tryz.prog G 120 [.i a, .i a] (.i 0) := fun B => by
 refine Qa Tryz.func120 rfl Tryz.ntmps120 rfl (t := [(0, .i a), (1, .i a)]) rfl fun E hE => ?_
 (repeat' first|(refine Qe ?_;(first|refine QI rfl ?_|refine QJ rfl ?_|(refine Qo ?_;(first|refine QY rfl rfl ?_|refine ZC rfl rfl ?_))))|(refine Qk ?_;(first|refine Qi ?_|refine QK rfl ?_))|(refine Qj ?_;(first|refine Ql ?_|refine Qc ?_|refine Qu ?_|refine Qn rfl (by omega) ?_|refine Qt ?_)))
 refine e_1 Tryz.results120 (Qg rfl) (Qs ?_)
 rfl
theorem r05Compare_c (t : Nd) : Qx t <= 1000000 -> Go.Av.Pure Tryz.prog G 66 [.agg (Enc.enc t), .agg (Enc.enc t)] (.i 0) := by
 induction t using Nd.ind with
 | h k n m ks ih =>
 intro hsz B
 have hse : Qx (.mk k n m ks) = 1 + QQ ks := by rw [Qx]
 rw [hse] at hsz
 have hln := WV ks
 have hx : ∀ x ∈ ks, Go.Av.Pure Tryz.prog G 66 [.agg (Enc.enc x), .agg (Enc.enc x)] (.i 0) := fun x hx => ih x hx (by have := Q9 hx;omega)
 clear ih
 rw [Q0]
 refine Qa Tryz.func66 rfl Tryz.ntmps66 rfl (t := [(0, .agg [.i k, .i n, .i m, QT ks]), (1, .agg [.i k, .i n, .i m, QT ks])]) rfl fun E hE => ?_
 (repeat' first|(refine Qe ?_;(first|refine QJ rfl ?_|refine Qb rfl rfl rfl ?_|refine W4 (cs := WE [(k : Int), n, m]) rfl rfl (by decide) rfl ?_|refine Qd rfl rfl ?_|refine QV rfl rfl (fun _ _ => ?_)))|(refine Qk ?_;(first|refine Qi ?_|refine QK rfl ?_))|(refine Qj ?_;(first|refine Ql ?_|refine Qc ?_|refine Qf ?_)))
 rename_i g2 hg2 g3 hg3
 generalize hxs : [k, n, m] = xs at *
 have hxl : xs.length = 3 := by rw [<- hxs];rfl
 refine ZQ (fun (i : Nat) => ⟨[(2, .ptr 0 g2 0), (3, .ptr 1 g3 0), (5, QT xs), (6, QT xs), (7, .i i)], [.row g2 [.i k, .i n, .i m, QT ks], .row g3 [.i k, .i n, .i m, QT ks]]⟩) (fun i => i <= 3) (fun i => 3 - i) 0 ?_ (by omega) ?_
 ·exact zal rfl
 intro i hi
 by_cases hil : i < 3
 ·have hil2 : i < xs.length := by omega
  (repeat' first|(refine Qe ?_;(first|refine QI rfl ?_|refine QJ rfl ?_|(refine Qo ?_;(first|refine QY rfl rfl ?_|refine W7 rfl rfl (by omega) ?_))))|(refine Qk ?_;(first|refine Qi ?_|refine QK rfl ?_))|(refine Qj ?_;(first|refine Ql ?_|refine Qc ?_|refine Qf ?_|(refine Wn ?_;first|refine Q6 (by rfl) (by kernel_rfl) (by kernel_rfl) ?_|refine Q5 (by kernel_rfl) (by kernel_rfl) ?_)|refine Qu ?_|refine Qq rfl (by omega) ?_|refine Qn rfl (by omega) ?_))|(refine ZZ ?_;(first|refine x_op rfl (by (repeat' first|(refine Qe ?_;(first|refine QI rfl ?_|refine QS rfl ?_|refine QC rfl rfl (by first|assumption|omega|(simp;done)|(simp;omega)) ?_|refine ZV rfl rfl ?_))|exact ⟨rfl, rfl⟩)) ?_|refine ZT ?_)))
  all_goals
   refine ⟨i + 1, by omega, by omega, ?_⟩
   exact zal rfl
 ·(repeat' first|(refine Qe ?_;(first|refine QI rfl ?_|refine QJ rfl ?_|refine QY rfl rfl ?_))|(refine Qk ?_;(first|refine Qi ?_|refine QK rfl ?_))|(refine Qj ?_;(first|refine Ql ?_|refine Qc ?_|refine Qf ?_|refine Qn rfl (by omega) ?_|refine Wp rfl ?_)))
  refine ZQ (fun (i : Nat) => ⟨[(2, .ptr 0 g2 0), (3, .ptr 1 g3 0), (8, .i i)], [.row g2 [.i k, .i n, .i m, QT ks], .row g3 [.i k, .i n, .i m, QT ks]]⟩) (fun i => i <= ks.length) (fun i => ks.length - i) 0 ?_ (by omega) ?_
  ·exact zal rfl
  intro i hi
  by_cases hil : i < ks.length
  ·have hi1 := hx _ (List.getElem_mem hil)
   clear hx
   (repeat' first|(refine Qe ?_;(first|refine QI rfl ?_|refine QJ rfl ?_|refine Qb rfl rfl rfl ?_|(refine Qo ?_;(first|refine QY rfl rfl ?_|refine ZV rfl rfl ?_|refine W7 rfl rfl (by omega) ?_))|refine Qz rfl ?_|refine WK rfl rfl ?_|refine Qd rfl rfl ?_))|(refine Qk ?_;(first|refine Qi ?_|refine QK rfl ?_|refine Wx rfl rfl rfl rfl ?_|refine Q7 rfl rfl (by omega) ?_))|(refine Qj ?_;(first|refine Ql ?_|refine Qc ?_|refine Qf ?_|(refine Wn ?_;first|refine Q6 (by rfl) (by kernel_rfl) (by kernel_rfl) ?_|refine Q5 (by kernel_rfl) (by kernel_rfl) ?_)|refine Qu ?_|refine Qm rfl ?_|refine Qq rfl (by omega) ?_))|(refine ZZ ?_;(first|refine x_op rfl (by (repeat' first|(refine Qe ?_;(first|refine QI rfl ?_|refine QJ rfl ?_|(refine QB ?_;(first|refine QR rfl ?_|refine Qb rfl rfl rfl ?_))|refine QC rfl rfl (by first|assumption|omega|(simp;done)|(simp;omega)) ?_|refine QZ rfl rfl (hi1) ?_|refine Qd rfl rfl ?_))|exact ⟨rfl, rfl⟩)) ?_|refine ZT ?_)))
   all_goals
    refine ⟨i + 1, by omega, by omega, ?_⟩
    exact zal rfl
  ·clear hx
   (repeat' first|(refine Qe ?_;(first|refine QI rfl ?_|refine QJ rfl ?_|refine Qb rfl rfl rfl ?_|refine QY rfl rfl ?_|(refine Qp ?_;(first|refine Qz rfl ?_|refine QZ rfl rfl (sign_c _) ?_))|refine Wr rfl rfl ?_|refine Qd rfl rfl ?_))|(refine Qk ?_;(first|refine Qi ?_|refine QK rfl ?_|refine W1 rfl rfl rfl rfl ?_|refine Q2 rfl rfl (by omega) ?_))|(refine Qj ?_;(first|refine Ql ?_|refine Qc ?_|refine Qm rfl ?_|refine Wp rfl ?_|refine Qt ?_)))
   all_goals exact e_1 (Tryz.results66) (Qg rfl) (Qs rfl)
theorem r05Same_c (t : Nd) (hsz : Qx t <= 1000000) : Go.Av.Pure Tryz.prog G 25 [.agg (Enc.enc t), .agg (Enc.enc t)] (.b true) := fun B => by
 have hcc := r05Compare_c (G := G) t hsz
 refine Qa Tryz.func25 rfl Tryz.ntmps25 rfl (t := [(0, .agg (Enc.enc t)), (1, .agg (Enc.enc t))]) rfl fun E hE => ?_
 (repeat' first|(refine Qe ?_;(first|refine QJ rfl ?_|refine WQ rfl rfl ?_|refine QO rfl rfl ?_|refine QZ rfl rfl (hcc) ?_|refine QV rfl rfl (fun _ _ => ?_)))|(refine Qk ?_;(first|refine Qi ?_|refine QK rfl ?_))|(refine Qj ?_;(first|refine Ql ?_|refine Qc ?_|refine Qt ?_)))
 all_goals exact e_1 (Tryz.results25) (Qg rfl) (Qs rfl)
end Go.Proofs
end
section
namespace Go.Av
open Go.Bl
inductive DSub : DV -> DV -> Prop
 | refl (d : DV) : DSub d d
 | nil (es : Nat) : DSub (.sc (.slice none 0 0)) (.sl es [])
 | sl (es : Nat) (cs cs' : List DV) : cs.length = cs'.length -> (∀ (j : Nat) (d d' : DV), cs[j]? = some d -> cs'[j]? = some d' -> DSub d d') -> DSub (.sl es cs) (.sl es cs')
 | agg (cs cs' : List DV) : cs.length = cs'.length -> (∀ (j : Nat) (d d' : DV), cs[j]? = some d -> cs'[j]? = some d' -> DSub d d') -> DSub (.agg cs) (.agg cs')
 | tup (cs cs' : List DV) : cs.length = cs'.length -> (∀ (j : Nat) (d d' : DV), cs[j]? = some d -> cs'[j]? = some d' -> DSub d d') -> DSub (.tup cs) (.tup cs')
theorem DSub.one {d d' : DV} (h : DSub d d') : d.one = true -> d'.one = true := by
 cases h with
 | refl => exact id
 | nil => intro _;rfl
 | sl => intro _;rfl
 | agg => intro h;cases h
 | tup => intro h;cases h
theorem dsub_get {cs cs' : List DV} (hl : cs.length = cs'.length) (j : Nat) (d' : DV) (hj : cs'[j]? = some d') : ∃ d, cs[j]? = some d := ⟨cs[j]'(by rw [hl];exact (List.getElem?_eq_some_iff.1 hj).1), List.getElem?_eq_getElem _⟩
theorem DSub.rep {L : Lay} {d d' : DV} (h : DSub d d') : ∀ {v : Value}, VRep L d v -> VRep L d' v := by
 induction h with
 | refl => exact id
 | nil es => intro v hv;exact Zq hv
 | sl es cs cs' hl hs ih =>
  intro v hv
  obtain ⟨a, len, cap, f, rfl, h1, h2, h3, h4, h5⟩ := hv.sl_inv
  refine .sl _ _ _ _ _ f (by rw [h1, hl]) h2 (fun d' hd => ?_) ?_ (fun j d' hj => ?_)
  ·obtain ⟨j, hj⟩ := List.mem_iff_getElem?.1 hd
   obtain ⟨d, hd0⟩ := dsub_get hl j d' hj
   exact (hs j d d' hd0 hj).one (h3 d (List.mem_of_getElem? hd0))
  ·rcases h4 with h4|⟨b, o, h6, h7⟩
   ·left
    subst h4
    exact List.eq_nil_of_length_eq_zero hl.symm
   ·right
    exact ⟨b, o, h6, fun j hj => h7 j (by rw [hl];exact hj)⟩
  ·obtain ⟨d, hd0⟩ := dsub_get hl j d' hj
   exact ih j d d' hd0 hj (h5 j d hd0)
 | agg cs cs' hl hs ih =>
  intro v hv
  cases hv with|agg _ vs h1 h2 h3 =>
  refine .agg _ _ (by rw [h1, hl]) (fun d' hd => ?_) fun j d' hj => ?_
  ·obtain ⟨j, hj⟩ := List.mem_iff_getElem?.1 hd
   obtain ⟨d, hd0⟩ := dsub_get hl j d' hj
   exact (hs j d d' hd0 hj).one (h2 d (List.mem_of_getElem? hd0))
  ·obtain ⟨d, hd0⟩ := dsub_get hl j d' hj
   exact ih j d d' hd0 hj (h3 j d hd0)
 | tup cs cs' hl hs ih =>
  intro v hv
  cases hv with|tup _ vs h1 h3 =>
  refine .tup _ _ (by rw [h1, hl]) fun j d' hj => ?_
  obtain ⟨d, hd0⟩ := dsub_get hl j d' hj
  exact ih j d d' hd0 hj (h3 j d hd0)
theorem dsub_nil : ∀ (j : Nat) (e e' : DV), ([] : List DV)[j]? = some e -> ([] : List DV)[j]? = some e' -> DSub e e' := fun j e e' h => by simp at h
theorem dsub_cons {d d' : DV} {r r' : List DV} (h : DSub d d') (k : ∀ (j : Nat) (e e' : DV), r[j]? = some e -> r'[j]? = some e' -> DSub e e') : ∀ (j : Nat) (e e' : DV), (d :: r)[j]? = some e -> (d' :: r')[j]? = some e' -> DSub e e' := fun j e e' h1 h2 => by
 cases j with
 | zero => simp at h1 h2;subst h1 h2;exact h
 | succ j => exact k j e e' (by simpa using h1) (by simpa using h2)
section
variable {E : AX} {R : DV -> List ABlk -> Prop}
theorem c_sub {d d2 : DV} {σ : List ABlk} (h : DSub d d2) (k : AClose E R d2 σ) : AClose E R d σ := Zm (fun L v hv => h.rep hv) k
end
end Go.Av
end
section
namespace Go.Proofs
open Go.Av
variable {G : Nat -> DV}
attribute [local irreducible] OpSem Zh ZB ZP ACalls qu AClose RV
open Go.Bl
def exN : Nd := .mk 27 0 0 [.mk 26 1 0 [.mk 0 0 0 [], .mk 13 0 0 [.mk 14 0 0 [.mk 9 0 0 [.mk 6 0 0 [], .mk 4 1 0 []]], .mk 19 0 0 [.mk 6 0 0 []]]]]
def sEx1 : List UInt8 := [112, 114, 111, 103, 114, 97, 109, 32, 48, 10, 102, 117, 110, 32, 49, 32, 40, 105, 110, 116, 41, 32, 123, 10, 32, 32, 118, 48, 32, 61, 32, 40, 118, 48, 32, 43, 32, 49, 41, 10, 32, 32, 114, 101, 116, 117, 114, 110, 32, 118, 48, 10, 125, 10]
def sEx2 : List UInt8 := [112, 114, 111, 103, 114, 97, 109, 32, 48, 32, 102, 117, 110, 32, 49, 32, 40, 105, 110, 116, 41, 32, 123, 32, 114, 101, 116, 117, 114, 110, 32, 40, 118, 48, 41, 32, 125]
theorem ex_par1 : parseM zP sEx1 = (exN, -1) := by kernel_rfl
theorem ex_par2 : (parseM zP sEx2).2 = 34 := by decide +kernel
theorem ex_pr : ZD exN = sEx1 := by decide +kernel
theorem ex_l1 : lineM exN [0, 1, 0, 0] = 3 := by kernel_rfl
theorem ex_l2 : lineM exN [0, 1, 2] = 0 := by kernel_rfl
theorem example_c : Go.Av.Pure Tryz.prog G 57 [] (.agg (Enc.enc exN)) := fun B => by
 refine Qa Tryz.func57 rfl Tryz.ntmps57 rfl (t := []) rfl fun E hE => ?_
 (repeat' first|(refine Qe ?_;(first|refine WQ rfl rfl ?_|refine WR rfl rfl rfl rfl ?_|refine W4 rfl rfl (by decide) rfl ?_|refine QH rfl rfl ?_|refine QD (fun _ _ => ?_)))|(refine Qk ?_;(first|refine Qi ?_|refine QK rfl ?_|refine Q1 ?_))|(refine Qj ?_;(first|refine Ql ?_|refine Qc ?_|refine Qt ?_)))
 refine e_1 (Tryz.results57) (QA (size := 4) rfl rfl rfl rfl) (c_sub ?_ (Qs rfl))
 unfold exN
 repeat' first|exact .refl _|exact .nil _|exact dsub_nil|refine dsub_cons ?_ ?_|refine .agg _ _ rfl ?_|refine .sl _ _ _ rfl ?_
theorem lives_c (hG0 : G 0 = shapesT) (hG1 : G 1 = spaceT) (hG : G 6 = pow10T) : Go.Av.Pure Tryz.prog G 20 [] (.b true) := fun B => by
 have hex := example_c (G := G)
 have hp1 := parse_c hG0 hG1 sEx1 (by decide)
 rw [ex_par1] at hp1
 have hp2 := parse_c hG0 hG1 sEx2 (by decide)
 rw [ex_par2] at hp2
 have hok : okN exN := by unfold exN;simp [okN, okL, i64]
 have hsz : Qx exN <= 1000000 := by decide +kernel
 have hpr := print_c hG hG1 exN hok hsz
 rw [ex_pr] at hpr
 have hsm := r05Same_c (G := G) exN hsz
 have hl1 := line_c1 hG hG1 exN hok hsz [0, 1, 0, 0] (by decide)
 rw [ex_l1] at hl1
 have hl2 := line_c1 hG hG1 exN hok hsz [0, 1, 2] (by decide)
 rw [ex_l2] at hl2
 have hd : decide (sEx1 = sEx1) = true := decide_eq_true rfl
 generalize (parseM zP sEx2).1 = x2 at *
 refine Qa Tryz.func20 rfl Tryz.ntmps20 rfl (t := []) rfl fun E hE => ?_
 (repeat' first|(refine Qe ?_;(first|refine QI rfl ?_|refine QJ rfl ?_|refine WQ rfl rfl ?_|(refine Qo ?_;(first|refine QO rfl rfl ?_|refine Wu rfl rfl ?_))|(refine Qp ?_;(first|refine Zn rfl rfl hex (WF (Enc.clo _)) ?_|refine Zn rfl rfl hp1 (WS (Wl (WF (Enc.clo _)) (Wl Wm WZ))) ?_|refine Zn rfl rfl hp2 (WS (Wl (WF (Enc.clo _)) (Wl Wm WZ))) ?_|refine QZ rfl rfl (hpr) ?_|refine QZ rfl rfl (hsm) ?_|refine QZ rfl rfl (hl1) ?_|refine QZ rfl rfl (hl2) ?_))|refine WK rfl rfl ?_|refine WR rfl rfl rfl rfl ?_|(refine g_buildSlice ?_;(first|refine W4 (cs := WE [(0 : Int), 1, 0, 0]) rfl rfl (by decide) rfl ?_|refine W4 (cs := WE [(0 : Int), 1, 2]) rfl rfl (by decide) rfl ?_))|refine QM rfl rfl rfl ?_|refine QD (fun _ _ => ?_)))|(refine Qk ?_;(first|refine Qi ?_|refine QK rfl ?_|refine Q1 ?_|refine Wx rfl rfl rfl rfl ?_))|(refine Qj ?_;(first|refine Ql ?_|refine Qc ?_|refine Qt ?_)))
 all_goals exact e_1 (Tryz.results20) (Qg rfl) (Qs (by simp))
end Go.Proofs
end
section
namespace Go.Av
theorem r_loop5 {P : Program} {G : Nat -> DV} {E : AX} {n : Nat} {N : ASt -> Prop} {xs : List (Nat × (ASt -> Prop))} {R : ASt -> Prop} {st : ASt} {c : Code} {α β γ δ ε : Type} (I : α -> β -> γ -> δ -> ε -> ASt) (pre : α -> β -> γ -> δ -> ε -> Prop) (μ : α -> β -> γ -> δ -> ε -> Nat) (x0 : α) (y0 : β) (z0 : γ) (u0 : δ) (v0 : ε) (h0 : ALe st (I x0 y0 z0 u0 v0)) (hp0 : pre x0 y0 z0 u0 v0)
  (round : ∀ x y z u v, pre x y z u v -> Zh P G E n c (fun st' => ∃ x' y' z' u' v', pre x' y' z' u' v' /\ μ x' y' z' u' v' < μ x y z u v /\ ALe st' (I x' y' z' u' v')) xs R (I x y z u v)) : Zh P G E n (.loop c) N xs R st :=
 ZQ (fun s : α × β × γ × δ × ε => I s.1 s.2.1 s.2.2.1 s.2.2.2.1 s.2.2.2.2) (fun s => pre s.1 s.2.1 s.2.2.1 s.2.2.2.1 s.2.2.2.2) (fun s => μ s.1 s.2.1 s.2.2.1 s.2.2.2.1 s.2.2.2.2) (x0, y0, z0, u0, v0) h0 hp0 fun s hs a w hr => wp_mono (round s.1 s.2.1 s.2.2.1 s.2.2.2.1 s.2.2.2.2 hs a w hr) fun e a' w' ⟨st', hr', hq⟩ => ⟨st', hr', by
  cases e with
  | normal => obtain ⟨x', y', z', u', v', h1, h2, h3⟩ := hq;exact ⟨(x', y', z', u', v'), h1, h2, h3⟩
  | exit id => exact hq
  | ret => exact hq
  | goto l => exact hq
  | _ => exact hq⟩
end Go.Av
end
