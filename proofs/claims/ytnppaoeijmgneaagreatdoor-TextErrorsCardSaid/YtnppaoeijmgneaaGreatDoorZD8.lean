/-
  Part 8 of the proof: U8 ER RT.
-/
import Derived.Test.YtnppaoeijmgneaaGreatDoorRows
import Derived.ProofKit
import Derived.LaidMore
import Derived.LaidHandle
import Derived.LaidSub
import Derived.MakeChecks
import Derived.OpenShut
import Derived.Deep.Strs
import Derived.Stop.Joined
import Derived.Test.YtnppaoeijmgneaaGreatDoorZD1
import Derived.Test.YtnppaoeijmgneaaGreatDoorZD4
import Derived.Test.YtnppaoeijmgneaaGreatDoorZD5
import Derived.Test.YtnppaoeijmgneaaGreatDoorZD7
set_option linter.unusedSimpArgs false
set_option linter.unusedVariables false
set_option maxRecDepth 100000
set_option maxHeartbeats 4000000
section
namespace Go.Proofs
open Go.Av
variable {G : Nat -> DV}
attribute [local irreducible] OpSem Zh ZB ZP ACalls qu AClose RV
open Go.Bl
def progL : Nd -> List (List UInt8)
 | .mk k n m ks => ([112, 114, 111, 103, 114, 97, 109, 32] ++ Lib.itoa n) :: (ks.map funL).flatten
theorem funs_lines : ∀ (ks : List Nd), ks.all ZF = true -> (ks.map funT).flatten = Z2 0 (ks.map funL).flatten
 | [], _ => by simp [Z2]
 | x :: r, h => by
  simp only [List.all_cons, Bool.and_eq_true] at h
  rw [List.map_cons, List.map_cons, List.flatten_cons, List.flatten_cons, Z6, fun_lines x h.1, funs_lines r h.2]
theorem funsL_len : ∀ (ks : List Nd), ((ks.map funL).flatten).length <= 3 * QQ ks
 | [] => by simp
 | x :: r => by
  have h1 := funL_len x
  have h2 := funsL_len r
  rw [List.map_cons, List.flatten_cons, List.length_append, QQ];omega
theorem rProg_c (n m : Int) (ks : List Nd) (hok : okN (.mk 27 n m ks)) (hsz : Qx (.mk 27 n m ks) <= 1000000) : ∃ x : List Str, Go.Av.Pure Tryz.prog G 51 [.agg [.i 27, .i n, .i m, QT ks]] (.tup [QT x, .b (prOk (.mk 27 n m ks))]) /\ (prOk (.mk 27 n m ks) = true -> x = strs (progL (.mk 27 n m ks))) := by
 rw [okN] at hok
 rw [Qx] at hsz
 have hl1 := WV ks
 have hsm := ZM (G := G) n
 have hpo : prOk (.mk 27 n m ks) = (Q3 m ks.length (-1) && WX n && ks.all ZF) := by rw [prOk, if_pos rfl]
 by_cases hm : m = 0
 case neg =>
  have hf : prOk (.mk 27 n m ks) = false := by rw [hpo, ZN];simp [hm]
  refine ⟨[], fun B => ?_, fun h => by rw [hf] at h;cases h⟩
  refine Qa Tryz.func51 rfl Tryz.ntmps51 rfl (t := [(0, .agg [.i 27, .i n, .i m, QT ks])]) rfl fun E hE => ?_
  (repeat' first|(refine Qe ?_;(first|refine QI rfl ?_|refine QJ rfl ?_|refine Qb rfl rfl rfl ?_|refine ZV rfl rfl ?_|(refine QX ?_;(first|refine WK rfl rfl ?_|refine Wr rfl rfl ?_))|refine Qd rfl rfl ?_|refine QV rfl rfl (fun _ _ => ?_)))|(refine Qk ?_;(first|refine Qi ?_|refine QK rfl ?_|refine Wx rfl rfl rfl rfl ?_|refine W1 rfl rfl rfl rfl ?_|refine Q7 rfl rfl (by omega) ?_))|(refine Qj ?_;(first|refine Ql ?_|refine Qc ?_|refine Qh rfl ?_|refine Qt ?_)))
  all_goals exact e_2 (Tryz.results51) (Qg rfl) (Qg rfl) (Zm (fun L v h => ZE (fun v hv => Zq (es := 1) hv) h) (Qs (by rw [hf];rfl)))
 subst hm
 by_cases hs : WX n = true
 case neg =>
  have hs2 : WX n = false := by rw [<- Bool.not_eq_true];exact hs
  have hf : prOk (.mk 27 n 0 ks) = false := by rw [hpo];simp [hs2]
  rw [hs2] at hsm
  refine ⟨[], fun B => ?_, fun h => by rw [hf] at h;cases h⟩
  refine Qa Tryz.func51 rfl Tryz.ntmps51 rfl (t := [(0, .agg [.i 27, .i n, .i 0, QT ks])]) rfl fun E hE => ?_
  (repeat' first|(refine Qe ?_;(first|refine QI rfl ?_|refine QJ rfl ?_|refine Qb rfl rfl rfl ?_|refine ZV rfl rfl ?_|refine QZ rfl rfl (hsm) ?_|refine Wr rfl rfl ?_|refine Wo rfl ?_|refine Qd rfl rfl ?_|refine QV rfl rfl (fun _ _ => ?_)))|(refine Qk ?_;(first|refine Qi ?_|refine QK rfl ?_|refine Wx rfl rfl rfl rfl ?_))|(refine Qj ?_;(first|refine Ql ?_|refine Qc ?_|refine Qh rfl ?_|refine Qt ?_)))
  all_goals exact e_2 (Tryz.results51) (Qg rfl) (Qg rfl) (Zm (fun L v h => ZE (fun v hv => Zq (es := 1) hv) h) (Qs (by rw [hf];rfl)))
 rw [hs] at hsm
 obtain ⟨hn0, hn9⟩ := qO hs
 have hdig : Go.Av.Pure Tryz.prog G 93 [.i n] (WA (Lib.itoa n)) := by
  rw [itoa_nat hn0]
  have := qN (G := G) n.toNat (by omega)
  rwa [show ((n.toNat : Nat) : Int) = n by omega] at this
 have hdl := W5 hok.1.2.1
 rw [show prOk (.mk 27 n 0 ks) = ks.all ZF by rw [hpo, ZN, hs];simp]
 have hpl : progL (.mk 27 n 0 ks) = ([112, 114, 111, 103, 114, 97, 109, 32] ++ Lib.itoa n) :: (ks.map funL).flatten := by rw [progL]
 rw [hpl]
 refine ⟨if ks.all ZF = true then strs (([112, 114, 111, 103, 114, 97, 109, 32] ++ Lib.itoa n) :: (ks.map funL).flatten) else [], fun B => ?_, fun h => by rw [if_pos h]⟩
 have hfk : ∀ x ∈ ks, RfE G x := fun x hx => rFun_c x (Ws hok.2 hx) (by have := Q9 hx;omega)
 refine Qa Tryz.func51 rfl Tryz.ntmps51 rfl (t := [(0, .agg [.i 27, .i n, .i 0, QT ks])]) rfl fun E hE => ?_
 (repeat' first|(refine Qe ?_;(first|refine QI rfl ?_|refine QJ rfl ?_|refine Qb rfl rfl rfl ?_|(refine Qo ?_;(first|refine ZV rfl rfl ?_|refine qe rfl rfl ?_))|(refine Qp ?_;(first|refine QZ rfl rfl (hdig) ?_|refine QZ rfl rfl (hsm) ?_))|refine Wr rfl rfl ?_|refine qP (cs := WE [Str.mk ([112, 114, 111, 103, 114, 97, 109, 32] ++ Lib.itoa n)]) rfl rfl (by decide) rfl rfl (fun _ _ => ?_)|refine Wo rfl ?_|refine Qd rfl rfl ?_|refine QV rfl rfl (fun _ _ => ?_)))|(refine Qk ?_;(first|refine Qi ?_|refine QK rfl ?_|refine Wx rfl rfl rfl rfl ?_))|(refine Qj ?_;(first|refine Ql ?_|refine Qc ?_|refine Qf ?_|refine Qu ?_|refine Qm rfl ?_)))
 rename_i gb hgb gO hgO
 refine r_loopg (fun (i : Nat) g => ⟨[(1, .ptr 0 gb 0), (4, .ref 1 g 0 (strs (([112, 114, 111, 103, 114, 97, 109, 32] ++ Lib.itoa n) :: ((ks.take i).map funL).flatten)).length 1), (5, .i i)], [.row gb [.i 27, .i n, .i 0, QT ks], .row g (WE (strs (([112, 114, 111, 103, 114, 97, 109, 32] ++ Lib.itoa n) :: ((ks.take i).map funL).flatten)))]⟩) (fun i => i <= ks.length /\ (ks.take i).all ZF = true) (fun i => ks.length - i) 0 gO hgO ?_ (by simp) ?_
 ·exact zal rfl
 intro i g ⟨hil0, hall⟩ hg
 by_cases hil : i < ks.length
 ·obtain ⟨y, hx, hxe⟩ := hfk _ (List.getElem_mem hil)
  by_cases hk : ZF ks[i] = true
  ·have hye := hxe hk
   subst hye
   rw [hk] at hx
   have hb2 : strs (([112, 114, 111, 103, 114, 97, 109, 32] ++ Lib.itoa n) :: ((ks.take (i + 1)).map funL).flatten) = strs (([112, 114, 111, 103, 114, 97, 109, 32] ++ Lib.itoa n) :: ((ks.take i).map funL).flatten) ++ strs (funL ks[i]) := by rw [List.take_succ_eq_append_getElem hil, List.map_append, List.flatten_append, <- strs_app];simp
   have hfl := funsL_len (ks.take i)
   have hstl := WP ks i
   have hal : (strs (([112, 114, 111, 103, 114, 97, 109, 32] ++ Lib.itoa n) :: ((ks.take i).map funL).flatten)).length <= 4000000 := by rw [qa, List.length_cons];omega
   have hfx := funL_len ks[i]
   have hfm := Q9 (List.getElem_mem hil)
   have hfs : (strs (funL ks[i])).length <= 4000000 := by rw [qa];omega
   generalize strs (([112, 114, 111, 103, 114, 97, 109, 32] ++ Lib.itoa n) :: ((ks.take i).map funL).flatten) = acc at *
   (repeat' first|(refine Qe ?_;(first|refine QI rfl ?_|refine QJ rfl ?_|(refine QB ?_;(first|refine QR rfl ?_|refine Qb rfl rfl rfl ?_))|refine QC rfl rfl (by first|assumption|omega|(simp;done)|(simp;omega)) ?_|(refine Qo ?_;(first|refine QY rfl rfl ?_|refine W7 rfl rfl (by omega) ?_))|(refine Qp ?_;(first|refine Qz rfl ?_|refine s_app_r rfl rfl rfl rfl rfl rfl rfl (by first|omega|(simp;omega)) (by first|omega|(simp;omega)) (fun _ => rfl) (fun _ _ => ?_)|refine QZ rfl rfl (hx) ?_))|refine Wo rfl ?_|refine Qd rfl rfl ?_|refine QM rfl rfl rfl ?_))|(refine Qk ?_;(first|refine Qi ?_|refine QK rfl ?_))|(refine Qj ?_;(first|refine Ql ?_|refine Qc ?_|refine Qf ?_|refine Qu ?_|refine Qm rfl ?_|refine Qq rfl (by omega) ?_)))
   refine ⟨i + 1, _, ⟨by omega, by rw [List.take_succ_eq_append_getElem hil, List.all_append, hall];simp [hk]⟩, by assumption, by omega, ?_⟩
   rw [hb2]
   exact zal rfl
  ·have hk2 : ZF ks[i] = false := by rw [<- Bool.not_eq_true];exact hk
   rw [hk2] at hx
   have hna : ks.all ZF = false := by
    rw [<- Bool.not_eq_true, List.all_eq_true]
    intro h;exact hk (h _ (List.getElem_mem hil))
   (repeat' first|(refine Qe ?_;(first|refine QI rfl ?_|refine QJ rfl ?_|(refine QB ?_;(first|refine QR rfl ?_|refine Qb rfl rfl rfl ?_))|refine QC rfl rfl (by first|assumption|omega|(simp;done)|(simp;omega)) ?_|refine QY rfl rfl ?_|(refine Qp ?_;(first|refine Qz rfl ?_|refine QZ rfl rfl (hx) ?_))|refine Wo rfl ?_|refine Qd rfl rfl ?_|refine QM rfl rfl rfl ?_))|(refine Qk ?_;(first|refine Qi ?_|refine QK rfl ?_))|(refine Qj ?_;(first|refine Ql ?_|refine Qc ?_|refine Qf ?_|refine Qu ?_|refine Qh rfl ?_|refine Qq rfl (by omega) ?_|refine Qt ?_)))
   exact e_2 (Tryz.results51) (Qg rfl) (Qg rfl) (Zm (fun L v h => ZE (fun v hv => Zq (es := 1) hv) h) (Qs (by rw [hna];rfl)))
 ·have hie : i = ks.length := by omega
  subst hie
  rw [List.take_length] at *
  (repeat' first|(refine Qe ?_;(first|refine QI rfl ?_|refine QJ rfl ?_|refine Qb rfl rfl rfl ?_|refine QY rfl rfl ?_|refine Qz rfl ?_|refine Qd rfl rfl ?_))|(refine Qk ?_;(first|refine Qi ?_|refine QK rfl ?_))|(refine Qj ?_;(first|refine Ql ?_|refine Qc ?_|refine Qn rfl (by omega) ?_|refine Wp rfl ?_|refine Qt ?_)))
  exact e_2 (Tryz.results51) (Qg rfl) (Qg rfl) (qS rfl (by rw [Q4];try rfl) (Qs (by rw [hall, if_pos rfl];rfl)))
theorem typOk_kind (k n m : Int) (ks : List Nd) (h : ZH (.mk k n m ks) = true) : 0 <= k /\ k <= 3 := by
 rw [ZH] at h
 split at h
 ·omega
 split at h
 ·omega
 split at h
 ·omega
 ·cases h
theorem exOk_kind (k n m : Int) (ks : List Nd) (h : Zs (.mk k n m ks) = true) : 4 <= k /\ k <= 12 := by
 rw [Zs] at h
 repeat' split at h
 all_goals first|omega|cases h
theorem stOk_kind (k n m : Int) (ks : List Nd) (h : qh (.mk k n m ks) = true) : 13 <= k /\ k <= 25 := by
 by_cases hk : 13 <= k /\ k <= 25
 ·exact hk
 ·exfalso
  rw [qh, if_neg (by omega), if_neg (by omega), if_neg (by omega), if_neg (by omega), ZA, if_neg (by omega), if_neg (by omega), if_neg (by omega), if_neg (by omega), if_neg (by omega), if_neg (by omega), if_neg (by omega), if_neg (by omega), if_neg (by omega)] at h
  cases h
theorem r_print_c (t : Nd) (hok : okN t) (hsz : Qx t <= 1000000) : Go.Av.Pure Tryz.prog G 19 [.agg (Enc.enc t)] (WA (ZD t)) := fun B => by
 obtain ⟨ty, hty, htye⟩ := rTy_c (G := G) t hok hsz
 obtain ⟨ex, hex, hexe⟩ := rEx_c (G := G) t hok hsz
 obtain ⟨⟨hst1, hst2⟩, -⟩ := rSt_c (G := G) t hok hsz
 have hfx := rFun_c (G := G) t hok hsz
 have hstl := (st_lenX hok (i := 0) (by omega)).1
 have hst0 := (st_lines t 0).1
 have hsl := (stL_len t).1
 have hfl := funT_len t hok hsz
 have hfs := fun_lines t
 have hfl2 := funL_len t
 obtain ⟨k, n, m, ks⟩ := t
 unfold RfE at hfx
 rw [Q0] at *
 have hok2 := hok
 rw [okN] at hok2
 have hse : Qx (.mk k n m ks) = 1 + QQ ks := by rw [Qx]
 unfold ZD
 by_cases k27 : k = 27
 ·subst k27
  obtain ⟨x, hx, hxe⟩ := rProg_c (G := G) n m ks hok hsz
  by_cases hp : prOk (.mk 27 n m ks) = true
  ·have hp2 := hxe hp
   subst hp2
   rw [hp] at hx ⊢
   rw [prOk, if_pos rfl] at hp
   simp only [Bool.and_eq_true] at hp
   have ht : prT (.mk 27 n m ks) = Z2 0 (progL (.mk 27 n m ks)) := by
    rw [prT, if_pos rfl, progL, qt, funs_lines ks hp.2]
   have hjl : (Z2 0 (progL (.mk 27 n m ks))).length <= 140737480000000 := by
    rw [<- ht, prT, if_pos rfl, List.length_append, Wh]
    have := funs_len ks hok2.2 (by omega)
    have := W5 hok2.1.2.1
    simp only [List.length_append, List.length_cons, List.length_nil];omega
   have hjn := joined_c (G := G) (progL (.mk 27 n m ks)) hjl (by rw [progL, List.length_cons];have := funsL_len ks;omega)
   rw [if_pos rfl, ht]
   refine Qa Tryz.func19 rfl Tryz.ntmps19 rfl (t := [(0, .agg [.i 27, .i n, .i m, QT ks])]) rfl fun E hE => ?_
   (repeat' first|(refine Qe ?_;(first|refine QI rfl ?_|refine QJ rfl ?_|(refine QB ?_;(first|refine WQ rfl rfl ?_|refine Qb rfl rfl rfl ?_))|refine QO rfl rfl ?_|(refine Qp ?_;(first|refine QZ rfl rfl (hx) ?_|refine QZ rfl rfl (hjn) ?_))|refine Wo rfl ?_|refine Qd rfl rfl ?_|refine QM rfl rfl rfl ?_|refine QV rfl rfl (fun _ _ => ?_)))|(refine Qk ?_;(first|refine Qi ?_|refine QK rfl ?_))|(refine Qj ?_;(first|refine Ql ?_|refine Qc ?_|refine Qu ?_|refine Qh rfl ?_|refine Qm rfl ?_|refine Qt ?_)))
   refine e_1 Tryz.results19 (Qg rfl) (Qs ?_)
   all_goals first|rfl|(simp;done)
  ·have hp2 : prOk (.mk 27 n m ks) = false := by rw [<- Bool.not_eq_true];exact hp
   rw [hp2] at hx ⊢
   refine Qa Tryz.func19 rfl Tryz.ntmps19 rfl (t := [(0, .agg [.i 27, .i n, .i m, QT ks])]) rfl fun E hE => ?_
   (repeat' first|(refine Qe ?_;(first|refine QI rfl ?_|refine QJ rfl ?_|(refine QB ?_;(first|refine WQ rfl rfl ?_|refine Qb rfl rfl rfl ?_))|refine QO rfl rfl ?_|refine QZ rfl rfl (hx) ?_|refine Wo rfl ?_|refine Qd rfl rfl ?_|refine QM rfl rfl rfl ?_|refine QV rfl rfl (fun _ _ => ?_)))|(refine Qk ?_;(first|refine Qi ?_|refine QK rfl ?_))|(refine Qj ?_;(first|refine Ql ?_|refine Qc ?_|refine Qh rfl ?_|refine Qt ?_)))
   refine e_1 Tryz.results19 (Qg rfl) (Qs ?_)
   all_goals first|rfl|(simp;done)
 by_cases k26 : k = 26
 ·subst k26
  obtain ⟨x, hx, hxe⟩ := hfx
  rw [prOk, prT, if_neg k27, if_neg k27, if_pos rfl, if_pos rfl]
  by_cases hp : ZF (.mk 26 n m ks) = true
  ·have hp2 := hxe hp
   subst hp2
   rw [hp] at hx ⊢
   have hjn := joined_c (G := G) (funL (.mk 26 n m ks)) (by rw [<- hfs hp];omega) (by omega)
   rw [if_pos rfl, hfs hp]
   refine Qa Tryz.func19 rfl Tryz.ntmps19 rfl (t := [(0, .agg [.i 26, .i n, .i m, QT ks])]) rfl fun E hE => ?_
   (repeat' first|(refine Qe ?_;(first|refine QI rfl ?_|refine QJ rfl ?_|(refine QB ?_;(first|refine WQ rfl rfl ?_|refine Qb rfl rfl rfl ?_))|refine QO rfl rfl ?_|(refine Qp ?_;(first|refine QZ rfl rfl (hx) ?_|refine QZ rfl rfl (hjn) ?_))|refine Wo rfl ?_|refine Qd rfl rfl ?_|refine QM rfl rfl rfl ?_|refine QV rfl rfl (fun _ _ => ?_)))|(refine Qk ?_;(first|refine Qi ?_|refine QK rfl ?_))|(refine Qj ?_;(first|refine Ql ?_|refine Qc ?_|refine Qu ?_|refine Qh rfl ?_|refine Qm rfl ?_|refine Qt ?_)))
   refine e_1 Tryz.results19 (Qg rfl) (Qs ?_)
   all_goals first|rfl|(simp;done)
  ·have hp2 : ZF (.mk 26 n m ks) = false := by rw [<- Bool.not_eq_true];exact hp
   rw [hp2] at hx ⊢
   refine Qa Tryz.func19 rfl Tryz.ntmps19 rfl (t := [(0, .agg [.i 26, .i n, .i m, QT ks])]) rfl fun E hE => ?_
   (repeat' first|(refine Qe ?_;(first|refine QI rfl ?_|refine QJ rfl ?_|(refine QB ?_;(first|refine WQ rfl rfl ?_|refine Qb rfl rfl rfl ?_))|refine QO rfl rfl ?_|refine QZ rfl rfl (hx) ?_|refine Wo rfl ?_|refine Qd rfl rfl ?_|refine QM rfl rfl rfl ?_|refine QV rfl rfl (fun _ _ => ?_)))|(refine Qk ?_;(first|refine Qi ?_|refine QK rfl ?_))|(refine Qj ?_;(first|refine Ql ?_|refine Qc ?_|refine Qu ?_|refine Qh rfl ?_|refine Qm rfl ?_|refine Qt ?_)))
   refine e_1 Tryz.results19 (Qg rfl) (Qs ?_)
   all_goals first|rfl|(simp;done)
 have ety := typOk_kind k n m ks
 have eex := exOk_kind k n m ks
 have est := stOk_kind k n m ks
 rw [prOk, prT, if_neg k27, if_neg k27, if_neg k26, if_neg k26]
 by_cases ht : ZH (.mk k n m ks) = true
 ·have := ety ht
  rw [if_pos this, if_pos this, ht, if_pos rfl]
  rw [ht, htye ht] at hty
  refine Qa Tryz.func19 rfl Tryz.ntmps19 rfl (t := [(0, .agg [.i k, .i n, .i m, QT ks])]) rfl fun E hE => ?_
  (repeat' first|(refine Qe ?_;(first|refine QI rfl ?_|refine QJ rfl ?_|(refine QB ?_;(first|refine WQ rfl rfl ?_|refine Qb rfl rfl rfl ?_))|refine QO rfl rfl ?_|refine QZ rfl rfl (hty) ?_|refine Qd rfl rfl ?_|refine QM rfl rfl rfl ?_|refine QV rfl rfl (fun _ _ => ?_)))|(refine Qk ?_;(first|refine Qi ?_|refine QK rfl ?_))|(refine Qj ?_;(first|refine Ql ?_|refine Qc ?_|refine Qu ?_|refine Qh rfl ?_|refine Qn rfl (by omega) ?_|refine Qt ?_)))
  refine e_1 Tryz.results19 (Qg rfl) (Qs ?_)
  all_goals first|rfl|(simp;done)
 have ht2 : ZH (.mk k n m ks) = false := by rw [<- Bool.not_eq_true];exact ht
 rw [ht2] at hty ⊢
 by_cases he : Zs (.mk k n m ks) = true
 ·have := eex he
  have n1 : ¬ (0 <= k /\ k <= 3) := by omega
  rw [if_neg n1, if_neg n1, if_pos this, if_pos this, he, if_pos rfl]
  rw [he, hexe he] at hex
  refine Qa Tryz.func19 rfl Tryz.ntmps19 rfl (t := [(0, .agg [.i k, .i n, .i m, QT ks])]) rfl fun E hE => ?_
  (repeat' first|(refine Qe ?_;(first|refine QI rfl ?_|refine QJ rfl ?_|(refine QB ?_;(first|refine WQ rfl rfl ?_|refine Qb rfl rfl rfl ?_))|refine QO rfl rfl ?_|(refine Qp ?_;(first|refine QZ rfl rfl (hty) ?_|refine QZ rfl rfl (hex) ?_))|refine Qd rfl rfl ?_|refine QM rfl rfl rfl ?_|refine QV rfl rfl (fun _ _ => ?_)))|(refine Qk ?_;(first|refine Qi ?_|refine QK rfl ?_))|(refine Qj ?_;(first|refine Ql ?_|refine Qc ?_|refine Qu ?_|refine Qh rfl ?_|refine Qm rfl ?_|refine Qn rfl (by omega) ?_|refine Qt ?_)))
  refine e_1 Tryz.results19 (Qg rfl) (Qs ?_)
  all_goals first|rfl|(simp;done)
 have he2 : Zs (.mk k n m ks) = false := by rw [<- Bool.not_eq_true];exact he
 rw [he2] at hex ⊢
 by_cases hs : qh (.mk k n m ks) = true
 ·have := est hs
  have hst := hst1 hs
  have n1 : ¬ (0 <= k /\ k <= 3) := by omega
  have n2 : ¬ (4 <= k /\ k <= 12) := by omega
  rw [if_neg n1, if_neg n1, if_neg n2, if_neg n2, hs, if_pos rfl, hst0 hs]
  have hjn := joined_c (G := G) (stL (.mk k n m ks)) (by rw [<- hst0 hs];omega) (by omega)
  refine Qa Tryz.func19 rfl Tryz.ntmps19 rfl (t := [(0, .agg [.i k, .i n, .i m, QT ks])]) rfl fun E hE => ?_
  (repeat' first|(refine Qe ?_;(first|refine QI rfl ?_|refine QJ rfl ?_|(refine QB ?_;(first|refine WQ rfl rfl ?_|refine Qb rfl rfl rfl ?_))|refine QO rfl rfl ?_|(refine Qp ?_;(first|refine QZ rfl rfl (hty) ?_|refine QZ rfl rfl (hex) ?_|refine QZ rfl rfl (hst) ?_|refine QZ rfl rfl (hjn) ?_))|refine Wo rfl ?_|refine Qd rfl rfl ?_|refine QM rfl rfl rfl ?_|refine QV rfl rfl (fun _ _ => ?_)))|(refine Qk ?_;(first|refine Qi ?_|refine QK rfl ?_))|(refine Qj ?_;(first|refine Ql ?_|refine Qc ?_|refine Qu ?_|refine Qm rfl ?_|refine Qn rfl (by omega) ?_|refine Qt ?_)))
  refine e_1 Tryz.results19 (Qg rfl) (Qs ?_)
  all_goals first|rfl|(simp;done)
 ·have hs2 : qh (.mk k n m ks) = false := by rw [<- Bool.not_eq_true];exact hs
  obtain ⟨x, hst⟩ := hst2 hs2
  rw [hs2]
  refine Qa Tryz.func19 rfl Tryz.ntmps19 rfl (t := [(0, .agg [.i k, .i n, .i m, QT ks])]) rfl fun E hE => ?_
  (repeat' first|(refine Qe ?_;(first|refine QI rfl ?_|refine QJ rfl ?_|(refine QB ?_;(first|refine WQ rfl rfl ?_|refine Qb rfl rfl rfl ?_))|refine QO rfl rfl ?_|(refine Qp ?_;(first|refine QZ rfl rfl (hty) ?_|refine QZ rfl rfl (hex) ?_|refine QZ rfl rfl (hst) ?_))|refine Wo rfl ?_|refine Qd rfl rfl ?_|refine QM rfl rfl rfl ?_|refine QV rfl rfl (fun _ _ => ?_)))|(refine Qk ?_;(first|refine Qi ?_|refine QK rfl ?_))|(refine Qj ?_;(first|refine Ql ?_|refine Qc ?_|refine Qu ?_|refine Qh rfl ?_|refine Qm rfl ?_|refine Qn rfl (by omega) ?_|refine Qt ?_)))
  refine e_1 Tryz.results19 (Qg rfl) (Qs ?_)
  all_goals first|rfl|(simp;done)
def endsT : List (List UInt8) := [[], [32, 125], [32, 49], [32, 118, 48], [32, 41], [32, 41, 32, 125], [32, 49, 32, 125], [32, 123, 32, 125], [32, 123, 32, 125, 32, 125], [32, 40, 32, 41, 32, 125], [32, 118, 48, 32, 125], [32, 61, 32, 49, 32, 125], [32, 43, 32, 49, 32, 41, 32, 125], [32, 40, 32, 105, 110, 116, 32, 41, 32, 123, 32, 125]]
def fourT : List (List UInt8) := [[118, 48], [49], [111, 117, 116], [102, 48]]
theorem r_signs_own : Own Tryz.prog G 30 [] (signsT.map Str.mk).length 1 (WE (signsT.map Str.mk)) := fun B => by
 refine Qa Tryz.func30 rfl Tryz.ntmps30 rfl (t := []) rfl fun E hE => ?_
 (repeat' first|(refine Qe ?_;(first|refine QJ rfl ?_|refine qP (cs := WE (signsT.map Str.mk)) rfl rfl (by decide) rfl rfl (fun _ _ => ?_)))|(refine Qk ?_;(first|refine Qi ?_|refine QK rfl ?_))|(refine Qj ?_;(first|refine Ql ?_|refine Qc ?_|refine Qt ?_)))
 exact e_1 (Tryz.results30) (Qg rfl) (c_ownedB hE rfl rfl rfl rfl)
theorem four_len : ∀ x ∈ signsT.map Str.mk ++ fourT.map Str.mk, x.l.length <= 3 := by
 intro x hx
 rw [<- List.map_append] at hx
 obtain ⟨y, hy, rfl⟩ := List.mem_map.1 hx
 exact (by decide : ∀ y ∈ signsT ++ fourT, y.length <= 3) y hy
theorem ends_ok : ∀ x ∈ endsT, (∀ b ∈ x.head?, spB b = true) /\ x.length <= 20 := by decide
theorem errors_c (hG0 : G 0 = shapesT) (hG1 : G 1 = spaceT) (hG : G 6 = pow10T) (l m : List Int) (at_ how by_ : Int) (hl : OkI l) (h1 : -9223372036854775808 <= at_ /\ at_ <= 9223372036854775807) (h2 : -9223372036854775808 <= how /\ how <= 9223372036854775807) (h3 : -9223372036854775808 <= by_ /\ by_ <= 9223372036854775807) (hm : OkI m) :
  Go.Av.Pure Tryz.prog G 7 [QT l, .i at_, .i how, .i by_, QT m] (.b true) := fun B => by
 obtain ⟨v, hv, _, hsm⟩ := sample_c (G := G) l hl
 obtain ⟨hok, hsz, hpk⟩ := valid_ok hv
 have hpr := r_print_c (G := G) v hok (by omega)
 have hpl := print_len2 v hok hsz
 obtain ⟨s, hsl, hch⟩ := changed_c (G := G) (ZD v) (by omega) at_ how by_ h1 h2 h3
 have hlv := lives_c (G := G) hG0 hG1 hG
 have hpa := parse_cq (G := G) 9000 (by omega) (by omega) hG0 hG1 s (by omega)
 have hrg := parseQ_range 9000 zP s
 have hlaw := @err_law 9000 zP s
 have hsl2 : s.length <= 4000000 := by omega
 clear hpk hok hsz hv
 generalize ZD v = s0 at *
 generalize parseQ 9000 zP s = q at *
 obtain ⟨q1, n⟩ := q
 dsimp only at *
 have har := trivial
 have hnx := trivial
 have hil := trivial
 have hen := trivial
 have hjl := trivial
 have hej := trivial
 have hne := trivial
 have heq := trivial
 have hsum := trivial
 refine Qa Tryz.func7 rfl Tryz.ntmps7 rfl (t := [(0, QT l), (1, .i at_), (2, .i how), (3, .i by_), (4, QT m)]) rfl fun E0 hE0 => ?_
 by_cases c1 : n <= 0
 ·(repeat' first|(refine Qe ?_;(first|refine QI rfl ?_|refine QJ rfl ?_|refine Zd rfl rfl ?_|(refine Qp ?_;(first|refine Zn rfl rfl hsm (WF (Enc.clo _)) ?_|refine Zn rfl rfl hpa (WS (Wl (WF (Enc.clo _)) (Wl Wm WZ))) ?_|refine QZ rfl rfl (hpr) ?_|refine QZ rfl rfl (hch) ?_|refine QZ rfl rfl (hlv) ?_))|refine WK rfl rfl ?_|refine WR rfl rfl rfl rfl ?_|refine QM rfl rfl rfl ?_|refine QD (fun _ _ => ?_)))|(refine Qk ?_;(first|refine Qi ?_|refine QK rfl ?_|refine Q1 ?_|refine W1 rfl rfl rfl rfl ?_|refine Q7 rfl rfl (by omega) ?_))|(refine Qj ?_;(first|refine Ql ?_|refine Qc ?_|refine Qh rfl ?_|refine Qt ?_)))
  exact e_1 (Tryz.results7) (Qg rfl) (Qs rfl)
 by_cases c2 : (s.length : Int) <= n
 ·(repeat' first|(refine Qe ?_;(first|refine QI rfl ?_|refine QJ rfl ?_|(refine Qo ?_;(first|refine Zd rfl rfl ?_|refine W8 rfl rfl ?_))|(refine Qp ?_;(first|refine Zn rfl rfl hsm (WF (Enc.clo _)) ?_|refine Zn rfl rfl hpa (WS (Wl (WF (Enc.clo _)) (Wl Wm WZ))) ?_|refine QZ rfl rfl (hpr) ?_|refine QZ rfl rfl (hch) ?_|refine QZ rfl rfl (hlv) ?_|refine QW rfl ?_))|refine Wr rfl rfl ?_|refine WR rfl rfl rfl rfl ?_|refine QM rfl rfl rfl ?_|refine QD (fun _ _ => ?_)))|(refine Qk ?_;(first|refine Qi ?_|refine QK rfl ?_|refine Q1 ?_|refine Wx rfl rfl rfl rfl ?_|refine Q2 rfl rfl (by omega) ?_))|(refine Qj ?_;(first|refine Ql ?_|refine Qc ?_|refine Qq rfl (by omega) ?_|refine Qt ?_)))
  exact e_1 (Tryz.results7) (Qg rfl) (Qs rfl)
 obtain ⟨a, ha⟩ : ∃ a : Nat, n = (a : Int) := ⟨n.toNat, by omega⟩
 subst ha
 have hlaw := fun ht y hy => @hlaw a rfl (by omega) ht y hy
 have hnx := r_next_c (G := G) s a (by omega) (by omega)
 have hfl := qQ (s.drop a)
 rw [List.length_drop] at hfl
 generalize Wk (s.drop a) = t at *
 generalize kindM t = kd at *
 by_cases c3 : t = []
 ·have heq : decide (t = []) = true := decide_eq_true c3
  (repeat' first|(refine Qe ?_;(first|refine QI rfl ?_|refine QJ rfl ?_|refine Qb rfl rfl rfl ?_|(refine Qo ?_;(first|refine s_eql_strK rfl rfl heq ?_|refine Zd rfl rfl ?_|refine W8 rfl rfl ?_))|(refine Qp ?_;(first|refine Zn rfl rfl hsm (WF (Enc.clo _)) ?_|refine Zn rfl rfl hpa (WS (Wl (WF (Enc.clo _)) (Wl Wm WZ))) ?_|refine QZ rfl rfl (hpr) ?_|refine QZ rfl rfl (hch) ?_|refine QZ rfl rfl (hnx) ?_|refine QZ rfl rfl (hlv) ?_|refine QW rfl ?_))|refine Wr rfl rfl ?_|refine WR rfl rfl rfl rfl ?_|refine Qd rfl rfl ?_|refine QM rfl rfl rfl ?_|refine QD (fun _ _ => ?_)))|(refine Qk ?_;(first|refine Qi ?_|refine QK rfl ?_|refine Q1 ?_|refine Wx rfl rfl rfl rfl ?_|refine Q2 rfl rfl (by omega) ?_))|(refine Qj ?_;(first|refine Ql ?_|refine Qc ?_|refine Qu ?_|refine Qh rfl ?_|refine Qn rfl (by omega) ?_|refine Qt ?_)))
  exact e_1 (Tryz.results7) (Qg rfl) (Qs rfl)
 have heq : decide (t = []) = false := decide_eq_false c3
 have hlaw := hlaw c3
 have hsum : (a : Int) + (t.length : Int) = ((a + t.length : Nat) : Int) := by omega
 have hatl : a + t.length <= s.length := by omega
 have hbl : (s.take (a + t.length)).length <= 4000000 := by rw [List.length_take];omega
 (repeat' first|(refine Qe ?_;(first|refine QI rfl ?_|refine QJ rfl ?_|refine Qb rfl rfl rfl ?_|(refine Qo ?_;(first|refine qj rfl rfl hsum ⟨by omega, by omega⟩ ?_|refine s_eql_strK rfl rfl heq ?_|refine Zd rfl rfl ?_|refine W8 rfl rfl ?_))|(refine Qp ?_;(first|refine Zn rfl rfl hsm (WF (Enc.clo _)) ?_|refine Zn rfl rfl hpa (WS (Wl (WF (Enc.clo _)) (Wl Wm WZ))) ?_|refine QZ rfl rfl (hpr) ?_|refine QZ rfl rfl (hch) ?_|refine QZ rfl rfl (hnx) ?_|refine QW rfl ?_))|refine Wr rfl rfl ?_|refine WR rfl rfl rfl rfl ?_|refine qP (cs := WE (endsT.map Str.mk)) rfl rfl (by decide) rfl rfl (fun _ _ => ?_)|refine Qd rfl rfl ?_|refine QM rfl rfl rfl ?_|refine s_sh rfl rfl ?_|refine QD (fun _ _ => ?_)))|(refine Qk ?_;(first|refine Qi ?_|refine QK rfl ?_|refine Q1 ?_|refine Wx rfl rfl rfl rfl ?_|refine Q2 rfl rfl (by omega) ?_))|(refine Qj ?_;(first|refine Ql ?_|refine Qc ?_|refine Qf ?_|refine Qu ?_|refine Qm rfl ?_|refine Qn rfl (by omega) ?_)))
 rename_i g12 hg12 g14 hg14 gE hgE
 clear hnx hpa hch hpr hsm hpl hfl heq hsum c1 c2 hl h1 h2 h3
 have hnx := trivial
 have hpa := trivial
 have hch := trivial
 have hpr := trivial
 have hsm := trivial
 have heq := trivial
 have hsum := trivial
 generalize s.take (a + t.length) = bg at *
 have hls : (signsT.map Str.mk ++ fourT.map Str.mk).length = 28 := rfl
 have hfour := four_len
 have hL1 : (signsT.map Str.mk).length = 24 := rfl
 have hL2 : (fourT.map Str.mk).length = 4 := rfl
 have hL3 : (endsT.map Str.mk).length = 14 := rfl
 refine ZQ (fun (x : Nat × List UInt8) => ⟨[(4, QT m), (15, WA bg), (16, .ref 2 gE 0 (endsT.map Str.mk).length 1), (17, WA x.2), (18, .i x.1)], [.row g12 (Enc.enc q1), .row g14 [WA t, .i a, .i kd], .row gE (WE (endsT.map Str.mk))]⟩) (fun x => x.1 <= m.length /\ x.1 <= 8 /\ x.2.length <= 4 * x.1 /\ ∀ b ∈ x.2.head?, spB b = true) (fun x => m.length - x.1) (0, []) ?_ ⟨by omega, by omega, by simp, fun b hb => by cases hb⟩ ?_
 ·exact zal rfl
 intro ⟨i, more⟩ ⟨hi, hi8, hml, hmh⟩
 dsimp only at hi hi8 hml hmh ⊢
 by_cases hc : i < m.length /\ i < 8
 ·obtain ⟨hc1, hc2⟩ := hc
  have har := around_c (G := G) m[i] (((signsT.map Str.mk).length : Nat) + 4) (hm.2 _ (List.getElem_mem hc1)) (by decide)
  have hab := arnd_bound m[i] (most := ((signsT.map Str.mk).length : Nat) + 4) (by decide)
  obtain ⟨j, hj⟩ : ∃ j : Nat, arnd m[i] (((signsT.map Str.mk).length : Nat) + 4) = (j : Int) := ⟨(arnd m[i] (((signsT.map Str.mk).length : Nat) + 4)).toNat, by omega⟩
  rw [hj] at har hab
  have hab : j < 28 := by have h28 : (((signsT.map Str.mk).length : Nat) : Int) + 4 = 28 := rfl;omega
  have hjl : j < (signsT.map Str.mk ++ fourT.map Str.mk).length := by omega
  have hej : Enc.enc (signsT.map Str.mk ++ fourT.map Str.mk)[j] = [WA (signsT.map Str.mk ++ fourT.map Str.mk)[j].l] := rfl
  have hf3 := hfour _ (List.getElem_mem hjl)
  clear hfour hj
  generalize ((signsT.map Str.mk ++ fourT.map Str.mk)[j]).l = w at *
  have hml2 : (more ++ [32] ++ w).length <= 4 * (i + 1) := by simp only [List.length_append, List.length_cons, List.length_nil];omega
  have hmh2 : ∀ b ∈ (more ++ [32] ++ w).head?, spB b = true := fun b hb => by
   cases more with
   | nil => simp at hb;subst hb;decide
   | cons x r => exact hmh b hb
  (repeat' first|(refine Qe ?_;(first|refine QI rfl ?_|refine QJ rfl ?_|refine s_load_e1 (l := signsT.map Str.mk ++ fourT.map Str.mk) rfl rfl rfl hjl hej ?_|refine s_idx_ref1 rfl rfl rfl (by omega) ?_|(refine Qo ?_;(first|refine W7 rfl rfl (by omega) ?_|refine qe rfl rfl ?_|refine QY rfl rfl ?_))|(refine Qp ?_;(first|refine s_call_o (dst := some 70) rfl rfl r_signs_own (by first|exact QN _) (fun _ _ => ?_)|refine Qz rfl ?_|refine s_app_r rfl rfl rfl rfl rfl rfl rfl (by first|omega|(simp;omega)) (by first|omega|(simp;omega)) (fun _ => rfl) (fun _ _ => ?_)))|refine WK rfl rfl ?_))|(refine Qk ?_;(first|refine Qi ?_|refine QK rfl ?_|refine Wx rfl rfl rfl rfl ?_|refine Q7 rfl rfl (by omega) ?_))|(refine Qj ?_;(first|refine Ql ?_|refine Qc ?_|refine Qf ?_|(refine Wn ?_;first|(refine QG (fun p => p) 100 [(0, true), (1, true), (3, true), (5, true), (6, true), (7, true), (8, true), (2, false), (4, false), (9, true), (10, true), (11, true), (12, true), (13, false), (14, false), (15, false), (16, false)] (by rfl) (by rfl) (by kernel_rfl) (by decide +kernel) (by decide +kernel) ⟨_, rfl⟩ ?_)|refine Q6 (by rfl) (by kernel_rfl) (by kernel_rfl) ?_|refine Q5 (by kernel_rfl) (by kernel_rfl) ?_)|refine Qu ?_|refine Qq rfl (by omega) ?_))|(refine Zf ?_;(first|refine ZY ?_|refine i_st rfl rfl (fun _ => (by (repeat' first|(refine Qe ?_;(first|refine QI rfl ?_|refine QS rfl ?_|refine QC rfl rfl (by first|assumption|omega|(simp;done)|(simp;omega)) ?_|(refine Qo ?_;(first|refine W7 rfl rfl (by omega) ?_|refine qe rfl rfl ?_))|(refine Qp ?_;(first|refine QZ rfl rfl (r_signs_c) ?_|refine QZ rfl rfl (har) ?_|refine Qz rfl ?_))|refine W4 (cs := WE (fourT.map Str.mk)) rfl rfl (by decide) rfl ?_))|exact ⟨rfl, rfl⟩))) ?_|refine i_ef rfl ?_))|refine And.intro (Exists.intro (_) rfl) ?_)
  refine ⟨(i + 1, more ++ [32] ++ w), ⟨by omega, by omega, hml2, hmh2⟩, by dsimp only;omega, ?_⟩
  exact zal rfl
 clear hfour hls
 by_cases hc1 : i < m.length
 ·have hc2 : ¬ i < 8 := fun h => hc ⟨hc1, h⟩
  clear hc
  have hL4 : [Str.mk more, Str.mk (more ++ [32, 125])].length = 2 := rfl
  (repeat' first|(refine Qe ?_;(first|refine QI rfl ?_|refine QJ rfl ?_|(refine Qo ?_;(first|refine qe rfl rfl ?_|refine QY rfl rfl ?_))|(refine Qp ?_;(first|refine Qz rfl ?_|refine s_app_r rfl rfl rfl rfl rfl rfl rfl (by first|omega|(simp;omega)) (by first|omega|(simp;omega)) (fun _ => rfl) (fun _ _ => ?_)))|refine WK rfl rfl ?_|refine W4 (cs := WE [Str.mk more, Str.mk (more ++ [32, 125])]) rfl rfl (by decide) rfl ?_))|(refine Qk ?_;(first|refine Qi ?_|refine QK rfl ?_|refine Wx rfl rfl rfl rfl ?_|refine Q7 rfl rfl (by omega) ?_))|(refine Qj ?_;(first|refine Ql ?_|refine Qc ?_|refine Qf ?_|refine Qn rfl (by omega) ?_|refine Wp rfl ?_)))
  rename_i gF hgF
  refine r_pub 16 rfl rfl (Q4 _).symm rfl ?_
  have hEL : ∀ x ∈ endsT.map Str.mk ++ [Str.mk more, Str.mk (more ++ [32, 125])], (∀ b ∈ x.l.head?, spB b = true) /\ x.l.length <= 50 := fun x hx => by
   rcases List.mem_append.1 hx with hx|hx
   ·obtain ⟨y, hy, rfl⟩ := List.mem_map.1 hx
    have := ends_ok y hy
    exact ⟨this.1, by show y.length <= 50;omega⟩
   ·simp only [List.mem_cons, List.not_mem_nil, or_false] at hx
    rcases hx with rfl|rfl
    ·exact ⟨hmh, by show more.length <= 50;omega⟩
    ·refine ⟨fun b hb => ?_, by show (more ++ [32, 125]).length <= 50;simp only [List.length_append, List.length_cons, List.length_nil];omega⟩
     cases more with
     | nil => simp at hb;subst hb;decide
     | cons x r => exact hmh b hb
  have hELn : (endsT.map Str.mk ++ [Str.mk more, Str.mk (more ++ [32, 125])]).length = 16 := rfl
  generalize endsT.map Str.mk ++ [Str.mk more, Str.mk (more ++ [32, 125])] = EL at *
  refine ZQ (fun i : Nat => ⟨[(15, WA bg), (16, QT EL), (19, .i i)], []⟩) (fun i => i <= EL.length) (fun i => EL.length - i) 0 ?_ (by omega) ?_
  ·exact zal rfl
  clear hi hml hmh hi8 hc1
  intro i hi
  by_cases hil : i < EL.length
  ·obtain ⟨he1, he2⟩ := hEL _ (List.getElem_mem hil)
   have hen : Enc.enc EL[i] = [WA EL[i].l] := rfl
   have hpa := parse_cq (G := G) 9000 (by omega) (by omega) hG0 hG1 (bg ++ EL[i].l) (by rw [List.length_append];omega)
   have hne := hlaw EL[i].l he1
   clear hlaw hEL
   generalize parseQ 9000 zP (bg ++ EL[i].l) = q at *
   have hne : decide (q.2 = -1) = false := decide_eq_false hne
   generalize EL[i].l = e at *
   (repeat' first|(refine Qe ?_;(first|refine QI rfl ?_|refine QJ rfl ?_|refine QS rfl ?_|refine s_idx_as (l := EL) rfl rfl hil hen ?_|(refine Qo ?_;(first|refine W7 rfl rfl (by omega) ?_|refine qe rfl rfl ?_|refine s_eql_asR rfl rfl hne ?_|refine QY rfl rfl ?_))|(refine Qp ?_;(first|refine Zn rfl rfl hpa (WS (Wl (WF (Enc.clo _)) (Wl Wm WZ))) ?_|refine Qz rfl ?_))|refine WR rfl rfl rfl rfl ?_|refine QM rfl rfl rfl ?_|refine QD (fun _ _ => ?_)))|(refine Qk ?_;(first|refine Qi ?_|refine QK rfl ?_|refine Q1 ?_))|(refine Qj ?_;(first|refine Ql ?_|refine Qc ?_|refine Qf ?_|refine Qu ?_|refine Qm rfl ?_|refine Qq rfl (by omega) ?_)))
   refine ⟨i + 1, by omega, by omega, ?_⟩
   exact zal rfl
  ·clear hlaw hEL
   (repeat' first|(refine Qe ?_;(first|refine QI rfl ?_|refine QJ rfl ?_|refine QY rfl rfl ?_|(refine Qp ?_;(first|refine QZ rfl rfl (hlv) ?_|refine Qz rfl ?_))))|(refine Qk ?_;(first|refine Qi ?_|refine QK rfl ?_))|(refine Qj ?_;(first|refine Ql ?_|refine Qc ?_|refine Qn rfl (by omega) ?_|refine Wp rfl ?_|refine Qt ?_)))
   exact e_1 (Tryz.results7) (Qg rfl) (Qs rfl)
 ·clear hc
  have hL4 : [Str.mk more, Str.mk (more ++ [32, 125])].length = 2 := rfl
  (repeat' first|(refine Qe ?_;(first|refine QI rfl ?_|refine QJ rfl ?_|(refine Qo ?_;(first|refine qe rfl rfl ?_|refine QY rfl rfl ?_))|(refine Qp ?_;(first|refine Qz rfl ?_|refine s_app_r rfl rfl rfl rfl rfl rfl rfl (by first|omega|(simp;omega)) (by first|omega|(simp;omega)) (fun _ => rfl) (fun _ _ => ?_)))|refine Wr rfl rfl ?_|refine W4 (cs := WE [Str.mk more, Str.mk (more ++ [32, 125])]) rfl rfl (by decide) rfl ?_))|(refine Qk ?_;(first|refine Qi ?_|refine QK rfl ?_|refine W1 rfl rfl rfl rfl ?_|refine Q2 rfl rfl (by omega) ?_))|(refine Qj ?_;(first|refine Ql ?_|refine Qc ?_|refine Qf ?_|refine Qm rfl ?_|refine Wp rfl ?_)))
  rename_i gF hgF
  refine r_pub 16 rfl rfl (Q4 _).symm rfl ?_
  have hEL : ∀ x ∈ endsT.map Str.mk ++ [Str.mk more, Str.mk (more ++ [32, 125])], (∀ b ∈ x.l.head?, spB b = true) /\ x.l.length <= 50 := fun x hx => by
   rcases List.mem_append.1 hx with hx|hx
   ·obtain ⟨y, hy, rfl⟩ := List.mem_map.1 hx
    have := ends_ok y hy
    exact ⟨this.1, by show y.length <= 50;omega⟩
   ·simp only [List.mem_cons, List.not_mem_nil, or_false] at hx
    rcases hx with rfl|rfl
    ·exact ⟨hmh, by show more.length <= 50;omega⟩
    ·refine ⟨fun b hb => ?_, by show (more ++ [32, 125]).length <= 50;simp only [List.length_append, List.length_cons, List.length_nil];omega⟩
     cases more with
     | nil => simp at hb;subst hb;decide
     | cons x r => exact hmh b hb
  have hELn : (endsT.map Str.mk ++ [Str.mk more, Str.mk (more ++ [32, 125])]).length = 16 := rfl
  generalize endsT.map Str.mk ++ [Str.mk more, Str.mk (more ++ [32, 125])] = EL at *
  refine ZQ (fun i : Nat => ⟨[(15, WA bg), (16, QT EL), (19, .i i)], []⟩) (fun i => i <= EL.length) (fun i => EL.length - i) 0 ?_ (by omega) ?_
  ·exact zal rfl
  clear hi hml hmh hi8 hc1
  intro i hi
  by_cases hil : i < EL.length
  ·obtain ⟨he1, he2⟩ := hEL _ (List.getElem_mem hil)
   have hen : Enc.enc EL[i] = [WA EL[i].l] := rfl
   have hpa := parse_cq (G := G) 9000 (by omega) (by omega) hG0 hG1 (bg ++ EL[i].l) (by rw [List.length_append];omega)
   have hne := hlaw EL[i].l he1
   clear hlaw hEL
   generalize parseQ 9000 zP (bg ++ EL[i].l) = q at *
   have hne : decide (q.2 = -1) = false := decide_eq_false hne
   generalize EL[i].l = e at *
   (repeat' first|(refine Qe ?_;(first|refine QI rfl ?_|refine QJ rfl ?_|refine QS rfl ?_|refine s_idx_as (l := EL) rfl rfl hil hen ?_|(refine Qo ?_;(first|refine W7 rfl rfl (by omega) ?_|refine qe rfl rfl ?_|refine s_eql_asR rfl rfl hne ?_|refine QY rfl rfl ?_))|(refine Qp ?_;(first|refine Zn rfl rfl hpa (WS (Wl (WF (Enc.clo _)) (Wl Wm WZ))) ?_|refine Qz rfl ?_))|refine WR rfl rfl rfl rfl ?_|refine QM rfl rfl rfl ?_|refine QD (fun _ _ => ?_)))|(refine Qk ?_;(first|refine Qi ?_|refine QK rfl ?_|refine Q1 ?_))|(refine Qj ?_;(first|refine Ql ?_|refine Qc ?_|refine Qf ?_|refine Qu ?_|refine Qm rfl ?_|refine Qq rfl (by omega) ?_)))
   refine ⟨i + 1, by omega, by omega, ?_⟩
   exact zal rfl
  ·clear hlaw hEL
   (repeat' first|(refine Qe ?_;(first|refine QI rfl ?_|refine QJ rfl ?_|refine QY rfl rfl ?_|(refine Qp ?_;(first|refine QZ rfl rfl (hlv) ?_|refine Qz rfl ?_))))|(refine Qk ?_;(first|refine Qi ?_|refine QK rfl ?_))|(refine Qj ?_;(first|refine Ql ?_|refine Qc ?_|refine Qn rfl (by omega) ?_|refine Wp rfl ?_|refine Qt ?_)))
   exact e_1 (Tryz.results7) (Qg rfl) (Qs rfl)
end Go.Proofs
end
section
namespace Go.Av
open Classical Go.ChangeShapes Go.WideShapes Go.ChangeAt Go.RowKit
theorem law_callsG {P : Program} {G : Nat -> DV} {f : FuncId} {args : List DV} (h : Pure P G f args (.b true)) {W : World} {vs : Array Value} (hv : ∀ L, Sees W L -> VReps L args vs)
  (hG : ∀ L, Sees W L -> ∀ g, (G g).clo = true /\ VRep L (G g) (.pointer (some ⟨g, 0, none⟩))) (hT : ∀ g cs, G g = .ep cs -> ∃ T, W.shape? g = some (T, cs.length)) :
  Calls P f vs W fun e W' => e = .returned (.bool true) /\ Below W.heap.size W W' := by
 let X : AX := { w := W, ρ := fun _ => none, σ := [], N := 0, hid := fun _ => False }
 have hm : ∀ b, ¬ X.mut b := fun b ⟨k, g, n, hl, _⟩ => by simp [AX.live, X] at hl
 have hS : Sto X := {
  inj := fun k k' g g' b n n' hl => by simp [AX.live, X] at hl
  gen := fun k g hl => by simp [AX.live, X] at hl
  hid := fun b hb => absurd hb (hm b)
  hidlt := fun b hb => hb.elim
  holds := fun k B hB => by simp [X] at hB }
 have hL : Sees W X.lay := fun b o v hc => AX.imm_mk (hm b) (fun h => h) hc
 refine (h 0 X vs hS rfl (Nat.le_refl _) (fun g => ⟨⟨(hG X.lay hL g).1, fun cs hc => hT g cs hc⟩, (hG X.lay hL g).2⟩) (hv X.lay hL)).mono ?_
 rintro e w' ⟨v, rfl, Y, hw, hY, hE, d, hr, rfl, _⟩
 subst hw
 rw [VRep.sc_eq hr]
 exact ⟨rfl, hE.os, hE.tape, hE.output, hE.size, fun k hk => (hE.old k hk (hm k)).1⟩
theorem slice_rep {β : Type} [Enc β] {w : World} {a : Addr} {len cap : Nat} (hlc : len <= cap) (y : Fin len -> β)
  (hy : ∀ i, ∃ ci : List Value, ci.length = Enc.es β /\ (∀ r, r < Enc.es β -> w.cell? ((a.add (i.1 * Enc.es β)).add r) = ci[r]?) /\ ∀ L, Sees w L -> ∀ (j : Nat) d, (Enc.enc (y i) : List DV)[j]? = some d -> VRep L d (ci.getD j undef))
  (L : Lay) (hL : Sees w L) : VRep L (QT (List.ofFn y)) (.slice (some a) len cap) := by
 have hp := Enc.pos (α := β)
 have hlen : (WE (List.ofFn y)).length = len * Enc.es β := by rw [Q4, List.length_ofFn]
 let f : Nat -> Value := fun k => if h : k / Enc.es β < len then (Classical.choose (hy ⟨k / Enc.es β, h⟩)).getD (k % Enc.es β) undef else undef
 refine .sl _ _ _ _ _ f hlen.symm hlc (encs_one _) ?_ (fun k d hk => ?_)
 ·by_cases h0 : len = 0
  ·left
   exact List.eq_nil_of_length_eq_zero (by rw [hlen, h0, Nat.zero_mul])
  ·right
   obtain ⟨b, o, sp⟩ := a
   obtain ⟨c0, hc0, hc1, _⟩ := hy ⟨0, by omega⟩
   have hs := hc1 0 hp
   rw [List.getElem?_eq_getElem (by omega)] at hs
   have hsp : sp = none := by simpa [Addr.add] using spot_of hs
   subst hsp
   refine ⟨b, o, rfl, fun k hk => ?_⟩
   rw [hlen] at hk
   have hkd : k / Enc.es β < len := Nat.div_lt_of_lt_mul (by rw [Nat.mul_comm];exact hk)
   have hfk : f k = (Classical.choose (hy ⟨k / Enc.es β, hkd⟩)).getD (k % Enc.es β) undef := dif_pos hkd
   obtain ⟨h4, h5, _⟩ := Classical.choose_spec (hy ⟨k / Enc.es β, hkd⟩)
   have hm := Nat.mod_lt k hp
   have h6 := h5 (k % Enc.es β) hm
   rw [List.getElem?_eq_getElem (by omega)] at h6
   refine hL b (o + k) (f k) ?_
   rw [hfk, List.getD_eq_getElem?_getD, List.getElem?_eq_getElem (by omega)]
   have hadd : ((⟨b, o, none⟩ : Addr).add (k / Enc.es β * Enc.es β)).add (k % Enc.es β) = ⟨b, o + k, none⟩ := by
    rw [qc, qc, Nat.add_assoc, Nat.mul_comm, Nat.div_add_mod]
   rw [hadd] at h6
   exact h6
 ·have hk' := (List.getElem?_eq_some_iff.1 hk).1
  rw [hlen] at hk'
  have hkd : k / Enc.es β < len := Nat.div_lt_of_lt_mul (by rw [Nat.mul_comm];exact hk')
  have hfk : f k = (Classical.choose (hy ⟨k / Enc.es β, hkd⟩)).getD (k % Enc.es β) undef := dif_pos hkd
  obtain ⟨_, _, h7⟩ := Classical.choose_spec (hy ⟨k / Enc.es β, hkd⟩)
  have hm := Nat.mod_lt k hp
  have := encs_at (List.ofFn y) (k / Enc.es β) (by rw [List.length_ofFn];exact hkd) (k % Enc.es β) hm
  rw [Nat.mul_comm, Nat.div_add_mod, hk, List.getElem_ofFn] at this
  rw [hfk]
  exact h7 L hL _ d this.symm
theorem ones {A B : Type} (g : B -> A) : ∀ (l : List B) (L : List A), L.length = l.length -> (∀ i b, l[i]? = some b -> (L.drop i).take 1 = [g b]) -> L = l.map g
 | [], L, hl, _ => List.eq_nil_of_length_eq_zero (by simpa using hl)
 | b :: l, L, hl, h => by
  have h0 := h 0 b rfl
  have hr := ones g l (L.drop 1) (by rw [List.length_drop, hl, List.length_cons];omega) fun i b' hb => by
   have := h (i + 1) b' (by simpa using hb)
   rw [List.drop_drop]
   rwa [show 1 + i = i + 1 by omega]
  rw [List.map_cons, <- hr]
  have : L = L.take 1 ++ L.drop 1 := (List.take_append_drop 1 L).symm
  rw [List.drop_zero] at h0
  rw [h0] at this
  exact this
theorem shape_of_var {P : Program} {W : World} {name : String} {g : Nat} {cs : Array Value} (hg : P.globalNamed name = some g) (hv : W.var? P name = some cs) : ∃ T, W.shape? g = some (T, cs.size) := by
 unfold World.var? at hv
 rw [hg] at hv
 simp only [Option.bind_some] at hv
 split at hv
 ·rename_i h
  cases hv
  exact ⟨_, by unfold World.shape?;rw [h]⟩
 ·cases hv
end Go.Av
namespace Go.Proofs.YtnppaoeijmgneaaGreatDoor
open Go.ChangeShapes Go.WideShapes Go.ChangeAt Go.RowKit Go.Av Go.Proofs
def listD (l : List Int) : DataW Unit := match l with|[] => .nil|_ => .slice (l.map fun z => .lit (.int .i64 z)) []
def shD (s : Sh) : DataW Unit := .agg [.lit (.int .i64 s.is), .lit (.int .i64 s.low), .lit (.int .i64 s.high), .lit (.int .i64 s.last), listD s.kids, .lit (.int .i64 s.more), .lit (.int .i64 s.least), .lit (.int .i64 s.som)]
abbrev tok : TypeId × Value -> Unit := fun _ => ()
theorem cells3 : Tryz.prog.cellsOf 3 = 1 := by kernel_rfl
theorem cells111 : Tryz.prog.cellsOf 111 = 1 := by kernel_rfl
theorem cells128 : Tryz.prog.cellsOf 128 = 1 := by kernel_rfl
theorem cells130 : Tryz.prog.cellsOf 130 = 8 := by kernel_rfl
theorem cells131 : Tryz.prog.cellsOf 131 = 224 := by kernel_rfl
theorem cells5 : Tryz.prog.cellsOf 5 = 1 := by kernel_rfl
theorem cells154 : Tryz.prog.cellsOf 154 = 1 := by kernel_rfl
theorem cells158 : Tryz.prog.cellsOf 158 = 256 := by kernel_rfl
theorem cells194 : Tryz.prog.cellsOf 194 = 20 := by kernel_rfl
theorem gShapes : Tryz.prog.globalNamed "scoria/tree.shapes" = some 0 := by kernel_rfl
theorem tShapes : (Tryz.prog.globals[0]?).map (·.type) = some 131 := by kernel_rfl
theorem gSpace : Tryz.prog.globalNamed "strings.asciiSpace" = some 1 := by kernel_rfl
theorem tSpace : (Tryz.prog.globals[1]?).map (·.type) = some 158 := by kernel_rfl
theorem gPow : Tryz.prog.globalNamed "internal/strconv.uint64pow10" = some 6 := by kernel_rfl
theorem tPow : (Tryz.prog.globals[6]?).map (·.type) = some 194 := by kernel_rfl
theorem shapes_datum : (Rows.laid_scoria_tree_shapes : DataW Unit) = .agg (shapesL.map shD) := rfl
theorem space_datum : (Rows.laid_strings_asciiSpace : DataW Unit) = .agg (Lib.asciiSpaceTab.map fun z => .lit (.int .u8 z)) := rfl
theorem pow_datum : (Rows.laid_internal_strconv_uint64pow10 : DataW Unit) = .agg (Lib.pow10Tab.map fun z => .lit (.int .u64 z)) := rfl
variable {W : World} {l : List (String × DataW Unit)}
theorem kids_of {sp : Nat -> Bool} {b : Nat} {held : Bool} {fuel : Nat} {v : Value} {ks : List Int} {q : List MemPlace} (h : DataW.trod tok Tryz.prog W b sp held fuel 128 [v] = some (listD ks, q)) : ∀ L, Sees W L -> VRep L (QT ks) v := by
 rcases DataW.trod_slice (inferInstance : TyI Tryz.prog 128 (.slice 111) false 1).u h with ⟨e3, ex⟩|⟨a, len, cap, elems, rest, n, hn, e3, ex, _, hlc, hcap, hel, hget, _⟩
 ·have e3 : v = _ := List.head_eq_of_cons_eq e3
  have : ks = [] := by
   cases ks with
   | nil => rfl
   | cons x r => simp [listD] at ex
  subst this
  intro L hL
  rw [e3]
  exact .sl _ _ _ _ _ (fun _ => undef) (by simp [WE]) (Nat.le_refl _) (fun d hd => by simp [WE] at hd) (.inl rfl) (fun j d hj => by simp [WE] at hj)
 ·have e3 : v = _ := List.head_eq_of_cons_eq e3
  have ex1 : listD ks = .slice (elems.map (·.1)) (rest.map (·.1)) := (Prod.mk.inj ex).1
  have hks : (elems.map (·.1)) = ks.map fun z => DataW.lit (.int .i64 z) := by
   cases ks with
   | nil => simp [listD] at ex1
   | cons x r => simp only [listD, DataW.slice.injEq] at ex1;exact ex1.1.symm
  have hlen : len = ks.length := by
   have := congrArg List.length hks
   rw [List.length_map, List.length_map] at this
   omega
  subst hlen
  intro L hL
  rw [e3]
  have key := slice_rep (w := W) (a := a) (len := ks.length) (cap := cap) hlc (fun i : Fin ks.length => ks[i]) (fun i => by
   have h1 := hget i.1 i.2
   rw [List.getElem?_eq_getElem (by omega), cells111] at h1
   obtain ⟨ci, h2, h3⟩ := Option.bind_eq_some_iff.1 h1
   obtain ⟨_, h4, h5⟩ := World.cells?_some h2
   obtain ⟨k, e1, e2, _⟩ := DataW.trod_int (inferInstance : TyI Tryz.prog 111 (.int .i64) false 1).u h3
   have hk : (elems.map (·.1))[i.1]? = (ks.map fun z => DataW.lit (.int .i64 z))[i.1]? := by rw [hks]
   rw [List.getElem?_map, List.getElem?_map, List.getElem?_eq_getElem (by omega), List.getElem?_eq_getElem i.2, e2] at hk
   have hk : k = ks[i.1] := by simpa using hk
   subst hk
   refine ⟨ci, h4, h5, fun L hL j d hj => ?_⟩
   rw [e1]
   cases j with
   | zero => cases hj;exact .sc _
   | succ j => simp [Enc.enc] at hj) L hL
  have hof : List.ofFn (fun i : Fin ks.length => ks[i]) = ks := List.ofFn_getElem
  rw [hof] at key
  exact key
theorem int_of {t : TypeId} {z : Nat} [ht : TyI Tryz.prog t (.int .i64) false z] {sp : Nat -> Bool} {b : Nat} {held : Bool} {fuel : Nat} {v : Value} {k : Int} {q : List MemPlace} (h : DataW.trod tok Tryz.prog W b sp held fuel t [v] = some (.lit (.int .i64 k), q)) : v = .int .i64 k := by
 obtain ⟨k', e1, e2, _⟩ := DataW.trod_int ht.u h
 have : k = k' := by simpa using (Prod.mk.inj e2).1
 rw [this]
 exact List.head_eq_of_cons_eq e1
theorem sh_of {sp : Nat -> Bool} {b : Nat} {held : Bool} {fuel : Nat} {c : List Value} {s : Sh} {q : List MemPlace} (h : DataW.trod tok Tryz.prog W b sp held fuel 130 c = some (shD s, q)) : c.length = 8 /\ ∀ L, Sees W L -> ∀ (j : Nat) d, (Enc.enc s : List DV)[j]? = some d -> VRep L d (c.getD j undef) := by
 obtain ⟨xs, n, hn, ex, hl, hxl, hf⟩ := DataW.trod_struct Tryz.underlying130 h
 rw [cells130] at hl
 match xs, hxl, c, hl with
 | [y0, y1, y2, y3, y4, y5, y6, y7], _, [v0, v1, v2, v3, v4, v5, v6, v7], _ =>
 have t0 := hf 0 _ rfl
 have t1 := hf 1 _ rfl
 have t2 := hf 2 _ rfl
 have t3 := hf 3 _ rfl
 have t4 := hf 4 _ rfl
 have t5 := hf 5 _ rfl
 have t6 := hf 6 _ rfl
 have t7 := hf 7 _ rfl
 clear hf h
 have t0 : DataW.trod tok Tryz.prog W b sp held n 111 [v0] = some y0 := by
  have e : (([v0, v1, v2, v3, v4, v5, v6, v7] : List Value).drop 0).take (Tryz.prog.cellsOf 111) = [v0] := by rw [cells111];rfl
  rw [<- e];exact t0
 have t1 : DataW.trod tok Tryz.prog W b sp held n 3 [v1] = some y1 := by
  have e : (([v0, v1, v2, v3, v4, v5, v6, v7] : List Value).drop 1).take (Tryz.prog.cellsOf 3) = [v1] := by rw [cells3];rfl
  rw [<- e];exact t1
 have t2 : DataW.trod tok Tryz.prog W b sp held n 3 [v2] = some y2 := by
  have e : (([v0, v1, v2, v3, v4, v5, v6, v7] : List Value).drop 2).take (Tryz.prog.cellsOf 3) = [v2] := by rw [cells3];rfl
  rw [<- e];exact t2
 have t3 : DataW.trod tok Tryz.prog W b sp held n 3 [v3] = some y3 := by
  have e : (([v0, v1, v2, v3, v4, v5, v6, v7] : List Value).drop 3).take (Tryz.prog.cellsOf 3) = [v3] := by rw [cells3];rfl
  rw [<- e];exact t3
 have t4 : DataW.trod tok Tryz.prog W b sp held n 128 [v4] = some y4 := by
  have e : (([v0, v1, v2, v3, v4, v5, v6, v7] : List Value).drop 4).take (Tryz.prog.cellsOf 128) = [v4] := by rw [cells128];rfl
  rw [<- e];exact t4
 have t5 : DataW.trod tok Tryz.prog W b sp held n 3 [v5] = some y5 := by
  have e : (([v0, v1, v2, v3, v4, v5, v6, v7] : List Value).drop 5).take (Tryz.prog.cellsOf 3) = [v5] := by rw [cells3];rfl
  rw [<- e];exact t5
 have t6 : DataW.trod tok Tryz.prog W b sp held n 3 [v6] = some y6 := by
  have e : (([v0, v1, v2, v3, v4, v5, v6, v7] : List Value).drop 6).take (Tryz.prog.cellsOf 3) = [v6] := by rw [cells3];rfl
  rw [<- e];exact t6
 have t7 : DataW.trod tok Tryz.prog W b sp held n 111 [v7] = some y7 := by
  have e : (([v0, v1, v2, v3, v4, v5, v6, v7] : List Value).drop 7).take (Tryz.prog.cellsOf 111) = [v7] := by rw [cells111];rfl
  rw [<- e];exact t7
 have ex1 := (Prod.mk.inj ex).1
 simp only [shD, List.map_cons, List.map_nil, DataW.agg.injEq, List.cons.injEq, and_true] at ex1
 obtain ⟨x0, x1, x2, x3, x4, x5, x6, x7⟩ := ex1
 obtain ⟨y0, p0⟩ := y0
 obtain ⟨y1, p1⟩ := y1
 obtain ⟨y2, p2⟩ := y2
 obtain ⟨y3, p3⟩ := y3
 obtain ⟨y4, p4⟩ := y4
 obtain ⟨y5, p5⟩ := y5
 obtain ⟨y6, p6⟩ := y6
 obtain ⟨y7, p7⟩ := y7
 dsimp only at x0 x1 x2 x3 x4 x5 x6 x7
 subst x0 x1 x2 x3 x4 x5 x6 x7
 have e0 := int_of (t := 111) (v := v0) t0
 have e1 := int_of (t := 3) (v := v1) t1
 have e2 := int_of (t := 3) (v := v2) t2
 have e3 := int_of (t := 3) (v := v3) t3
 have e4 := kids_of (v := v4) t4
 have e5 := int_of (t := 3) (v := v5) t5
 have e6 := int_of (t := 3) (v := v6) t6
 have e7 := int_of (t := 111) (v := v7) t7
 subst e0 e1 e2 e3 e5 e6 e7
 refine ⟨rfl, fun L hL j d hj => ?_⟩
 match j, hj with
 | 0, hj => cases hj;exact .sc _
 | 1, hj => cases hj;exact .sc _
 | 2, hj => cases hj;exact .sc _
 | 3, hj => cases hj;exact .sc _
 | 4, hj => cases hj;exact e4 L hL
 | 5, hj => cases hj;exact .sc _
 | 6, hj => cases hj;exact .sc _
 | 7, hj => cases hj;exact .sc _
 | j + 8, hj => simp [Enc.enc] at hj
theorem one_laid {name : String} {d : DataW Unit} {g t : Nat} (hf : l.filter (fun x => x.1 == name) = [(name, d)]) (hh : d.handleName? = none) (hg : Tryz.prog.globalNamed name = some g) (ht : (Tryz.prog.globals[g]?).map (·.type) = some t) (h : laidMetH Tryz.prog l W) :
  ∃ cs f p, W.var? Tryz.prog name = some cs /\ DataW.trod tok Tryz.prog W 0 (fun _ => true) false f t cs.toList = some (d, p) := by
 have h1 := h.filter fun x => x.1 == name
 rw [hf, MakeChecks.laidMetH_plain _ _ _ (by simp [hh])] at h1
 obtain ⟨ps, ⟨g', t', cs, f, p, q, hg', ht', hv, hd, _⟩, _, _⟩ := h1
 obtain rfl := Option.some.inj (hg.symm.trans hg')
 obtain rfl := Option.some.inj (ht.symm.trans ht')
 exact ⟨cs, f, p, hv, hd⟩
theorem shapes_laid (hf : l.filter (fun x => x.1 == "scoria/tree.shapes") = [("scoria/tree.shapes", Rows.laid_scoria_tree_shapes)]) (h : laidMetH Tryz.prog l W) :
  ∃ cs, W.var? Tryz.prog "scoria/tree.shapes" = some cs /\ cs.toList.length = 224 /\ ∀ L, Sees W L -> ∀ (j : Nat) d, (WE shapesL)[j]? = some d -> VRep L d (cs.toList.getD j undef) := by
 obtain ⟨cs, f, p, hv, hd⟩ := one_laid hf rfl gShapes tShapes h
 rw [shapes_datum] at hd
 obtain ⟨xs, m, _, hx, hl, hn, hel⟩ := DataW.trod_array (inferInstance : TyI Tryz.prog 131 (.array 28 130) true 224).u hd
 rw [cells131] at hl
 have hx2 : (shapesL.map shD) = xs.map (·.1) := by simpa only [DataW.agg.injEq] using (Prod.mk.inj hx).1
 refine ⟨cs, hv, hl, fun L hL j d hj => ?_⟩
 have hj' : j < 224 := by
  have := (List.getElem?_eq_some_iff.1 hj).1
  rw [Q4] at this
  exact this
 have hi : j / 8 < 28 := by omega
 have hm : j % 8 < 8 := Nat.mod_lt _ (by decide)
 have h1 := hel (j / 8) hi
 rw [cells130] at h1
 have hxi : (xs.map (·.1))[j / 8]? = (shapesL.map shD)[j / 8]? := by rw [hx2]
 have hsl : shapesL.length = 28 := rfl
 rw [List.getElem?_map, List.getElem?_map, List.getElem?_eq_getElem (show j / 8 < xs.length by omega), List.getElem?_eq_getElem (show j / 8 < shapesL.length by omega)] at hxi
 rw [List.getElem?_eq_getElem (show j / 8 < xs.length by omega)] at h1
 have hxi : (xs[j / 8]'(by omega)).1 = shD (shapesL[j / 8]'(by omega)) := by simpa using hxi
 generalize xs[j / 8]'(by omega) = y at h1 hxi
 obtain ⟨y1, y2⟩ := y
 dsimp only at hxi
 subst hxi
 obtain ⟨hc, hrep⟩ := sh_of h1
 have he := encs_at shapesL (j / 8) (by omega) (j % 8) hm
 have hes : Enc.es Sh = 8 := rfl
 rw [hes, show j / 8 * 8 + j % 8 = j by omega, hj] at he
 have := hrep L hL (j % 8) d he.symm
 rw [List.getD_eq_getElem?_getD, List.getElem?_take, if_pos hm, List.getElem?_drop, show j / 8 * 8 + j % 8 = j by omega, <- List.getD_eq_getElem?_getD] at this
 exact this
theorem ints_laid {name : String} {k : IntKind} {zs : List Int} {g t e : Nat} {N : Nat} [hat : TyI Tryz.prog t (.array N e) true N] [hie : TyI Tryz.prog e (.int k) false 1] (hN : zs.length = N) (hc : Tryz.prog.cellsOf t = N) (hce : Tryz.prog.cellsOf e = 1) (hf : l.filter (fun x => x.1 == name) = [(name, .agg (zs.map fun z => .lit (.int k z)))]) (hg : Tryz.prog.globalNamed name = some g) (ht : (Tryz.prog.globals[g]?).map (·.type) = some t) (h : laidMetH Tryz.prog l W) :
  ∃ cs, W.var? Tryz.prog name = some cs /\ cs.toList = zs.map fun z => .int k z := by
 obtain ⟨cs, f, p, hv, hd⟩ := one_laid hf rfl hg ht h
 obtain ⟨xs, m, _, hx, hl, hn, hel⟩ := DataW.trod_array hat.u hd
 rw [hc] at hl
 have hx2 : (zs.map fun z => DataW.lit (H := Unit) (.int k z)) = xs.map (·.1) := by simpa only [DataW.agg.injEq] using (Prod.mk.inj hx).1
 refine ⟨cs, hv, ones (fun z => .int k z) zs cs.toList (by omega) fun i z hi => ?_⟩
 have hi20 : i < N := by rw [<- hN];exact (List.getElem?_eq_some_iff.1 hi).1
 have h1 := hel i hi20
 rw [hce, Nat.mul_one] at h1
 have hxi : (xs.map (·.1))[i]? = some (.lit (.int k z)) := by rw [<- hx2, List.getElem?_map, hi];rfl
 rw [List.getElem?_map] at hxi
 cases hxs : xs[i]? with
 | none => rw [hxs] at hxi;cases hxi
 | some y =>
  rw [hxs] at hxi h1
  obtain ⟨k', e1, e2, _⟩ := DataW.trod_int hie.u h1
  have hy := Option.some.inj hxi
  rw [e2] at hy
  have hk : k' = z := by simpa using hy
  rw [e1, hk]
def G016 : Nat -> DV := fun g => match g with|0 => shapesT|1 => spaceT|6 => pow10T|_ => .any
theorem ints_rep {name : String} {k : IntKind} {zs : List Int} {g : Nat} {cs : Array Value} (hg : Tryz.prog.globalNamed name = some g) (hv : W.var? Tryz.prog name = some cs) (hcs : cs.toList = zs.map fun z => .int k z) (L : Lay) (hL : Sees W L) : VRep L (.ep (zs.map fun z => .sc (.int k z))) (.pointer (some ⟨g, 0, none⟩)) := by
 refine .ep _ g 0 (fun j => (zs.map fun z => Value.int k z).getD j undef) (fun d hd => ?_) (fun j hj => ?_) (fun j d hd => ?_)
 ·obtain ⟨z, _, rfl⟩ := List.mem_map.1 hd;rfl
 ·refine hL _ _ _ ?_
  rw [World.var?_cell hg hv, Nat.zero_add, <- hcs]
  have hj' : j < cs.toList.length := by rw [hcs];simpa using hj
  rw [List.getD_eq_getElem?_getD, List.getElem?_eq_getElem hj']
  simp
 ·rw [List.getElem?_map] at hd
  cases hz : zs[j]? with
  | none => rw [hz] at hd;cases hd
  | some z =>
   rw [hz] at hd
   cases hd
   rw [List.getD_eq_getElem?_getD, List.getElem?_map, hz]
   exact .sc _
theorem of_laid (hf0 : l.filter (fun x => x.1 == "scoria/tree.shapes") = [("scoria/tree.shapes", Rows.laid_scoria_tree_shapes)]) (hf1 : l.filter (fun x => x.1 == "strings.asciiSpace") = [("strings.asciiSpace", Rows.laid_strings_asciiSpace)])
  (hf6 : l.filter (fun x => x.1 == "internal/strconv.uint64pow10") = [("internal/strconv.uint64pow10", Rows.laid_internal_strconv_uint64pow10)]) (h : laidMetH Tryz.prog l W) :
  (∀ L, Sees W L -> ∀ g, (G016 g).clo = true /\ VRep L (G016 g) (.pointer (some ⟨g, 0, none⟩))) /\ ∀ g cs, G016 g = .ep cs -> ∃ T, W.shape? g = some (T, cs.length) := by
 obtain ⟨c0, v0, n0, r0⟩ := shapes_laid hf0 h
 rw [space_datum] at hf1
 rw [pow_datum] at hf6
 obtain ⟨c1, v1, r1⟩ := ints_laid (t := 158) (e := 5) (N := 256) (by kernel_rfl) cells158 cells5 hf1 gSpace tSpace h
 obtain ⟨c6, v6, r6⟩ := ints_laid (t := 194) (e := 154) (N := 20) (by kernel_rfl) cells194 cells154 hf6 gPow tPow h
 refine ⟨fun L hL g => ?_, fun g cs hg => ?_⟩
 ·match g with
  | 0 =>
   refine ⟨Zy (QN _), ?_⟩
   show VRep L shapesT _
   unfold shapesT
   refine .ep _ 0 0 (fun j => c0.toList.getD j undef) (encs_one _) (fun j hj => ?_) (r0 L hL)
   refine hL _ _ _ ?_
   rw [World.var?_cell gShapes v0, Nat.zero_add]
   have hj' : j < c0.toList.length := by rw [n0];exact hj
   rw [List.getD_eq_getElem?_getD, List.getElem?_eq_getElem hj']
   simp
  | 1 =>
   refine ⟨?_, ints_rep gSpace v1 r1 L hL⟩
   show spaceT.clo = true
   unfold spaceT
   refine Zy fun d hd => ?_
   obtain ⟨z, _, rfl⟩ := List.mem_map.1 hd
   exact Wm
  | 6 =>
   refine ⟨?_, ints_rep gPow v6 r6 L hL⟩
   show pow10T.clo = true
   unfold pow10T
   refine Zy fun d hd => ?_
   obtain ⟨z, _, rfl⟩ := List.mem_map.1 hd
   exact Wm
  | 2 => exact ⟨by simp [G016, DV.clo], .any _⟩
  | 3 => exact ⟨by simp [G016, DV.clo], .any _⟩
  | 4 => exact ⟨by simp [G016, DV.clo], .any _⟩
  | 5 => exact ⟨by simp [G016, DV.clo], .any _⟩
  | g + 7 => exact ⟨by simp [G016, DV.clo], .any _⟩
 ·match g, hg with
  | 0, hg =>
   obtain ⟨T, hT⟩ := shape_of_var gShapes v0
   refine ⟨T, ?_⟩
   have : WE shapesL = cs := by simpa [G016, shapesT] using hg
   rw [hT, <- Array.length_toList, n0, <- this];rfl
  | 1, hg =>
   obtain ⟨T, hT⟩ := shape_of_var gSpace v1
   refine ⟨T, ?_⟩
   have : (Lib.asciiSpaceTab.map fun z => DV.sc (.int .u8 z)) = cs := by simpa [G016, spaceT] using hg
   rw [hT, <- Array.length_toList, r1, <- this, List.length_map, List.length_map]
  | 6, hg =>
   obtain ⟨T, hT⟩ := shape_of_var gPow v6
   refine ⟨T, ?_⟩
   have : (Lib.pow10Tab.map fun z => DV.sc (.int .u64 z)) = cs := by simpa [G016, pow10T] using hg
   rw [hT, <- Array.length_toList, r6, <- this, List.length_map, List.length_map]
  | 2, hg => simp [G016] at hg
  | 3, hg => simp [G016] at hg
  | 4, hg => simp [G016] at hg
  | 5, hg => simp [G016] at hg
  | g + 7, hg => simp [G016] at hg
end Go.Proofs.YtnppaoeijmgneaaGreatDoor
end
