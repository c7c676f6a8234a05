/-
  Part 4 of the proof: U8 VM V0 AvZ AT AS LN TB PN TC LI WL PA PR GA WH.
-/
import Derived.WalkKit
import Derived.LoopTactic
import Derived.WalkSmall
import Derived.Laws.RangeString
import Derived.Test.YtnppaoeijmgneaaGreatDoorZE1
import Derived.Test.YtnppaoeijmgneaaGreatDoorZE2
import Derived.Test.YtnppaoeijmgneaaGreatDoorZE3
set_option linter.unusedSimpArgs false
set_option linter.unusedVariables false
set_option maxRecDepth 10000
set_option maxHeartbeats 4000000
section
namespace Go.Proofs
open Go.Av
variable {G : Nat -> DV}
attribute [local irreducible] OpSem Zd Zx ZL ACalls qt AClose RV
open Go.Bl
def progL : Nd -> List (List UInt8)
 | .mk k n m ks => ([112, 114, 111, 103, 114, 97, 109, 32] ++ Lib.itoa n) :: (ks.map funL).flatten
theorem funsL_len : ∀ (ks : List Nd), ((ks.map funL).flatten).length <= 3 * QT ks
 | [] => by simp
 | x :: r => by
  have h1 := funL_len x
  have h2 := funsL_len r
  rw [List.map_cons, List.flatten_cons, List.length_append, QT];omega
theorem rProg_c (n m : Int) (ks : List Nd) (hok : okN (.mk 27 n m ks)) (hsz : Qu (.mk 27 n m ks) <= 1000000) : ∃ x : List Str, Go.Av.Pure Tryz.prog G 51 [.agg [.i 27, .i n, .i m, QR ks]] (.tup [QR x, .b (prOk (.mk 27 n m ks))]) /\ (prOk (.mk 27 n m ks) = true -> x = strs (progL (.mk 27 n m ks))) := by
 rw [okN] at hok
 rw [Qu] at hsz
 have hl1 := WC ks
 have hsm := ZP (G := G) n
 have hpo : prOk (.mk 27 n m ks) = (Q0 m ks.length (-1) && WT n && ks.all ZF) := by rw [prOk, if_pos rfl]
 by_cases hm : m = 0
 case neg =>
  have hf : prOk (.mk 27 n m ks) = false := by rw [hpo, ZQ];simp [hm]
  refine ⟨[], fun B => ?_, fun h => by rw [hf] at h;cases h⟩
  refine Qa Tryz.func51 rfl Tryz.ntmps51 rfl (t := [(0, .agg [.i 27, .i n, .i m, QR ks])]) rfl fun E hE => ?_
  (repeat' first|(refine Qe ?_;(first|refine QG rfl ?_|refine QJ rfl ?_|refine Qb rfl rfl rfl ?_|refine ZN rfl rfl ?_|(refine Q4 ?_;(first|refine WO rfl rfl ?_|refine Wr rfl rfl ?_))|refine Qd rfl rfl ?_|refine QU rfl rfl (fun _ _ => ?_)))|(refine Qk ?_;(first|refine Qi ?_|refine QN rfl ?_|refine WD rfl rfl rfl rfl ?_|refine W2 rfl rfl rfl rfl ?_|refine We rfl rfl (by omega) ?_))|(refine Qj ?_;(first|refine Qn ?_|refine Qc ?_|refine Qh rfl ?_|refine Qs ?_)))
  all_goals exact e_2 (Tryz.results51) (Qg rfl) (Qg rfl) (ZB (fun L v h => ZH (fun v hv => Zm (es := 1) hv) h) (Qw (by rw [hf];rfl)))
 subst hm
 by_cases hs : WT n = true
 case neg =>
  have hs2 : WT n = false := by rw [<- Bool.not_eq_true];exact hs
  have hf : prOk (.mk 27 n 0 ks) = false := by rw [hpo];simp [hs2]
  rw [hs2] at hsm
  refine ⟨[], fun B => ?_, fun h => by rw [hf] at h;cases h⟩
  refine Qa Tryz.func51 rfl Tryz.ntmps51 rfl (t := [(0, .agg [.i 27, .i n, .i 0, QR ks])]) rfl fun E hE => ?_
  (repeat' first|(refine Qe ?_;(first|refine QG rfl ?_|refine QJ rfl ?_|refine Qb rfl rfl rfl ?_|refine ZN rfl rfl ?_|refine QZ rfl rfl (hsm) ?_|refine Wr rfl rfl ?_|refine Wn rfl ?_|refine Qd rfl rfl ?_|refine QU rfl rfl (fun _ _ => ?_)))|(refine Qk ?_;(first|refine Qi ?_|refine QN rfl ?_|refine WD rfl rfl rfl rfl ?_))|(refine Qj ?_;(first|refine Qn ?_|refine Qc ?_|refine Qh rfl ?_|refine Qs ?_)))
  all_goals exact e_2 (Tryz.results51) (Qg rfl) (Qg rfl) (ZB (fun L v h => ZH (fun v hv => Zm (es := 1) hv) h) (Qw (by rw [hf];rfl)))
 rw [hs] at hsm
 obtain ⟨hn0, hn9⟩ := qQ hs
 have hdig : Go.Av.Pure Tryz.prog G 93 [.i n] (WQ (Lib.itoa n)) := by
  rw [itoa_nat hn0]
  have := qP (G := G) n.toNat (by omega)
  rwa [show ((n.toNat : Nat) : Int) = n by omega] at this
 have hdl := Zb hok.1.2.1
 rw [show prOk (.mk 27 n 0 ks) = ks.all ZF by rw [hpo, ZQ, hs];simp]
 have hpl : progL (.mk 27 n 0 ks) = ([112, 114, 111, 103, 114, 97, 109, 32] ++ Lib.itoa n) :: (ks.map funL).flatten := by rw [progL]
 rw [hpl]
 refine ⟨if ks.all ZF = true then strs (([112, 114, 111, 103, 114, 97, 109, 32] ++ Lib.itoa n) :: (ks.map funL).flatten) else [], fun B => ?_, fun h => by rw [if_pos h]⟩
 have hfk : ∀ x ∈ ks, RfE G x := fun x hx => rFun_c x (Wj hok.2 hx) (by have := QY hx;omega)
 refine Qa Tryz.func51 rfl Tryz.ntmps51 rfl (t := [(0, .agg [.i 27, .i n, .i 0, QR ks])]) rfl fun E hE => ?_
 (repeat' first|(refine Qe ?_;(first|refine QG rfl ?_|refine QJ rfl ?_|refine Qb rfl rfl rfl ?_|(refine Qo ?_;(first|refine ZN rfl rfl ?_|refine qD rfl rfl ?_))|(refine Qq ?_;(first|refine QZ rfl rfl (hdig) ?_|refine QZ rfl rfl (hsm) ?_))|refine Wr rfl rfl ?_|refine qR (cs := Ws [Str.mk ([112, 114, 111, 103, 114, 97, 109, 32] ++ Lib.itoa n)]) rfl rfl (by decide) rfl rfl (fun _ _ => ?_)|refine Wn rfl ?_|refine Qd rfl rfl ?_|refine QU rfl rfl (fun _ _ => ?_)))|(refine Qk ?_;(first|refine Qi ?_|refine QN rfl ?_|refine WD rfl rfl rfl rfl ?_))|(refine Qj ?_;(first|refine Qn ?_|refine Qc ?_|refine Qf ?_|refine Qx ?_|refine Ql rfl ?_)))
 rename_i gb hgb gO hgO
 refine r_loopg (fun (i : Nat) g => ⟨[(1, .ptr 0 gb 0), (4, .ref 1 g 0 (strs (([112, 114, 111, 103, 114, 97, 109, 32] ++ Lib.itoa n) :: ((ks.take i).map funL).flatten)).length 1), (5, .i i)], [.row gb [.i 27, .i n, .i 0, QR ks], .row g (Ws (strs (([112, 114, 111, 103, 114, 97, 109, 32] ++ Lib.itoa n) :: ((ks.take i).map funL).flatten)))]⟩) (fun i => i <= ks.length /\ (ks.take i).all ZF = true) (fun i => ks.length - i) 0 gO hgO ?_ (by simp) ?_
 ·exact zal rfl
 intro i g ⟨hil0, hall⟩ hg
 by_cases hil : i < ks.length
 ·obtain ⟨y, hx, hxe⟩ := hfk _ (List.getElem_mem hil)
  by_cases hk : ZF ks[i] = true
  ·have hye := hxe hk
   subst hye
   rw [hk] at hx
   have hb2 : strs (([112, 114, 111, 103, 114, 97, 109, 32] ++ Lib.itoa n) :: ((ks.take (i + 1)).map funL).flatten) = strs (([112, 114, 111, 103, 114, 97, 109, 32] ++ Lib.itoa n) :: ((ks.take i).map funL).flatten) ++ strs (funL ks[i]) := by rw [List.take_succ_eq_append_getElem hil, List.map_append, List.flatten_append, <- strs_app];simp
   have hfl := funsL_len (ks.take i)
   have hstl := Wm ks i
   have hal : (strs (([112, 114, 111, 103, 114, 97, 109, 32] ++ Lib.itoa n) :: ((ks.take i).map funL).flatten)).length <= 4000000 := by rw [ZT, List.length_cons];omega
   have hfx := funL_len ks[i]
   have hfm := QY (List.getElem_mem hil)
   have hfs : (strs (funL ks[i])).length <= 4000000 := by rw [ZT];omega
   generalize strs (([112, 114, 111, 103, 114, 97, 109, 32] ++ Lib.itoa n) :: ((ks.take i).map funL).flatten) = acc at *
   (repeat' first|(refine Qe ?_;(first|refine QG rfl ?_|refine QJ rfl ?_|(refine Qz ?_;(first|refine QD rfl ?_|refine Qb rfl rfl rfl ?_))|refine Qv rfl rfl (by first|assumption|omega|(simp;done)|(simp;omega)) ?_|(refine Qo ?_;(first|refine Q1 rfl rfl ?_|refine W3 rfl rfl (by omega) ?_))|(refine Qq ?_;(first|refine Qt rfl ?_|refine s_app_r rfl rfl rfl rfl rfl rfl rfl (by first|omega|(simp;omega)) (by first|omega|(simp;omega)) (fun _ => rfl) (fun _ _ => ?_)|refine QZ rfl rfl (hx) ?_))|refine Wn rfl ?_|refine Qd rfl rfl ?_|refine QI rfl rfl rfl ?_))|(refine Qk ?_;(first|refine Qi ?_|refine QN rfl ?_))|(refine Qj ?_;(first|refine Qn ?_|refine Qc ?_|refine Qf ?_|refine Qx ?_|refine Ql rfl ?_|refine Qp rfl (by omega) ?_)))
   refine ⟨i + 1, _, ⟨by omega, by rw [List.take_succ_eq_append_getElem hil, List.all_append, hall];simp [hk]⟩, by assumption, by omega, ?_⟩
   rw [hb2]
   exact zal rfl
  ·have hk2 : ZF ks[i] = false := by rw [<- Bool.not_eq_true];exact hk
   rw [hk2] at hx
   have hna : ks.all ZF = false := by
    rw [<- Bool.not_eq_true, List.all_eq_true]
    intro h;exact hk (h _ (List.getElem_mem hil))
   (repeat' first|(refine Qe ?_;(first|refine QG rfl ?_|refine QJ rfl ?_|(refine Qz ?_;(first|refine QD rfl ?_|refine Qb rfl rfl rfl ?_))|refine Qv rfl rfl (by first|assumption|omega|(simp;done)|(simp;omega)) ?_|refine Q1 rfl rfl ?_|(refine Qq ?_;(first|refine Qt rfl ?_|refine QZ rfl rfl (hx) ?_))|refine Wn rfl ?_|refine Qd rfl rfl ?_|refine QI rfl rfl rfl ?_))|(refine Qk ?_;(first|refine Qi ?_|refine QN rfl ?_))|(refine Qj ?_;(first|refine Qn ?_|refine Qc ?_|refine Qf ?_|refine Qx ?_|refine Qh rfl ?_|refine Qp rfl (by omega) ?_|refine Qs ?_)))
   exact e_2 (Tryz.results51) (Qg rfl) (Qg rfl) (ZB (fun L v h => ZH (fun v hv => Zm (es := 1) hv) h) (Qw (by rw [hna];rfl)))
 ·have hie : i = ks.length := by omega
  subst hie
  rw [List.take_length] at *
  (repeat' first|(refine Qe ?_;(first|refine QG rfl ?_|refine QJ rfl ?_|refine Qb rfl rfl rfl ?_|refine Q1 rfl rfl ?_|refine Qt rfl ?_|refine Qd rfl rfl ?_))|(refine Qk ?_;(first|refine Qi ?_|refine QN rfl ?_))|(refine Qj ?_;(first|refine Qn ?_|refine Qc ?_|refine Qm rfl (by omega) ?_|refine WI rfl ?_|refine Qs ?_)))
  exact e_2 (Tryz.results51) (Qg rfl) (Qg rfl) (c_pub_fst rfl (by rw [QX];try rfl) (Qw (by rw [hall, if_pos rfl];rfl)))
theorem typOk_kind (k n m : Int) (ks : List Nd) (h : ZJ (.mk k n m ks) = true) : 0 <= k /\ k <= 3 := by
 rw [ZJ] at h
 split at h
 ·omega
 split at h
 ·omega
 split at h
 ·omega
 ·cases h
theorem exOk_kind (k n m : Int) (ks : List Nd) (h : Zn (.mk k n m ks) = true) : 4 <= k /\ k <= 12 := by
 rw [Zn] at h
 repeat' split at h
 all_goals first|omega|cases h
theorem stOk_kind (k n m : Int) (ks : List Nd) (h : qg (.mk k n m ks) = true) : 13 <= k /\ k <= 25 := by
 by_cases hk : 13 <= k /\ k <= 25
 ·exact hk
 ·exfalso
  rw [qg, if_neg (by omega), if_neg (by omega), if_neg (by omega), if_neg (by omega), Zt, if_neg (by omega), if_neg (by omega), if_neg (by omega), if_neg (by omega), if_neg (by omega), if_neg (by omega), if_neg (by omega), if_neg (by omega), if_neg (by omega)] at h
  cases h
end Go.Proofs
end
section
namespace Go.Proofs
open Go.Av Go.Bl
mutual
def Ww : Nd -> Nat
 | .mk _ _ _ ks => Wx ks + 1
def Wx : List Nd -> Nat
 | [] => 0
 | x :: r => max (Ww x) (Wx r)
end
theorem depthL_app (a b : List Nd) : Wx (a ++ b) = max (Wx a) (Wx b) := by
 induction a with
 | nil => simp [Wx]
 | cons x r ih => rw [List.cons_append, Wx, Wx, ih];omega
theorem depthL_take {ks : List Nd} {i : Nat} (h : i < ks.length) : Wx (ks.take (i + 1)) = max (Wx (ks.take i)) (Ww ks[i]) := by
 rw [List.take_succ_eq_append_getElem h, depthL_app, Wx, Wx];omega
theorem depth_size (t : Nd) : Ww t <= Qu t := by
 induction t using Nd.ind with
 | h k n m ks ih =>
 rw [Ww, Qu]
 have : ∀ ks : List Nd, (∀ x ∈ ks, Ww x <= Qu x) -> Wx ks <= QT ks := by
  intro ks
  induction ks with
  | nil => intro _;exact Nat.le_refl _
  | cons x r ihr =>
   intro h
   have h1 := h x (by simp)
   have h2 := ihr fun y hy => h y (by simp [hy])
   rw [Wx, QT];omega
 have := this ks ih
 omega
structure Sh where
 is : Int
 low : Int
 high : Int
 last : Int
 kids : List Int
 more : Int
 least : Int
 som : Int
def shapesL : List Sh := [⟨3, 0, 0, 0, [], 0, 0, 0⟩, ⟨3, 0, 0, 0, [], 0, 0, 0⟩, ⟨2, 1, 4, 0, [], 0, 0, 0⟩, ⟨2, 0, 0, 0, [], 3, 1, 3⟩,
 ⟨4, -8, 7, 0, [], 0, 0, 0⟩, ⟨4, 0, 1, 0, [], 0, 0, 0⟩, ⟨4, 0, 5, 0, [], 0, 0, 0⟩, ⟨4, 0, 5, 0, [4], 0, 0, 0⟩, ⟨4, 0, 5, 2, [], 0, 0, 0⟩, ⟨4, 0, 13, 0, [4, 4], 0, 0, 0⟩, ⟨4, 0, 0, 0, [4], 0, 0, 0⟩, ⟨4, 0, 5, 0, [], 3, 0, 4⟩, ⟨4, 0, 2, 0, [], 0, 0, 0⟩,
 ⟨6, 0, 0, 0, [], 8, 0, 5⟩, ⟨5, 0, 5, 0, [4], 0, 0, 0⟩, ⟨5, 0, 5, 0, [4, 4], 0, 0, 0⟩, ⟨5, 0, 5, 2, [4], 0, 0, 0⟩, ⟨5, 0, 0, 0, [4, 6, 6], 0, 0, 0⟩, ⟨5, 0, 0, 0, [4, 6], 0, 0, 0⟩, ⟨5, 0, 0, 0, [4], 0, 0, 0⟩, ⟨5, 0, 0, 0, [4], 0, 0, 0⟩, ⟨5, 0, 5, 0, [6, 6], 0, 0, 0⟩, ⟨5, 0, 2, 0, [4], 0, 0, 0⟩, ⟨5, 0, 5, 0, [], 3, 0, 4⟩, ⟨5, 0, 0, 0, [4], 0, 0, 0⟩, ⟨5, 0, 0, 0, [], 0, 0, 0⟩,
 ⟨1, 0, 3, 0, [], 0, 0, 0⟩, ⟨0, 0, 3, 0, [], 6, 1, 1⟩]
def isB (s : Sh) (w : Int) : Bool := (decide (s.is = w) || (decide (s.is = 3) && decide (w = 2))) || (decide (s.is = 6) && decide (w = 5))
def rngB (s : Sh) (n m : Int) : Bool := (decide (s.low <= n) && decide (n <= s.high)) && (decide (0 <= m) && decide (m <= s.last))
def cntB (s : Sh) (l : Nat) : Bool := decide (s.least <= (l : Int) - (s.kids.length : Int)) && decide ((l : Int) - (s.kids.length : Int) <= s.more)
def wantK (s : Sh) (i : Nat) : Int := if i < s.kids.length then s.kids.getD i 0 else s.som
def noF : Int -> Bool := fun _ => false
def allI (f : Nat -> Bool) (n : Nat) : Bool := (List.range n).all f
def kidsB (s : Sh) (fs : List (Int -> Bool)) : Bool := allI (fun i => fs.getD i noF (wantK s i)) fs.length
def funB (n : Int) (fs : List (Int -> Bool)) : Bool := ((decide (n <= (fs.length : Int) - 1) && decide ((fs.length : Int) - 1 <= 6)) && fs.getD (fs.length - 1) noF 6) && allI (fun i => fs.getD i noF (if (i : Int) < n then 3 else 2)) (fs.length - 1)
def noSh : Sh := ⟨0, 0, 0, 0, [], 0, 0, 0⟩
mutual
def WA : Nd -> Int -> Bool
 | .mk k n m ks, w =>
  if 0 <= k /\ k < 28 then
   isB (shapesL.getD k.toNat noSh) w && rngB (shapesL.getD k.toNat noSh) n m && (if k = 26 then funB n (fitsF ks) else cntB (shapesL.getD k.toNat noSh) ks.length && kidsB (shapesL.getD k.toNat noSh) (fitsF ks))
  else false
def fitsF : List Nd -> List (Int -> Bool)
 | [] => []
 | x :: r => WA x :: fitsF r
end
theorem fitsF_eq : ∀ ks, fitsF ks = ks.map WA
 | [] => rfl
 | x :: r => by rw [fitsF, fitsF_eq r];rfl
def validM (t : Nd) : Bool := decide (Qu t <= 256) && decide (Ww t <= 16) && WA t 0
theorem allI_iff {f : Nat -> Bool} {n : Nat} : allI f n = true ↔ ∀ i, i < n -> f i = true := by
 unfold allI
 rw [List.all_eq_true]
 simp
theorem qo (ks : List Nd) (f : Nd -> Int -> Bool) {i : Nat} (h : i < ks.length) : (ks.map f).getD i noF = f ks[i] := by
 rw [List.getD_eq_getElem?_getD, List.getElem?_map, List.getElem?_eq_getElem h];rfl
end Go.Proofs
end
section
namespace Go.Proofs
open Go.Av
variable {G : Nat -> DV}
attribute [local irreducible] OpSem Zd Zx ZL ACalls qt AClose RV
open Go.Bl
theorem s_max_as {P : Program} {G : Nat -> DV} {B : Nat} {f : Operand -> DV} {σ : List ABlk} {K : DV -> List ABlk -> Prop} {dst : Option Tmp} {type : TypeId} {pos : String} {after : Array Edge} {gd : Option (Nat × Bool)} {ts : Array TypeId} {x y : Operand} {k1 : IntKind} {a b c : Int} (hx : f x = .sc (.int k1 a)) (hy : f y = .sc (.int k1 b)) (hc : max a b = c) (k : K (.sc (.int k1 c)) σ) : OpSem P G B ⟨dst, .call ⟨.builtin .max, #[x, y], ts⟩, type, pos, after, gd⟩ f σ K := s_max hx hy (by rw [hc];exact k)
theorem trSize_c (t : Nd) : Qu t <= 4000000 -> Go.Av.Pure Tryz.prog G 73 [.agg (Enc.enc t)] (.i (Qu t)) := by
 induction t using Nd.ind with
 | h k n m ks ih =>
 intro hsz B
 have hse : Qu (.mk k n m ks) = 1 + QT ks := by rw [Qu]
 rw [hse] at hsz ⊢
 have hln := WC ks
 have hi : ∀ x ∈ ks, Go.Av.Pure Tryz.prog G 73 [.agg (Enc.enc x)] (.i (Qu x)) := fun x hx => ih x hx (by have := QY hx;omega)
 clear ih
 rw [QW]
 refine Qa Tryz.func73 rfl Tryz.ntmps73 rfl (t := [(0, .agg [.i k, .i n, .i m, QR ks])]) rfl fun E hE => ?_
 (repeat' first|(refine Qe ?_;(first|refine QG rfl ?_|refine QJ rfl ?_|refine Qb rfl rfl rfl ?_|refine Qt rfl ?_|refine Qd rfl rfl ?_|refine QU rfl rfl (fun _ _ => ?_)))|(refine Qk ?_;(first|refine Qi ?_|refine QN rfl ?_))|(refine Qj ?_;(first|refine Qn ?_|refine Qc ?_|refine Qf ?_)))
 rename_i g1 hg1
 refine qb (fun (i : Nat) => ⟨[(1, .ptr 0 g1 0), (3, .i ((1 + QT (ks.take i) : Nat) : Int)), (7, QR ks), (8, .i ks.length), (9, .i i)], [.row g1 [.i k, .i n, .i m, QR ks]]⟩) (fun i => i <= ks.length) (fun i => ks.length - i) 0 ?_ (by omega) ?_
 ·exact zal rfl
 intro i hi2
 by_cases hj : i < ks.length
 ·have hi1 := hi _ (List.getElem_mem hj)
  have hsu := qJ ks i hj
  have hle := Wm ks i
  have hle2 := Wm ks (i + 1)
  have e1 : ((1 + QT (ks.take (i + 1)) : Nat) : Int) = ((1 + QT (ks.take i) : Nat) : Int) + (Qu ks[i] : Int) := by omega
  clear hi
  (repeat' first|(refine Qe ?_;(first|refine QG rfl ?_|refine QJ rfl ?_|(refine Qz ?_;(first|refine WF rfl rfl ?_|refine QD rfl ?_))|refine Qv rfl rfl (by first|assumption|omega|(simp;done)|(simp;omega)) ?_|(refine Qo ?_;(first|refine Q1 rfl rfl ?_|refine W3 rfl rfl (by omega) ?_))|refine QZ rfl rfl (hi1) ?_|refine WR rfl rfl rfl rfl ?_|refine QC (fun _ _ => ?_)))|(refine Qk ?_;(first|refine Qi ?_|refine QN rfl ?_|refine Q5 ?_))|(refine Qj ?_;(first|refine Qn ?_|refine Qc ?_|refine Qf ?_|refine Qx ?_|refine Qp rfl (by omega) ?_)))
  refine ⟨i + 1, by omega, by omega, ?_⟩
  rw [e1]
  exact zal rfl
 ·have hj : i = ks.length := by omega
  subst hj
  rw [List.take_length]
  clear hi
  (repeat' first|(refine Qe ?_;(first|refine QG rfl ?_|refine QJ rfl ?_|refine Q1 rfl rfl ?_))|(refine Qk ?_;(first|refine Qi ?_|refine QN rfl ?_))|(refine Qj ?_;(first|refine Qn ?_|refine Qc ?_|refine Qm rfl (by omega) ?_|refine WI rfl ?_|refine Qs ?_)))
  exact e_1 (Tryz.results73) (Qg rfl) (Zc (σ := []) (r := [_]) ⟨rfl, rfl⟩)
theorem trDepth_c (t : Nd) : Qu t <= 4000000 -> Go.Av.Pure Tryz.prog G 74 [.agg (Enc.enc t)] (.i (Ww t)) := by
 induction t using Nd.ind with
 | h k n m ks ih =>
 intro hsz B
 have hds := depth_size (.mk k n m ks)
 have hse : Qu (.mk k n m ks) = 1 + QT ks := by rw [Qu]
 have hde : Ww (.mk k n m ks) = Wx ks + 1 := by rw [Ww]
 rw [hse] at hsz hds
 rw [hde] at hds ⊢
 have hln := WC ks
 have hi : ∀ x ∈ ks, Go.Av.Pure Tryz.prog G 74 [.agg (Enc.enc x)] (.i (Ww x)) := fun x hx => ih x hx (by have := QY hx;omega)
 clear ih
 rw [QW]
 refine Qa Tryz.func74 rfl Tryz.ntmps74 rfl (t := [(0, .agg [.i k, .i n, .i m, QR ks])]) rfl fun E hE => ?_
 (repeat' first|(refine Qe ?_;(first|refine QG rfl ?_|refine QJ rfl ?_|refine Qb rfl rfl rfl ?_|refine Qt rfl ?_|refine Qd rfl rfl ?_|refine QU rfl rfl (fun _ _ => ?_)))|(refine Qk ?_;(first|refine Qi ?_|refine QN rfl ?_))|(refine Qj ?_;(first|refine Qn ?_|refine Qc ?_|refine Qf ?_)))
 rename_i g1 hg1
 refine qb (fun (i : Nat) => ⟨[(1, .ptr 0 g1 0), (3, .i ((Wx (ks.take i) : Nat) : Int)), (7, QR ks), (8, .i ks.length), (9, .i i)], [.row g1 [.i k, .i n, .i m, QR ks]]⟩) (fun i => i <= ks.length) (fun i => ks.length - i) 0 ?_ (by omega) ?_
 ·exact zal rfl
 intro i hi2
 by_cases hj : i < ks.length
 ·have hi1 := hi _ (List.getElem_mem hj)
  have hsu := depthL_take hj
  have hmx : max ((Wx (ks.take i) : Nat) : Int) ((Ww ks[i] : Nat) : Int) = ((Wx (ks.take (i + 1)) : Nat) : Int) := by rw [hsu];omega
  clear hi hsu
  (repeat' first|(refine Qe ?_;(first|refine QG rfl ?_|refine QJ rfl ?_|(refine Qz ?_;(first|refine WF rfl rfl ?_|refine QD rfl ?_))|refine Qv rfl rfl (by first|assumption|omega|(simp;done)|(simp;omega)) ?_|(refine Qo ?_;(first|refine Q1 rfl rfl ?_|refine W3 rfl rfl (by omega) ?_))|(refine Qq ?_;(first|refine s_max_as rfl rfl hmx ?_|refine QZ rfl rfl (hi1) ?_))|refine WR rfl rfl rfl rfl ?_|refine QC (fun _ _ => ?_)))|(refine Qk ?_;(first|refine Qi ?_|refine QN rfl ?_|refine Q5 ?_))|(refine Qj ?_;(first|refine Qn ?_|refine Qc ?_|refine Qf ?_|refine Qx ?_|refine Qp rfl (by omega) ?_)))
  refine ⟨i + 1, by omega, by omega, ?_⟩
  exact zal rfl
 ·have hj : i = ks.length := by omega
  subst hj
  rw [List.take_length]
  have e1 : ((Wx ks + 1 : Nat) : Int) = (Wx ks : Int) + 1 := by omega
  rw [e1]
  clear hi
  (repeat' first|(refine Qe ?_;(first|refine QG rfl ?_|refine QJ rfl ?_|(refine Qo ?_;(first|refine Q1 rfl rfl ?_|refine W3 rfl rfl (by omega) ?_))))|(refine Qk ?_;(first|refine Qi ?_|refine QN rfl ?_))|(refine Qj ?_;(first|refine Qn ?_|refine Qc ?_|refine Qm rfl (by omega) ?_|refine WI rfl ?_|refine Qs ?_)))
  exact e_1 (Tryz.results74) (Qg rfl) (Zc (σ := []) (r := [_]) ⟨rfl, rfl⟩)
end Go.Proofs
end
section
namespace Go.Av
open Go.Bl
theorem r_loop3 {P : Program} {G : Nat -> DV} {E : AX} {n : Nat} {N : ASt -> Prop} {xs : List (Nat × (ASt -> Prop))} {R : ASt -> Prop} {st : ASt} {c : Code} {α β γ : Type} (I : α -> β -> γ -> ASt) (pre : α -> β -> γ -> Prop) (μ : α -> β -> γ -> Nat) (x0 : α) (y0 : β) (z0 : γ) (h0 : ALe st (I x0 y0 z0)) (hp0 : pre x0 y0 z0)
  (round : ∀ x y z, pre x y z -> Zd P G E n c (fun st' => ∃ x' y' z', pre x' y' z' /\ μ x' y' z' < μ x y z /\ ALe st' (I x' y' z')) xs R (I x y z)) : Zd P G E n (.loop c) N xs R st :=
 qb (fun s : α × β × γ => I s.1 s.2.1 s.2.2) (fun s => pre s.1 s.2.1 s.2.2) (fun s => μ s.1 s.2.1 s.2.2) (x0, y0, z0) h0 hp0 fun s hs a w hr => wp_mono (round s.1 s.2.1 s.2.2 hs a w hr) fun e a' w' ⟨st', hr', hq⟩ => ⟨st', hr', by
  cases e with
  | normal => obtain ⟨x', y', z', h1, h2, h3⟩ := hq;exact ⟨(x', y', z'), h1, h2, h3⟩
  | exit id => exact hq
  | ret => exact hq
  | goto l => exact hq
  | _ => exact hq⟩
section
variable {P : Program} {G : Nat -> DV} {B : Nat} {f : Operand -> DV} {σ : List ABlk} {K : DV -> List ABlk -> Prop} {dst : Option Tmp} {type : TypeId} {pos : String} {after : Array Edge} {gd : Option (Nat × Bool)}
theorem s_add_as {t t' : TypeId} {x y : Operand} {a b c : Int} (hx : f x = .sc (.int .i64 a)) (hy : f y = .sc (.int .i64 b)) (hc : a + b = c) (h : -9223372036854775808 <= c /\ c <= 9223372036854775807)
  (k : K (.sc (.int .i64 c)) σ) : OpSem P G B ⟨dst, .binOp .add t x y t', type, pos, after, gd⟩ f σ K :=
 W3 hx hy (by rw [hc];exact h) (by rw [hc];exact k)
end
end Go.Av
end
section
namespace Go.Proofs
open Go.Av
variable {G : Nat -> DV}
attribute [local irreducible] OpSem Zd Zx ZL ACalls qt AClose RV
open Go.Bl
theorem partD_nd (v : Nd) : partD (Enc.enc v) 0 4 = some (Enc.enc v) := by cases v;rw [QW];rfl
theorem copied_c (t : Nd) : Qu t <= 1000000 -> Go.Av.Pure Tryz.prog G 121 [.agg (Enc.enc t)] (.agg (Enc.enc t)) := by
 induction t using Nd.ind with
 | h k n m ks ih =>
 intro hsz B
 have hse : Qu (.mk k n m ks) = 1 + QT ks := by rw [Qu]
 rw [hse] at hsz
 have hln := WC ks
 have hi : ∀ x ∈ ks, Go.Av.Pure Tryz.prog G 121 [.agg (Enc.enc x)] (.agg (Enc.enc x)) := fun x hx => ih x hx (by have := QY hx;omega)
 clear ih
 rw [QW]
 refine Qa Tryz.func121 rfl Tryz.ntmps121 rfl (t := [(0, .agg [.i k, .i n, .i m, QR ks])]) rfl fun E hE => ?_
 (repeat' first|(refine Qe ?_;(first|refine QG rfl ?_|refine QJ rfl ?_|refine Qb rfl rfl rfl ?_|refine Qt rfl ?_|refine Q7 rfl rfl rfl rfl (by rfl) (by rfl) (by rfl) ?_|refine Qd rfl rfl ?_|refine QC (fun _ _ => ?_)|refine QU rfl rfl (fun _ _ => ?_)))|(refine Qk ?_;(first|refine Qi ?_|refine QN rfl ?_|refine Q5 ?_))|(refine Qj ?_;(first|refine Qn ?_|refine Qc ?_|refine Qf ?_)))
 rename_i g1 hg1 g2 hg2
 refine r_ownin 0 3 4 rfl rfl (fun _ => rfl) (fun gk hgk => ?_)
 refine r_loop2 (fun (i gc : Nat) => ⟨[(1, .ptr 0 g1 0), (2, .ptr 1 g2 0), (9, QR ks), (10, .i ks.length), (11, .i i)], [.row g1 [.i k, .i n, .i m, .ref 2 gc 0 (ks.take i).length 4], .row g2 [.i 0, .i 0, .i 0, .nil], .row gc (Ws (ks.take i))]⟩) (fun i gc => i <= ks.length /\ E.N < gc) (fun i _ => ks.length - i) 0 gk ?_ ⟨by omega, hgk⟩ ?_
 ·exact zal rfl
 intro i gc ⟨hi2, hgc⟩
 have hcl : (ks.take i).length <= 1000000 := by rw [List.length_take];omega
 by_cases hil : i < ks.length
 ·have hi1 := hi _ (List.getElem_mem hil)
  have hst := List.take_succ_eq_append_getElem hil
  clear hi
  (repeat' first|(refine Qe ?_;(first|refine QG rfl ?_|refine QD rfl ?_|refine Qv rfl rfl (by first|assumption|omega|(simp;done)|(simp;omega)) ?_|(refine Qo ?_;(first|refine Q1 rfl rfl ?_|refine W3 rfl rfl (by omega) ?_))|refine ZD (z := (ks[i])) rfl rfl rfl rfl rfl rfl rfl (by first|omega|(simp;omega)) (by first|omega|(simp;omega)) (fun _ => rfl) (fun _ _ => ?_)|(refine Wl ?_;(first|refine WR rfl rfl rfl rfl ?_|refine Q7 rfl rfl rfl rfl (by rfl) (by rfl) (by rfl) ?_))|refine QC (fun _ _ => ?_)))|(refine Qk ?_;(first|refine Qi ?_|refine QN rfl ?_|refine Q5 ?_))|(refine Qj ?_;(first|refine Qn ?_|refine Qc ?_|refine Qf ?_|(refine Wg ?_;first|(rename_i g5 hg5;refine QB (fun p => .row g1 [.i k, .i n, .i m, .ref 2 gc 0 (ks.take i).length 4] :: .row g2 [.i 0, .i 0, .i 0, .nil] :: p :: .row g5 (Enc.enc ks[i]) :: []) 7 [(0, true), (1, true), (2, true), (3, true), (4, true), (5, false), (6, true), (7, false)] (by rfl) (by rfl) (by kernel_rfl) (by decide +kernel) (by decide +kernel) ⟨_, rfl⟩ ?_)|(refine QB (fun p => p) 100 [(0, true)] (by rfl) (by rfl) (by kernel_rfl) (by decide +kernel) (by decide +kernel) ⟨_, rfl⟩ ?_)|refine Q3 (by rfl) (by kernel_rfl) (by kernel_rfl) ?_|refine Q2 (by kernel_rfl) (by kernel_rfl) ?_)|refine Qx ?_|refine Qp rfl (by omega) ?_))|(refine Ze ?_;(first|refine Z1 ?_|refine i_z0 ?_|refine i_st rfl rfl (fun _ => (by (repeat' first|(refine Qe ?_;(first|(refine Qz ?_;(first|refine WF rfl rfl ?_|refine Qb rfl rfl rfl ?_))|refine W4 rfl rfl hi1 (Wp (Enc.clo _)) ?_|refine Wc (z := ks[i]) rfl rfl (by decide) ?_|refine Qd rfl rfl ?_))|exact ⟨rfl, rfl⟩))) ?_|refine i_ef rfl ?_))|refine And.intro (Exists.intro (_) rfl) ?_)
  rename_i ga hga
  refine ⟨i + 1, ga, ⟨by omega, by omega⟩, by omega, ?_⟩
  rw [hst]
  exact zal rfl
 ·have hi3 : i = ks.length := by omega
  subst hi3
  rw [List.take_length]
  have c1 := QX ks
  clear hi
  refine r_pubin 0 3 rfl rfl rfl c1.symm rfl rfl ?_
  (repeat' first|(refine Qe ?_;(first|refine WF rfl rfl ?_|refine Q1 rfl rfl ?_|refine WR rfl rfl rfl rfl ?_))|(refine Qk ?_;(first|refine Qi ?_|refine QN rfl ?_|refine Q5 ?_))|(refine Qj ?_;(first|refine Qn ?_|refine Qc ?_|refine Qm rfl (by omega) ?_|refine WI rfl ?_|refine Qs ?_)))
  all_goals exact e_1 (Tryz.results121) (QH (size := 4) rfl rfl rfl rfl) (Qw rfl)
def atM : List Int -> Nd -> Option Nd
 | [], t => some t
 | i :: p, .mk k n m ks => if 0 <= i then (match ks[i.toNat]? with|some x => atM p x|none => none) else none
theorem atM_cons {a : Int} {p : List Int} {k n m : Int} {ks : List Nd} (h0 : 0 <= a) (h1 : a.toNat < ks.length) : atM (a :: p) (.mk k n m ks) = atM p ks[a.toNat] := by
 rw [atM, if_pos h0, List.getElem?_eq_getElem h1]
theorem atM_none {a : Int} {p : List Int} {k n m : Int} {ks : List Nd} (h : a < 0 \/ (ks.length : Int) <= a) : atM (a :: p) (.mk k n m ks) = none := by
 rw [atM]
 split
 ·rw [List.getElem?_eq_none (by omega)]
 ·rfl
def atD (o : Option Nd) : DV := match o with|some x => .tup [.agg (Enc.enc x), .b true]|none => .tup [.agg (Enc.enc zero0), .b false]
where zero0 : Nd := .mk 0 0 0 []
theorem tup_nil0 {L : Lay} {a b c d : DV} {es : Nat} {v : Value} (h : VRep L (.tup [.agg [a, b, c, .sc (.slice none 0 0)], d]) v) : VRep L (.tup [.agg [a, b, c, .sl es []], d]) v := by
 cases h with|tup _ vs hl hg =>
 refine .tup _ _ hl fun j e hj => ?_
 match j with
 | 0 =>
  simp at hj;subst hj
  have h0 := hg 0 _ rfl
  generalize vs.getD 0 undef = v0 at h0 ⊢
  cases h0 with|agg _ ws hl2 ho2 hg2 =>
  refine .agg _ _ hl2 (fun e he => ?_) fun j e hj => ?_
  ·simp only [List.mem_cons, List.not_mem_nil, or_false] at he
   rcases he with rfl|rfl|rfl|rfl
   ·exact ho2 _ (by simp)
   ·exact ho2 _ (by simp)
   ·exact ho2 _ (by simp)
   ·rfl
  ·match j with
   | 0 => exact hg2 0 e hj
   | 1 => exact hg2 1 e hj
   | 2 => exact hg2 2 e hj
   | 3 => simp at hj;subst hj;exact Zm (hg2 3 _ rfl)
   | j + 4 => simp at hj
 | j + 1 => exact hg (j + 1) e hj
theorem trAt_c (t : Nd) (hsz : Qu t <= 1000000) (path : List Int) (hpl : path.length <= 4611686018427387904) : Go.Av.Pure Tryz.prog G 67 [.agg (Enc.enc t), QR path] (atD (atM path t)) := fun B => by
 refine Qa Tryz.func67 rfl Tryz.ntmps67 rfl (t := [(0, .agg (Enc.enc t)), (1, QR path)]) rfl fun E hE => ?_
 (repeat' first|(refine Qe ?_;(first|refine QG rfl ?_|refine QJ rfl ?_|refine Qt rfl ?_|refine QC (fun _ _ => ?_)|refine QU rfl rfl (fun _ _ => ?_)))|(refine Qk ?_;(first|refine Qi ?_|refine QN rfl ?_))|(refine Qj ?_;(first|refine Qn ?_|refine Qc ?_|refine Qf ?_)))
 rename_i g2 hg2 g4 hg4
 refine r_loop2 (fun (j : Nat) (cur : Nd) => ⟨[(2, .ptr 0 g2 0), (4, .ptr 1 g4 0), (8, QR path), (9, .i path.length), (10, .i j)], [.row g2 (Enc.enc cur), .row g4 [.i 0, .i 0, .i 0, .nil]]⟩) (fun j cur => j <= path.length /\ atM path t = atM (path.drop j) cur /\ Qu cur <= 1000000) (fun j _ => path.length - j) 0 t ?_ ⟨by omega, by simp, hsz⟩ ?_
 ·exact zal rfl
 intro j cur ⟨hj, he, hcs⟩
 obtain ⟨k, n, m, ks⟩ := cur
 have hse : Qu (.mk k n m ks) = 1 + QT ks := by rw [Qu]
 have hln := WC ks
 by_cases hjl : j < path.length
 ·rw [List.drop_eq_getElem_cons hjl] at he
  rw [QW]
  by_cases hc : 0 <= path[j] /\ path[j].toNat < ks.length
  ·rw [atM_cons hc.1 hc.2] at he
   have hat : ((path[j].toNat : Nat) : Int) = path[j] := Int.toNat_of_nonneg hc.1
   have hsm := QY (List.getElem_mem hc.2)
   obtain ⟨hc0, hc1⟩ := hc
   (repeat' first|(refine Qe ?_;(first|refine QG rfl ?_|refine QJ rfl ?_|(refine Qz ?_;(first|refine QM rfl ?_|refine QD rfl ?_|refine Qb rfl rfl rfl ?_))|(refine W6 ?_;(first|refine Qv rfl rfl (by first|assumption|omega|(simp;done)|(simp;omega)) ?_|refine qh rfl rfl (by omega) (by first|assumption|omega|(simp;done)|(simp;omega)) ?_))|(refine Qo ?_;(first|refine Q1 rfl rfl ?_|refine W0 rfl rfl ?_|refine W3 rfl rfl (by omega) ?_))|refine Qt rfl ?_|refine Wr rfl rfl ?_|refine WR rfl rfl rfl rfl ?_|refine Qd rfl rfl ?_))|(refine Qk ?_;(first|refine Qi ?_|refine QN rfl ?_|refine Q5 ?_|refine WD rfl rfl rfl rfl ?_|refine Q6 rfl rfl (by omega) ?_))|(refine Qj ?_;(first|refine Qn ?_|refine Qc ?_|refine Qf ?_|refine Qx ?_|refine Qp rfl (by omega) ?_|refine Qm rfl (by omega) ?_)))
   refine ⟨j + 1, ks[path[j].toNat], ⟨by omega, he, by omega⟩, by omega, ?_⟩
   exact zal rfl
  ·rw [atM_none (by omega)] at he
   rw [he]
   (repeat' first|(refine Qe ?_;(first|refine QG rfl ?_|refine QJ rfl ?_|(refine Qz ?_;(first|refine QM rfl ?_|refine Qb rfl rfl rfl ?_))|refine Qv rfl rfl (by first|assumption|omega|(simp;done)|(simp;omega)) ?_|(refine Qo ?_;(first|refine Q1 rfl rfl ?_|refine W0 rfl rfl ?_))|refine Qt rfl ?_|(refine Q4 ?_;(first|refine WO rfl rfl ?_|refine Wr rfl rfl ?_))|refine WR rfl rfl rfl rfl ?_|refine Qd rfl rfl ?_|refine QQ rfl rfl ?_))|(refine Qk ?_;(first|refine Qi ?_|refine QN rfl ?_|refine Q5 ?_|refine WD rfl rfl rfl rfl ?_|refine W2 rfl rfl rfl rfl ?_|refine q8 rfl rfl (fun _ => ?_) (fun _ => ?_)))|(refine Qj ?_;(first|refine Qn ?_|refine Qc ?_|refine Qf ?_|refine Qx ?_|refine Qh rfl ?_|refine Qp rfl (by omega) ?_|refine Qs ?_)))
   all_goals exact e_2 (Tryz.results67) (QH (size := 4) rfl rfl rfl rfl) (Qg rfl) (ZB (d2 := .tup [.agg [.i 0, .i 0, .i 0, .sl 4 []], .b false]) (fun L v h => tup_nil0 h) (Qw (by show _ = DV.tup [.agg (Enc.enc (Nd.mk 0 0 0 [])), .b false];rw [QW];rfl)))
 ·have hje : j = path.length := by omega
  subst hje
  rw [List.drop_length] at he
  have hcp := copied_c (G := G) (.mk k n m ks) hcs
  rw [he]
  show Zd _ _ _ _ _ _ _ _ _
  (repeat' first|(refine Qe ?_;(first|refine QJ rfl ?_|refine WF rfl rfl ?_|refine Q1 rfl rfl ?_|refine W4 rfl rfl hcp (Wp (Enc.clo _)) ?_|refine WR rfl rfl rfl rfl ?_))|(refine Qk ?_;(first|refine Qi ?_|refine QN rfl ?_|refine Q5 ?_))|(refine Qj ?_;(first|refine Qn ?_|refine Qc ?_|refine Qm rfl (by omega) ?_|refine WI rfl ?_|refine Qs ?_)))
  all_goals exact e_2 (Tryz.results67) (QH (size := 4) rfl rfl (partD_nd _) (Enc.len _)) (Qg rfl) (Qw rfl)
end Go.Proofs
end
section
namespace Go.Proofs
open Go.Av Go.Bl
def Li (l : List UInt8) : Prop := ∀ b ∈ l, b.toNat < 128 /\ b ≠ 10
theorem ZA {a b : List UInt8} (ha : Li a) (hb : Li b) : Li (a ++ b) := fun x hx => (List.mem_append.1 hx).elim (ha x) (hb x)
theorem li_nil : Li [] := fun x hx => by cases hx
theorem li_cons {x : UInt8} {b : List UInt8} (hx : (decide (x.toNat < 128) && decide (x ≠ 10)) = true) (hb : Li b) : Li (x :: b) := fun y hy => by
 rcases List.mem_cons.1 hy with rfl|hy
 ·simpa using hx
 ·exact hb y hy
theorem Za {l : List UInt8} (h : (l.all fun x => decide (x.toNat < 128) && decide (x ≠ 10)) = true) : Li l := fun b hb => by
 rw [List.all_eq_true] at h
 simpa using h b hb
theorem li_dec (u : Nat) : Li (Lib.decDigits u) := by
 rw [Lib.decDigits_eq]
 intro b hb
 obtain ⟨t, _, rfl⟩ := List.mem_map.1 hb
 unfold Lib.dg
 have h : u / 10 ^ (Lib.nDigits u - 1 - t) % 10 < 10 := Nat.mod_lt _ (by decide)
 generalize u / 10 ^ (Lib.nDigits u - 1 - t) % 10 = d at *
 have e : (UInt8.ofNat (48 + d)).toNat = 48 + d := by
  rw [UInt8.toNat_ofNat'];omega
 refine ⟨by omega, fun h10 => ?_⟩
 rw [h10] at e
 have : (10 : UInt8).toNat = 10 := rfl
 omega
theorem li_itoa (n : Int) : Li (Lib.itoa n) := by
 unfold Lib.itoa
 split
 ·exact li_cons (by decide) (li_dec _)
 ·exact li_dec _
theorem li_commas : ∀ l : List (List UInt8), (∀ x ∈ l, Li x) -> Li (WJ l)
 | [], _ => by show Li (Lib.join [] comma);rw [Lib.join_nil];exact li_nil
 | x :: r, h => by
  show Li (Lib.join (x :: r) comma)
  rw [Lib.join_cons]
  refine ZA (h x (by simp)) ?_
  unfold Lib.joinTail
  intro b hb
  obtain ⟨y, hy, hby⟩ := List.mem_flatten.1 hb
  obtain ⟨z, hz, rfl⟩ := List.mem_map.1 hy
  exact ZA (Za (by decide)) (h z (by simp [hz])) b hby
theorem li_typ (t : Nd) : Li (qw t) := by
 induction t using Nd.ind with
 | h k n m ks ih =>
 rw [qw, typTs_eq]
 repeat' split
 ·exact Za (by decide)
 ·exact Za (by decide)
 ·exact ZA (Za (by decide)) (li_itoa n)
 ·refine ZA (ZA (Za (by decide)) (li_commas _ fun x hx => ?_)) (Za (by decide))
  obtain ⟨y, hy, rfl⟩ := List.mem_map.1 hx
  exact ih y hy
 ·exact li_nil
theorem li_op (i : Nat) : Li (opTexts.getD i []) := by
 rcases Nat.lt_or_ge i 14 with h|h
 ·have : ∀ j : Fin 14, (opTexts.getD j.val []).all (fun x => decide (x.toNat < 128) && decide (x ≠ 10)) = true := by decide
  exact Za (this ⟨i, h⟩)
 ·rw [List.getD_eq_getElem?_getD, List.getElem?_eq_none (by simpa [opTexts] using h)];exact li_nil
theorem li_getD {l : List (List UInt8)} (h : ∀ x ∈ l, Li x) (i : Nat) : Li (l.getD i []) := by
 rw [List.getD_eq_getElem?_getD]
 cases hx : l[i]? with
 | none => exact li_nil
 | some x => exact h x (List.mem_of_getElem? hx)
theorem li_ex (t : Nd) : Li (exT t) := by
 induction t using Nd.ind with
 | h k n m ks ih =>
 rw [exT, qX]
 have hk : ∀ x ∈ ks.map exT, Li x := fun x hx => by obtain ⟨y, hy, rfl⟩ := List.mem_map.1 hx;exact ih y hy
 have hc := li_commas _ hk
 have h0 := li_getD hk 0
 have h1 := li_getD hk 1
 have hop := li_op n.toNat
 have hn := li_itoa n
 have hm := li_itoa m
 repeat' split
 all_goals repeat' first|assumption|exact li_nil|exact Za (by decide)|refine ZA ?_ ?_
theorem li_exs (ks : List Nd) : ∀ x ∈ ks.map exT, Li x := fun x hx => by obtain ⟨y, hy, rfl⟩ := List.mem_map.1 hx;exact li_ex y
theorem li_sim (t : Nd) : Li (simT t) := by
 obtain ⟨k, n, m, ks⟩ := t
 rw [simT]
 have hk := li_exs ks
 have hc := li_commas _ hk
 have h0 := li_getD hk 0
 have h1 := li_getD hk 1
 have hn := li_itoa n
 have hm := li_itoa m
 repeat' split
 all_goals repeat' first|assumption|exact li_nil|exact Za (by decide)|refine ZA ?_ ?_
def nlC (l : List UInt8) : Nat := l.countP (· == 10)
theorem qE (a b : List UInt8) : nlC (a ++ b) = nlC a + nlC b := List.countP_append
theorem nl_li {l : List UInt8} (h : Li l) : nlC l = 0 := by
 unfold nlC
 rw [List.countP_eq_zero]
 intro b hb
 simpa using (h b hb).2
theorem nl_le (l : List UInt8) : nlC l <= l.length := List.countP_le_length
theorem li_rep (i : Nat) : Li (Lib.repeatL [32, 32] i) := by
 induction i with
 | zero => exact li_nil
 | succ i ih => exact ZA (a := [32, 32]) (Za (by decide)) ih
def Asc (l : List UInt8) : Prop := ∀ b ∈ l, b.toNat < 128
theorem ZX {a b : List UInt8} (ha : Asc a) (hb : Asc b) : Asc (a ++ b) := fun x hx => (List.mem_append.1 hx).elim (ha x) (hb x)
theorem asc_nil : Asc [] := fun x hx => (by cases hx)
theorem li_asc {l : List UInt8} (h : Li l) : Asc l := fun b hb => (h b hb).1
theorem qp {s : List UInt8} (h : Li s) (i : Nat) : Asc (qm i s) /\ nlC (qm i s) = 1 := by
 unfold qm
 have h1 := ZA (li_rep i) h
 refine ⟨ZX (li_asc h1) (fun b hb => by simp at hb;subst hb;decide), ?_⟩
 rw [qE, nl_li h1];rfl
theorem st_asc (t : Nd) : ∀ i, (Asc (stT t i) /\ nlC (stT t i) = nlC (stT t 0)) /\ (Asc (inT t i) /\ nlC (inT t i) = nlC (inT t 0)) := by
 induction t using Nd.ind with
 | h k n m ks ih =>
 have hsts : ∀ ks : List Nd, (∀ x ∈ ks, ∀ i, Asc (stT x i) /\ nlC (stT x i) = nlC (stT x 0)) -> ∀ i j, Asc (stTs ks i) /\ nlC (stTs ks i) = nlC (stTs ks j) := by
  intro ks
  induction ks with
  | nil => intro _ i j;exact ⟨by rw [stTs];exact asc_nil, by rw [stTs, stTs]⟩
  | cons x r ihr =>
   intro h i j
   have h1 := h x (by simp) i
   have h1' := h x (by simp) j
   have h2 := ihr (fun y hy => h y (by simp [hy])) i j
   rw [stTs, stTs, qE, qE]
   exact ⟨ZX h1.1 h2.1, by rw [h1.2, h1'.2, h2.2]⟩
 have hk := hsts ks fun x hx i => (ih x hx i).1
 have hin : ∀ j i, Asc ((ks.map fun x => inT x i).getD j []) /\ nlC ((ks.map fun x => inT x i).getD j []) = nlC ((ks.map fun x => inT x 0).getD j []) := fun j i => by
  rw [List.getD_eq_getElem?_getD, List.getD_eq_getElem?_getD, List.getElem?_map, List.getElem?_map]
  cases hx : ks[j]? with
  | none => exact ⟨asc_nil, rfl⟩
  | some x => exact (ih x (List.mem_of_getElem? hx) i).2
 have hex := li_exs ks
 have hie : Li (sIf ++ (ks.map exT).getD 0 [] ++ sBr) := ZA (ZA (Za (by decide)) (li_getD hex 0)) (Za (by decide))
 have hwe : Li (sWhile ++ (ks.map exT).getD 0 [] ++ sBr) := ZA (ZA (Za (by decide)) (li_getD hex 0)) (Za (by decide))
 have hce : Li (sCatch ++ Lib.itoa n ++ sBr) := ZA (ZA (Za (by decide)) (li_itoa n)) (Za (by decide))
 have lo := fun i => qp (s := sOpen) (Za (by decide)) i
 have lc := fun i => qp (s := sClose) (Za (by decide)) i
 have le := fun i => qp (s := sElse) (Za (by decide)) i
 have lt := fun i => qp (s := sTry) (Za (by decide)) i
 have l1 := fun i => qp hie i
 have l2 := fun i => qp hwe i
 have l3 := fun i => qp hce i
 have l4 := fun i => qp (li_sim (.mk k n m ks)) i
 intro i
 constructor
 ·rw [stT, stT, inTs_eq, inTs_eq]
  by_cases k13 : k = 13
  ·rw [if_pos k13, if_pos k13]
   split
   ·simp only [qE]
    exact ⟨ZX (ZX (lo i).1 (hk (i + 1) 0).1) (lc i).1, by rw [(lo i).2, (lo 0).2, (lc i).2, (lc 0).2, (hk (i + 1) (0 + 1)).2]⟩
   ·simp only [qE]
    exact ⟨ZX (ZX (lo i).1 asc_nil) (lc i).1, by rw [(lo i).2, (lo 0).2, (lc i).2, (lc 0).2]⟩
  rw [if_neg k13, if_neg k13]
  split
  ·simp only [qE]
   exact ⟨ZX (ZX (ZX (ZX (l1 i).1 (hin 1 i).1) (le i).1) (hin 2 i).1) (lc i).1, by rw [(l1 i).2, (l1 0).2, (hin 1 i).2, (le i).2, (le 0).2, (hin 2 i).2, (lc i).2, (lc 0).2]⟩
  split
  ·simp only [qE]
   exact ⟨ZX (ZX (l2 i).1 (hin 1 i).1) (lc i).1, by rw [(l2 i).2, (l2 0).2, (hin 1 i).2, (lc i).2, (lc 0).2]⟩
  split
  ·simp only [qE]
   exact ⟨ZX (ZX (ZX (ZX (lt i).1 (hin 0 i).1) (l3 i).1) (hin 1 i).1) (lc i).1, by rw [(lt i).2, (lt 0).2, (hin 0 i).2, (l3 i).2, (l3 0).2, (hin 1 i).2, (lc i).2, (lc 0).2]⟩
  ·exact ⟨(l4 i).1, by rw [(l4 i).2, (l4 0).2]⟩
 ·rw [inT, inT]
  split
  ·exact hk (i + 1) (0 + 1)
  ·exact ⟨asc_nil, rfl⟩
theorem fun_asc (t : Nd) : Asc (funT t) := by
 obtain ⟨k, n, m, ks⟩ := t
 rw [funT]
 split
 ·have hc : Li (WJ ((ks.take (ks.length - 1)).map qw)) := li_commas _ fun x hx => by obtain ⟨y, _, rfl⟩ := List.mem_map.1 hx;exact li_typ y
  exact ZX (qp (ZA (ZA (ZA (ZA (Za (by decide)) (li_itoa n)) (Za (by decide))) hc) (Za (by decide))) 0).1 (ZX (st_asc _ 0).2.1 (qp (s := sClose) (Za (by decide)) 0).1)
 ·exact asc_nil
theorem pr_asc (t : Nd) : Asc (prT t) := by
 obtain ⟨k, n, m, ks⟩ := t
 rw [prT]
 split
 ·refine ZX (qp (ZA (Za (by decide)) (li_itoa n)) 0).1 fun b hb => ?_
  obtain ⟨y, hy, hby⟩ := List.mem_flatten.1 hb
  obtain ⟨z, _, rfl⟩ := List.mem_map.1 hy
  exact fun_asc z b hby
 split
 ·exact fun_asc _
 split
 ·exact li_asc (li_typ _)
 split
 ·exact li_asc (li_ex _)
 ·exact (st_asc _ 0).1.1
theorem print_asc (t : Nd) : Asc (Zo t) := by
 unfold Zo
 split
 ·exact pr_asc t
 ·exact asc_nil
theorem prT_len (t : Nd) (hok : okN t) (hs : Qu t <= 1000000) : (prT t).length <= 7000000 * Qu t := by
 have h1 := typT_len t hok
 have h2 := qY t hok
 have h3 := (st_len t hok 0).1
 have h4 := funT_len t hok hs
 have hb : bnd 0 (Qu t) <= 7000000 * Qu t := by
  unfold bnd
  exact Nat.mul_le_mul (by omega) (Nat.le_refl _)
 obtain ⟨k, n, m, ks⟩ := t
 rw [prT]
 rw [okN] at hok
 have hn := Zb hok.1.2.1
 have hse : Qu (.mk k n m ks) = 1 + QT ks := by rw [Qu]
 have hf := funs_len ks hok.2 (by omega)
 repeat' split
 ·rw [List.length_append, Wk, List.length_append, hse]
  simp only [List.length_cons, List.length_nil];omega
 ·exact h4
 ·omega
 ·omega
 ·omega
theorem print_len (t : Nd) (hok : okN t) (hs : Qu t <= 1000000) : (Zo t).length <= 7000000 * Qu t := by
 unfold Zo
 split
 ·exact prT_len t hok hs
 ·simp
end Go.Proofs
end
section
namespace Go.Proofs
open Go.RowKit
theorem nlC_succ {l : List UInt8} {i : Nat} (h : i < l.length) : nlC (l.take (i + 1)) = nlC (l.take i) + (if l[i] = 10 then 1 else 0) := by
 unfold nlC
 rw [List.take_succ_eq_append_getElem h, List.countP_append, List.countP_singleton]
 congr 1
 by_cases e : l[i] = 10
 ·simp [e]
 ·simp [e]
theorem ba_get (l : List UInt8) (i : Nat) (h : i < (⟨l.toArray⟩ : ByteArray).size) : (⟨l.toArray⟩ : ByteArray)[i]'h = l[i]'(by have := h;change i < l.toArray.size at this;simpa using this) := by
 show l.toArray[i]'h = _
 simp
set_option maxHeartbeats 1600000 in
set_option maxRecDepth 100000 in
theorem lines_gives (l : List UInt8) (ha : ∀ b ∈ l, b.toNat < 128) (hl : l.length <= 9223372036854775807) (w : World) :
  Calls Tryz.prog 69 #[.string ⟨l.toArray⟩] w fun e w' => e = .returned (.int .i64 (nlC l)) /\ Below w.heap.size w w' := by
 have hsz : (⟨l.toArray⟩ : ByteArray).size = l.length := by show l.toArray.size = _;simp
 have hcl : ∀ i, nlC (l.take i) <= i := fun i => by
  have h1 : nlC (l.take i) <= (l.take i).length := List.countP_le_length
  have h2 := List.length_take_le i l
  omega
 go_enter Tryz.func69, Tryz.ntmps69
 go_wp2
 go_loopw [3] (fun v wr => ∃ pos : Nat, pos <= l.length /\ v = .int .i64 (nlC (l.take pos) : Nat) /\ wr = w.iter ⟨l.toArray⟩ pos) (fun _ wr => l.length - wr.iterPos w.heap.size)
 case atStart => exact ⟨0, Nat.zero_le _, rfl, rfl⟩
 case round =>
  obtain ⟨pos, hp, rfl, rfl⟩ := hrel
  have hip : (w.iter ⟨l.toArray⟩ pos).iterPos w.heap.size = pos := by unfold World.iterPos;rw [World.iter_heap]
  have hip1 : (w.iter ⟨l.toArray⟩ (pos + 1)).iterPos w.heap.size = pos + 1 := by unfold World.iterPos;rw [World.iter_heap]
  have hcp := hcl pos
  by_cases hpl : pos < l.length
  ·have hi : pos < (⟨l.toArray⟩ : ByteArray).size := by omega
   have hg := ba_get l pos hi
   have hasc : ((⟨l.toArray⟩ : ByteArray)[pos]'hi).toNat < 128 := by rw [hg];exact ha _ (List.getElem_mem hpl)
   have hnx := fun ty => run_next_ascii (P := Tryz.prog) w ⟨l.toArray⟩ pos ty hi hasc
   rw [hg] at hnx
   have hs := nlC_succ hpl
   by_cases h10 : l[pos] = 10
   ·rw [h10] at hnx
    rw [if_pos h10] at hs
    go_wp2
    go_roundw
    case rel => exact ⟨pos + 1, hpl, by rw [hs];rfl, rfl⟩
    case measure => rw [hip, hip1];omega
   ·have h10' : ((l[pos].toNat : Nat) : Int) ≠ 10 := by
     intro e
     apply h10
     have : l[pos].toNat = 10 := by omega
     exact UInt8.toNat_inj.1 this
    rw [if_neg h10] at hs
    go_wp2
    exact ⟨⟨pos + 1, hpl, by rw [hs];rfl, rfl⟩, by rw [hip, hip1];omega⟩
  ·have hpe : pos = l.length := by omega
   subst hpe
   have hnx := fun ty => run_next_end (P := Tryz.prog) w ⟨l.toArray⟩ l.length ty (by omega)
   go_wp2
   go_ret
   exact ⟨by rw [List.take_length];rfl, (Below.refl _ w).alloc (Nat.le_refl _) _⟩
section
open Go.Av Go.Bl
variable {G : Nat -> DV}
theorem lines_c (l : List UInt8) (ha : ∀ b ∈ l, b.toNat < 128) (hl : l.length <= 9223372036854775807) : Go.Av.Pure Tryz.prog G 69 [WQ l] (.i (nlC l)) :=
 pure_of (us := [.string ⟨l.toArray⟩]) (v := .int .i64 (nlC l)) rfl rfl fun X _ => lines_gives l ha hl X.w
end
end Go.Proofs
end
section
namespace Go.Proofs
open Go.Av
variable {G : Nat -> DV}
attribute [local irreducible] OpSem Zd Zx ZL ACalls qt AClose RV
open Go.Bl
variable {o : List UInt8} {bad : Bool}
theorem stmts_c (hG : G 6 = pow10T) (hG1 : G 1 = spaceT) (t : Nd) : okN t -> StC G t /\ BlC G t := by
 induction t using Nd.ind with
 | h k n m ks ih =>
 intro hok
 have hok2 := hok
 rw [okN] at hok2
 have hb := block_c k n m ks hok fun x hx => (ih x hx (Wj hok2.2 hx)).1
 exact ⟨stmt_c hG hG1 k n m ks hok hb fun x hx => (ih x hx (Wj hok2.2 hx)).2, hb⟩
theorem fun_c (hG : G 6 = pow10T) (hG1 : G 1 = spaceT) (t : Nd) (hok : okN t) (hsz : Qu t <= 1000000) (hlen : o.length + 7000000 * Qu t <= 140737470000000) : PM Tryz.prog G 45 (fun p g => [.ptr p g 0, .agg (Enc.enc t)]) o bad (.tup []) (o ++ funT t) (bad || !ZF t) := fun g0 g1 B h0 h1 => by
 obtain ⟨k, n, m, ks⟩ := t
 rw [okN] at hok
 rw [Qu] at hsz hlen
 have hl1 := WC ks
 have hl : ks.length <= 1048576 := by omega
 have hn : -9223372036854775808 <= n /\ n <= 9223372036854775807 := hok.1.2.1
 have hnl := Zb hok.1.2.1
 rw [funT, ZF, QW]
 by_cases hk : k = 26
 ·subst hk
  by_cases hp : 0 < ks.length
  ·have hpz : (0 : Int) < (ks.length : Int) := by omega
   by_cases hm : Q0 m ks.length (-1) = true
   ·have hpl : ∀ b, PE Tryz.prog G 42 (fun p g => [.ptr p g 0, .agg [.i 26, .i n, .i m, QR ks], .i (-1)]) o b (.b true) b := fun b => (Zl 26 n m ks (-1) hl).conv (by rw [hm]) (by rw [hm];simp)
    have hsl := sizeL_last hp
    have hmem := last_mem hp
    have hbb := (stmts_c hG hG1 _ (Wj hok.2 hmem)).2
    have hgl : ks.length - 1 < ks.length := by omega
    have hge : ks.getD (ks.length - 1) (.mk 0 0 0 []) = ks[ks.length - 1] := by rw [List.getD_eq_getElem?_getD, List.getElem?_eq_getElem hgl];rfl
    have hlist : ∀ b, PE Tryz.prog G 84 (fun p g => [QR (ks.take (ks.length - 1)), .fn (.func 47) [.ptr p g 0] []]) o b (WQ (WJ ((ks.take (ks.length - 1)).map qw))) (b || !(ks.take (ks.length - 1)).all ZJ) := fun b =>
     list_c _ qw ZJ _ b (fun x hx b => typed_c hG x (Wj hok.2 (List.mem_of_mem_take hx)) (by have := QY (List.mem_of_mem_take hx);omega) b) (by simp;omega) (by have := qB qw (M := 30) ks (ks.length - 1) fun x hx => typT_len x (Wj hok.2 hx);have := Wm ks (ks.length - 1);omega)
    have hcl := qB qw (M := 30) ks (ks.length - 1) fun x hx => typT_len x (Wj hok.2 hx)
    rw [hge] at hbb hsl ⊢
    have hq : ((ks.length : Int) - 1).toNat = ks.length - 1 := by omega
    have hgl2 : ((ks.length : Int) - 1).toNat < ks.length := by omega
    have hlist2 : ∀ b, PE Tryz.prog G 84 (fun p g => [QR (ks.take ((ks.length : Int) - 1).toNat), .fn (.func 47) [.ptr p g 0] []]) o b (WQ (WJ ((ks.take (ks.length - 1)).map qw))) (b || !(ks.take (ks.length - 1)).all ZJ) := by rw [hq];exact hlist
    have hgq : ks[((ks.length : Int) - 1).toNat] = ks[ks.length - 1] := by congr 1
    have hbb2 : BlC G ks[((ks.length : Int) - 1).toNat] := by rw [hgq];exact hbb
    have hsl2 : QT (ks.take (ks.length - 1)) + Qu ks[((ks.length : Int) - 1).toNat] = QT ks := by rw [hgq];exact hsl
    have hsn := Wh ks[((ks.length : Int) - 1).toNat]
    refine Qa Tryz.func45 rfl Tryz.ntmps45 rfl (t := [(0, .ptr 0 g0 0), (1, .agg [.i _, .i n, .i m, QR ks])]) rfl fun E hE => ?_
    (repeat' first|(refine Qe ?_;(first|refine QG rfl ?_|refine QJ rfl ?_|(refine Qz ?_;(first|refine WF rfl rfl ?_|refine QD rfl ?_|refine Qb rfl rfl rfl ?_))|refine qh rfl rfl (by omega) (by first|assumption|omega|(simp;done)|(simp;omega)) ?_|(refine Qo ?_;(first|refine Z6 rfl rfl ?_|refine QS rfl rfl ?_|refine Zz rfl rfl (by omega) ?_))|(refine Qq ?_;(first|refine Qt rfl ?_|refine Zg 0 1 (Zj _) rfl rfl rfl rfl rfl rfl ?_|refine Zg 0 1 (hpl _) rfl rfl rfl rfl rfl rfl ?_|refine Zg 0 1 (Zu hG _ (by assumption)) rfl rfl rfl rfl rfl rfl ?_|refine Zg 0 1 (hlist2 _) rfl rfl rfl rfl rfl rfl ?_|refine s_pm 0 1 (line_c 0 _ (by omega) (by first|assumption|(simp only [List.length_append, Wk, List.length_cons, List.length_nil];omega))) rfl rfl rfl rfl rfl rfl (fun _ => rfl) (fun _ _ => ?_)|refine s_pm 0 1 (hbb2 0 _ _ _ (by decide) (by omega) (by first|assumption|omega|(simp only [List.length_append, Wk, List.length_cons, List.length_nil];omega))) rfl rfl rfl rfl rfl rfl (fun _ => rfl) (fun _ _ => ?_)))|(refine Q4 ?_;(first|refine WO rfl rfl ?_|refine Wr rfl rfl ?_))|(refine g_unOp ?_;(first|refine s_not_d rfl ?_|refine Wn rfl ?_))|refine Qd rfl rfl ?_|refine QU rfl rfl (fun _ _ => ?_)))|(refine Qk ?_;(first|refine Qi ?_|refine QN rfl ?_|refine WD rfl rfl rfl rfl ?_|refine Q6 rfl rfl (by omega) ?_))|(refine Qj ?_;(first|refine Qn ?_|refine Qc ?_|(refine Wg ?_;first|(refine QB (pfx3 _ _) 100 [(0, true), (1, true), (2, true), (3, true), (7, true), (8, true), (9, true), (10, true), (11, true), (12, true), (4, false), (5, true), (6, true), (13, false), (14, true), (15, true), (16, false)] (by rfl) (by rfl) (by kernel_rfl) (by decide +kernel) (by decide +kernel) ⟨(_, _, _, _), rfl⟩ ?_)|refine Q3 (by rfl) (by kernel_rfl) (by kernel_rfl) ?_|refine Q2 (by kernel_rfl) (by kernel_rfl) ?_)|refine Qx ?_|refine Ql rfl ?_))|(refine Ze ?_;(first|refine Z1 ?_|refine i_st rfl rfl (fun _ => (by (repeat' first|(refine Qe ?_;(first|refine QG rfl ?_|refine Qb rfl rfl rfl ?_|refine qD rfl rfl ?_|refine Qd rfl rfl ?_|refine s_slice_h rfl rfl (by omega) (by omega) ?_|refine QV rfl rfl ?_))|exact ⟨rfl, rfl⟩))) ?_|refine i_ef rfl ?_))|refine And.intro (Exists.intro ((_, _, _, _)) rfl) ?_)
    exact e_0 (Tryz.results45) (c_pm rfl (by rw [hgq];simp [hm, hp]) (by rw [hgq];simp [hm, hp, Bool.or_assoc]) (by omega))
   ·have hm : Q0 m ks.length (-1) = false := by rw [<- Bool.not_eq_true];exact hm
    have hpl : ∀ b, PE Tryz.prog G 42 (fun p g => [.ptr p g 0, .agg [.i 26, .i n, .i m, QR ks], .i (-1)]) o b (.b false) true := fun b => (Zl 26 n m ks (-1) hl).conv (by rw [hm]) (by rw [hm];simp)
    refine Qa Tryz.func45 rfl Tryz.ntmps45 rfl (t := [(0, .ptr 0 g0 0), (1, .agg [.i _, .i n, .i m, QR ks])]) rfl fun E hE => ?_
    (repeat' first|(refine Qe ?_;(first|refine QG rfl ?_|(refine Qz ?_;(first|refine WF rfl rfl ?_|refine Qb rfl rfl rfl ?_))|(refine Qo ?_;(first|refine Z6 rfl rfl ?_|refine QS rfl rfl ?_))|(refine Qq ?_;(first|refine Qt rfl ?_|refine Zg 0 1 (Zj _) rfl rfl rfl rfl rfl rfl ?_|refine Zg 0 1 (hpl _) rfl rfl rfl rfl rfl rfl ?_))|(refine Q4 ?_;(first|refine WO rfl rfl ?_|refine Wr rfl rfl ?_))|(refine g_unOp ?_;(first|refine s_not_d rfl ?_|refine Wn rfl ?_))|refine Qd rfl rfl ?_|refine QU rfl rfl (fun _ _ => ?_)))|(refine Qk ?_;(first|refine Qi ?_|refine QN rfl ?_|refine WD rfl rfl rfl rfl ?_|refine Q6 rfl rfl (by omega) ?_))|(refine Qj ?_;(first|refine Qn ?_|refine Qc ?_|refine Qh rfl ?_|refine Qs ?_)))
    exact e_0 (Tryz.results45) (c_pm rfl (by simp [hm, hp]) (by simp [hm, hp]) (by omega))
  ·have hpz : ¬ (0 : Int) < (ks.length : Int) := by omega
   refine Qa Tryz.func45 rfl Tryz.ntmps45 rfl (t := [(0, .ptr 0 g0 0), (1, .agg [.i _, .i n, .i m, QR ks])]) rfl fun E hE => ?_
   (repeat' first|(refine Qe ?_;(first|refine QG rfl ?_|refine Qb rfl rfl rfl ?_|(refine Qo ?_;(first|refine Z6 rfl rfl ?_|refine QS rfl rfl ?_))|(refine Qq ?_;(first|refine Qt rfl ?_|refine Zg 0 1 (Zj _) rfl rfl rfl rfl rfl rfl ?_))|refine WO rfl rfl ?_|refine s_not_d rfl ?_|refine Qd rfl rfl ?_|refine QU rfl rfl (fun _ _ => ?_)))|(refine Qk ?_;(first|refine Qi ?_|refine QN rfl ?_|refine WD rfl rfl rfl rfl ?_|refine W2 rfl rfl rfl rfl ?_|refine We rfl rfl (by omega) ?_))|(refine Qj ?_;(first|refine Qn ?_|refine Qc ?_|refine Qh rfl ?_|refine Qs ?_)))
   exact e_0 (Tryz.results45) (c_pm rfl (by simp [hp]) (by simp [hp]) (by omega))
 ·refine Qa Tryz.func45 rfl Tryz.ntmps45 rfl (t := [(0, .ptr 0 g0 0), (1, .agg [.i k, .i n, .i m, QR ks])]) rfl fun E hE => ?_
  (repeat' first|(refine Qe ?_;(first|refine QG rfl ?_|refine Qb rfl rfl rfl ?_|refine QS rfl rfl ?_|refine Zg 0 1 (Zj _) rfl rfl rfl rfl rfl rfl ?_|(refine Q4 ?_;(first|refine WO rfl rfl ?_|refine Wr rfl rfl ?_))|refine Wn rfl ?_|refine Qd rfl rfl ?_|refine QU rfl rfl (fun _ _ => ?_)))|(refine Qk ?_;(first|refine Qi ?_|refine QN rfl ?_|refine W2 rfl rfl rfl rfl ?_|refine Q6 rfl rfl (by omega) ?_))|(refine Qj ?_;(first|refine Qn ?_|refine Qc ?_|refine Qh rfl ?_|refine Qs ?_)))
  exact e_0 (Tryz.results45) (c_pm rfl (by simp [hk]) (by simp [hk]) (by omega))
end Go.Proofs
end
section
namespace Go.Av
open Go.Bl Go.Proofs
section
variable {P : Program} {G : Nat -> DV} {B : Nat} {f : Operand -> DV} {σ : List ABlk} {K : DV -> List ABlk -> Prop} {dst : Option Tmp} {type : TypeId} {pos : String} {after : Array Edge} {gd : Option (Nat × Bool)}
theorem s_box_bld {x : Operand} (hx : f x = .agg [.sc (.pointer none), .sc (.slice none 0 0), .sc (.bool false)]) (k : ∀ g g1, B < g -> B < g1 -> K (.ptr σ.length g 0) (σ ++ [pRow σ.length (σ.length + 1) g g1 ([] : List UInt8).length false, .row g1 (Ws ([] : List UInt8))])) : OpSem P G B ⟨dst, .box 77 x, type, pos, after, gd⟩ f σ K := fun X ρ hS hσ hB _ hf => by
 subst hσ
 have e1 := hf x (by simp [Op.operands, Call.operands]);rw [hx] at e1
 obtain ⟨h1, h2, h3⟩ := dcells_spec (ds := [.sc (.pointer none), .sc (.slice none 0 0), .sc (.bool false)]) rfl e1
 simp only [execOp, Instr.box, newVar, newRow, run_newObj, Sem.run_bind, Sem.run_pure, Result.andThen_ok, World.alloc_eq]
 generalize ρ x = u at *
 have hk := Keep.alloc X.w (.cells u.cells 77)
 have hnew := heap_alloc_new X.w (.cells u.cells 77)
 have hob : ∀ b' n, some (X.w.heap.size, u.cells.size) = some (b', n) -> X.w.heap.size <= b' := fun b' n h => by cases h;exact Nat.le_refl _
 let R0 : ABlk := .row (X.N + 1) [.sc (.pointer none), .sc (.slice none 0 0), .sc (.bool false)]
 have hh : R0.holds X.lay (X.w.alloc (.cells u.cells 77)) (some (X.w.heap.size, u.cells.size)) := ⟨u.cells, 77, (0, 0), hnew, rfl, by rw [h1];exact Nat.le_refl _, fun j _ h => by simp at h, h3⟩
 have hS' := hS.push hk (B := R0) rfl hob hh
 have hE' := WExt.push hS hk (B := R0) rfl hob
 have hσ1 : (X.push (X.w.alloc (.cells u.cells 77)) (some (X.w.heap.size, u.cells.size)) R0).σ = X.σ ++ [R0] := rfl
 have hρ1 : (X.push (X.w.alloc (.cells u.cells 77)) (some (X.w.heap.size, u.cells.size)) R0).ρ X.σ.length = some (X.w.heap.size, u.cells.size) := by simp [AX.push]
 have hw1 : (X.push (X.w.alloc (.cells u.cells 77)) (some (X.w.heap.size, u.cells.size)) R0).w = X.w.alloc (.cells u.cells 77) := rfl
 have hN1 : (X.push (X.w.alloc (.cells u.cells 77)) (some (X.w.heap.size, u.cells.size)) R0).N = X.N + 1 := rfl
 generalize X.push (X.w.alloc (.cells u.cells 77)) (some (X.w.heap.size, u.cells.size)) R0 = Y at *
 -- the buffer, which lies nowhere yet
 let R1 : ABlk := .row (Y.N + 1) []
 have hob1 : ∀ b' n, (none : Option (Nat × Nat)) = some (b', n) -> Y.w.heap.size <= b' := fun b' n h => by cases h
 have hS1 := hS'.push (Keep.refl Y.w) (B := R1) rfl hob1 rfl
 have hE1 := WExt.push hS' (Keep.refl Y.w) (B := R1) rfl hob1
 have hlen1 : Y.σ.length = X.σ.length + 1 := by rw [hσ1];simp
 have hσ2 : (Y.push Y.w none R1).σ = X.σ ++ [R0, .row (X.N + 2) []] := by show Y.σ ++ [ABlk.row (Y.N + 1) []] = _;rw [hσ1, hN1];simp
 have hρ2 : (Y.push Y.w none R1).ρ X.σ.length = some (X.w.heap.size, u.cells.size) := by simp only [AX.push];rw [if_neg (by omega)];exact hρ1
 have hρ3 : (Y.push Y.w none R1).ρ (X.σ.length + 1) = none := by simp only [AX.push];rw [if_pos hlen1.symm]
 have hw2 : (Y.push Y.w none R1).w = X.w.alloc (.cells u.cells 77) := hw1
 have hN2 : (Y.push Y.w none R1).N = X.N + 2 := by show Y.N + 1 = _;omega
 generalize hZ : Y.push Y.w none R1 = Z at *
 have hk0 : Z.σ[X.σ.length]? = some R0 := by rw [hσ2];simp
 have hk1 : Z.σ[X.σ.length + 1]? = some (.row (X.N + 2) []) := by rw [hσ2];simp
 let R2 : ABlk := pRow X.σ.length (X.σ.length + 1) (X.N + 1) (X.N + 2) 0 false
 have hok : ReplOk Z X.σ.length (X.N + 1) Z.w (Z.ρ X.σ.length) R2 Z.N := {
  live := WE hk0, os := rfl, tape := rfl, output := rfl, size := Nat.le_refl _, block := fun _ _ _ => rfl
  gen := .inr ⟨rfl, Nat.le_refl _, rfl⟩
  lies := fun b n h => .inr ⟨n, h⟩
  shp := fun _ _ h => h }
 have hE2 := WExt.repl hS1 hok
 have hlive : (Z.repl X.σ.length Z.w (Z.ρ X.σ.length) R2 Z.N).live X.σ.length (X.N + 1) := (AX.repl_live (AX.live_lt (WE hk0))).2 (.inr ⟨rfl, rfl⟩)
 have hlive1 : (Z.repl X.σ.length Z.w (Z.ρ X.σ.length) R2 Z.N).live (X.σ.length + 1) (X.N + 2) := (AX.repl_live (AX.live_lt (WE hk0))).2 (.inl ⟨by omega, WE hk1⟩)
 have hc : ∀ j e, [DV.sc (.pointer none), .sc (.slice none 0 0), .sc (.bool false)][j]? = some e -> u.cells.getD j undef = (match e with|.sc v => v|_ => undef) := fun j e hj => by
  have := (h3 j e hj).2
  match j, hj with
  | 0, hj => cases hj;exact VRep.sc_eq this
  | 1, hj => cases hj;exact VRep.sc_eq this
  | 2, hj => cases hj;exact VRep.sc_eq this
 have c0 := hc 0 _ rfl
 have c1 := hc 1 _ rfl
 have c2 := hc 2 _ rfl
 have key : ∀ (ob0 : Option (Nat × Nat)) (w0 : World), ob0 = some (X.w.heap.size, u.cells.size) -> w0 = X.w.alloc (.cells u.cells 77) -> R2.holds (Z.repl X.σ.length Z.w (Z.ρ X.σ.length) R2 Z.N).lay w0 ob0 := fun ob0 w0 e0 ew => by
  subst e0;subst ew
  refine ⟨u.cells, 77, (0, 0), hnew, rfl, by rw [h1];exact Nat.le_refl _, fun j _ h => by simp at h, fun j e hj => ?_⟩
  match j, hj with
  | 0, hj =>
   cases hj
   refine ⟨rfl, ?_⟩
   rw [c0]
   refine .bld _ _ _ _ (by show X.N + 1 <= Z.N;omega) fun ob hob => ?_
   rw [AX.row_mk hlive] at hob
   simp only [AX.repl, if_true, hρ2, Option.some.injEq] at hob
   refine ⟨X.w.heap.size, u.cells.size, hob.symm, ?_, .inl rfl⟩
   show World.shape? _ _ = _
   simp only [AX.repl, hw2, World.shape?, hnew]
   rw [h1];rfl
  | 1, hj =>
   cases hj
   refine ⟨rfl, ?_⟩
   rw [c1]
   refine .bref _ _ _ _ _ _ _ (by show X.N + 2 <= Z.N;omega) fun ob hob => ?_
   rw [AX.row_mk hlive1] at hob
   simp only [AX.repl, if_neg (show ¬ X.σ.length + 1 = X.σ.length by omega), hρ3, Option.some.injEq] at hob
   subst hob
   exact ⟨⟨rfl, rfl, rfl⟩, fun b n h => by cases h⟩
  | 2, hj => cases hj;exact ⟨rfl, by rw [c2];exact .sc _⟩
 have hS2 := Sto.repl' hS1 hok (key _ _ hρ2 hw2)
 have hk2 := k (X.N + 1) (X.N + 2) (by omega) (by omega)
 refine ⟨_, ?_, hS2, (hE'.trans hE1).trans hE2, .ptr X.σ.length (X.N + 1) 0, ?_, ?_⟩
 ·exact hw2
 ·refine .ptr _ _ _ _ (by show X.N + 1 <= Z.N;omega) fun ob hob => ?_
  rw [AX.row_mk hlive] at hob
  simp only [AX.repl, if_true, hρ2, Option.some.injEq] at hob
  exact ⟨_, _, hob.symm, rfl⟩
 ·have : (Z.repl X.σ.length Z.w (Z.ρ X.σ.length) R2 Z.N).σ = X.σ ++ [R2, .row (X.N + 2) []] := by
   simp only [AX.repl, hσ2]
   rw [List.set_append_right _ _ (Nat.le_refl _)]
   simp
  rw [this];exact hk2
end
theorem freeze_other {b n : Nat} (w : World) {b' : Nat} (o : Nat) (h : b' ≠ b) : (w.drew.freeze ⟨b, n, none⟩ o).heap[b']? = w.heap[b']? := by
 unfold World.freeze
 split
 ·rfl
 ·show (w.heap.modify b _)[b']? = _
  rw [Array.getElem?_modify, if_neg (fun e => h e.symm)]
theorem freeze_size (w : World) (a : Addr) (o : Nat) : (w.drew.freeze a o).heap.size = w.heap.size := by
 unfold World.freeze;split
 ·rfl
 ·show (w.heap.modify _ _).size = _;simp
theorem freeze_os (w : World) (a : Addr) (o : Nat) : (w.drew.freeze a o).os = w.os := by unfold World.freeze;split <;> rfl
theorem freeze_tape (w : World) (a : Addr) (o : Nat) : (w.drew.freeze a o).tape = w.tape := by unfold World.freeze;split <;> rfl
theorem freeze_output (w : World) (a : Addr) (o : Nat) : (w.drew.freeze a o).output = w.output := by unfold World.freeze;split <;> rfl
theorem freeze_shape (w : World) (a : Addr) (o b' : Nat) : (w.drew.freeze a o).shape? b' = w.shape? b' := by
 unfold World.freeze
 split
 ·rfl
 ·have key : ∀ x : Option Obj, (match x.map (fun|.cells c elem (lo, hi) => Obj.cells c elem (if lo == hi then (a.off, a.off + o) else (min lo a.off, max hi (a.off + o)))|x => x) with|some (.cells c elem _) => some (elem, c.size)|_ => none) = (match x with|some (.cells c elem _) => some (elem, c.size)|_ => none) := fun x => by
   cases x with
   | none => rfl
   | some o => cases o <;> rfl
  by_cases h : a.block = b'
  ·subst h
   have := key w.heap[a.block]?
   unfold World.shape?
   show (match (w.heap.modify a.block _)[a.block]? with|some (.cells c elem _) => some (elem, c.size)|_ => none) = _
   rw [Array.getElem?_modify, if_pos rfl]
   exact this
  ·unfold World.shape?
   show (match (w.heap.modify a.block _)[b']? with|some (.cells c elem _) => some (elem, c.size)|_ => none) = _
   rw [Array.getElem?_modify, if_neg h]
   rfl
theorem string_c {G : Nat -> DV} {B k0 k1 g0 g1 : Nat} {σ σ' : List ABlk} {o : List UInt8} {bad : Bool} (h0 : σ[k0]? = some (pRow k0 k1 g0 g1 o.length bad)) (h1 : σ[k1]? = some (.row g1 (Ws o))) (ho : o ≠ []) (hl : o.length <= 9223372036854775807) (hσ' : setA σ k1 .gone = some σ') :
  ACalls Tryz.prog G B 50 [.ptr k0 g0 0] σ (fun d τ => d = WQ o /\ τ = σ') := fun X vs hS hσ hB hG hv => by
 subst hσ
 obtain ⟨hv1, hv2⟩ := hv
 have e1 := hv2 0 _ rfl
 obtain ⟨b, n, hρ, e2⟩ := e1.ptr_inv h0
 have hvs : vs = #[.pointer (some ⟨b, 0, none⟩)] := by
  apply Array.ext
  ·simpa using hv1
  ·intro j hj1 hj2
   have hj : j < 1 := by simpa using hj2
   match j, hj with
   | 0, _ => simpa [Array.getD_eq_getD_getElem?, hj1] using e2
 subst hvs
 obtain ⟨arr, T, fr, q1, q2, q3, q4, q5⟩ := hS.row h0 hρ
 have q30 : 3 <= n := q3
 have hr := (q5 1 _ rfl).2
 have hopos : 0 < o.length := List.length_pos_iff.2 ho
 have hel : (Ws o : List DV).length = o.length := by rw [QX];exact Nat.mul_one _
 obtain ⟨a, l, c, hval⟩ : ∃ a l c, arr.getD 1 undef = .slice a l c := by
  generalize arr.getD 1 undef = u at hr
  cases hr with|bref _ _ _ _ a l c _ _ => exact ⟨a, l, c, rfl⟩
 rw [hval] at hr
 have hinv : RefOk (X.ρ k1) 0 o.length 1 (.slice a l c) /\ ∀ b n, X.ρ k1 = some (b, n) -> ∃ m, X.lay.shp b = some (5, m) := by
  cases hr with|bref _ _ _ _ _ _ _ g1 g2 => exact g2 _ (AX.row_mk (WE h1))
 obtain ⟨hro, hshp⟩ := hinv
 unfold RefOk at hro
 cases hρ1 : X.ρ k1 with
 | none => rw [hρ1] at hro;obtain ⟨_, _, hz⟩ := hro;omega
 | some z =>
  obtain ⟨b1, n1⟩ := z
  rw [hρ1] at hro
  obtain ⟨a', cap, hsl, hlc, hcase⟩ := hro
  cases hsl
  rcases hcase with hcase|⟨rfl, hcap⟩
  ·omega
  obtain ⟨m, hm⟩ := hshp b1 n1 hρ1
  obtain ⟨arr1, T1, fr1, r1, r2, r3, r4, r5⟩ := hS.row h1 hρ1
  have hm' : X.w.shape? b1 = some (5, m) := hm
  have hT1 : T1 = 5 /\ arr1.size = m := by simp only [World.shape?, r1, Option.some.injEq, Prod.mk.injEq] at hm';exact hm'
  obtain ⟨rfl, hsz⟩ := hT1
  have hc1 : X.w.cell? ⟨b, 1, none⟩ = some (.slice (some ⟨b1, 0, none⟩) o.length c) := by
   have : 1 < arr.size := by omega
   simp only [World.cell?, q1]
   rw [<- hval];simp [Array.getD_eq_getD_getElem?, this]
  rw [hel] at r3
  refine (string_row b b1 c o arr1 X.w ho hc1 (by simp only [World.shape?, r1]) hlc hl (by omega) (fun j x hj => ?_)).mono ?_
  ·have hjl := (List.getElem?_eq_some_iff.1 hj).1
   have hen : (Ws o : List DV)[j]? = some (.u x) := by
    have := encs_at o j hjl 0 (by decide)
    have hes : Enc.es UInt8 = 1 := rfl
    have hx : o[j] = x := (List.getElem?_eq_some_iff.1 hj).2
    rw [hes, Nat.mul_one, Nat.add_zero, hx] at this
    exact this
   have hrep := VRep.sc_eq (r5 j _ hen).2
   have : j < arr1.size := by omega
   simp only [World.cell?, r1]
   rw [<- hrep];simp [Array.getD_eq_getD_getElem?, this]
  ·rintro e w' ⟨rfl, rfl⟩
   have hmut : X.mut b1 := ⟨k1, g1, n1, WE h1, hρ1⟩
   have hoth : ∀ b', b' ≠ b1 -> (X.w.drew.freeze ⟨b1, 0, none⟩ o.length).heap[b']? = X.w.heap[b']? := fun b' hb' => freeze_other _ _ hb'
   have hset := qa hσ'
   have hlive : ∀ k g, (X.σ.set k1 .gone)[k]?.bind ABlk.gen? = some g -> k ≠ k1 /\ X.live k g := fun k g hg => by
    rw [List.getElem?_set] at hg
    split at hg
    ·split at hg <;> simp [ABlk.gen?] at hg
    ·rename_i hne;exact ⟨fun e => hne e.symm, hg⟩
   let X' : AX := { X with w := X.w.drew.freeze ⟨b1, 0, none⟩ o.length, σ := X.σ.set k1 .gone }
   have hE : WExt X X' := {
    hid := rfl, top := Nat.le_refl _, os := freeze_os _ _ _, tape := freeze_tape _ _ _, output := freeze_output _ _ _, size := Nat.le_of_eq (freeze_size _ _ _).symm
    old := fun b' _ hm' => ⟨hoth b' fun e => hm' (e ▸ hmut), fun ⟨k, g, n, hl', hr'⟩ => hm' ⟨k, g, n, (hlive k g hl').2, hr'⟩⟩
    rows := fun k g _ hl' => ⟨(hlive k g hl').2, rfl⟩
    shp := fun b' s hs => by rw [freeze_shape];exact hs }
   have hS' : Sto X' := {
    inj := fun k k' g g' b n n' hl hl' hr hr' => hS.inj k k' g g' b n n' (hlive k g hl).2 (hlive k' g' hl').2 hr hr'
    gen := fun k g hl => hS.gen k g (hlive k g hl).2
    hid := fun b ⟨k, g, n, hl, hr⟩ hh => hS.hid b ⟨k, g, n, (hlive k g hl).2, hr⟩ hh
    hidlt := fun b hb => Nat.lt_of_lt_of_le (hS.hidlt b hb) (Nat.le_of_eq (freeze_size _ _ _).symm)
    holds := fun k B hB => by
     have hB' : (X.σ.set k1 .gone)[k]? = some B := hB
     cases hg : B.gen? with
     | none => cases B <;> first|trivial|cases hg
     | some g =>
      obtain ⟨hne, hl⟩ := hlive k g (by rw [hB'];exact hg)
      have hBX : X.σ[k]? = some B := by rw [List.getElem?_set_ne (fun e => hne e.symm)] at hB';exact hB'
      exact (hS.holds k B hBX).mono hE.le fun b' n' hb' => hoth b' fun e => hne (hS.inj k k1 g g1 b' n' n1 hl (WE h1) hb' (by rw [e];exact hρ1)) }
   exact ⟨_, rfl, X', rfl, hS', hE, _, .sc _, rfl, hset.symm⟩
abbrev pfx4 (b : ABlk) (g0 : Nat) (p : DV × DV × DV × ABlk) : List ABlk := b :: .row g0 [p.1, p.2.1, p.2.2.1] :: p.2.2.2 :: []
theorem s_call_str {G : Nat -> DV} {B : Nat} {f : Operand -> DV} {σ σ' : List ABlk} {K : DV -> List ABlk -> Prop} {dst : Option Tmp} {type : TypeId} {pos : String} {after : Array Edge} {gd : Option (Nat × Bool)} {args : Array Operand} {ts : Array TypeId} {k0 k1 g0 g1 : Nat} {o : List UInt8} {bad : Bool} (hx : f (.func 50) = .fn (.func 50) [] []) (hds : reL (args.toList.map f) = some [.ptr k0 g0 0]) (h0 : σ[k0]? = some (pRow k0 k1 g0 g1 o.length bad)) (h1 : σ[k1]? = some (.row g1 (Ws o))) (ho : o ≠ []) (hl : o.length <= 9223372036854775807) (hσ' : setA σ k1 .gone = some σ') (kk : K (WQ o) σ') :
  OpSem Tryz.prog G B ⟨dst, .call ⟨.value (.func 50), args, ts⟩, type, pos, after, gd⟩ f σ K := s_call hx hds ((string_c h0 h1 ho hl hσ').mono fun _ _ ⟨e1, e2⟩ => by rw [e1, e2];exact kk)
end Go.Av
end
section
namespace Go.Proofs
open Go.Av
variable {G : Nat -> DV}
attribute [local irreducible] OpSem Zd Zx ZL ACalls qt AClose RV
open Go.Bl
theorem itoa_ne (n : Int) : Lib.itoa n ≠ [] := by
 intro h
 have h2 := congrArg List.length h
 unfold Lib.itoa at h2
 split at h2
 ·simp at h2
 ·rw [Lib.decDigits_length] at h2
  have := Lib.nDigits_pos n.toNat
  simp at h2;omega
theorem typT_ne (t : Nd) (h : ZJ t = true) : qw t ≠ [] := by
 obtain ⟨k, n, m, ks⟩ := t
 rw [ZJ] at h
 rw [qw]
 split at h
 ·rename_i hk
  rcases hk with hk|hk <;> simp [hk]
 split at h
 ·rename_i h1 hk;simp [hk]
 split at h
 ·rename_i h1 h2 hk;simp [hk]
 ·cases h
theorem exT_ne (t : Nd) (h : Zn t = true) : exT t ≠ [] := by
 obtain ⟨k, n, m, ks⟩ := t
 rw [Zn] at h
 rw [exT]
 split at h
 ·rename_i hk;rw [if_pos hk];exact itoa_ne n
 split at h
 ·rename_i h1 hk;simp [hk];split <;> simp
 split at h
 ·rename_i h1 h2 hk;simp [hk]
 split at h
 ·rename_i h1 h2 h3 hk;simp [hk]
 split at h
 ·rename_i h1 h2 h3 h4 hk;simp [hk]
 split at h
 ·rename_i h1 h2 h3 h4 h5 hk
  rw [if_neg h1, if_neg h2, if_neg h3, if_neg h4, if_neg h5, if_pos hk, if_pos (by simp at h;simp [h])]
  simp
 split at h
 ·rename_i h1 h2 h3 h4 h5 h6 hk;simp [hk]
 split at h
 ·rename_i h1 h2 h3 h4 h5 h6 h7 hk;simp [hk]
 split at h
 ·rename_i h1 h2 h3 h4 h5 h6 h7 h8 hk;simp [hk]
 ·cases h
theorem line_ne (i : Nat) (s r : List UInt8) : qm i s ++ r ≠ [] := by simp [qm]
theorem stT_ne (t : Nd) (i : Nat) : stT t i ≠ [] := by
 obtain ⟨k, n, m, ks⟩ := t
 rw [stT]
 repeat' split
 all_goals simp [qm]
theorem prT_ne (t : Nd) (h : prOk t = true) : prT t ≠ [] := by
 obtain ⟨k, n, m, ks⟩ := t
 rw [prOk] at h
 rw [prT]
 split
 ·exact line_ne _ _ _
 split
 ·rename_i h1 hk
  rw [if_neg h1, if_pos hk] at h
  rw [ZF] at h
  rw [funT, if_pos (by simp at h;simp [h])]
  exact line_ne _ _ _
 split
 ·rename_i h1 h2 hk
  rw [if_neg h1, if_neg h2, if_pos hk] at h
  exact typT_ne _ h
 split
 ·rename_i h1 h2 h3 hk
  rw [if_neg h1, if_neg h2, if_neg h3, if_pos hk] at h
  exact exT_ne _ h
 ·exact stT_ne _ _
theorem okL_take {ks : List Nd} (h : okL ks) : ∀ j, okL (ks.take j) := fun j => by
 induction ks generalizing j with
 | nil => simpa using h
 | cons x r ih =>
  rw [okL] at h
  cases j with
  | zero => rw [List.take_zero, okL];trivial
  | succ j => rw [List.take_succ_cons, okL];exact ⟨h.1, ih h.2 j⟩
theorem print_c (hG : G 6 = pow10T) (hG1 : G 1 = spaceT) (t : Nd) (hok : okN t) (hsz : Qu t <= 1000000) : Go.Av.Pure Tryz.prog G 18 [.agg (Enc.enc t)] (WQ (Zo t)) := fun B => by
 have htyp := fun (o : List UInt8) (b : Bool) => typed_c (G := G) (o := o) hG t hok hsz b
 have hex := fun (o : List UInt8) (b : Bool) => expr_c (G := G) (o := o) hG hG1 t hok hsz b
 have hstm := (stmts_c (G := G) hG hG1 t hok).1
 have hfun := fun (o : List UInt8) (b : Bool) (h : o.length + 7000000 * Qu t <= 140737470000000) => fun_c (G := G) (o := o) (bad := b) hG hG1 t hok hsz h
 have hpne := prT_ne t
 obtain ⟨k, n, m, ks⟩ := t
 unfold Zo
 have hse : Qu (.mk k n m ks) = 1 + QT ks := by rw [Qu]
 have hok2 := hok
 rw [okN] at hok2
 have hl1 := WC ks
 have hl : ks.length <= 1048576 := by omega
 have hn : -9223372036854775808 <= n /\ n <= 9223372036854775807 := hok2.1.2.1
 have hnl := Zb hok2.1.2.1
 rw [prOk, prT] at *
 rw [QW] at htyp hex hfun ⊢
 by_cases k27 : k = 27
 ·subst k27
  have hfs : ∀ x ∈ ks, ∀ (o : List UInt8) (b : Bool), o.length + 7000000 * Qu x <= 140737470000000 -> PM Tryz.prog G 45 (fun p g => [.ptr p g 0, .agg (Enc.enc x)]) o b (.tup []) (o ++ funT x) (b || !ZF x) := fun x hx o b h => fun_c (G := G) (o := o) (bad := b) hG hG1 x (Wj hok2.2 hx) (by have := QY hx;omega) h
  have hfl := funs_len ks hok2.2 (by omega)
  clear htyp hex hstm hfun
  refine Qa Tryz.func18 rfl Tryz.ntmps18 rfl (t := [(0, .agg [.i _, .i n, .i m, QR ks])]) rfl fun E hE => ?_
  (repeat' first|(refine Qe ?_;(first|refine QG rfl ?_|refine QJ rfl ?_|(refine Qz ?_;(first|refine WF rfl rfl ?_|refine Qb rfl rfl rfl ?_))|(refine Qo ?_;(first|refine QS rfl rfl ?_|refine qD rfl rfl ?_))|(refine Qq ?_;(first|refine Zg 1 2 (Zl _ _ _ _ _ (by assumption)) rfl rfl rfl rfl rfl rfl ?_|refine Zg 1 2 (Zu hG _ (by assumption)) rfl rfl rfl rfl rfl rfl ?_|refine s_pm 1 2 (line_c 0 _ (by omega) (by first|assumption|omega|(simp only [List.length_append, Wk, List.length_cons, List.length_nil];omega))) rfl rfl rfl rfl rfl rfl (fun _ => rfl) (fun _ _ => ?_)|refine Qt rfl ?_))|(refine g_box ?_;(first|refine s_box_bld rfl (fun _ _ _ _ => ?_)|refine QU rfl rfl (fun _ _ => ?_)))|refine Qd rfl rfl ?_|refine QQ rfl rfl ?_))|(refine Qk ?_;(first|refine Qi ?_|refine QN rfl ?_))|(refine Qj ?_;(first|refine Qn ?_|refine Qc ?_|refine Qf ?_|refine Qh rfl ?_)))
  rename_i gn hgn gp gb hgp hgb gb2 hgb2
  generalize hhd : [] ++ qm 0 ([112, 114, 111, 103, 114, 97, 109, 32] ++ Lib.itoa n) = hd at *
  have hhl : hd.length <= 1000 := by rw [<- hhd];simp only [List.length_append, List.length_nil, List.length_cons, Wk];omega
  have hhd2 : qm 0 ([112, 114, 111, 103, 114, 97, 109, 32] ++ Lib.itoa n) = hd := by rw [<- hhd];simp
  generalize hb0 : (false || !Q0 m ks.length (-1) || !WT n) = b0 at *
  refine r_loop2 (fun (j : Nat) (g : Nat) => ⟨[(1, .ptr 0 gn 0), (2, WQ []), (3, .ptr 1 gp 0), (26, QR ks), (27, .i ks.length), (28, .i j)], [.row gn [.i 27, .i n, .i m, QR ks], pRow 1 2 gp g (hd ++ ((ks.take j).map funT).flatten).length (b0 || !(ks.take j).all ZF), .row g (Ws (hd ++ ((ks.take j).map funT).flatten))]⟩) (fun j g => j <= ks.length /\ (g = gb2 \/ E.N < g)) (fun j _ => ks.length - j) 0 gb2 ?_ (by omega) ?_
  ·rw [show (b0 || !(ks.take 0).all ZF) = b0 by simp, show hd ++ ((ks.take 0).map funT).flatten = hd by simp]
   exact zal rfl
  intro j g hj
  have hsl := Wm ks j
  have hfl2 := funs_len (ks.take j) (okL_take hok2.2 j) (by omega)
  by_cases hjl : j < ks.length
  ·have hsm := QY (List.getElem_mem hjl)
   have hst1 := qJ ks j hjl
   have hst2 := Wm ks (j + 1)
   have hsx := hfs _ (List.getElem_mem hjl) (hd ++ ((ks.take j).map funT).flatten) (b0 || !(ks.take j).all ZF) (by rw [List.length_append];omega)
   have e1 : hd ++ ((ks.take (j + 1)).map funT).flatten = (hd ++ ((ks.take j).map funT).flatten) ++ funT ks[j] := by rw [flatten_take _ hjl, List.append_assoc]
   have e2 : (b0 || !(ks.take (j + 1)).all ZF) = ((b0 || !(ks.take j).all ZF) || !ZF ks[j]) := by rw [List.take_succ_eq_append_getElem hjl, List.all_append];cases b0 <;> simp
   clear hfs
   (repeat' first|(refine Qe ?_;(first|refine QG rfl ?_|(refine Qz ?_;(first|refine WF rfl rfl ?_|refine QD rfl ?_))|refine Qv rfl rfl (by first|assumption|omega|(simp;done)|(simp;omega)) ?_|(refine Qo ?_;(first|refine Q1 rfl rfl ?_|refine W3 rfl rfl (by omega) ?_))|refine s_pm 1 2 (hsx) rfl rfl rfl rfl rfl rfl (fun _ => rfl) (fun _ _ => ?_)|refine WR rfl rfl rfl rfl ?_|refine QC (fun _ _ => ?_)))|(refine Qk ?_;(first|refine Qi ?_|refine QN rfl ?_|refine Q5 ?_))|(refine Qj ?_;(first|refine Qn ?_|refine Qc ?_|refine Qf ?_|refine Qx ?_|refine Qp rfl (by omega) ?_)))
   rename_i g' hg'
   refine ⟨j + 1, g', ⟨by omega, by omega⟩, by omega, ?_⟩
   rw [e1, e2]
   exact zal rfl
  ·have hje : j = ks.length := by omega
   subst hje
   rw [List.take_length] at *
   (repeat' first|(refine Qe ?_;(first|refine QG rfl ?_|refine Qb rfl rfl rfl ?_|refine Q1 rfl rfl ?_|refine Qd rfl rfl ?_|refine QA rfl rfl ?_))|(refine Qk ?_;(first|refine Qi ?_|refine QN rfl ?_))|(refine Qj ?_;(first|refine Qn ?_|refine Qc ?_|refine Qm rfl (by omega) ?_|refine WI rfl ?_)))
   refine r_cond rfl (fun hb => ?_) (fun hb => ?_)
   ·have hb2 : (Q0 m ks.length (-1) && WT n && ks.all ZF) = false := by rw [<- hb0] at hb;revert hb;cases Q0 m ks.length (-1) <;> cases WT n <;> simp
    (repeat' first|refine QJ rfl ?_|(refine Qk ?_;(first|refine Qi ?_|refine QN rfl ?_))|(refine Qj ?_;(first|refine Qn ?_|refine Qc ?_|refine Qs ?_)))
    refine e_1 Tryz.results18 (Qg rfl) (Qw ?_)
    rw [if_pos rfl, hb2];rfl
   ·have hb2 : (Q0 m ks.length (-1) && WT n && ks.all ZF) = true := by rw [<- hb0] at hb;revert hb;cases Q0 m ks.length (-1) <;> cases WT n <;> simp
    have hne : hd ++ (ks.map funT).flatten ≠ [] := by rw [<- hhd];simp [qm]
    have hlim : (hd ++ (ks.map funT).flatten).length <= 9223372036854775807 := by rw [List.length_append];omega
    (repeat' first|(refine Qe ?_;(first|refine QG rfl ?_|refine QJ rfl ?_|refine s_call_str (k0 := 1) (k1 := 2) rfl rfl rfl rfl hne hlim rfl ?_|refine Qd rfl rfl ?_|refine QA rfl rfl ?_))|(refine Qk ?_;(first|refine Qi ?_|refine QN rfl ?_))|(refine Qj ?_;(first|refine Qn ?_|refine Qc ?_|refine Qx ?_|refine Qs ?_)))
    refine e_1 Tryz.results18 (Qg rfl) (Qw ?_)
    rw [if_pos rfl, if_pos rfl, hhd2, if_pos hb2]
 by_cases k26 : k = 26
 ·subst k26
  have hlx := funT_len _ hok hsz
  refine Qa Tryz.func18 rfl Tryz.ntmps18 rfl (t := [(0, .agg [.i _, .i n, .i m, QR ks])]) rfl fun E hE => ?_
  (repeat' first|(refine Qe ?_;(first|refine QG rfl ?_|refine QJ rfl ?_|(refine Qz ?_;(first|refine WF rfl rfl ?_|refine Qb rfl rfl rfl ?_))|refine QS rfl rfl ?_|refine s_pm 1 2 (hfun _ _ (by first|assumption|omega|(simp only [List.length_append, Wk, List.length_cons, List.length_nil];omega))) rfl rfl rfl rfl rfl rfl (fun _ => rfl) (fun _ _ => ?_)|(refine g_box ?_;(first|refine s_box_bld rfl (fun _ _ _ _ => ?_)|refine QU rfl rfl (fun _ _ => ?_)))|refine Qd rfl rfl ?_|refine QQ rfl rfl ?_|refine QA rfl rfl ?_))|(refine Qk ?_;(first|refine Qi ?_|refine QN rfl ?_))|(refine Qj ?_;(first|refine Qn ?_|refine Qc ?_|refine Qf ?_|refine Qh rfl ?_|refine Ql rfl ?_)))
  refine r_cond rfl (fun hb => ?_) (fun hb => ?_)
  ·have hb2 : ZF (.mk 26 n m ks) = false := by simpa using hb
   (repeat' first|refine QJ rfl ?_|(refine Qk ?_;(first|refine Qi ?_|refine QN rfl ?_))|(refine Qj ?_;(first|refine Qn ?_|refine Qc ?_|refine Qs ?_)))
   refine e_1 Tryz.results18 (Qg rfl) (Qw ?_)
   simp [hb2, *]
  ·have hb2 : ZF (.mk 26 n m ks) = true := by simpa using hb
   have hne : ([] ++ funT (.mk 26 n m ks)) ≠ [] := by have := hpne (by simp [hb2, *]);simpa [*] using this
   have hlim : (([] ++ funT (.mk 26 n m ks))).length <= 9223372036854775807 := by have hll := hlx;simp only [List.length_append, List.length_nil, List.length_cons, Wk];omega
   (repeat' first|(refine Qe ?_;(first|refine QG rfl ?_|refine QJ rfl ?_|refine s_call_str (k0 := 1) (k1 := 2) rfl rfl rfl rfl hne hlim rfl ?_|refine Qd rfl rfl ?_|refine QA rfl rfl ?_))|(refine Qk ?_;(first|refine Qi ?_|refine QN rfl ?_))|(refine Qj ?_;(first|refine Qn ?_|refine Qc ?_|refine Qx ?_|refine Qs ?_)))
   refine e_1 Tryz.results18 (Qg rfl) (Qw ?_)
   simp [hb2, *]
 by_cases kt : 0 <= k /\ k <= 3
 ·obtain ⟨kt0, kt3⟩ := kt
  have hlx := typT_len _ hok
  refine Qa Tryz.func18 rfl Tryz.ntmps18 rfl (t := [(0, .agg [.i k, .i n, .i m, QR ks])]) rfl fun E hE => ?_
  (repeat' first|(refine Qe ?_;(first|refine QG rfl ?_|refine QJ rfl ?_|refine Qb rfl rfl rfl ?_|(refine Qo ?_;(first|refine Zp rfl rfl ?_|refine W0 rfl rfl ?_|refine QS rfl rfl ?_))|(refine Qq ?_;(first|refine Zg 1 2 (htyp _ _) rfl rfl rfl rfl rfl rfl ?_|refine s_pm 1 2 (write_c _ (by first|assumption|omega|(simp only [List.length_append, List.length_cons, List.length_nil];omega))) rfl rfl rfl rfl rfl rfl (fun _ => rfl) (fun _ _ => ?_)))|refine WO rfl rfl ?_|(refine g_box ?_;(first|refine s_box_bld rfl (fun _ _ _ _ => ?_)|refine QU rfl rfl (fun _ _ => ?_)))|refine Qd rfl rfl ?_|refine QQ rfl rfl ?_|refine QA rfl rfl ?_))|(refine Qk ?_;(first|refine Qi ?_|refine QN rfl ?_|refine WD rfl rfl rfl rfl ?_|refine We rfl rfl (by omega) ?_))|(refine Qj ?_;(first|refine Qn ?_|refine Qc ?_|refine Qf ?_|(refine Wg ?_;first|(refine QB (pfx4 _ _) 100 [(0, true), (1, true), (2, true), (3, true), (4, true), (5, false), (6, false)] (by rfl) (by rfl) (by kernel_rfl) (by decide +kernel) (by decide +kernel) ⟨(_, _, _, _), rfl⟩ ?_)|refine Q3 (by rfl) (by kernel_rfl) (by kernel_rfl) ?_|refine Q2 (by kernel_rfl) (by kernel_rfl) ?_)|refine Qp rfl (by omega) ?_|refine Qm rfl (by omega) ?_))|(refine Ze ?_;(first|refine Z1 ?_|refine i_st rfl rfl (fun _ => (by (repeat' first|(refine Qe ?_;(first|refine QG rfl ?_|refine WF rfl rfl ?_|refine Qd rfl rfl ?_|refine QA rfl rfl ?_))|exact ⟨rfl, rfl⟩))) ?_|refine i_ef rfl ?_))|refine And.intro (Exists.intro ((_, _, _, _)) rfl) ?_)
  refine r_cond rfl (fun hb => ?_) (fun hb => ?_)
  ·have hb2 : ZJ (.mk k n m ks) = false := by simpa using hb
   (repeat' first|refine QJ rfl ?_|(refine Qk ?_;(first|refine Qi ?_|refine QN rfl ?_))|(refine Qj ?_;(first|refine Qn ?_|refine Qc ?_|refine Qs ?_)))
   refine e_1 Tryz.results18 (Qg rfl) (Qw ?_)
   simp [hb2, *]
  ·have hb2 : ZJ (.mk k n m ks) = true := by simpa using hb
   have hne : ([] ++ qw (.mk k n m ks)) ≠ [] := by have := hpne (by simp [hb2, *]);simpa [*] using this
   have hlim : (([] ++ qw (.mk k n m ks))).length <= 9223372036854775807 := by have hll := hlx;simp only [List.length_append, List.length_nil, List.length_cons, Wk];omega
   (repeat' first|(refine Qe ?_;(first|refine QG rfl ?_|refine QJ rfl ?_|refine s_call_str (k0 := 1) (k1 := 2) rfl rfl rfl rfl hne hlim rfl ?_|refine Qd rfl rfl ?_|refine QA rfl rfl ?_))|(refine Qk ?_;(first|refine Qi ?_|refine QN rfl ?_))|(refine Qj ?_;(first|refine Qn ?_|refine Qc ?_|refine Qx ?_|refine Qs ?_)))
   refine e_1 Tryz.results18 (Qg rfl) (Qw ?_)
   simp [hb2, *]
 by_cases ke : 4 <= k /\ k <= 12
 ·obtain ⟨ke0, ke3⟩ := ke
  have hlx := qY _ hok
  refine Qa Tryz.func18 rfl Tryz.ntmps18 rfl (t := [(0, .agg [.i k, .i n, .i m, QR ks])]) rfl fun E hE => ?_
  (repeat' first|(refine Qe ?_;(first|refine QG rfl ?_|refine QJ rfl ?_|refine Qb rfl rfl rfl ?_|(refine Qo ?_;(first|refine Zp rfl rfl ?_|refine W0 rfl rfl ?_|refine QS rfl rfl ?_))|(refine Qq ?_;(first|refine Zg 1 2 (hex _ _) rfl rfl rfl rfl rfl rfl ?_|refine s_pm 1 2 (write_c _ (by first|assumption|omega|(simp only [List.length_append, List.length_cons, List.length_nil];omega))) rfl rfl rfl rfl rfl rfl (fun _ => rfl) (fun _ _ => ?_)))|refine WO rfl rfl ?_|(refine g_box ?_;(first|refine s_box_bld rfl (fun _ _ _ _ => ?_)|refine QU rfl rfl (fun _ _ => ?_)))|refine Qd rfl rfl ?_|refine QQ rfl rfl ?_|refine QA rfl rfl ?_))|(refine Qk ?_;(first|refine Qi ?_|refine QN rfl ?_|refine WD rfl rfl rfl rfl ?_|refine We rfl rfl (by omega) ?_))|(refine Qj ?_;(first|refine Qn ?_|refine Qc ?_|refine Qf ?_|(refine Wg ?_;first|(refine QB (pfx4 _ _) 100 [(0, true), (1, true), (2, true), (3, true), (4, true), (5, false), (6, false)] (by rfl) (by rfl) (by kernel_rfl) (by decide +kernel) (by decide +kernel) ⟨(_, _, _, _), rfl⟩ ?_)|refine Q3 (by rfl) (by kernel_rfl) (by kernel_rfl) ?_|refine Q2 (by kernel_rfl) (by kernel_rfl) ?_)|refine Qp rfl (by omega) ?_|refine Qm rfl (by omega) ?_))|(refine Ze ?_;(first|refine Z1 ?_|refine i_st rfl rfl (fun _ => (by (repeat' first|(refine Qe ?_;(first|refine QG rfl ?_|refine WF rfl rfl ?_|refine Qd rfl rfl ?_|refine QA rfl rfl ?_))|exact ⟨rfl, rfl⟩))) ?_|refine i_ef rfl ?_))|refine And.intro (Exists.intro ((_, _, _, _)) rfl) ?_)
  refine r_cond rfl (fun hb => ?_) (fun hb => ?_)
  ·have hb2 : Zn (.mk k n m ks) = false := by simpa using hb
   (repeat' first|refine QJ rfl ?_|(refine Qk ?_;(first|refine Qi ?_|refine QN rfl ?_))|(refine Qj ?_;(first|refine Qn ?_|refine Qc ?_|refine Qs ?_)))
   refine e_1 Tryz.results18 (Qg rfl) (Qw ?_)
   simp [hb2, *]
  ·have hb2 : Zn (.mk k n m ks) = true := by simpa using hb
   have hne : ([] ++ exT (.mk k n m ks)) ≠ [] := by have := hpne (by simp [hb2, *]);simpa [*] using this
   have hlim : (([] ++ exT (.mk k n m ks))).length <= 9223372036854775807 := by have hll := hlx;simp only [List.length_append, List.length_nil, List.length_cons, Wk];omega
   (repeat' first|(refine Qe ?_;(first|refine QG rfl ?_|refine QJ rfl ?_|refine s_call_str (k0 := 1) (k1 := 2) rfl rfl rfl rfl hne hlim rfl ?_|refine Qd rfl rfl ?_|refine QA rfl rfl ?_))|(refine Qk ?_;(first|refine Qi ?_|refine QN rfl ?_))|(refine Qj ?_;(first|refine Qn ?_|refine Qc ?_|refine Qx ?_|refine Qs ?_)))
   refine e_1 Tryz.results18 (Qg rfl) (Qw ?_)
   simp [hb2, *]
 ·have hlx := (st_lenX hok (i := 0) (by omega)).1
  have hst0 : ∀ (o : List UInt8) (b : Bool), o.length + 7000000 * Qu (.mk k n m ks) <= 140737470000000 -> PM Tryz.prog G 49 (fun p g => [.ptr p g 0, .i 0, .agg [.i k, .i n, .i m, QR ks]]) o b (.tup []) (o ++ stT (.mk k n m ks) 0) (b || !qg (.mk k n m ks)) := fun o b h => by
   have := hstm 0 o b (by omega) h
   rwa [QW] at this
  clear hstm
  by_cases kn : 0 <= k
  ·have k13 : 13 <= k := by omega
   have k3n : ¬ k <= 3 := by omega
   have k12n : ¬ k <= 12 := by omega
   refine Qa Tryz.func18 rfl Tryz.ntmps18 rfl (t := [(0, .agg [.i k, .i n, .i m, QR ks])]) rfl fun E hE => ?_
   (repeat' first|(refine Qe ?_;(first|refine QG rfl ?_|refine QJ rfl ?_|(refine Qz ?_;(first|refine WF rfl rfl ?_|refine Qb rfl rfl rfl ?_))|(refine Qo ?_;(first|refine Zp rfl rfl ?_|refine W0 rfl rfl ?_|refine QS rfl rfl ?_))|refine s_pm 1 2 (hst0 _ _ (by first|assumption|omega|(simp only [List.length_append, Wk, List.length_cons, List.length_nil];omega))) rfl rfl rfl rfl rfl rfl (fun _ => rfl) (fun _ _ => ?_)|refine WO rfl rfl ?_|(refine g_box ?_;(first|refine s_box_bld rfl (fun _ _ _ _ => ?_)|refine QU rfl rfl (fun _ _ => ?_)))|refine Qd rfl rfl ?_|refine QQ rfl rfl ?_|refine QA rfl rfl ?_))|(refine Qk ?_;(first|refine Qi ?_|refine QN rfl ?_|refine WD rfl rfl rfl rfl ?_|refine We rfl rfl (by omega) ?_))|(refine Qj ?_;(first|refine Qn ?_|refine Qc ?_|refine Qf ?_|refine Qm rfl (by omega) ?_)))
   refine r_cond rfl (fun hb => ?_) (fun hb => ?_)
   ·have hb2 : qg (.mk k n m ks) = false := by simpa using hb
    (repeat' first|refine QJ rfl ?_|(refine Qk ?_;(first|refine Qi ?_|refine QN rfl ?_))|(refine Qj ?_;(first|refine Qn ?_|refine Qc ?_|refine Qs ?_)))
    refine e_1 Tryz.results18 (Qg rfl) (Qw ?_)
    simp [hb2, *]
   ·have hb2 : qg (.mk k n m ks) = true := by simpa using hb
    have hne : ([] ++ stT (.mk k n m ks) 0) ≠ [] := by have := hpne (by simp [hb2, *]);simpa [*] using this
    have hlim : (([] ++ stT (.mk k n m ks) 0)).length <= 9223372036854775807 := by have hll := hlx;simp only [List.length_append, List.length_nil, List.length_cons, Wk];omega
    (repeat' first|(refine Qe ?_;(first|refine QG rfl ?_|refine QJ rfl ?_|refine s_call_str (k0 := 1) (k1 := 2) rfl rfl rfl rfl hne hlim rfl ?_|refine Qd rfl rfl ?_|refine QA rfl rfl ?_))|(refine Qk ?_;(first|refine Qi ?_|refine QN rfl ?_))|(refine Qj ?_;(first|refine Qn ?_|refine Qc ?_|refine Qx ?_|refine Qs ?_)))
    refine e_1 Tryz.results18 (Qg rfl) (Qw ?_)
    simp [hb2, *]
  ·refine Qa Tryz.func18 rfl Tryz.ntmps18 rfl (t := [(0, .agg [.i k, .i n, .i m, QR ks])]) rfl fun E hE => ?_
   (repeat' first|(refine Qe ?_;(first|refine QG rfl ?_|refine QJ rfl ?_|(refine Qz ?_;(first|refine WF rfl rfl ?_|refine Qb rfl rfl rfl ?_))|(refine Qo ?_;(first|refine W0 rfl rfl ?_|refine QS rfl rfl ?_))|refine s_pm 1 2 (hst0 _ _ (by first|assumption|omega|(simp only [List.length_append, Wk, List.length_cons, List.length_nil];omega))) rfl rfl rfl rfl rfl rfl (fun _ => rfl) (fun _ _ => ?_)|refine Wr rfl rfl ?_|(refine g_box ?_;(first|refine s_box_bld rfl (fun _ _ _ _ => ?_)|refine QU rfl rfl (fun _ _ => ?_)))|refine Qd rfl rfl ?_|refine QQ rfl rfl ?_|refine QA rfl rfl ?_))|(refine Qk ?_;(first|refine Qi ?_|refine QN rfl ?_|refine W2 rfl rfl rfl rfl ?_|refine Q6 rfl rfl (by omega) ?_))|(refine Qj ?_;(first|refine Qn ?_|refine Qc ?_|refine Qf ?_|refine Ql rfl ?_|refine Qm rfl (by omega) ?_)))
   refine r_cond rfl (fun hb => ?_) (fun hb => ?_)
   ·have hb2 : qg (.mk k n m ks) = false := by simpa using hb
    (repeat' first|refine QJ rfl ?_|(refine Qk ?_;(first|refine Qi ?_|refine QN rfl ?_))|(refine Qj ?_;(first|refine Qn ?_|refine Qc ?_|refine Qs ?_)))
    refine e_1 Tryz.results18 (Qg rfl) (Qw ?_)
    simp [hb2, *]
   ·have hb2 : qg (.mk k n m ks) = true := by simpa using hb
    have hne : ([] ++ stT (.mk k n m ks) 0) ≠ [] := by have := hpne (by simp [hb2, *]);simpa [*] using this
    have hlim : (([] ++ stT (.mk k n m ks) 0)).length <= 9223372036854775807 := by have hll := hlx;simp only [List.length_append, List.length_nil, List.length_cons, Wk];omega
    (repeat' first|(refine Qe ?_;(first|refine QG rfl ?_|refine QJ rfl ?_|refine s_call_str (k0 := 1) (k1 := 2) rfl rfl rfl rfl hne hlim rfl ?_|refine Qd rfl rfl ?_|refine QA rfl rfl ?_))|(refine Qk ?_;(first|refine Qi ?_|refine QN rfl ?_))|(refine Qj ?_;(first|refine Qn ?_|refine Qc ?_|refine Qx ?_|refine Qs ?_)))
    refine e_1 Tryz.results18 (Qg rfl) (Qw ?_)
    simp [hb2, *]
def befP (ks : List Nd) : Nat := (ks.map fun x => nlC (Zo x)).sum
theorem befP_take {ks : List Nd} {i : Nat} (h : i < ks.length) : befP (ks.take (i + 1)) = befP (ks.take i) + nlC (Zo ks[i]) := by
 unfold befP
 rw [List.take_succ_eq_append_getElem h, List.map_append, List.sum_append];simp
theorem befP_le : ∀ (ks : List Nd), okL ks -> QT ks <= 1000000 -> befP ks <= 7000000 * QT ks
 | [], _, _ => by simp [befP]
 | x :: r, h, hs => by
  rw [okL] at h
  rw [QT] at hs ⊢
  have h1 := print_len x h.1 (by omega)
  have h2 := nl_le (Zo x)
  have h3 := befP_le r h.2 (by omega)
  have : befP (x :: r) = nlC (Zo x) + befP r := by unfold befP;rw [List.map_cons, List.sum_cons]
  rw [this, Nat.mul_add];omega
def stepL (k : Int) (ks : List Nd) (a : Int) : Int :=
 if k = 27 \/ k = 13 then 1 + (befP (ks.take a.toNat) : Nat) else if (k = 17 /\ a = 2) \/ (k = 21 /\ a = 1) then (nlC (Zo (ks.getD (a - 1).toNat (.mk 0 0 0 []))) : Nat) - 1 else 0
def qF : List Int -> Nd -> Int -> Int
 | [], _, at_ => at_
 | a :: p, .mk k n m ks, at_ => qF p (ks.getD a.toNat (.mk 0 0 0 [])) (at_ + stepL k ks a)
def kindN : Nd -> Int
 | .mk k _ _ _ => k
def lineM (t : Nd) (path : List Int) : Int := if atM path t = none \/ kindN t ≠ 27 \/ Zo t = [] then 0 else qF path t 1
theorem okL_at {ks : List Nd} (h : okL ks) {i : Nat} (hi : i < ks.length) : okN ks[i] := Wj h (List.getElem_mem hi)
theorem step_bound {k : Int} {n m : Int} {ks : List Nd} {a : Int} (hok : okN (.mk k n m ks)) (hs : Qu (.mk k n m ks) <= 1000000) (h0 : 0 <= a) (h1 : a.toNat < ks.length) :
  -1 <= stepL k ks a /\ stepL k ks a + 8000000 * (Qu ks[a.toNat] : Int) <= 8000000 * (Qu (.mk k n m ks) : Int) := by
 rw [okN] at hok
 rw [Qu] at hs ⊢
 have hsm := QY (List.getElem_mem h1)
 unfold stepL
 split
 ·have hb := befP_le (ks.take a.toNat) (okL_take hok.2 _) (by have := Wm ks a.toNat;omega)
  have ht := qJ ks a.toNat h1
  have hl := Wm ks (a.toNat + 1)
  omega
 ·split
  ·rename_i hc
   have h3 : (a - 1).toNat < ks.length := by omega
   have e : ks.getD (a - 1).toNat (.mk 0 0 0 []) = ks[(a - 1).toNat] := by rw [List.getD_eq_getElem?_getD, List.getElem?_eq_getElem h3];rfl
   rw [e]
   have hp := print_len _ (okL_at hok.2 h3) (by have := QY (List.getElem_mem h3);omega)
   have hn := nl_le (Zo ks[(a - 1).toNat])
   have ht := qJ ks (a - 1).toNat h3
   have e2 : a.toNat = (a - 1).toNat + 1 := by omega
   have h4 : (a - 1).toNat + 1 < ks.length := by omega
   have ht2 := qJ ks ((a - 1).toNat + 1) h4
   have hl := Wm ks ((a - 1).toNat + 1 + 1)
   have hx : Qu ks[a.toNat] = Qu ks[(a - 1).toNat + 1] := by simp only [e2]
   omega
  ·omega
theorem before_c (hG : G 6 = pow10T) (hG1 : G 1 = spaceT) (k n m : Int) (ks : List Nd) (hok : okL ks) (hs : QT ks <= 1000000) (a : Int) (h0 : 0 <= a) (h1 : a.toNat < ks.length) (at_ : Int) (ha1 : -5000000000000000000 <= at_) (ha2 : at_ <= 9000000000000) (c5 : List DV) (g2 g5 g7 g9 B : Nat) :
  ACalls Tryz.prog G B 68 [.ptr 0 g2 0, .ptr 3 g9 0, .ptr 2 g7 0] [.row g2 [.i k, .i n, .i m, QR ks], .row g5 c5, .row g7 [.i at_], .row g9 [.i a]] (fun d τ => d = .tup [] /\ τ = [.row g2 [.i k, .i n, .i m, QR ks], .row g5 c5, .row g7 [.i (at_ + (befP (ks.take a.toNat) : Nat))], .row g9 [.i a]]) := by
 have hln := WC ks
 refine Qa Tryz.func68 rfl Tryz.ntmps68 rfl (t := [(0, .ptr 0 g2 0), (1, .ptr 3 g9 0), (2, .ptr 2 g7 0)]) rfl fun E hE => ?_
 (repeat' first|(refine Qe ?_;(first|refine QG rfl ?_|refine Qb rfl rfl rfl ?_|refine Qt rfl ?_|refine Qd rfl rfl ?_|refine s_slice_h rfl rfl (by omega) (by omega) ?_))|(refine Qk ?_;(first|refine Qi ?_|refine QN rfl ?_))|(refine Qj ?_;(first|refine Qn ?_|refine Qc ?_|refine Qf ?_)))
 have hsub : ∀ (i : Nat) (h : i < (ks.take a.toNat).length), Go.Av.Pure Tryz.prog G 18 [.agg (Enc.enc (ks.take a.toNat)[i])] (WQ (Zo (ks.take a.toNat)[i])) /\ Go.Av.Pure Tryz.prog G 69 [WQ (Zo (ks.take a.toNat)[i])] (.i (nlC (Zo (ks.take a.toNat)[i]))) := fun i h => by
  have hm : (ks.take a.toNat)[i] ∈ ks := List.mem_of_mem_take (List.getElem_mem h)
  have hsz := QY hm
  have hle := print_len _ (Wj hok hm) (by omega)
  exact ⟨print_c hG hG1 _ (Wj hok hm) (by omega), lines_c _ (print_asc _) (by omega)⟩
 have hbl := befP_le (ks.take a.toNat) (okL_take hok _) (by have := Wm ks a.toNat;omega)
 have hsl := Wm ks a.toNat
 have hbm : ∀ i, befP ((ks.take a.toNat).take i) <= 7000000000000 := fun i => by
  have h2 := befP_le ((ks.take a.toNat).take i) (okL_take (okL_take hok _) _) (by have := Wm (ks.take a.toNat) i;omega)
  have := Wm (ks.take a.toNat) i;omega
 have hll2 : (ks.take a.toNat).length <= 1000000 := by rw [List.length_take];omega
 generalize hll : ks.take a.toNat = l at *
 refine qb (fun (i : Nat) => ⟨[(2, .ptr 2 g7 0), (8, QR l), (9, .i l.length), (10, .i i)], [.row g2 [.i k, .i n, .i m, QR ks], .row g5 c5, .row g7 [.i (at_ + (befP (l.take i) : Nat))], .row g9 [.i a]]⟩) (fun i => i <= l.length) (fun i => l.length - i) 0 ?_ (by omega) ?_
 ·rw [show at_ + ((befP (l.take 0) : Nat) : Int) = at_ by simp [befP]]
  exact zal rfl
 intro i hi
 have hb0 := hbm i
 by_cases hil : i < l.length
 ·obtain ⟨hp1, hl1⟩ := hsub i hil
  have hst := befP_take hil
  have hb1 := hbm (i + 1)
  have e : at_ + ((befP (l.take (i + 1)) : Nat) : Int) = at_ + ((befP (l.take i) : Nat) : Int) + ((nlC (Zo l[i]) : Nat) : Int) := by rw [hst];omega
  clear hsub hbm
  (repeat' first|(refine Qe ?_;(first|refine QG rfl ?_|refine QD rfl ?_|refine Qv rfl rfl (by first|assumption|omega|(simp;done)|(simp;omega)) ?_|(refine Qo ?_;(first|refine Q1 rfl rfl ?_|refine W3 rfl rfl (by omega) ?_))|(refine Wl ?_;(first|refine WR rfl rfl rfl rfl ?_|refine Q7 rfl rfl rfl rfl (by rfl) (by rfl) (by rfl) ?_))|refine QC (fun _ _ => ?_)))|(refine Qk ?_;(first|refine Qi ?_|refine QN rfl ?_|refine Q5 ?_))|(refine Qj ?_;(first|refine Qn ?_|refine Qc ?_|refine Qf ?_|(refine Wg ?_;first|refine Q3 (by rfl) (by kernel_rfl) (by kernel_rfl) ?_|refine Q2 (by kernel_rfl) (by kernel_rfl) ?_)|refine Qx ?_|refine Qp rfl (by omega) ?_))|(refine Zw ?_;(first|refine x_op rfl (by (repeat' first|(refine Qe ?_;(first|(refine Qz ?_;(first|refine WF rfl rfl ?_|refine Qb rfl rfl rfl ?_))|refine W3 rfl rfl (by omega) ?_|(refine Qq ?_;(first|refine QZ rfl rfl (hp1) ?_|refine QZ rfl rfl (hl1) ?_))))|exact ⟨rfl, rfl⟩)) ?_|refine Zr ?_)))
  refine ⟨i + 1, by omega, by omega, ?_⟩
  rw [e]
  exact zal rfl
 ·have hie : i = l.length := by omega
  subst hie
  rw [List.take_length]
  clear hsub hbm
  (repeat' first|refine Q1 rfl rfl ?_|(refine Qk ?_;(first|refine Qi ?_|refine QN rfl ?_))|(refine Qj ?_;(first|refine Qn ?_|refine Qc ?_|refine Qm rfl (by omega) ?_|refine WI rfl ?_)))
  exact e_0 (Tryz.results68) (Zc (σ := [_, _, _, _]) ⟨rfl, rfl⟩)
theorem line_c1 (hG : G 6 = pow10T) (hG1 : G 1 = spaceT) (t : Nd) (hok : okN t) (hs : Qu t <= 1000000) (path : List Int) (hpl : path.length <= 4611686018427387904) : Go.Av.Pure Tryz.prog G 26 [.agg (Enc.enc t), QR path] (.i (lineM t path)) := fun B => by
 have hat := trAt_c (G := G) t hs path hpl
 have hpt := print_c hG hG1 t hok hs
 unfold lineM
 cases ha : atM path t with
 | none =>
  rw [ha] at hat
  have hat : Go.Av.Pure Tryz.prog G 67 [.agg (Enc.enc t), QR path] (.tup [.agg (Enc.enc (Nd.mk 0 0 0 [])), .b false]) := hat
  rw [if_pos (by simp)]
  refine Qa Tryz.func26 rfl Tryz.ntmps26 rfl (t := [(0, .agg (Enc.enc t)), (1, QR path)]) rfl fun E hE => ?_
  (repeat' first|(refine Qe ?_;(first|refine QG rfl ?_|refine QJ rfl ?_|refine WF rfl rfl ?_|refine W4 rfl rfl hat (Wv (Q8 (Wp (Enc.clo _)) (Q8 Wf WL))) ?_|refine WO rfl rfl ?_|refine WR rfl rfl rfl rfl ?_|refine Wn rfl ?_|refine QI rfl rfl rfl ?_|refine QC (fun _ _ => ?_)|refine QU rfl rfl (fun _ _ => ?_)))|(refine Qk ?_;(first|refine Qi ?_|refine QN rfl ?_|refine Q5 ?_|refine W2 rfl rfl rfl rfl ?_))|(refine Qj ?_;(first|refine Qn ?_|refine Qc ?_|refine Qh rfl ?_|refine Qs ?_)))
  all_goals exact e_1 (Tryz.results26) (Qg rfl) (Qw rfl)
 | some x =>
 rw [ha] at hat
 have hat : Go.Av.Pure Tryz.prog G 67 [.agg (Enc.enc t), QR path] (.tup [.agg (Enc.enc x), .b true]) := hat
 obtain ⟨k, n, m, ks⟩ := t
 rw [QW k n m ks] at hat hpt ⊢
 by_cases hk : k = 27
 case neg =>
  rw [if_pos (by simp [kindN, hk])]
  refine Qa Tryz.func26 rfl Tryz.ntmps26 rfl (t := [(0, .agg [.i k, .i n, .i m, QR ks]), (1, QR path)]) rfl fun E hE => ?_
  (repeat' first|(refine Qe ?_;(first|refine QG rfl ?_|refine QJ rfl ?_|(refine Qz ?_;(first|refine WF rfl rfl ?_|refine Qb rfl rfl rfl ?_))|refine ZN rfl rfl ?_|refine W4 rfl rfl hat (Wv (Q8 (Wp (Enc.clo _)) (Q8 Wf WL))) ?_|(refine Q4 ?_;(first|refine WO rfl rfl ?_|refine Wr rfl rfl ?_))|refine WR rfl rfl rfl rfl ?_|refine Wn rfl ?_|refine Qd rfl rfl ?_|refine QI rfl rfl rfl ?_|refine QC (fun _ _ => ?_)|refine QU rfl rfl (fun _ _ => ?_)))|(refine Qk ?_;(first|refine Qi ?_|refine QN rfl ?_|refine Q5 ?_|refine WD rfl rfl rfl rfl ?_|refine W2 rfl rfl rfl rfl ?_|refine We rfl rfl (by omega) ?_))|(refine Qj ?_;(first|refine Qn ?_|refine Qc ?_|refine Qh rfl ?_|refine Qs ?_)))
  all_goals exact e_1 (Tryz.results26) (Qg rfl) (Qw rfl)
 by_cases hp0 : Zo (.mk k n m ks) = []
 ·have hd : decide (Zo (.mk k n m ks) = []) = true := decide_eq_true hp0
  rw [if_pos (by simp [hp0])]
  refine Qa Tryz.func26 rfl Tryz.ntmps26 rfl (t := [(0, .agg [.i k, .i n, .i m, QR ks]), (1, QR path)]) rfl fun E hE => ?_
  (repeat' first|(refine Qe ?_;(first|refine QG rfl ?_|refine QJ rfl ?_|(refine Qz ?_;(first|refine WF rfl rfl ?_|refine Qb rfl rfl rfl ?_))|(refine Qo ?_;(first|refine WN rfl rfl ?_|refine ZN rfl rfl ?_))|(refine Qq ?_;(first|refine W4 rfl rfl hat (Wv (Q8 (Wp (Enc.clo _)) (Q8 Wf WL))) ?_|refine QZ rfl rfl (hpt) ?_))|refine Wr rfl rfl ?_|refine WR rfl rfl rfl rfl ?_|refine Wn rfl ?_|refine Qd rfl rfl ?_|refine QI rfl rfl rfl ?_|refine QC (fun _ _ => ?_)|refine QU rfl rfl (fun _ _ => ?_)))|(refine Qk ?_;(first|refine Qi ?_|refine QN rfl ?_|refine Q5 ?_|refine WD rfl rfl rfl rfl ?_|refine Q6 rfl rfl (by omega) ?_))|(refine Qj ?_;(first|refine Qn ?_|refine Qc ?_|refine Qp rfl (by omega) ?_|refine Qs ?_)))
  all_goals exact e_1 (Tryz.results26) (Qg rfl) (Qw rfl)
 have hd : decide (Zo (.mk k n m ks) = []) = false := decide_eq_false hp0
 subst hk
 rw [if_neg (by simp [kindN, hp0])]
 refine Qa Tryz.func26 rfl Tryz.ntmps26 rfl (t := [(0, .agg [.i 27, .i n, .i m, QR ks]), (1, QR path)]) rfl fun E hE => ?_
 (repeat' first|(refine Qe ?_;(first|refine QG rfl ?_|refine QJ rfl ?_|(refine Qz ?_;(first|refine WF rfl rfl ?_|refine Qb rfl rfl rfl ?_))|(refine Qo ?_;(first|refine WN rfl rfl ?_|refine ZN rfl rfl ?_))|(refine Qq ?_;(first|refine W4 rfl rfl hat (Wv (Q8 (Wp (Enc.clo _)) (Q8 Wf WL))) ?_|refine QZ rfl rfl (hpt) ?_|refine Qt rfl ?_))|refine Wr rfl rfl ?_|(refine Wl ?_;(first|refine WR rfl rfl rfl rfl ?_|refine Q7 rfl rfl rfl rfl (by rfl) (by rfl) (by rfl) ?_))|refine Wn rfl ?_|refine Qd rfl rfl ?_|refine QI rfl rfl rfl ?_|refine QC (fun _ _ => ?_)|refine QU rfl rfl (fun _ _ => ?_)))|(refine Qk ?_;(first|refine Qi ?_|refine QN rfl ?_|refine Q5 ?_|refine WD rfl rfl rfl rfl ?_))|(refine Qj ?_;(first|refine Qn ?_|refine Qc ?_|refine Qf ?_|refine Qx ?_|refine Qm rfl (by omega) ?_)))
 rename_i g2 hg2 g5 hg5 g7 hg7
 clear hpt hat
 rw [<- QW 27 n m ks]
 generalize hT : Nd.mk 27 n m ks = t at *
 generalize (Enc.enc x : List DV) = c5 at *
 refine r_loop3 (fun (j : Nat) (cur : Nd) (at_ : Int) => ⟨[(2, .ptr 0 g2 0), (7, .ptr 2 g7 0), (29, QR path), (30, .i path.length), (31, .i j)], [.row g2 (Enc.enc cur), .row g5 c5, .row g7 [.i at_]]⟩) (fun j cur at_ => j <= path.length /\ atM path t = atM (path.drop j) cur /\ qF path t 1 = qF (path.drop j) cur at_ /\ okN cur /\ Qu cur <= 1000000 /\ -(j : Int) <= at_ /\ at_ + 8000000 * (Qu cur : Int) <= 1 + 8000000 * (Qu t : Int)) (fun j _ _ => path.length - j) 0 t 1 ?_ ⟨by omega, by simp, by simp, hok, hs, by omega, by omega⟩ ?_
 ·exact zal rfl
 intro j cur at_ ⟨hj, he, hgo, hco, hcs, hlo, hhi⟩
 clear hT hok n m ks
 obtain ⟨k, n, m, ks⟩ := cur
 have hpos := Wh (.mk k n m ks)
 have hse : Qu (.mk k n m ks) = 1 + QT ks := by rw [Qu]
 have hln := WC ks
 rw [QW]
 by_cases hjl : j < path.length
 case neg =>
  have hje : j = path.length := by omega
  subst hje
  rw [List.drop_length, qF] at hgo
  rw [hgo]
  (repeat' first|(refine Qe ?_;(first|refine QJ rfl ?_|refine Qb rfl rfl rfl ?_|refine Q1 rfl rfl ?_))|(refine Qk ?_;(first|refine Qi ?_|refine QN rfl ?_))|(refine Qj ?_;(first|refine Qn ?_|refine Qc ?_|refine Qm rfl (by omega) ?_|refine WI rfl ?_|refine Qs ?_)))
  all_goals exact e_1 (Tryz.results26) (Qg rfl) (Qw rfl)
 rw [List.drop_eq_getElem_cons hjl] at he hgo
 have hc : 0 <= path[j] /\ path[j].toNat < ks.length := by
  rcases Classical.em (0 <= path[j] /\ path[j].toNat < ks.length) with h|h
  ·exact h
  ·rw [atM_none (by omega), ha] at he;cases he
 rw [atM_cons hc.1 hc.2] at he
 have hgd : ks.getD path[j].toNat (.mk 0 0 0 []) = ks[path[j].toNat] := by rw [List.getD_eq_getElem?_getD, List.getElem?_eq_getElem hc.2];rfl
 rw [qF, hgd] at hgo
 have hsb := step_bound hco hcs hc.1 hc.2
 have hco2 := hco
 rw [okN] at hco2
 have hsm := QY (List.getElem_mem hc.2)
 have hcN : okN ks[path[j].toNat] := okL_at hco2.2 hc.2
 obtain ⟨hc0, hc1⟩ := hc
 unfold stepL at hgo hsb
 by_cases hk1 : k = 27 \/ k = 13
 ·rw [if_pos hk1] at hgo hsb
  have hbef := fun (g2 g5 g9 g7 : Nat) => before_c (G := G) hG hG1 k n m ks hco2.2 (by omega) path[j] hc0 hc1 (at_ + 1) (by omega) (by omega) c5 g2 g5 g7 g9 E.N
  have e3 : at_ + (1 + ((befP (ks.take path[j].toNat) : Nat) : Int)) = at_ + 1 + ((befP (ks.take path[j].toNat) : Nat) : Int) := by omega
  rw [e3] at hgo
  rcases hk1 with hk1|hk1
  all_goals
   (repeat' first|(refine Qe ?_;(first|refine QG rfl ?_|refine QJ rfl ?_|(refine Qz ?_;(first|refine QM rfl ?_|refine QD rfl ?_|refine Qb rfl rfl rfl ?_))|(refine W6 ?_;(first|refine Qv rfl rfl (by first|assumption|omega|(simp;done)|(simp;omega)) ?_|refine qh rfl rfl (by omega) (by first|assumption|omega|(simp;done)|(simp;omega)) ?_))|(refine Qo ?_;(first|refine Q1 rfl rfl ?_|refine QS rfl rfl ?_|refine W3 rfl rfl (by omega) ?_))|refine qv rfl rfl (hbef _ _ _ _) ?_|(refine Wl ?_;(first|refine WR rfl rfl rfl rfl ?_|refine Q7 rfl rfl rfl rfl (by rfl) (by rfl) (by rfl) ?_))|refine Qd rfl rfl ?_|refine QV rfl rfl ?_|refine QC (fun _ _ => ?_)))|(refine Qk ?_;(first|refine Qi ?_|refine QN rfl ?_|refine Q5 ?_))|(refine Qj ?_;(first|refine Qn ?_|refine Qc ?_|refine Qf ?_|refine Qx ?_|refine Qp rfl (by omega) ?_|refine Qm rfl (by omega) ?_)))
   refine ⟨j + 1, ks[path[j].toNat], _, ⟨by omega, he, hgo, hcN, by omega, by omega, by omega⟩, by omega, ?_⟩
   exact zal rfl
 rw [if_neg hk1] at hgo hsb
 have hbef : True := trivial
 by_cases hk2 : (k = 17 /\ path[j] = 2) \/ (k = 21 /\ path[j] = 1)
 ·rw [if_pos hk2] at hgo hsb
  have h3 : (path[j] - 1).toNat < ks.length := by omega
  have h30 : 0 <= path[j] - 1 := by omega
  have e4 : ks.getD (path[j] - 1).toNat (.mk 0 0 0 []) = ks[(path[j] - 1).toNat] := by rw [List.getD_eq_getElem?_getD, List.getElem?_eq_getElem h3];rfl
  rw [e4] at hgo hsb
  have hsz3 := QY (List.getElem_mem h3)
  have hpl3 := print_len _ (okL_at hco2.2 h3) (by omega)
  have hnl3 := nl_le (Zo ks[(path[j] - 1).toNat])
  have hp1 := print_c (G := G) hG hG1 _ (okL_at hco2.2 h3) (by omega)
  have hl1 := lines_c (G := G) (Zo ks[(path[j] - 1).toNat]) (print_asc _) (by omega)
  rcases hk2 with hk2|hk2
  all_goals
   (repeat' first|(refine Qe ?_;(first|refine QG rfl ?_|refine QJ rfl ?_|(refine Qz ?_;(first|refine QM rfl ?_|refine QD rfl ?_|refine Qb rfl rfl rfl ?_))|(refine W6 ?_;(first|refine Qv rfl rfl (by first|assumption|omega|(simp;done)|(simp;omega)) ?_|refine qh rfl rfl (by omega) (by first|assumption|omega|(simp;done)|(simp;omega)) ?_))|(refine Qo ?_;(first|refine Q1 rfl rfl ?_|refine QS rfl rfl ?_|refine W3 rfl rfl (by omega) ?_))|(refine Q4 ?_;(first|refine WO rfl rfl ?_|refine Wr rfl rfl ?_))|(refine Wl ?_;(first|refine WR rfl rfl rfl rfl ?_|refine Q7 rfl rfl rfl rfl (by rfl) (by rfl) (by rfl) ?_))|refine Qd rfl rfl ?_|refine QV rfl rfl ?_|refine QC (fun _ _ => ?_)))|(refine Qk ?_;(first|refine Qi ?_|refine QN rfl ?_|refine Q5 ?_|refine WD rfl rfl rfl rfl ?_|refine W2 rfl rfl rfl rfl ?_|refine We rfl rfl (by omega) ?_|refine Q6 rfl rfl (by omega) ?_))|(refine Qj ?_;(first|refine Qn ?_|refine Qc ?_|refine Qf ?_|(refine Wg ?_;first|refine Q3 (by rfl) (by kernel_rfl) (by kernel_rfl) ?_|refine Q2 (by kernel_rfl) (by kernel_rfl) ?_)|refine Qx ?_|refine Ql rfl ?_|refine Qp rfl (by omega) ?_|refine Qm rfl (by omega) ?_))|(refine Zw ?_;(first|refine x_op rfl (by (repeat' first|(refine Qe ?_;(first|(refine Qz ?_;(first|refine QD rfl ?_|refine Qb rfl rfl rfl ?_))|refine qh rfl rfl (by omega) (by first|assumption|omega|(simp;done)|(simp;omega)) ?_|(refine Qo ?_;(first|refine W3 rfl rfl (by omega) ?_|refine Zz rfl rfl (by omega) ?_))|(refine Qq ?_;(first|refine QZ rfl rfl (hp1) ?_|refine QZ rfl rfl (hl1) ?_))|refine Qd rfl rfl ?_))|exact ⟨rfl, rfl⟩)) ?_|refine Zr ?_)))
   refine ⟨j + 1, ks[path[j].toNat], _, ⟨by omega, he, hgo, hcN, by omega, by omega, by omega⟩, by omega, ?_⟩
   exact zal rfl
 ·rw [if_neg hk2] at hgo hsb
  rw [Int.add_zero] at hgo
  (repeat' first|(refine Qe ?_;(first|refine QG rfl ?_|refine QJ rfl ?_|(refine Qz ?_;(first|refine QM rfl ?_|refine QD rfl ?_|refine Qb rfl rfl rfl ?_))|(refine W6 ?_;(first|refine Qv rfl rfl (by first|assumption|omega|(simp;done)|(simp;omega)) ?_|refine qh rfl rfl (by omega) (by first|assumption|omega|(simp;done)|(simp;omega)) ?_))|(refine Qo ?_;(first|refine Q1 rfl rfl ?_|refine QS rfl rfl ?_|refine W3 rfl rfl (by omega) ?_))|(refine Q4 ?_;(first|refine WO rfl rfl ?_|refine Wr rfl rfl ?_))|(refine Wl ?_;(first|refine WR rfl rfl rfl rfl ?_|refine Q7 rfl rfl rfl rfl (by rfl) (by rfl) (by rfl) ?_))|refine Qd rfl rfl ?_|refine QV rfl rfl ?_|refine QC (fun _ _ => ?_)))|(refine Qk ?_;(first|refine Qi ?_|refine QN rfl ?_|refine Q5 ?_|refine WD rfl rfl rfl rfl ?_|refine W2 rfl rfl rfl rfl ?_|refine Q6 rfl rfl (by omega) ?_|refine q8 rfl rfl (fun _ => ?_) (fun _ => ?_)))|(refine Qj ?_;(first|refine Qn ?_|refine Qc ?_|refine Qf ?_|refine Qx ?_|refine Ql rfl ?_|refine Qp rfl (by omega) ?_|refine Qm rfl (by omega) ?_)))
  all_goals
   refine ⟨j + 1, ks[path[j].toNat], _, ⟨by omega, he, hgo, hcN, by omega, by omega, by omega⟩, by omega, ?_⟩
   exact zal rfl
end Go.Proofs
end
section
namespace Go.Proofs
open Go.Av Go.Bl
theorem qO {s : List UInt8} (h : Li s) (i : Nat) : nlC (qm i s) = 1 := (qp h i).2
theorem nl_stsW (i : Nat) : ∀ ks : List Nd, nlC (stTs ks i) = (ks.map fun x => nlC (stT x 0)).sum
 | [] => by rw [stTs];rfl
 | x :: r => by
  rw [stTs, qE, nl_stsW i r, List.map_cons, List.sum_cons, ((st_asc x i).1).2]
theorem stsL_lenW : ∀ ks : List Nd, (stsL ks).length = (ks.map fun x => (stL x).length).sum
 | [] => rfl
 | x :: r => by rw [stsL, List.length_append, stsL_lenW r, List.map_cons, List.sum_cons]
theorem getD_inW {ks : List Nd} {j : Nat} (h : (inOks ks).getD j false = true) : ∃ hj : j < ks.length, inOk ks[j] = true /\ (inTs ks 0).getD j [] = inT ks[j] 0 /\ (insL ks).getD j [] = inL ks[j] := by
 rw [ZE, List.getD_eq_getElem?_getD, List.getElem?_map] at h
 rcases Nat.lt_or_ge j ks.length with hj|hj
 ·rw [List.getElem?_eq_getElem hj] at h
  refine ⟨hj, h, ?_, ?_⟩
  ·rw [inTs_eq, List.getD_eq_getElem?_getD, List.getElem?_map, List.getElem?_eq_getElem hj];rfl
  ·rw [insL_eq, List.getD_eq_getElem?_getD, List.getElem?_map, List.getElem?_eq_getElem hj];rfl
 ·rw [List.getElem?_eq_none hj] at h;cases h
theorem st_count (t : Nd) : (qg t = true -> nlC (stT t 0) = (stL t).length) /\ (inOk t = true -> nlC (inT t 0) = (inL t).length /\ nlC (stT t 0) = (inL t).length + 2) := by
 induction t using Nd.ind with
 | h k n m ks ih =>
 have hsum : stOks ks = true -> (ks.map fun x => nlC (stT x 0)).sum = (ks.map fun x => (stL x).length).sum := fun h => by
  rw [stOks_eq, List.all_eq_true] at h
  congr 1
  exact List.map_congr_left fun x hx => (ih x hx).1 (h x hx)
 have hex := li_exs ks
 have hie : Li (sIf ++ (ks.map exT).getD 0 [] ++ sBr) := ZA (ZA (Za (by decide)) (li_getD hex 0)) (Za (by decide))
 have hwe : Li (sWhile ++ (ks.map exT).getD 0 [] ++ sBr) := ZA (ZA (Za (by decide)) (li_getD hex 0)) (Za (by decide))
 have hce : Li (sCatch ++ Lib.itoa n ++ sBr) := ZA (ZA (Za (by decide)) (li_itoa n)) (Za (by decide))
 have lo := qO (s := sOpen) (Za (by decide)) 0
 have lc := qO (s := sClose) (Za (by decide)) 0
 have le := qO (s := sElse) (Za (by decide)) 0
 have lt := qO (s := sTry) (Za (by decide)) 0
 have l1 := qO hie 0
 have l2 := qO hwe 0
 have l3 := qO hce 0
 have l4 := qO (li_sim (.mk k n m ks)) 0
 refine ⟨fun h => ?_, fun h => ?_⟩
 ·rw [qg] at h
  rw [stT, stL]
  by_cases k13 : k = 13
  ·rw [if_pos k13] at h ⊢
   rw [if_pos k13]
   simp only [Bool.and_eq_true] at h
   rw [if_pos h.1, qE, qE, lo, lc, nl_stsW, hsum h.2, List.length_cons, List.length_append, ind_len, stsL_lenW]
   simp;omega
  rw [if_neg k13] at h ⊢
  rw [if_neg k13]
  by_cases k17 : k = 17
  ·rw [if_pos k17] at h ⊢
   simp only [Bool.and_eq_true] at h
   rw [if_pos ⟨k17, h.1.1.1⟩]
   obtain ⟨j1, a1, a2, a3⟩ := getD_inW h.1.2
   obtain ⟨j2, b1, b2, b3⟩ := getD_inW h.2
   have c1 := ((ih _ (List.getElem_mem j1)).2 a1).1
   have c2 := ((ih _ (List.getElem_mem j2)).2 b1).1
   simp only [qE]
   rw [a2, a3, b2, b3, l1, le, lc, c1, c2]
   simp;omega
  rw [if_neg k17] at h ⊢
  rw [if_neg (by omega)]
  by_cases k18 : k = 18
  ·rw [if_pos k18] at h ⊢
   simp only [Bool.and_eq_true] at h
   rw [if_pos ⟨k18, h.1.1⟩]
   obtain ⟨j1, a1, a2, a3⟩ := getD_inW h.2
   have c1 := ((ih _ (List.getElem_mem j1)).2 a1).1
   simp only [qE]
   rw [a2, a3, l2, lc, c1]
   simp;omega
  rw [if_neg k18] at h ⊢
  rw [if_neg (by omega)]
  by_cases k21 : k = 21
  ·rw [if_pos k21] at h ⊢
   simp only [Bool.and_eq_true] at h
   rw [if_pos ⟨k21, h.1.1.1⟩]
   obtain ⟨j1, a1, a2, a3⟩ := getD_inW h.1.2
   obtain ⟨j2, b1, b2, b3⟩ := getD_inW h.2
   have c1 := ((ih _ (List.getElem_mem j1)).2 a1).1
   have c2 := ((ih _ (List.getElem_mem j2)).2 b1).1
   simp only [qE]
   rw [a2, a3, b2, b3, lt, l3, lc, c1, c2]
   simp;omega
  rw [if_neg k21]
  rw [if_neg (by omega), l4];rfl
 ·rw [inOk] at h
  simp only [Bool.and_eq_true, decide_eq_true_eq] at h
  have e1 : nlC (inT (.mk k n m ks) 0) = (inL (.mk k n m ks)).length := by
   rw [inT, decide_eq_true h.1.1, h.1.2, Bool.and_self, if_pos rfl, nl_stsW, hsum h.2, inL, ind_len, stsL_lenW]
  refine ⟨e1, ?_⟩
  rw [stT, if_pos h.1.1, if_pos h.1.2, qE, qE, lo, lc, nl_stsW, hsum h.2, inL, ind_len, stsL_lenW]
  omega
theorem st_kind {t : Nd} (h : qg t = true) : 13 <= kindN t /\ kindN t <= 25 := by
 obtain ⟨k, n, m, ks⟩ := t
 exact stOk_kind k n m ks h
theorem print_stW {t : Nd} (h : qg t = true) : nlC (Zo t) = (stL t).length := by
 have hk := st_kind h
 rw [<- (st_count t).1 h]
 obtain ⟨k, n, m, ks⟩ := t
 have hk : 13 <= k /\ k <= 25 := hk
 have h1 : ¬ k = 27 := by omega
 have h2 : ¬ k = 26 := by omega
 have h3 : ¬ (0 <= k /\ k <= 3) := by omega
 have h4 : ¬ (4 <= k /\ k <= 12) := by omega
 unfold Zo
 rw [prOk, prT]
 simp only [h1, h2, h3, h4, if_false, h, if_true]
theorem in_st {t : Nd} (h : inOk t = true) : qg t = true := by
 obtain ⟨k, n, m, ks⟩ := t
 have h' := h
 rw [inOk] at h'
 simp only [Bool.and_eq_true, decide_eq_true_eq] at h'
 rw [<- inOk_of h'.1.1];exact h
theorem print_inW {t : Nd} (h : inOk t = true) : nlC (Zo t) = (inLo t).length + 2 := by
 have h1 := print_stW (in_st h)
 have h2 := (st_count t).1 (in_st h)
 have h3 := ((st_count t).2 h).2
 unfold inLo
 rw [if_pos h];omega
theorem print_funW {t : Nd} (h : ZF t = true) : nlC (Zo t) = (funL t).length := by
 obtain ⟨k, n, m, ks⟩ := t
 have hf2 := h
 rw [ZF] at hf2
 simp only [Bool.and_eq_true, decide_eq_true_eq] at hf2
 obtain ⟨⟨⟨⟨⟨a1, a2⟩, a3⟩, a4⟩, a5⟩, a6⟩ := hf2
 have h1 : ¬ k = 27 := by omega
 have hpr : Zo (.mk k n m ks) = funT (.mk k n m ks) := by
  unfold Zo
  rw [prOk, prT]
  simp only [h1, a1, if_false, if_true]
  rw [a1] at h
  rw [if_pos (by simpa using h)]
  simp
 have hc : Li (WJ ((ks.take (ks.length - 1)).map qw)) := li_commas _ fun x hx => by obtain ⟨y, _, rfl⟩ := List.mem_map.1 hx;exact li_typ y
 have hi := ((st_count _).2 a6).1
 rw [hpr, funT, decide_eq_true a1, decide_eq_true a2, a3, Bool.and_self, Bool.and_self, if_pos rfl, qE, qE, qO (ZA (ZA (ZA (ZA (Za (by decide)) (li_itoa n)) (Za (by decide))) hc) (Za (by decide))), qO (Za (by decide)), hi, funL]
 unfold lastN
 simp;omega
inductive Deep : Nd -> Prop
 | mk {k n m : Int} {ks : List Nd} : (k = 27 -> ∀ x ∈ ks, ZF x = true) -> (k = 13 -> ∀ x ∈ ks, qg x = true) -> (k = 17 -> ks.length = 3 /\ inOk (ks.getD 1 (.mk 0 0 0 [])) = true) -> (k = 21 -> ks.length = 2 /\ inOk (ks.getD 0 (.mk 0 0 0 [])) = true) -> (∀ x ∈ ks, Deep x) -> Deep (.mk k n m ks)
theorem deep_typ (t : Nd) : ZJ t = true -> Deep t := by
 induction t using Nd.ind with
 | h k n m ks ih =>
 intro h
 have hk := typOk_kind k n m ks h
 refine .mk (fun e => by omega) (fun e => by omega) (fun e => by omega) (fun e => by omega) fun x hx => ?_
 rw [ZJ] at h
 by_cases h3 : k = 3
 ·rw [if_neg (by omega), if_neg (by omega), if_pos h3] at h
  simp only [Bool.and_eq_true] at h
  have := h.2
  rw [typOks_eq, List.all_eq_true] at this
  exact ih x hx (this x hx)
 ·exfalso
  have h0 : ks.length = 0 := by
   by_cases h1 : k = 0 \/ k = 1
   ·rw [if_pos h1] at h
    simp only [Wz, Q0, Bool.and_eq_true, Bool.or_eq_true, decide_eq_true_eq] at h;omega
   ·rw [if_neg h1, if_pos (by omega)] at h
    simp only [Wz, Q0, Bool.and_eq_true, Bool.or_eq_true, decide_eq_true_eq] at h;omega
  rw [List.length_eq_zero_iff.1 h0] at hx
  cases hx
theorem deep_ex (t : Nd) : Zn t = true -> Deep t := by
 induction t using Nd.ind with
 | h k n m ks ih =>
 intro h
 have hk := exOk_kind k n m ks h
 refine .mk (fun e => by omega) (fun e => by omega) (fun e => by omega) (fun e => by omega) fun x hx => ?_
 have key : exOks ks = true \/ ks.length = 0 := by
  rw [Zn] at h
  repeat' split at h
  all_goals first|(cases h;done)|(simp [Q0, Wz] at h ⊢;first|(left;exact h.2)|(right;omega)|(right;simpa using h.1.2)|(right;simpa using h.1.1)|skip)
 rcases key with h1|h0
 ·rw [WY, List.all_eq_true] at h1
  exact ih x hx (h1 x hx)
 ·rw [List.length_eq_zero_iff.1 h0] at hx
  cases hx
theorem deep_st (t : Nd) : qg t = true -> Deep t := by
 induction t using Nd.ind with
 | h k n m ks ih =>
 intro h
 have hk := stOk_kind k n m ks h
 have hin : ∀ x ∈ ks, inOk x = true -> Deep x := fun x hx h => ih x hx (in_st h)
 rw [qg] at h
 by_cases k13 : k = 13
 ·rw [if_pos k13] at h
  simp only [Bool.and_eq_true] at h
  have h2 := h.2
  rw [stOks_eq, List.all_eq_true] at h2
  exact .mk (fun e => by omega) (fun e => h2) (fun e => by omega) (fun e => by omega) fun x hx => ih x hx (h2 x hx)
 rw [if_neg k13] at h
 by_cases k17 : k = 17
 ·rw [if_pos k17] at h
  simp only [Bool.and_eq_true] at h
  obtain ⟨⟨⟨q1, q2⟩, q3⟩, q4⟩ := h
  have hl : ks.length = 3 := by simp only [Wz, Q0, Bool.and_eq_true, Bool.or_eq_true, decide_eq_true_eq] at q1;omega
  match ks, hl, q2, q3, q4, hin with
  | [a, b, c], _, q2, q3, q4, hin =>
  have q2 : Zn a = true := q2
  have q3 : inOk b = true := by rw [ZE] at q3;exact q3
  have q4 : inOk c = true := by rw [ZE] at q4;exact q4
  refine .mk (fun e => by omega) (fun e => by omega) (fun e => ⟨rfl, q3⟩) (fun e => by omega) fun x hx => ?_
  simp only [List.mem_cons, List.not_mem_nil, or_false] at hx
  rcases hx with rfl|rfl|rfl
  ·exact deep_ex _ q2
  ·exact hin _ (by simp) q3
  ·exact hin _ (by simp) q4
 rw [if_neg k17] at h
 by_cases k18 : k = 18
 ·rw [if_pos k18] at h
  simp only [Bool.and_eq_true] at h
  obtain ⟨⟨q1, q2⟩, q3⟩ := h
  have hl : ks.length = 2 := by simp only [Wz, Q0, Bool.and_eq_true, Bool.or_eq_true, decide_eq_true_eq] at q1;omega
  match ks, hl, q2, q3, hin with
  | [a, b], _, q2, q3, hin =>
  have q2 : Zn a = true := q2
  have q3 : inOk b = true := by rw [ZE] at q3;exact q3
  refine .mk (fun e => by omega) (fun e => by omega) (fun e => by omega) (fun e => by omega) fun x hx => ?_
  simp only [List.mem_cons, List.not_mem_nil, or_false] at hx
  rcases hx with rfl|rfl
  ·exact deep_ex _ q2
  ·exact hin _ (by simp) q3
 rw [if_neg k18] at h
 by_cases k21 : k = 21
 ·rw [if_pos k21] at h
  simp only [Bool.and_eq_true] at h
  obtain ⟨⟨⟨q1, q2⟩, q3⟩, q4⟩ := h
  have hl : ks.length = 2 := by simp only [Q0, Bool.and_eq_true, Bool.or_eq_true, decide_eq_true_eq] at q1;omega
  match ks, hl, q3, q4, hin with
  | [a, b], _, q3, q4, hin =>
  have q3 : inOk a = true := by rw [ZE] at q3;exact q3
  have q4 : inOk b = true := by rw [ZE] at q4;exact q4
  refine .mk (fun e => by omega) (fun e => by omega) (fun e => by omega) (fun e => ⟨rfl, q3⟩) fun x hx => ?_
  simp only [List.mem_cons, List.not_mem_nil, or_false] at hx
  rcases hx with rfl|rfl
  ·exact hin _ (by simp) q3
  ·exact hin _ (by simp) q4
 rw [if_neg k21] at h
 refine .mk (fun e => by omega) (fun e => by omega) (fun e => by omega) (fun e => by omega) fun x hx => ?_
 have key : ks.all Zn = true \/ ks.length = 0 := by
  rw [Zt] at h
  repeat' split at h
  all_goals first|(cases h;done)|(right;simp only [Wz, Q0, Bool.and_eq_true, Bool.or_eq_true, decide_eq_true_eq] at h;omega)|(left;simp only [Bool.and_eq_true] at h;exact h.2)
 rcases key with h1|h0
 ·rw [List.all_eq_true] at h1
  exact deep_ex x (h1 x hx)
 ·rw [List.length_eq_zero_iff.1 h0] at hx
  cases hx
theorem deep_fun (t : Nd) (h : ZF t = true) : Deep t := by
 obtain ⟨k, n, m, ks⟩ := t
 rw [ZF] at h
 simp only [Bool.and_eq_true, decide_eq_true_eq] at h
 obtain ⟨⟨⟨⟨⟨a1, a2⟩, a3⟩, a4⟩, a5⟩, a6⟩ := h
 refine .mk (fun e => by omega) (fun e => by omega) (fun e => by omega) (fun e => by omega) fun x hx => ?_
 obtain ⟨i, hi, rfl⟩ := List.getElem_of_mem hx
 by_cases hl : i = ks.length - 1
 ·subst hl
  rw [List.getD_eq_getElem?_getD, List.getElem?_eq_getElem hi] at a6
  exact deep_st _ (in_st a6)
 ·rw [List.all_eq_true] at a5
  refine deep_typ _ (a5 _ ?_)
  have : (ks.take (ks.length - 1))[i]'(by rw [List.length_take];omega) = ks[i] := List.getElem_take
  rw [<- this]
  exact List.getElem_mem _
theorem deep_pr {n m : Int} {ks : List Nd} (h : prOk (.mk 27 n m ks) = true) : Deep (.mk 27 n m ks) := by
 rw [prOk, if_pos rfl] at h
 simp only [Bool.and_eq_true] at h
 have h2 := h.2
 rw [List.all_eq_true] at h2
 exact .mk (fun _ => h2) (fun e => by omega) (fun e => by omega) (fun e => by omega) fun x hx => deep_fun x (h2 x hx)
theorem Deep.inv {k n m : Int} {ks : List Nd} (h : Deep (.mk k n m ks)) : (k = 27 -> ∀ x ∈ ks, ZF x = true) /\ (k = 13 -> ∀ x ∈ ks, qg x = true) /\ (k = 17 -> ks.length = 3 /\ inOk (ks.getD 1 (.mk 0 0 0 [])) = true) /\ (k = 21 -> ks.length = 2 /\ inOk (ks.getD 0 (.mk 0 0 0 [])) = true) /\ ∀ x ∈ ks, Deep x := by
 cases h with|mk h1 h2 h3 h4 h5 => exact ⟨h1, h2, h3, h4, h5⟩
end Go.Proofs
end
section
namespace Go.Proofs
open Go.Av
variable {G : Nat -> DV}
attribute [local irreducible] OpSem Zd Zx ZL ACalls qt AClose RV
open Go.Bl
mutual
def Zi : Nd -> List (List Int)
 | .mk _ _ _ ks => [] :: qk 0 ks
def qk : Nat -> List Nd -> List (List Int)
 | _, [] => []
 | i, x :: r => (Zi x).map (fun p => (i : Int) :: p) ++ qk (i + 1) r
end
theorem pathsN_eq (k n m : Int) (ks : List Nd) : Zi (.mk k n m ks) = [] :: qk 0 ks := by rw [Zi]
theorem pathsL_snoc (x : Nd) : ∀ (i : Nat) (a : List Nd), qk i (a ++ [x]) = qk i a ++ (Zi x).map fun p => ((i + a.length : Nat) : Int) :: p
 | i, [] => by simp [qk]
 | i, y :: r => by
  rw [List.cons_append, qk, qk, pathsL_snoc x (i + 1) r, List.append_assoc, show i + 1 + r.length = i + (y :: r).length by simp;omega]
theorem pathsL_take {ks : List Nd} {i : Nat} (h : i < ks.length) : qk 0 (ks.take (i + 1)) = qk 0 (ks.take i) ++ (Zi ks[i]).map fun p => (i : Int) :: p := by
 rw [List.take_succ_eq_append_getElem h, pathsL_snoc, List.length_take, Nat.min_eq_left (by omega), Nat.zero_add]
mutual
theorem pathsN_len : ∀ t : Nd, (Zi t).length = Qu t
 | .mk k n m ks => by
  have := pathsL_len 0 ks
  rw [pathsN_eq, Qu, List.length_cons];omega
theorem pathsL_len : ∀ (i : Nat) (ts : List Nd), (qk i ts).length = QT ts
 | _, [] => rfl
 | i, x :: r => by
  have := pathsN_len x
  have := pathsL_len (i + 1) r
  rw [qk, QT, List.length_append, List.length_map];omega
end
theorem mem_pathsL {p : List Int} : ∀ {i : Nat} {ks : List Nd}, p ∈ qk i ks -> ∃ (j : Nat) (h : j < ks.length) (q : List Int), p = ((i + j : Nat) : Int) :: q /\ q ∈ Zi ks[j]
 | i, [], h => by rw [qk] at h;cases h
 | i, x :: r, h => by
  rw [qk, List.mem_append, List.mem_map] at h
  rcases h with ⟨q, hq, rfl⟩|h
  ·exact ⟨0, by simp, q, rfl, hq⟩
  ·obtain ⟨j, hj, q, rfl, hq⟩ := mem_pathsL h
   exact ⟨j + 1, by simpa using hj, q, by rw [show i + (j + 1) = i + 1 + j by omega], hq⟩
theorem paths_lens : ∀ (t : Nd), ∀ p ∈ Zi t, p.length < Qu t := fun t => by
 induction t using Nd.ind with
 | h k n m ks ih =>
 intro p hp
 rw [pathsN_eq] at hp
 rw [Qu]
 rcases List.mem_cons.1 hp with rfl|hp
 ·show 0 < 1 + QT ks;omega
 ·obtain ⟨j, hj, q, rfl, hq⟩ := mem_pathsL hp
  have h1 := ih _ (List.getElem_mem hj) q hq
  have h2 := QY (List.getElem_mem hj)
  rw [List.length_cons];omega
theorem paths_c (t : Nd) : Qu t <= 100000 -> Own Tryz.prog G 12 [.agg (Enc.enc t)] (Zi t).length 1 (Ws (Zi t)) := by
 induction t using Nd.ind with
 | h k n m ks ih =>
 intro hsz B
 have hse : Qu (.mk k n m ks) = 1 + QT ks := by rw [Qu]
 rw [hse] at hsz
 have hln := WC ks
 have hi : ∀ x ∈ ks, Go.Av.Pure Tryz.prog G 12 [.agg (Enc.enc x)] (QR (Zi x)) := fun x hx => (ih x hx (by have := QY hx;omega)).read
 clear ih
 rw [pathsN_eq, QW]
 refine Qa Tryz.func12 rfl Tryz.ntmps12 rfl (t := [(0, .agg [.i k, .i n, .i m, QR ks])]) rfl fun E hE => ?_
 (repeat' first|(refine Qe ?_;(first|refine QJ rfl ?_|refine s_bslice_own_sub (cs := [.nil]) (cs' := [QR ([] : List Int)]) rfl rfl (by decide) rfl rfl rfl (sub_cons (.nil _) sub_nil) (fun _ _ => ?_)|refine QU rfl rfl (fun _ _ => ?_)))|(refine Qk ?_;(first|refine Qi ?_|refine QN rfl ?_))|(refine Qj ?_;(first|refine Qn ?_|refine Qc ?_|refine Qf ?_)))
 rename_i g1 hg1 g3 hg3
 refine r_loopg (fun (i : Nat) g => ⟨[(1, .ptr 0 g1 0), (3, .ref 1 g 0 ([] :: qk 0 (ks.take i)).length 1), (4, .i i)], [.row g1 [.i k, .i n, .i m, QR ks], .row g (Ws ([] :: qk 0 (ks.take i)))]⟩) (fun i => i <= ks.length) (fun i => ks.length - i) 0 g3 hg3 ?_ (by omega) ?_
 ·exact zal rfl
 intro i g hi2 hg
 by_cases hil : i < ks.length
 ·have hi1 := hi _ (List.getElem_mem hil)
  have hpl := pathsN_len ks[i]
  have hsm := QY (List.getElem_mem hil)
  have hst := pathsL_take hil
  have hl0 := pathsL_len 0 (ks.take i)
  have hl1 := Wm ks i
  have hlens : ∀ p ∈ Zi ks[i], p.length <= 100000 := fun p hp => by have := paths_lens _ p hp;omega
  have hal : ([] :: qk 0 (ks.take i)).length <= 100001 := by rw [List.length_cons];omega
  have hst2 : ([] :: qk 0 (ks.take (i + 1))) = ([] :: qk 0 (ks.take i)) ++ (Zi ks[i]).map fun p => (i : Int) :: p := by rw [hst];rfl
  have hpl2 : (Zi ks[i]).length <= 100000 := by omega
  clear hi hst hpl hsm hl0 hl1
  generalize ([] :: qk 0 (ks.take i)) = acc at *
  generalize Zi ks[i] = L at *
  (repeat' first|(refine Qe ?_;(first|refine QG rfl ?_|refine QJ rfl ?_|(refine Qz ?_;(first|refine QD rfl ?_|refine Qb rfl rfl rfl ?_))|refine Qv rfl rfl (by first|assumption|omega|(simp;done)|(simp;omega)) ?_|refine Q1 rfl rfl ?_|(refine Qq ?_;(first|refine QZ rfl rfl (hi1) ?_|refine Qt rfl ?_))|refine Qd rfl rfl ?_))|(refine Qk ?_;(first|refine Qi ?_|refine QN rfl ?_))|(refine Qj ?_;(first|refine Qn ?_|refine Qc ?_|refine Qf ?_|refine Qx ?_|refine Qp rfl (by omega) ?_)))
  refine r_loopg (fun (q : Nat) g => ⟨[(1, .ptr 0 g1 0), (3, .ref 1 g 0 (acc ++ (L.take q).map fun p => (i : Int) :: p).length 1), (4, .i i), (5, QR L), (6, .i q)], [.row g1 [.i k, .i n, .i m, QR ks], .row g (Ws (acc ++ (L.take q).map fun p => (i : Int) :: p))]⟩) (fun q => q <= L.length) (fun q => L.length - q) 0 g hg ?_ (by omega) ?_
  ·rw [List.take_zero, List.map_nil, List.append_nil]
   exact zal rfl
  intro q gq hq hgq
  by_cases hql : q < L.length
  ·have hse : acc ++ (L.take (q + 1)).map (fun p => (i : Int) :: p) = (acc ++ (L.take q).map fun p => (i : Int) :: p) ++ [(i : Int) :: L[q]] := by
    rw [List.take_succ_eq_append_getElem hql, List.map_append, List.append_assoc];rfl
   have hlq := hlens _ (List.getElem_mem hql)
   have hcl : (acc ++ (L.take q).map fun p => (i : Int) :: p).length <= 300000 := by rw [List.length_append, List.length_map, List.length_take];omega
   clear hi1 hlens hst2
   generalize (acc ++ (L.take q).map fun p => (i : Int) :: p) = cur at *
   (repeat' first|(refine Qe ?_;(first|refine QG rfl ?_|refine QJ rfl ?_|refine QM rfl ?_|refine Qv rfl rfl (by first|assumption|omega|(simp;done)|(simp;omega)) ?_|(refine Qo ?_;(first|refine Q1 rfl rfl ?_|refine W3 rfl rfl (by omega) ?_))|(refine Qq ?_;(first|refine Qt rfl ?_|refine ZD rfl rfl rfl rfl rfl rfl rfl (by first|omega|(simp;omega)) (by first|omega|(simp;omega)) (fun _ => rfl) (fun _ _ => ?_)|refine s_app_r rfl rfl rfl rfl rfl rfl rfl (by first|omega|(simp;omega)) (by first|omega|(simp;omega)) (fun _ => rfl) (fun _ _ => ?_)))|(refine qd ?_;(first|refine qR (cs := Ws [(_ : Int)]) rfl rfl (by decide) rfl rfl (fun _ _ => ?_)|refine s_bslice_pub rfl rfl (by first|rfl|exact (QX _).symm) rfl ?_|refine W1 rfl rfl (by decide) rfl ?_))))|(refine Qk ?_;(first|refine Qi ?_|refine QN rfl ?_))|(refine Qj ?_;(first|refine Qn ?_|refine Qc ?_|refine Qf ?_|refine Qx ?_|refine Qp rfl (by omega) ?_)))
   rename_i ga hga gb hgb gc hgc
   refine ⟨q + 1, gc, by omega, by omega, by omega, ?_⟩
   rw [hse]
   exact zal rfl
  ·have hq2 : q = L.length := by omega
   subst hq2
   rw [List.take_length]
   rw [<- hst2]
   clear hi1 hlens hst2
   (repeat' first|(refine Qe ?_;(first|refine QG rfl ?_|refine QJ rfl ?_|(refine Qo ?_;(first|refine Q1 rfl rfl ?_|refine W3 rfl rfl (by omega) ?_))|refine Qt rfl ?_))|(refine Qk ?_;(first|refine Qi ?_|refine QN rfl ?_))|(refine Qj ?_;(first|refine Qn ?_|refine Qc ?_|refine Qm rfl (by omega) ?_|refine WI rfl ?_)))
   refine ⟨i + 1, gq, by omega, by omega, by omega, ?_⟩
   exact zal rfl
 ·have hi3 : i = ks.length := by omega
  subst hi3
  rw [List.take_length]
  clear hi
  (repeat' first|(refine Qe ?_;(first|refine QG rfl ?_|refine QJ rfl ?_|refine Qb rfl rfl rfl ?_|refine Q1 rfl rfl ?_|refine Qt rfl ?_|refine Qd rfl rfl ?_))|(refine Qk ?_;(first|refine Qi ?_|refine QN rfl ?_))|(refine Qj ?_;(first|refine Qn ?_|refine Qc ?_|refine Qm rfl (by omega) ?_|refine WI rfl ?_|refine Qs ?_)))
  exact e_1 Tryz.results12 (Qg rfl) (c_ownedB hE rfl rfl rfl rfl)
theorem ZW {ds : List DV} {n : Nat} (h : ds.length = n) : partD ds 0 n = some ds := by
 unfold partD
 rw [List.drop_zero, <- h, List.take_length]
 exact qM _
def subN : List Int -> Nd -> Nd
 | [], t => t
 | i :: p, .mk _ _ _ ks => subN p (ks.getD i.toNat (.mk 0 0 0 []))
theorem r05At_c (p : List Int) : ∀ t : Nd, p ∈ Zi t -> Qu t <= 100000 -> Go.Av.Pure Tryz.prog G 13 [.agg (Enc.enc t), QR p] (.tup [.agg (Enc.enc (subN p t)), .b true]) /\ Qu (subN p t) <= Qu t := by
 induction p with
 | nil =>
  rintro ⟨k, n, m, ks⟩ _ _
  refine ⟨fun B => ?_, Nat.le_refl _⟩
  rw [show subN [] (.mk k n m ks) = .mk k n m ks from rfl, QW]
  refine Qa Tryz.func13 rfl Tryz.ntmps13 rfl (t := [(0, .agg [.i k, .i n, .i m, QR ks]), (1, QR ([] : List Int))]) rfl fun E hE => ?_
  (repeat' first|(refine Qe ?_;(first|refine QG rfl ?_|refine QJ rfl ?_|refine WF rfl rfl ?_|refine QS rfl rfl ?_|refine Qt rfl ?_|refine WR rfl rfl rfl rfl ?_|refine QC (fun _ _ => ?_)|refine QU rfl rfl (fun _ _ => ?_)))|(refine Qk ?_;(first|refine Qi ?_|refine QN rfl ?_|refine Q5 ?_))|(refine Qj ?_;(first|refine Qn ?_|refine Qc ?_|refine Qh rfl ?_|refine Qs ?_)))
  all_goals exact e_2 (Tryz.results13) (QH (size := 4) rfl rfl rfl rfl) (Qg rfl) (Qw rfl)
 | cons a p ih =>
  rintro ⟨k, n, m, ks⟩ hp hsz
  have hln := WC ks
  rw [pathsN_eq] at hp
  rw [Qu] at hsz ⊢
  rcases List.mem_cons.1 hp with h|hp
  ·cases h
  obtain ⟨j, hj, q, he, hq⟩ := mem_pathsL hp
  rw [Nat.zero_add] at he
  cases he
  have hsm := QY (List.getElem_mem hj)
  obtain ⟨hat, hs2⟩ := ih ks[j] hq (by omega)
  have e : subN ((j : Int) :: p) (.mk k n m ks) = subN p ks[j] := by
   rw [subN, show ((j : Int)).toNat = j by omega, List.getD_eq_getElem?_getD, List.getElem?_eq_getElem hj];rfl
  rw [e]
  refine ⟨fun B => ?_, by omega⟩
  generalize subN p ks[j] = r at *
  have hplen : p.length < 100000 := by
   have := paths_lens (.mk k n m ks) ((j : Int) :: p) (by rw [pathsN_eq];exact List.mem_cons_of_mem _ hp)
   rw [Qu, List.length_cons] at this
   omega
  have hpp : ((j : Int) :: p).length = p.length + 1 := rfl
  clear ih hp hq
  rw [QW]
  refine Qa Tryz.func13 rfl Tryz.ntmps13 rfl (t := [(0, .agg [.i k, .i n, .i m, QR ks]), (1, QR ((j : Int) :: p))]) rfl fun E hE => ?_
  (repeat' first|(refine Qe ?_;(first|refine QG rfl ?_|refine QJ rfl ?_|refine QS rfl rfl ?_|refine Qt rfl ?_|refine WR rfl rfl rfl rfl ?_|refine QC (fun _ _ => ?_)|refine QU rfl rfl (fun _ _ => ?_)))|(refine Qk ?_;(first|refine Qi ?_|refine QN rfl ?_|refine Q5 ?_))|(refine Qj ?_;(first|refine Qn ?_|refine Qc ?_|(refine Wg ?_;first|refine Q3 (by rfl) (by kernel_rfl) (by kernel_rfl) ?_|refine Q2 (by kernel_rfl) (by kernel_rfl) ?_)|refine Qx ?_|refine Ql rfl ?_|refine Qm rfl (by omega) ?_|refine Qs ?_))|(refine Zw ?_;(first|refine x_op rfl (by (repeat' first|(refine Qe ?_;(first|refine QG rfl ?_|(refine Qz ?_;(first|refine QM rfl ?_|refine QD rfl ?_|refine Qb rfl rfl rfl ?_))|(refine W6 ?_;(first|refine ZC rfl rfl ?_|refine Qv rfl rfl (by first|assumption|omega|(simp;done)|(simp;omega)) ?_))|(refine Qo ?_;(first|refine Q1 rfl rfl ?_|refine W0 rfl rfl ?_))|(refine Qq ?_;(first|refine W4 rfl rfl hat (Wv (Q8 (Wp (Enc.clo _)) (Q8 Wf WL))) ?_|refine Qt rfl ?_))|refine Wr rfl rfl ?_|refine Qd rfl rfl ?_|refine QI rfl rfl rfl ?_|refine ZZ rfl rfl (by omega) (by omega) ?_))|exact ⟨rfl, rfl⟩)) ?_|refine x_gy rfl rfl rfl rfl (by (repeat' first|(refine Qe ?_;(first|refine QG rfl ?_|(refine Qz ?_;(first|refine QM rfl ?_|refine QD rfl ?_|refine Qb rfl rfl rfl ?_))|(refine W6 ?_;(first|refine ZC rfl rfl ?_|refine Qv rfl rfl (by first|assumption|omega|(simp;done)|(simp;omega)) ?_))|(refine Qo ?_;(first|refine Q1 rfl rfl ?_|refine W0 rfl rfl ?_))|(refine Qq ?_;(first|refine W4 rfl rfl hat (Wv (Q8 (Wp (Enc.clo _)) (Q8 Wf WL))) ?_|refine Qt rfl ?_))|refine Wr rfl rfl ?_|refine Qd rfl rfl ?_|refine QI rfl rfl rfl ?_|refine ZZ rfl rfl (by omega) (by omega) ?_))|exact ⟨rfl, rfl⟩)) ?_|refine Zr ?_)))
  all_goals exact e_2 (Tryz.results13) (QH (size := 4) rfl rfl (ZW (Enc.len _)) (Enc.len _)) (Qg rfl) (Qw rfl)
end Go.Proofs
end
section
namespace Go.Av
open Go.Bl Go.Proofs
section
variable {P : Program} {G : Nat -> DV}
def CE (P : Program) (G : Nat -> DV) (f : FuncId) (aa : Nat -> Nat -> List DV) (cs : List DV) (res : DV) (cs' : List DV) : Prop :=
 ∀ g B, g <= B -> ACalls P G B f (aa 0 g) [.row g cs] (fun d' τ' => d' = res /\ τ' = [.row g cs'])
theorem CE.conv {f : FuncId} {aa : Nat -> Nat -> List DV} {cs cs' c2 : List DV} {res r2 : DV} (h : CE P G f aa cs res cs') (h1 : res = r2) (h2 : cs' = c2) : CE P G f aa cs r2 c2 := by subst h1;subst h2;exact h
def CO (P : Program) (G : Nat -> DV) (f : FuncId) (aa : Nat -> Nat -> List DV) (cs : List DV) (D : DV -> DV) (len es : Nat) (ks cs' : List DV) : Prop :=
 ∀ g B, g <= B -> ACalls P G B f (aa 0 g) [.row g cs] (fun d' τ' => ∃ g', B < g' /\ d' = D (.ref 1 g' 0 len es) /\ τ' = [.row g cs', .row g' ks])
variable {B : Nat} {f : Operand -> DV} {σ : List ABlk} {K : DV -> List ABlk -> Prop} {dst : Option Tmp} {type : TypeId} {pos : String} {after : Array Edge} {gd : Option (Nat × Bool)}
theorem CE.lift {fid : FuncId} {aa : Nat -> Nat -> List DV} {cs cs' : List DV} {res : DV} {k g : Nat} {es : List DV} {σ' : List ABlk} (h : CE P G fid aa cs res cs') (hes : es = aa k g) (hk : σ[k]? = some (.row g cs)) (hc : ∀ d ∈ cs, d.clo = true) (hc' : ∀ d ∈ cs', d.clo = true)
  (hargs : RenL (RenD (qf [k] σ.length)) (aa k g) (aa 0 g)) (hres : res.clo = true) (hσ' : qj σ [k] [.row g cs'] = some σ') : ACalls P G B fid es σ (fun d τ => d = res /\ τ = σ') := by
 subst hes
 have hpick : pickA σ [k] = some [.row g cs] := by simp only [pickA, hk]
 obtain ⟨hp1, hp2⟩ := pickA_eq hpick
 refine ACalls.sub (R := fun B d' τ' => d' = res /\ τ' = [.row g cs']) hargs (by simp) rfl (fun i hi => ?_) (fun B' hB hg => h g B' (hg 0 _ _ rfl rfl)) ?_
 ·obtain ⟨b, e1, e2⟩ := hp2 i hi
  have hi2 : i = 0 := by simpa using hi
  subst hi2
  simp at e2
  exact ⟨b, .row g cs, e1, rfl, by rw [<- e2];exact .rowc hc⟩
 ·rintro B' d' τ' hB ⟨rfl, rfl⟩
  exact ⟨d', σ', Out.of (.s (.clo hres)) (by simp) rfl (.cons (.rowc hc') .nil) hσ', rfl, rfl⟩
theorem s_call_ce {args : Array Operand} {ts : Array TypeId} {fid : FuncId} {aa : Nat -> Nat -> List DV} {cs cs' : List DV} {res : DV} {k g : Nat} {es : List DV} {σ' : List ABlk} [FnOk P fid] (h : CE P G fid aa cs res cs') (hx : f (.func fid) = .fn (.func fid) [] []) (hds : reL (args.toList.map f) = some es) (hes : es = aa k g) (hk : σ[k]? = some (.row g cs)) (hc : ∀ d ∈ cs, d.clo = true) (hc' : ∀ d ∈ cs', d.clo = true)
  (hargs : RenL (RenD (qf [k] σ.length)) (aa k g) (aa 0 g)) (hres : res.clo = true) (hσ' : qj σ [k] [.row g cs'] = some σ') (kk : K res σ') :
  OpSem P G B ⟨dst, .call ⟨.value (.func fid), args, ts⟩, type, pos, after, gd⟩ f σ K := s_call hx hds ((h.lift hes hk hc hc' hargs hres hσ').mono fun _ _ ⟨e1, e2⟩ => by rw [e1, e2];exact kk)
theorem s_callv_ce {x : Operand} {args : Array Operand} {ts : Array TypeId} {fid : FuncId} {first cap : List DV} {aa : Nat -> Nat -> List DV} {cs cs' : List DV} {res : DV} {k g : Nat} {es : List DV} {σ' : List ABlk} [FnOk P fid] (h : CE P G fid aa cs res cs') (hx : f x = .fn (.func fid) first cap) (hds : reL (first ++ args.toList.map f ++ cap) = some es) (hes : es = aa k g) (hk : σ[k]? = some (.row g cs)) (hc : ∀ d ∈ cs, d.clo = true) (hc' : ∀ d ∈ cs', d.clo = true)
  (hargs : RenL (RenD (qf [k] σ.length)) (aa k g) (aa 0 g)) (hres : res.clo = true) (hσ' : qj σ [k] [.row g cs'] = some σ') (kk : K res σ') :
  OpSem P G B ⟨dst, .call ⟨.value x, args, ts⟩, type, pos, after, gd⟩ f σ K := s_callv hx hds ((h.lift hes hk hc hc' hargs hres hσ').mono fun _ _ ⟨e1, e2⟩ => by rw [e1, e2];exact kk)
inductive FrmD : (DV -> DV) -> Prop
 | id : FrmD fun d => d
 | node {a b c : Value} : a.oneCell' = true -> b.oneCell' = true -> c.oneCell' = true -> FrmD fun d => .agg [.sc a, .sc b, .sc c, d]
theorem FrmD.ren {D : DV -> DV} (h : FrmD D) {q : Nat -> Nat} {d e : DV} (hr : RenS q d e) : RenD q (D d) (D e) := by
 cases h with
 | id => exact .s hr
 | node h1 h2 h3 => exact .agg (.cons (.clo Wf) (.cons (.clo Wf) (.cons (.clo Wf) (.cons hr .nil))))
theorem CO.lift {fid : FuncId} {aa : Nat -> Nat -> List DV} {cs cs' ks : List DV} {D : DV -> DV} {len es : Nat} {k g : Nat} {es0 : List DV} {σ' : List ABlk} (h : CO P G fid aa cs D len es ks cs') (hD : FrmD D) (hes : es0 = aa k g) (hk : σ[k]? = some (.row g cs)) (hc : ∀ d ∈ cs, d.clo = true) (hc' : ∀ d ∈ cs', d.clo = true) (hks : ∀ d ∈ ks, d.clo = true)
  (hargs : RenL (RenD (qf [k] σ.length)) (aa k g) (aa 0 g)) (hσ' : qj σ [k] [.row g cs'] = some σ') : ACalls P G B fid es0 σ (fun d τ => ∃ g', B < g' /\ d = D (.ref σ.length g' 0 len es) /\ τ = σ' ++ [.row g' ks]) := by
 subst hes
 have hpick : pickA σ [k] = some [.row g cs] := by simp only [pickA, hk]
 obtain ⟨hp1, hp2⟩ := pickA_eq hpick
 obtain ⟨k1, k2, k3, k4⟩ := setAll_eq hσ' (by simp)
 refine ACalls.sub (R := fun B d' τ' => ∃ g', B < g' /\ d' = D (.ref 1 g' 0 len es) /\ τ' = [.row g cs', .row g' ks]) hargs (by simp) rfl (fun i hi => ?_) (fun B' hB hg => h g B' (hg 0 _ _ rfl rfl)) ?_
 ·obtain ⟨b, e1, e2⟩ := hp2 i hi
  have hi2 : i = 0 := by simpa using hi
  subst hi2
  simp at e2
  exact ⟨b, .row g cs, e1, rfl, by rw [<- e2];exact .rowc hc⟩
 ·rintro B' d' τ' hB ⟨g', hg', rfl, rfl⟩
  have hkl : k < σ.length := (List.getElem?_eq_some_iff.1 hk).1
  refine ⟨D (.ref σ.length g' 0 len es), σ' ++ [.row g' ks], ⟨hD.ren (.ref (by rw [qf_out (by simp)];rfl)), by simp, by simp;omega, fun j hj hj2 => ?_, fun i b hb => ?_⟩, g', by omega, rfl, rfl⟩
  ·rw [List.getElem?_append_left (by omega)]
   exact k3 j hj2
  ·match i with
   | 0 =>
    simp at hb;subst hb
    refine ⟨.row g cs', ?_, .rowc hc'⟩
    rw [qf_in (by simp), List.getElem?_append_left (by simp;omega)]
    exact k4 0 (by simp)
   | 1 =>
    simp at hb;subst hb
    refine ⟨.row g' ks, ?_, .rowc hks⟩
    rw [qf_out (by simp), List.getElem?_append_right (by simp;omega)]
    simp [k2]
   | i + 2 => simp at hb
theorem s_call_co {args : Array Operand} {ts : Array TypeId} {fid : FuncId} {aa : Nat -> Nat -> List DV} {cs cs' ks : List DV} {D : DV -> DV} {len es : Nat} {k g : Nat} {es0 : List DV} {σ' : List ABlk} [FnOk P fid] (h : CO P G fid aa cs D len es ks cs') (hD : FrmD D) (hx : f (.func fid) = .fn (.func fid) [] []) (hds : reL (args.toList.map f) = some es0) (hes : es0 = aa k g) (hk : σ[k]? = some (.row g cs)) (hc : ∀ d ∈ cs, d.clo = true) (hc' : ∀ d ∈ cs', d.clo = true) (hks : ∀ d ∈ ks, d.clo = true)
  (hargs : RenL (RenD (qf [k] σ.length)) (aa k g) (aa 0 g)) (hσ' : qj σ [k] [.row g cs'] = some σ') (kk : ∀ g', B < g' -> K (D (.ref σ.length g' 0 len es)) (σ' ++ [.row g' ks])) :
  OpSem P G B ⟨dst, .call ⟨.value (.func fid), args, ts⟩, type, pos, after, gd⟩ f σ K := s_call hx hds ((h.lift hD hes hk hc hc' hks hargs hσ').mono fun _ _ ⟨g', hg, e1, e2⟩ => by rw [e1, e2];exact kk g' hg)
variable {E : AX} {R R2 : DV -> List ABlk -> Prop}
theorem ACalls.close {f : FuncId} {args : List DV} {σ : List ABlk} {B : Nat} (h : ACalls P G B f args σ R) (k : ∀ E d σ', B <= E.N -> R d σ' -> AClose E R2 d σ') : ACalls P G B f args σ R2 := fun X vs hS hσ hB hG hv => by
 refine (h X vs hS hσ hB hG hv).mono ?_
 rintro e w' ⟨v, he, Y, hw, hY, hE, d', hr, hR⟩
 subst hw
 exact ⟨v, he, k X d' Y.σ hB hR Y v rfl hY hE hr⟩
theorem AClose.mono {d : DV} {σ : List ABlk} (h : AClose E R d σ) (k : ∀ d' σ', R d' σ' -> R2 d' σ') : AClose E R2 d σ := fun X v hσ hS hE hv => by
 obtain ⟨Y, e1, e2, e3, d', e4, e5⟩ := h X v hσ hS hE hv
 exact ⟨Y, e1, e2, e3, d', e4, k _ _ e5⟩
theorem FrmD.close {D : DV -> DV} (hD : FrmD D) {d : DV} {σ : List ABlk} (h : AClose E R d σ) (h1 : ∀ d0 σ', R d0 σ' -> d0.one = true) : AClose E (fun d' σ' => ∃ d0, R d0 σ' /\ d' = D d0) (D d) σ := by
 cases hD with
 | id => exact h.mono fun d' σ' hr => ⟨d', hr, rfl⟩
 | @node a b c ha hb hc =>
  intro X v hσ hS hE hv
  cases hv with|agg _ vs hl ho hg =>
  obtain ⟨Y, e1, e2, e3, d0, e4, e5⟩ := h X _ hσ hS hE (hg 3 _ rfl)
  have g0 := hg 0 _ rfl
  have g1 := hg 1 _ rfl
  have g2 := hg 2 _ rfl
  refine ⟨Y, e1, e2, e3, _, ?_, d0, e5, rfl⟩
  refine .agg _ _ hl (fun e he => ?_) fun j e hj => ?_
  ·simp only [List.mem_cons, List.not_mem_nil, or_false] at he
   rcases he with rfl|rfl|rfl|rfl
   ·exact ha
   ·exact hb
   ·exact hc
   ·exact h1 _ _ e5
  ·match j with
   | 0 => simp at hj;subst hj;generalize vs.getD 0 undef = w at g0 ⊢;cases g0;exact .sc _
   | 1 => simp at hj;subst hj;generalize vs.getD 1 undef = w at g1 ⊢;cases g1;exact .sc _
   | 2 => simp at hj;subst hj;generalize vs.getD 2 undef = w at g2 ⊢;cases g2;exact .sc _
   | 3 => simp at hj;subst hj;exact e4
   | j + 4 => simp at hj
theorem c_ce {g : Nat} {d res : DV} {cs' c2 : List DV} {r : List ABlk} (hd : d = res) (hc : c2 = cs') : AClose E (fun d' τ' => d' = res /\ τ' = [.row g cs']) d (.row g c2 :: r) := by
 subst hc
 exact Zc (σ := [_]) ⟨hd, rfl⟩
theorem c_co {D D2 : DV -> DV} {B k g gk len len2 es es2 : Nat} {cs' c2 ks k2 : List DV} {r : List ABlk} (hD : FrmD D) (hB : B <= E.N) (hk1 : 1 <= k) (hk : (ABlk.row g c2 :: r)[k]? = some (.row gk k2)) (hDD : D2 = D) (hl : len2 = len) (he : es2 = es) (hks : k2 = ks) (hc : c2 = cs') :
  AClose E (fun d' τ' => ∃ g', B < g' /\ d' = D (.ref 1 g' 0 len es) /\ τ' = [.row g cs', .row g' ks]) (D2 (.ref k gk 0 len2 es2)) (.row g c2 :: r) := by
 subst hDD hl he hks hc
 refine (hD.close (c_own (m := 1) (R := fun d' τ' => ∃ g', B < g' /\ d' = .ref 1 g' 0 len2 es2 /\ τ' = [.row g c2, .row g' k2]) hk1 hk fun g' hg' => ⟨g', by omega, rfl, rfl⟩) ?_).mono ?_
 ·rintro d0 σ' ⟨g', _, rfl, _⟩;rfl
 ·rintro d' σ' ⟨d0, ⟨g', h1, rfl, h3⟩, rfl⟩
  exact ⟨g', h1, rfl, h3⟩
theorem c_nil1 {B g es : Nat} {c2 : List DV} {r : List ABlk} (hB : B <= E.N) : AClose E (fun d' τ' => ∃ g', B < g' /\ d' = .ref 1 g' 0 0 es /\ τ' = [.row g c2, .row g' []]) (.sc (.slice none 0 0)) (.row g c2 :: r) := fun X v hσ hS hE hv => by
 have hob : ∀ b nn, (none : Option (Nat × Nat)) = some (b, nn) -> X.w.heap.size <= b := fun _ _ h => by cases h
 have hEx := WExt.push hS (Keep.refl X.w) (B := .row (X.N + 1) []) rfl hob
 have hlen : X.σ.length = r.length + 1 := by rw [hσ];rfl
 refine c_own (m := 1) (k := X.σ.length) (g := X.N + 1) (off := 0) (len := 0) (es := es) (cs := []) (σ := .row g c2 :: (r ++ [.row (X.N + 1) []])) (R := fun d' τ' => ∃ g', B < g' /\ d' = .ref 1 g' 0 0 es /\ τ' = [.row g c2, .row g' []]) (by omega) (by rw [hlen];simp) (fun g' hg' => ⟨g', by omega, rfl, rfl⟩) (X.push X.w none (.row (X.N + 1) [])) v (by simp only [AX.push, hσ];rfl) (hS.push (Keep.refl X.w) rfl hob rfl) (hE.trans hEx) ?_
 rw [VRep.sc_eq hv]
 refine .ref _ _ _ _ _ _ _ _ (Nat.le_refl _) fun ob hobb => ?_
 rw [AX.row_mk (AX.push_live.2 (.inr ⟨rfl, rfl⟩))] at hobb
 simp only [AX.push, if_true, Option.some.injEq] at hobb
 subst hobb
 exact ⟨rfl, rfl, rfl⟩
theorem c_co_nil {D D2 : DV -> DV} {B g len es : Nat} {cs' c2 ks : List DV} {r : List ABlk} (hD : FrmD D) (hB : B <= E.N) (hDD : D2 = D) (hl : len = 0) (hks : ks = []) (hc : c2 = cs') :
  AClose E (fun d' τ' => ∃ g', B < g' /\ d' = D (.ref 1 g' 0 len es) /\ τ' = [.row g cs', .row g' ks]) (D2 (.sc (.slice none 0 0))) (.row g c2 :: r) := by
 subst hDD hl hks hc
 refine (hD.close (c_nil1 (es := es) hB) ?_).mono ?_
 ·rintro d0 σ' ⟨g', _, rfl, _⟩;rfl
 ·rintro d' σ' ⟨d0, ⟨g', h1, rfl, h3⟩, rfl⟩
  exact ⟨g', h1, rfl, h3⟩
theorem CO.pub {fid : FuncId} {aa : Nat -> Nat -> List DV} {cs cs' ks : List DV} {D : DV -> DV} {len es : Nat} (h : CO P G fid aa cs D len es ks cs') (hD : FrmD D) (hl : len * es = ks.length) : CE P G fid aa cs (D (.sl es ks)) cs' := fun g B hg => by
 refine (h g B hg).close ?_
 rintro E d σ' hB ⟨g', hg', rfl, rfl⟩
 refine (hD.close (c_pub (k := 1) (g := g') (cs := ks) (R := fun d' τ' => d' = .sl es ks /\ τ' = [.row g cs']) rfl hl (Zc (σ := [.row g cs']) (r := [.gone]) ⟨rfl, rfl⟩)) ?_).mono ?_
 ·rintro d0 σ' ⟨rfl, _⟩;rfl
 ·rintro d' σ' ⟨d0, ⟨rfl, h3⟩, rfl⟩
  exact ⟨rfl, h3⟩
end
section
theorem Wi (k : Nat) {P : Program} {G : Nat -> DV} {B : Nat} {f : Operand -> DV} {σ : List ABlk} {K : DV -> List ABlk -> Prop} {dst : Option Tmp} {type : TypeId} {pos : String} {after : Array Edge} {gd : Option (Nat × Bool)} {args : Array Operand} {ts : Array TypeId} {fid : FuncId} {aa : Nat -> Nat -> List DV} {cs cs' : List DV} {res : DV} {g : Nat} {es : List DV} {σ' : List ABlk} [FnOk P fid] (h : CE P G fid aa cs res cs') (hx : f (.func fid) = .fn (.func fid) [] []) (hds : reL (args.toList.map f) = some es) (hes : es = aa k g) (hk : σ[k]? = some (.row g cs)) (kk : K res σ') (hc : ∀ d ∈ cs, d.clo = true := by repeat' first|exact WL|refine Q8 ?_ ?_|exact Wf|exact Wu _|exact WB (QO _)) (hc' : ∀ d ∈ cs', d.clo = true := by repeat' first|exact WL|refine Q8 ?_ ?_|exact Wf|exact Wu _|exact WB (QO _))
  (hargs : RenL (RenD (qf [k] σ.length)) (aa k g) (aa 0 g) := by repeat' first|exact .nil|refine .cons ?_ ?_|exact .s (.mp rfl)|exact .s (.ptr rfl)|exact .s (.ref rfl)|exact .fn (by repeat' first|exact .nil|refine .cons ?_ ?_|exact .ptr rfl|exact .mp rfl|exact .clo Wf) (by repeat' first|exact .nil|refine .cons ?_ ?_|exact .ptr rfl|exact .mp rfl|exact .clo Wf)|exact .s (.clo (by (repeat' first|exact Enc.clo _|exact Wf|exact Wu _|exact WB (QO _)|exact QO _|refine ZG ?_ ?_|refine Zq ?_|refine Wv ?_|refine Wp ?_|exact WL|refine Q8 ?_ ?_|refine WB ?_);done))) (hres : res.clo = true := by (repeat' first|exact Enc.clo _|exact Wf|exact Wu _|exact WB (QO _)|exact QO _|refine ZG ?_ ?_|refine Zq ?_|refine Wv ?_|refine Wp ?_|exact WL|refine Q8 ?_ ?_|refine WB ?_);done) (hσ' : qj σ [k] [.row g cs'] = some σ' := by rfl) :
  OpSem P G B ⟨dst, .call ⟨.value (.func fid), args, ts⟩, type, pos, after, gd⟩ f σ K := s_call_ce h hx hds hes hk hc hc' hargs hres hσ' kk
theorem s_co (k : Nat) {P : Program} {G : Nat -> DV} {B : Nat} {f : Operand -> DV} {σ : List ABlk} {K : DV -> List ABlk -> Prop} {dst : Option Tmp} {type : TypeId} {pos : String} {after : Array Edge} {gd : Option (Nat × Bool)} {args : Array Operand} {ts : Array TypeId} {fid : FuncId} {aa : Nat -> Nat -> List DV} {cs cs' ks : List DV} {D : DV -> DV} {len es : Nat} {g : Nat} {es0 : List DV} {σ' : List ABlk} [FnOk P fid] (h : CO P G fid aa cs D len es ks cs') (hD : FrmD D) (hx : f (.func fid) = .fn (.func fid) [] []) (hds : reL (args.toList.map f) = some es0) (hes : es0 = aa k g) (hk : σ[k]? = some (.row g cs)) (hks : ∀ d ∈ ks, d.clo = true) (kk : ∀ g', B < g' -> K (D (.ref σ.length g' 0 len es)) (σ' ++ [.row g' ks])) (hc : ∀ d ∈ cs, d.clo = true := by repeat' first|exact WL|refine Q8 ?_ ?_|exact Wf|exact Wu _|exact WB (QO _)) (hc' : ∀ d ∈ cs', d.clo = true := by repeat' first|exact WL|refine Q8 ?_ ?_|exact Wf|exact Wu _|exact WB (QO _))
  (hargs : RenL (RenD (qf [k] σ.length)) (aa k g) (aa 0 g) := by repeat' first|exact .nil|refine .cons ?_ ?_|exact .s (.mp rfl)|exact .s (.ptr rfl)|exact .s (.ref rfl)|exact .fn (by repeat' first|exact .nil|refine .cons ?_ ?_|exact .ptr rfl|exact .mp rfl|exact .clo Wf) (by repeat' first|exact .nil|refine .cons ?_ ?_|exact .ptr rfl|exact .mp rfl|exact .clo Wf)|exact .s (.clo (by (repeat' first|exact Enc.clo _|exact Wf|exact Wu _|exact WB (QO _)|exact QO _|refine ZG ?_ ?_|refine Zq ?_|refine Wv ?_|refine Wp ?_|exact WL|refine Q8 ?_ ?_|refine WB ?_);done))) (hσ' : qj σ [k] [.row g cs'] = some σ' := by rfl) :
  OpSem P G B ⟨dst, .call ⟨.value (.func fid), args, ts⟩, type, pos, after, gd⟩ f σ K := s_call_co h hD hx hds hes hk hc hc' hks hargs hσ' kk
end
end Go.Av
end
section
namespace Go.Proofs
open Go.Av
variable {G : Nat -> DV}
attribute [local irreducible] OpSem Zd Zx ZL ACalls qt AClose RV
open Go.Bl
theorem s_sub_as2 {P : Program} {G : Nat -> DV} {B : Nat} {f : Operand -> DV} {σ : List ABlk} {K : DV -> List ABlk -> Prop} {dst : Option Tmp} {type : TypeId} {pos : String} {after : Array Edge} {gd : Option (Nat × Bool)} {t t' : TypeId} {x y : Operand} {a b c : Int} (hx : f x = .sc (.int .i64 a)) (hy : f y = .sc (.int .i64 b)) (hc : a - b = c) (h : -9223372036854775808 <= c /\ c <= 9223372036854775807)
  (k : K (.sc (.int .i64 c)) σ) : OpSem P G B ⟨dst, .binOp .sub t x y t', type, pos, after, gd⟩ f σ K :=
 Zz hx hy (by rw [hc];exact h) (by rw [hc];exact k)
def arnd (n most : Int) : Int := (if n < 0 then -(n + 1) else n) % most
theorem Z5 (n : Int) {most : Int} (h : 0 < most) : 0 <= arnd n most /\ arnd n most < most := by
 unfold arnd
 exact ⟨Int.emod_nonneg _ (by omega), Int.emod_lt_of_pos _ h⟩
theorem around_c (n most : Int) (hn : -9223372036854775808 <= n /\ n <= 9223372036854775807) (hm : 0 < most /\ most <= 9223372036854775807) : Go.Av.Pure Tryz.prog G 14 [.i n, .i most] (.i (arnd n most)) := fun B => by
 have hb := Z5 n hm.1
 unfold arnd at hb ⊢
 by_cases h : n < 0
 ·rw [if_pos h] at hb ⊢
  refine Qa Tryz.func14 rfl Tryz.ntmps14 rfl (t := [(0, .i n), (1, .i most)]) rfl fun E hE => ?_
  (repeat' first|(refine Qe ?_;(first|refine QG rfl ?_|refine QJ rfl ?_|(refine Qo ?_;(first|refine Q1 rfl rfl ?_|refine W3 rfl rfl (by omega) ?_|refine s_rem rfl rfl (by first|omega|exact nn_shr (by omega)) (by omega) ?_))|refine s_neg rfl (by omega) ?_))|(refine Qk ?_;(first|refine Qi ?_|refine QN rfl ?_))|(refine Qj ?_;(first|refine Qn ?_|refine Qc ?_|refine Qp rfl (by omega) ?_|refine Qs ?_)))
  refine e_1 Tryz.results14 (Qg rfl) (Qw ?_)
  rfl
 ·rw [if_neg h] at hb ⊢
  refine Qa Tryz.func14 rfl Tryz.ntmps14 rfl (t := [(0, .i n), (1, .i most)]) rfl fun E hE => ?_
  (repeat' first|(refine Qe ?_;(first|refine QG rfl ?_|refine QJ rfl ?_|(refine Qo ?_;(first|refine Q1 rfl rfl ?_|refine s_rem rfl rfl (by first|omega|exact nn_shr (by omega)) (by omega) ?_))))|(refine Qk ?_;(first|refine Qi ?_|refine QN rfl ?_))|(refine Qj ?_;(first|refine Qn ?_|refine Qc ?_|refine Qx ?_|refine Qm rfl (by omega) ?_|refine Qs ?_)))
  refine e_1 Tryz.results14 (Qg rfl) (Qw ?_)
  rfl
def atI (l : List Int) (i most : Int) : Int := if 0 <= i /\ i.toNat < l.length then arnd (l.getD i.toNat 0) most else 0
theorem Q9 (l : List Int) (i : Int) {most : Int} (h : 0 < most) : 0 <= atI l i most /\ atI l i most < most := by
 unfold atI
 split
 ·exact Z5 _ h
 ·omega
def OkI (l : List Int) : Prop := l.length <= 9223372036854775807 /\ ∀ x ∈ l, -9223372036854775808 <= x /\ x <= 9223372036854775807
theorem r01At_c (l : List Int) (hl : OkI l) (i most : Int) (hm : 0 < most /\ most <= 9223372036854775807) : Go.Av.Pure Tryz.prog G 34 [QR l, .i i, .i most] (.i (atI l i most)) := fun B => by
 unfold atI
 by_cases h : 0 <= i /\ i.toNat < l.length
 ·rw [if_pos h]
  have hgd : l.getD i.toNat 0 = l[i.toNat] := by rw [List.getD_eq_getElem?_getD, List.getElem?_eq_getElem h.2];rfl
  rw [hgd]
  have har := around_c (G := G) l[i.toNat] most (hl.2 _ (List.getElem_mem h.2)) hm
  obtain ⟨h0, h1⟩ := h
  refine Qa Tryz.func34 rfl Tryz.ntmps34 rfl (t := [(0, QR l), (1, .i i), (2, .i most)]) rfl fun E hE => ?_
  (repeat' first|(refine Qe ?_;(first|refine QG rfl ?_|refine QJ rfl ?_|refine QM rfl ?_|refine qh rfl rfl (by omega) (by first|assumption|omega|(simp;done)|(simp;omega)) ?_|(refine Qo ?_;(first|refine Q1 rfl rfl ?_|refine W0 rfl rfl ?_))|(refine Qq ?_;(first|refine Qt rfl ?_|refine QZ rfl rfl (har) ?_))|refine Wr rfl rfl ?_))|(refine Qk ?_;(first|refine Qi ?_|refine QN rfl ?_|refine WD rfl rfl rfl rfl ?_|refine Q6 rfl rfl (by omega) ?_))|(refine Qj ?_;(first|refine Qn ?_|refine Qc ?_|refine Qx ?_|refine Qm rfl (by omega) ?_|refine Qs ?_)))
  refine e_1 Tryz.results34 (Qg rfl) (Qw ?_)
  rfl
 ·rw [if_neg h]
  refine Qa Tryz.func34 rfl Tryz.ntmps34 rfl (t := [(0, QR l), (1, .i i), (2, .i most)]) rfl fun E hE => ?_
  (repeat' first|(refine Qe ?_;(first|refine QG rfl ?_|refine QJ rfl ?_|(refine Qo ?_;(first|refine Q1 rfl rfl ?_|refine W0 rfl rfl ?_))|refine Qt rfl ?_|(refine Q4 ?_;(first|refine WO rfl rfl ?_|refine Wr rfl rfl ?_))))|(refine Qk ?_;(first|refine Qi ?_|refine QN rfl ?_|refine WD rfl rfl rfl rfl ?_|refine W2 rfl rfl rfl rfl ?_|refine q8 rfl rfl (fun _ => ?_) (fun _ => ?_)))|(refine Qj ?_;(first|refine Qn ?_|refine Qc ?_|refine Qh rfl ?_|refine Qp rfl (by omega) ?_|refine Qs ?_)))
  all_goals
   refine e_1 Tryz.results34 (Qg rfl) (Qw ?_)
   rfl
abbrev genC (l : List Int) (a r : Int) : List DV := [QR l, .i a, .i r]
theorem WG (l : List Int) (hl : OkI l) (a r most : Int) (ha : 0 <= a /\ a <= 9000000000000000000) (hm : 0 < most /\ most <= 9223372036854775807) : CE Tryz.prog G 35 (fun p g => [.ptr p g 0, .i most]) (genC l a r) (.i (atI l a most)) (genC l (a + 1) r) := fun g B hg => by
 have hat := r01At_c (G := G) l hl a most hm
 refine Qa Tryz.func35 rfl Tryz.ntmps35 rfl (t := [(0, .ptr 0 g 0), (1, .i most)]) rfl fun E hE => ?_
 (repeat' first|(refine Qe ?_;(first|refine QG rfl ?_|refine QJ rfl ?_|refine Qb rfl rfl rfl ?_|refine W3 rfl rfl (by omega) ?_|refine Q7 rfl rfl rfl rfl (by rfl) (by rfl) (by rfl) ?_|refine Qd rfl rfl ?_|refine QA rfl rfl ?_))|(refine Qk ?_;(first|refine Qi ?_|refine QN rfl ?_|refine Q5 ?_))|(refine Qj ?_;(first|refine Qn ?_|refine Qc ?_|(refine Wg ?_;first|refine Q3 (by rfl) (by kernel_rfl) (by kernel_rfl) ?_|refine Q2 (by kernel_rfl) (by kernel_rfl) ?_)|refine Qs ?_))|(refine Zw ?_;(first|refine x_op rfl (by (repeat' first|(refine Qe ?_;(first|refine QG rfl ?_|refine QJ rfl ?_|refine Qb rfl rfl rfl ?_|refine QZ rfl rfl (hat) ?_|refine Qd rfl rfl ?_|refine QA rfl rfl ?_))|exact ⟨rfl, rfl⟩)) ?_|refine Zr ?_)))
 all_goals exact e_1 (Tryz.results35) (Qg rfl) (c_ce rfl rfl)
theorem many_c (x : Nd) (hok : okN x) (hs : Qu x <= 1000000) : Go.Av.Pure Tryz.prog G 122 [.agg (Enc.enc x)] (.i ((inLo x).length : Nat)) := fun B => by
 have hin := (rSt_c (G := G) x hok hs).2
 have hll := inLo_len x hs
 unfold RiC at hin
 generalize inLo x = l at *
 have hs2 : (strs l).length = l.length := ZT l
 refine Qa Tryz.func122 rfl Tryz.ntmps122 rfl (t := [(0, .agg (Enc.enc x))]) rfl fun E hE => ?_
 (repeat' first|(refine Qe ?_;(first|refine QG rfl ?_|refine QJ rfl ?_|refine WF rfl rfl ?_|(refine Qq ?_;(first|refine s_len_ref rfl rfl ?_|refine s_call_ot rfl rfl (hin) (by repeat' first|exact Enc.clo _|exact WL|refine Q8 ?_ ?_|exact Wf|exact Wu _|exact WB (QO _)|exact QO _|refine ZG ?_ ?_|refine Zq ?_|refine Wv ?_|refine Wp ?_) (by first|exact QO _) (fun _ _ => ?_)))|refine QI rfl rfl rfl ?_|refine QU rfl rfl (fun _ _ => ?_)))|(refine Qk ?_;(first|refine Qi ?_|refine QN rfl ?_))|(refine Qj ?_;(first|refine Qn ?_|refine Qc ?_|refine Qs ?_)))
 exact e_1 (Tryz.results122) (Qg rfl) (Qw rfl)
theorem where_c (path : List Int) : ∀ (t : Nd) (line : Int), Deep t -> okN t -> Qu t <= 100000 -> path.length <= 4611686018427387904 -> 0 <= line -> line + 8000000 * (Qu t : Int) <= 2000000000000 ->
  Go.Av.Pure Tryz.prog G 70 [.agg (Enc.enc t), QR path, .i line] (.i (if atM path t = none then 0 else qF path t line)) := by
 induction path with
 | nil =>
  intro t line hd hok hs hpl h0 h1 B
  rw [atM, if_neg (by simp), qF]
  have hfn := trivial
  have hst := trivial
  have hmn := trivial
  have hwh := trivial
  have hsub := trivial
  refine Qa Tryz.func70 rfl Tryz.ntmps70 rfl (t := [(0, .agg (Enc.enc t)), (1, QR ([] : List Int)), (2, .i line)]) rfl fun E hE => ?_
  (repeat' first|(refine Qe ?_;(first|refine QG rfl ?_|refine QJ rfl ?_|refine QS rfl rfl ?_|refine Qt rfl ?_|refine QU rfl rfl (fun _ _ => ?_)))|(refine Qk ?_;(first|refine Qi ?_|refine QN rfl ?_))|(refine Qj ?_;(first|refine Qn ?_|refine Qc ?_|refine Qh rfl ?_|refine Qs ?_)))
  exact e_1 (Tryz.results70) (Qg rfl) (Qw rfl)
 | cons a p ih =>
  rintro ⟨k, n, m, ks⟩ line hd hok hs hpl h0 h1 B
  obtain ⟨d27, d13, d17, d21, dk⟩ := hd.inv
  have hpp : (a :: p).length = p.length + 1 := rfl
  have hok0 := hok
  have hs0 := hs
  rw [okN] at hok
  rw [Qu] at hs h1
  have hln := WC ks
  by_cases hr : a < 0 \/ (ks.length : Int) <= a
  ·rw [atM_none hr, if_pos rfl, QW]
   have hfn := trivial
   have hst := trivial
   have hmn := trivial
   have hwh := trivial
   have hsub := trivial
   clear ih dk d27 d13 d17 d21
   refine Qa Tryz.func70 rfl Tryz.ntmps70 rfl (t := [(0, .agg [.i k, .i n, .i m, QR ks]), (1, QR (a :: p)), (2, .i line)]) rfl fun E hE => ?_
   rcases hr with hr|hr
   ·(repeat' first|(refine Qe ?_;(first|refine QG rfl ?_|refine QJ rfl ?_|refine QM rfl ?_|refine ZC rfl rfl ?_|(refine Qo ?_;(first|refine Q1 rfl rfl ?_|refine QS rfl rfl ?_))|refine Qt rfl ?_|refine WO rfl rfl ?_|refine QU rfl rfl (fun _ _ => ?_)))|(refine Qk ?_;(first|refine Qi ?_|refine QN rfl ?_|refine W2 rfl rfl rfl rfl ?_|refine We rfl rfl (by omega) ?_))|(refine Qj ?_;(first|refine Qn ?_|refine Qc ?_|refine Qx ?_|refine Qh rfl ?_|refine Ql rfl ?_|refine Qs ?_)))
    exact e_1 (Tryz.results70) (Qg rfl) (Qw rfl)
   ·by_cases hr2 : a < 0
    ·(repeat' first|(refine Qe ?_;(first|refine QG rfl ?_|refine QJ rfl ?_|refine QM rfl ?_|refine ZC rfl rfl ?_|(refine Qo ?_;(first|refine Q1 rfl rfl ?_|refine QS rfl rfl ?_))|refine Qt rfl ?_|refine WO rfl rfl ?_|refine QU rfl rfl (fun _ _ => ?_)))|(refine Qk ?_;(first|refine Qi ?_|refine QN rfl ?_|refine W2 rfl rfl rfl rfl ?_|refine We rfl rfl (by omega) ?_))|(refine Qj ?_;(first|refine Qn ?_|refine Qc ?_|refine Qx ?_|refine Qh rfl ?_|refine Ql rfl ?_|refine Qs ?_)))
     exact e_1 (Tryz.results70) (Qg rfl) (Qw rfl)
    ·(repeat' first|(refine Qe ?_;(first|refine QG rfl ?_|refine QJ rfl ?_|(refine Qz ?_;(first|refine QM rfl ?_|refine Qb rfl rfl rfl ?_))|refine ZC rfl rfl ?_|(refine Qo ?_;(first|refine Q1 rfl rfl ?_|refine W0 rfl rfl ?_|refine QS rfl rfl ?_))|refine Qt rfl ?_|refine Wr rfl rfl ?_|refine Qd rfl rfl ?_|refine QU rfl rfl (fun _ _ => ?_)))|(refine Qk ?_;(first|refine Qi ?_|refine QN rfl ?_|refine WD rfl rfl rfl rfl ?_|refine Q6 rfl rfl (by omega) ?_))|(refine Qj ?_;(first|refine Qn ?_|refine Qc ?_|refine Qx ?_|refine Ql rfl ?_|refine Qp rfl (by omega) ?_|refine Qs ?_)))
     exact e_1 (Tryz.results70) (Qg rfl) (Qw rfl)
  obtain ⟨j, rfl⟩ : ∃ j : Nat, a = (j : Int) := ⟨a.toNat, by omega⟩
  have hj : j < ks.length := by omega
  have hgd : ks.getD j (.mk 0 0 0 []) = ks[j] := by rw [List.getD_eq_getElem?_getD, List.getElem?_eq_getElem hj];rfl
  have e1 : qF ((j : Int) :: p) (.mk k n m ks) line = qF p ks[j] (line + stepL k ks (j : Nat)) := by rw [qF, Int.toNat_natCast, hgd]
  have e2 : atM ((j : Int) :: p) (.mk k n m ks) = atM p ks[j] := by rw [atM_cons (by omega) (by simpa using hj)];rfl
  rw [e1, e2]
  have hsb := step_bound (k := k) (n := n) (m := m) (ks := ks) (a := (j : Int)) hok0 (by omega) (by omega) (by simpa using hj)
  have hsb2 : stepL k ks (j : Nat) + 8000000 * (Qu ks[j] : Int) <= 8000000 * (1 + QT ks : Int) := by
   have := hsb.2
   rw [Qu] at this
   simp only [Int.toNat_natCast] at this
   omega
  clear hsb e1 e2
  have hsm := QY (List.getElem_mem hj)
  have hwhs : 0 <= stepL k ks (j : Nat) -> Go.Av.Pure Tryz.prog G 70 [.agg (Enc.enc ks[j]), QR p, .i (line + stepL k ks (j : Nat))] (.i (if atM p ks[j] = none then 0 else qF p ks[j] (line + stepL k ks (j : Nat)))) := fun hst0 =>
   ih ks[j] (line + stepL k ks (j : Nat)) (dk _ (List.getElem_mem hj)) (Wj hok.2 (List.getElem_mem hj)) (by omega) (by omega) (by omega) (by omega)
  clear ih dk
  rw [QW]
  have hfn := trivial
  have hst := trivial
  have hmn := trivial
  have hsub := trivial
  by_cases k27 : k = 27
  ·have hstep : stepL k ks (j : Nat) = 1 + (befP (ks.take j) : Nat) := by unfold stepL;rw [if_pos (.inl k27), Int.toNat_natCast]
   rw [hstep] at hwhs hsb2 ⊢
   have hwh := hwhs (by omega)
   generalize (if atM p ks[j] = none then (0 : Int) else qF p ks[j] (line + (1 + (befP (ks.take j) : Nat)))) = res at *
   have hfs : ∀ i (h : i < ks.length), ∃ x : List Str, Go.Av.Pure Tryz.prog G 53 [.agg (Enc.enc ks[i])] (.tup [QR x, .b true]) /\ x.length = nlC (Zo ks[i]) := fun i h => by
    have hf := d27 k27 _ (List.getElem_mem h)
    obtain ⟨x, hx, hx2⟩ := rFun_c (G := G) ks[i] (Wj hok.2 (List.getElem_mem h)) (by have := QY (List.getElem_mem h);omega)
    rw [hf] at hx
    exact ⟨x, hx, by rw [hx2 hf, ZT, print_funW hf]⟩
   clear d27 d13 d17 d21 hwhs
   refine Qa Tryz.func70 rfl Tryz.ntmps70 rfl (t := [(0, .agg [.i k, .i n, .i m, QR ks]), (1, QR ((j : Int) :: p)), (2, .i line)]) rfl fun E hE => ?_
   (repeat' first|(refine Qe ?_;(first|refine QG rfl ?_|refine QJ rfl ?_|(refine Qz ?_;(first|refine QM rfl ?_|refine Qb rfl rfl rfl ?_))|refine ZC rfl rfl ?_|(refine Qo ?_;(first|refine Q1 rfl rfl ?_|refine W0 rfl rfl ?_|refine QS rfl rfl ?_|refine W3 rfl rfl (by omega) ?_))|refine Qt rfl ?_|refine Wr rfl rfl ?_|refine Qd rfl rfl ?_|refine QU rfl rfl (fun _ _ => ?_)))|(refine Qk ?_;(first|refine Qi ?_|refine QN rfl ?_|refine WD rfl rfl rfl rfl ?_))|(refine Qj ?_;(first|refine Qn ?_|refine Qc ?_|refine Qf ?_|refine Qx ?_|refine Ql rfl ?_|refine Qp rfl (by omega) ?_|refine Qm rfl (by omega) ?_)))
   rename_i g3 hg3
   refine qb (fun (q : Nat) => ⟨[(1, QR ((j : Int) :: p)), (3, .ptr 0 g3 0), (7, .i j), (8, .i (line + (1 + (befP (ks.take q) : Nat)))), (9, .i q)], [.row g3 [.i k, .i n, .i m, QR ks]]⟩) (fun q => q <= j) (fun q => j - q) 0 ?_ (by omega) ?_
   ·rw [show befP (ks.take 0) = 0 from rfl, show line + (1 + ((0 : Nat) : Int)) = line + 1 by omega]
    exact zal rfl
   intro q hq
   by_cases hqj : q < j
   ·have hbt := befP_take (ks := ks) (i := q) (by omega)
    have hbs := befP_le (ks.take (q + 1)) (okL_take hok.2 _) (by have := Wm ks (q + 1);omega)
    have hbz := Wm ks (q + 1)
    obtain ⟨x, hfn, hxl⟩ := hfs q (by omega)
    have e3 : line + (1 + (befP (ks.take (q + 1)) : Nat)) = line + (1 + (befP (ks.take q) : Nat)) + (x.length : Nat) := by omega
    have hqk : q < ks.length := by omega
    clear hwh hfs
    (repeat' first|(refine Qe ?_;(first|refine QG rfl ?_|refine QJ rfl ?_|(refine Qz ?_;(first|refine QD rfl ?_|refine Qb rfl rfl rfl ?_))|refine Qv rfl rfl (by first|assumption|omega|(simp;done)|(simp;omega)) ?_|(refine Qo ?_;(first|refine Q1 rfl rfl ?_|refine W3 rfl rfl (by omega) ?_))|(refine Qq ?_;(first|refine Qt rfl ?_|refine QZ rfl rfl (hfn) ?_))|refine Qd rfl rfl ?_|refine QI rfl rfl rfl ?_))|(refine Qk ?_;(first|refine Qi ?_|refine QN rfl ?_))|(refine Qj ?_;(first|refine Qn ?_|refine Qc ?_|refine Qf ?_|refine Qx ?_|refine Qp rfl (by omega) ?_)))
    refine ⟨q + 1, by omega, by omega, ?_⟩
    rw [e3]
    exact zal rfl
   ·have hqe : q = j := by omega
    subst hqe
    clear hfs
    (repeat' first|(refine Qe ?_;(first|refine QG rfl ?_|refine Qb rfl rfl rfl ?_|(refine Qo ?_;(first|refine Q1 rfl rfl ?_|refine QS rfl rfl ?_))|refine Wr rfl rfl ?_|refine Qd rfl rfl ?_))|(refine Qk ?_;(first|refine Qi ?_|refine QN rfl ?_|refine WD rfl rfl rfl rfl ?_|refine W2 rfl rfl rfl rfl ?_|refine Q6 rfl rfl (by omega) ?_))|(refine Qj ?_;(first|refine Qn ?_|refine Qc ?_|(refine Wg ?_;first|refine Q3 (by rfl) (by kernel_rfl) (by kernel_rfl) ?_|refine Q2 (by kernel_rfl) (by kernel_rfl) ?_)|refine Qx ?_|refine Ql rfl ?_|refine Qm rfl (by omega) ?_|refine WI rfl ?_|refine Qs ?_))|(refine Zw ?_;(first|refine x_op rfl (by (repeat' first|(refine Qe ?_;(first|refine QG rfl ?_|refine QJ rfl ?_|(refine Qz ?_;(first|refine QD rfl ?_|refine Qb rfl rfl rfl ?_))|refine Qv rfl rfl (by first|assumption|omega|(simp;done)|(simp;omega)) ?_|refine QZ rfl rfl (hwh) ?_|refine Qd rfl rfl ?_|refine ZZ rfl rfl (by omega) (by omega) ?_))|exact ⟨rfl, rfl⟩)) ?_|refine Zr ?_)))
    exact e_1 (Tryz.results70) (Qg rfl) (Qw rfl)
  by_cases k13 : k = 13
  ·have hstep : stepL k ks (j : Nat) = 1 + (befP (ks.take j) : Nat) := by unfold stepL;rw [if_pos (.inr k13), Int.toNat_natCast]
   rw [hstep] at hwhs hsb2 ⊢
   have hwh := hwhs (by omega)
   generalize (if atM p ks[j] = none then (0 : Int) else qF p ks[j] (line + (1 + (befP (ks.take j) : Nat)))) = res at *
   have hfs : ∀ i (h : i < ks.length), ∃ x : List Str, Go.Av.Pure Tryz.prog G 56 [.agg (Enc.enc ks[i])] (.tup [QR x, .b true]) /\ x.length = nlC (Zo ks[i]) := fun i h => by
    have hf := d13 k13 _ (List.getElem_mem h)
    have hx := (rSt_c (G := G) ks[i] (Wj hok.2 (List.getElem_mem h)) (by have := QY (List.getElem_mem h);omega)).1.1 hf
    exact ⟨_, hx, by rw [ZT, print_stW hf]⟩
   clear d27 d13 d17 d21 hwhs
   refine Qa Tryz.func70 rfl Tryz.ntmps70 rfl (t := [(0, .agg [.i k, .i n, .i m, QR ks]), (1, QR ((j : Int) :: p)), (2, .i line)]) rfl fun E hE => ?_
   (repeat' first|(refine Qe ?_;(first|refine QG rfl ?_|refine QJ rfl ?_|(refine Qz ?_;(first|refine QM rfl ?_|refine Qb rfl rfl rfl ?_))|refine ZC rfl rfl ?_|(refine Qo ?_;(first|refine Q1 rfl rfl ?_|refine W0 rfl rfl ?_|refine QS rfl rfl ?_|refine W3 rfl rfl (by omega) ?_))|refine Qt rfl ?_|refine Wr rfl rfl ?_|refine Qd rfl rfl ?_|refine QU rfl rfl (fun _ _ => ?_)))|(refine Qk ?_;(first|refine Qi ?_|refine QN rfl ?_|refine WD rfl rfl rfl rfl ?_))|(refine Qj ?_;(first|refine Qn ?_|refine Qc ?_|refine Qf ?_|refine Qx ?_|refine Ql rfl ?_|refine Qp rfl (by omega) ?_|refine Qm rfl (by omega) ?_)))
   rename_i g3 hg3
   refine qb (fun (q : Nat) => ⟨[(1, QR ((j : Int) :: p)), (3, .ptr 0 g3 0), (7, .i j), (8, .i (line + (1 + (befP (ks.take q) : Nat)))), (12, .i q)], [.row g3 [.i k, .i n, .i m, QR ks]]⟩) (fun q => q <= j) (fun q => j - q) 0 ?_ (by omega) ?_
   ·rw [show befP (ks.take 0) = 0 from rfl, show line + (1 + ((0 : Nat) : Int)) = line + 1 by omega]
    exact zal rfl
   intro q hq
   by_cases hqj : q < j
   ·have hbt := befP_take (ks := ks) (i := q) (by omega)
    have hbs := befP_le (ks.take (q + 1)) (okL_take hok.2 _) (by have := Wm ks (q + 1);omega)
    have hbz := Wm ks (q + 1)
    obtain ⟨x, hst, hxl⟩ := hfs q (by omega)
    have e3 : line + (1 + (befP (ks.take (q + 1)) : Nat)) = line + (1 + (befP (ks.take q) : Nat)) + (x.length : Nat) := by omega
    have hqk : q < ks.length := by omega
    clear hwh hfs
    (repeat' first|(refine Qe ?_;(first|refine QG rfl ?_|refine QJ rfl ?_|(refine Qz ?_;(first|refine QD rfl ?_|refine Qb rfl rfl rfl ?_))|refine Qv rfl rfl (by first|assumption|omega|(simp;done)|(simp;omega)) ?_|(refine Qo ?_;(first|refine Q1 rfl rfl ?_|refine W3 rfl rfl (by omega) ?_))|(refine Qq ?_;(first|refine Qt rfl ?_|refine QZ rfl rfl (hst) ?_))|refine Qd rfl rfl ?_|refine QI rfl rfl rfl ?_))|(refine Qk ?_;(first|refine Qi ?_|refine QN rfl ?_))|(refine Qj ?_;(first|refine Qn ?_|refine Qc ?_|refine Qf ?_|refine Qx ?_|refine Qp rfl (by omega) ?_)))
    refine ⟨q + 1, by omega, by omega, ?_⟩
    rw [e3]
    exact zal rfl
   ·have hqe : q = j := by omega
    subst hqe
    clear hfs
    (repeat' first|(refine Qe ?_;(first|refine QG rfl ?_|refine Qb rfl rfl rfl ?_|(refine Qo ?_;(first|refine Q1 rfl rfl ?_|refine QS rfl rfl ?_))|refine Wr rfl rfl ?_|refine Qd rfl rfl ?_))|(refine Qk ?_;(first|refine Qi ?_|refine QN rfl ?_|refine WD rfl rfl rfl rfl ?_|refine W2 rfl rfl rfl rfl ?_|refine Q6 rfl rfl (by omega) ?_))|(refine Qj ?_;(first|refine Qn ?_|refine Qc ?_|(refine Wg ?_;first|refine Q3 (by rfl) (by kernel_rfl) (by kernel_rfl) ?_|refine Q2 (by kernel_rfl) (by kernel_rfl) ?_)|refine Qx ?_|refine Ql rfl ?_|refine Qm rfl (by omega) ?_|refine WI rfl ?_|refine Qs ?_))|(refine Zw ?_;(first|refine x_op rfl (by (repeat' first|(refine Qe ?_;(first|refine QG rfl ?_|refine QJ rfl ?_|(refine Qz ?_;(first|refine QD rfl ?_|refine Qb rfl rfl rfl ?_))|refine Qv rfl rfl (by first|assumption|omega|(simp;done)|(simp;omega)) ?_|refine QZ rfl rfl (hwh) ?_|refine Qd rfl rfl ?_|refine ZZ rfl rfl (by omega) (by omega) ?_))|exact ⟨rfl, rfl⟩)) ?_|refine Zr ?_)))
    exact e_1 (Tryz.results70) (Qg rfl) (Qw rfl)
  by_cases hc : (k = 17 /\ j = 2) \/ (k = 21 /\ j = 1)
  ·obtain ⟨i, hi⟩ : ∃ i : Nat, j = i + 1 := ⟨j - 1, by omega⟩
   subst hi
   have hik : i < ks.length := by omega
   have hino : inOk ks[i] = true := by
    rcases hc with ⟨c1, c2⟩|⟨c1, c2⟩
    ·have := (d17 c1).2
     have hi1 : i = 1 := by omega
     subst hi1
     rwa [List.getD_eq_getElem?_getD, List.getElem?_eq_getElem hik] at this
    ·have := (d21 c1).2
     have hi1 : i = 0 := by omega
     subst hi1
     rwa [List.getD_eq_getElem?_getD, List.getElem?_eq_getElem hik] at this
   have hgi : ks.getD i (.mk 0 0 0 []) = ks[i] := by rw [List.getD_eq_getElem?_getD, List.getElem?_eq_getElem hik];rfl
   have hpi := print_inW hino
   have hstep : stepL k ks ((i + 1 : Nat) : Int) = (inLo ks[i]).length + 1 := by
    unfold stepL
    rw [if_neg (by omega), if_pos (by omega), show (((i + 1 : Nat) : Int) - 1).toNat = i by omega, hgi, hpi]
    omega
   rw [hstep] at hwhs hsb2 ⊢
   have hwh := hwhs (by omega)
   have hmn := many_c (G := G) ks[i] (Wj hok.2 (List.getElem_mem hik)) (by have := QY (List.getElem_mem hik);omega)
   have hll := inLo_len ks[i] (by have := QY (List.getElem_mem hik);omega)
   have hsub : ((i + 1 : Nat) : Int) - 1 = (i : Nat) := by omega
   generalize (if atM p ks[i + 1] = none then (0 : Int) else qF p ks[i + 1] (line + ((inLo ks[i]).length + 1))) = res at *
   generalize (inLo ks[i]).length = il at *
   rw [show line + ((il : Int) + 1) = line + (il : Int) + 1 by omega] at hwh
   clear d27 d13 d17 d21 hwhs hino hgi hpi hstep
   refine Qa Tryz.func70 rfl Tryz.ntmps70 rfl (t := [(0, .agg [.i k, .i n, .i m, QR ks]), (1, QR (((i + 1 : Nat) : Int) :: p)), (2, .i line)]) rfl fun E hE => ?_
   rcases hc with ⟨c1, c2⟩|⟨c1, c2⟩
   ·(repeat' first|(refine Qe ?_;(first|refine QG rfl ?_|refine QJ rfl ?_|(refine Qz ?_;(first|refine QM rfl ?_|refine QD rfl ?_|refine Qb rfl rfl rfl ?_))|(refine W6 ?_;(first|refine ZC rfl rfl ?_|refine Qv rfl rfl (by first|assumption|omega|(simp;done)|(simp;omega)) ?_))|(refine Qo ?_;(first|refine s_sub_as2 rfl rfl hsub ⟨by omega, by omega⟩ ?_|refine Q1 rfl rfl ?_|refine W0 rfl rfl ?_|refine QS rfl rfl ?_|refine W3 rfl rfl (by omega) ?_))|(refine Qq ?_;(first|refine Qt rfl ?_|refine QZ rfl rfl (hmn) ?_))|(refine Q4 ?_;(first|refine WO rfl rfl ?_|refine Wr rfl rfl ?_))|refine Qd rfl rfl ?_|refine QU rfl rfl (fun _ _ => ?_)))|(refine Qk ?_;(first|refine Qi ?_|refine QN rfl ?_|refine WD rfl rfl rfl rfl ?_|refine W2 rfl rfl rfl rfl ?_|refine o_gu rfl rfl rfl rfl rfl ?_|refine We rfl rfl (by omega) ?_))|(refine Qj ?_;(first|refine Qn ?_|refine Qc ?_|(refine Wg ?_;first|refine Q3 (by rfl) (by kernel_rfl) (by kernel_rfl) ?_|refine Q2 (by kernel_rfl) (by kernel_rfl) ?_)|refine Qx ?_|refine Qh rfl ?_|refine Ql rfl ?_|refine Qm rfl (by omega) ?_|refine Qs ?_))|(refine Zw ?_;(first|refine x_op rfl (by (repeat' first|(refine Qe ?_;(first|refine QG rfl ?_|refine QJ rfl ?_|(refine Qz ?_;(first|refine QD rfl ?_|refine Qb rfl rfl rfl ?_))|refine Qv rfl rfl (by first|assumption|omega|(simp;done)|(simp;omega)) ?_|refine QZ rfl rfl (hwh) ?_|refine Qd rfl rfl ?_|refine ZZ rfl rfl (by omega) (by omega) ?_))|exact ⟨rfl, rfl⟩)) ?_|refine Zr ?_)))
    exact e_1 (Tryz.results70) (Qg rfl) (Qw rfl)
   ·(repeat' first|(refine Qe ?_;(first|refine QG rfl ?_|refine QJ rfl ?_|(refine Qz ?_;(first|refine QM rfl ?_|refine QD rfl ?_|refine Qb rfl rfl rfl ?_))|(refine W6 ?_;(first|refine ZC rfl rfl ?_|refine Qv rfl rfl (by first|assumption|omega|(simp;done)|(simp;omega)) ?_))|(refine Qo ?_;(first|refine s_sub_as2 rfl rfl hsub ⟨by omega, by omega⟩ ?_|refine Q1 rfl rfl ?_|refine W0 rfl rfl ?_|refine QS rfl rfl ?_|refine W3 rfl rfl (by omega) ?_))|(refine Qq ?_;(first|refine Qt rfl ?_|refine QZ rfl rfl (hmn) ?_))|(refine Q4 ?_;(first|refine WO rfl rfl ?_|refine Wr rfl rfl ?_))|refine Qd rfl rfl ?_|refine QU rfl rfl (fun _ _ => ?_)))|(refine Qk ?_;(first|refine Qi ?_|refine QN rfl ?_|refine WD rfl rfl rfl rfl ?_|refine W2 rfl rfl rfl rfl ?_|refine We rfl rfl (by omega) ?_|refine Q6 rfl rfl (by omega) ?_))|(refine Qj ?_;(first|refine Qn ?_|refine Qc ?_|(refine Wg ?_;first|refine Q3 (by rfl) (by kernel_rfl) (by kernel_rfl) ?_|refine Q2 (by kernel_rfl) (by kernel_rfl) ?_)|refine Qx ?_|refine Ql rfl ?_|refine Qp rfl (by omega) ?_|refine Qm rfl (by omega) ?_|refine Qs ?_))|(refine Zw ?_;(first|refine x_op rfl (by (repeat' first|(refine Qe ?_;(first|refine QG rfl ?_|refine QJ rfl ?_|(refine Qz ?_;(first|refine QD rfl ?_|refine Qb rfl rfl rfl ?_))|refine Qv rfl rfl (by first|assumption|omega|(simp;done)|(simp;omega)) ?_|refine QZ rfl rfl (hwh) ?_|refine Qd rfl rfl ?_|refine ZZ rfl rfl (by omega) (by omega) ?_))|exact ⟨rfl, rfl⟩)) ?_|refine Zr ?_)))
    exact e_1 (Tryz.results70) (Qg rfl) (Qw rfl)
  ·have hstep : stepL k ks (j : Nat) = 0 := by
    unfold stepL
    rw [if_neg (by omega), if_neg (by omega)]
   rw [hstep] at hwhs ⊢
   have hwh := hwhs (by omega)
   rw [show line + (0 : Int) = line by omega] at hwh ⊢
   generalize (if atM p ks[j] = none then (0 : Int) else qF p ks[j] line) = res at *
   clear d27 d13 d17 d21 hwhs hstep hsb2
   refine Qa Tryz.func70 rfl Tryz.ntmps70 rfl (t := [(0, .agg [.i k, .i n, .i m, QR ks]), (1, QR ((j : Int) :: p)), (2, .i line)]) rfl fun E hE => ?_
   by_cases k17 : k = 17
   ·have j2 : ¬ (j : Int) = 2 := by omega
    (repeat' first|(refine Qe ?_;(first|refine QG rfl ?_|refine QJ rfl ?_|(refine Qz ?_;(first|refine QM rfl ?_|refine Qb rfl rfl rfl ?_))|refine ZC rfl rfl ?_|(refine Qo ?_;(first|refine Q1 rfl rfl ?_|refine W0 rfl rfl ?_|refine QS rfl rfl ?_))|refine Qt rfl ?_|(refine Q4 ?_;(first|refine WO rfl rfl ?_|refine Wr rfl rfl ?_))|refine Qd rfl rfl ?_|refine QU rfl rfl (fun _ _ => ?_)))|(refine Qk ?_;(first|refine Qi ?_|refine QN rfl ?_|refine WD rfl rfl rfl rfl ?_|refine W2 rfl rfl rfl rfl ?_|refine We rfl rfl (by omega) ?_|refine Q6 rfl rfl (by omega) ?_))|(refine Qj ?_;(first|refine Qn ?_|refine Qc ?_|(refine Wg ?_;first|refine Q3 (by rfl) (by kernel_rfl) (by kernel_rfl) ?_|refine Q2 (by kernel_rfl) (by kernel_rfl) ?_)|refine Qx ?_|refine Ql rfl ?_|refine Qm rfl (by omega) ?_|refine Qs ?_))|(refine Zw ?_;(first|refine x_op rfl (by (repeat' first|(refine Qe ?_;(first|refine QG rfl ?_|refine QJ rfl ?_|(refine Qz ?_;(first|refine QD rfl ?_|refine Qb rfl rfl rfl ?_))|refine Qv rfl rfl (by first|assumption|omega|(simp;done)|(simp;omega)) ?_|refine QZ rfl rfl (hwh) ?_|refine Qd rfl rfl ?_|refine ZZ rfl rfl (by omega) (by omega) ?_))|exact ⟨rfl, rfl⟩)) ?_|refine Zr ?_)))
    exact e_1 (Tryz.results70) (Qg rfl) (Qw rfl)
   ·by_cases k21 : k = 21
    ·have j2 : ¬ (j : Int) = 1 := by omega
     (repeat' first|(refine Qe ?_;(first|refine QG rfl ?_|refine QJ rfl ?_|(refine Qz ?_;(first|refine QM rfl ?_|refine Qb rfl rfl rfl ?_))|refine ZC rfl rfl ?_|(refine Qo ?_;(first|refine Q1 rfl rfl ?_|refine W0 rfl rfl ?_|refine QS rfl rfl ?_))|refine Qt rfl ?_|(refine Q4 ?_;(first|refine WO rfl rfl ?_|refine Wr rfl rfl ?_))|refine Qd rfl rfl ?_|refine QU rfl rfl (fun _ _ => ?_)))|(refine Qk ?_;(first|refine Qi ?_|refine QN rfl ?_|refine WD rfl rfl rfl rfl ?_|refine W2 rfl rfl rfl rfl ?_|refine We rfl rfl (by omega) ?_|refine Q6 rfl rfl (by omega) ?_))|(refine Qj ?_;(first|refine Qn ?_|refine Qc ?_|(refine Wg ?_;first|refine Q3 (by rfl) (by kernel_rfl) (by kernel_rfl) ?_|refine Q2 (by kernel_rfl) (by kernel_rfl) ?_)|refine Qx ?_|refine Ql rfl ?_|refine Qm rfl (by omega) ?_|refine Qs ?_))|(refine Zw ?_;(first|refine x_op rfl (by (repeat' first|(refine Qe ?_;(first|refine QG rfl ?_|refine QJ rfl ?_|(refine Qz ?_;(first|refine QD rfl ?_|refine Qb rfl rfl rfl ?_))|refine Qv rfl rfl (by first|assumption|omega|(simp;done)|(simp;omega)) ?_|refine QZ rfl rfl (hwh) ?_|refine Qd rfl rfl ?_|refine ZZ rfl rfl (by omega) (by omega) ?_))|exact ⟨rfl, rfl⟩)) ?_|refine Zr ?_)))
     exact e_1 (Tryz.results70) (Qg rfl) (Qw rfl)
    ·(repeat' first|(refine Qe ?_;(first|refine QG rfl ?_|refine QJ rfl ?_|(refine Qz ?_;(first|refine QM rfl ?_|refine Qb rfl rfl rfl ?_))|refine ZC rfl rfl ?_|(refine Qo ?_;(first|refine Q1 rfl rfl ?_|refine W0 rfl rfl ?_|refine QS rfl rfl ?_))|refine Qt rfl ?_|refine Wr rfl rfl ?_|refine Qd rfl rfl ?_|refine QU rfl rfl (fun _ _ => ?_)))|(refine Qk ?_;(first|refine Qi ?_|refine QN rfl ?_|refine WD rfl rfl rfl rfl ?_|refine W2 rfl rfl rfl rfl ?_|refine Q6 rfl rfl (by omega) ?_))|(refine Qj ?_;(first|refine Qn ?_|refine Qc ?_|(refine Wg ?_;first|refine Q3 (by rfl) (by kernel_rfl) (by kernel_rfl) ?_|refine Q2 (by kernel_rfl) (by kernel_rfl) ?_)|refine Qx ?_|refine Ql rfl ?_|refine Qm rfl (by omega) ?_|refine Qs ?_))|(refine Zw ?_;(first|refine x_op rfl (by (repeat' first|(refine Qe ?_;(first|refine QG rfl ?_|refine QJ rfl ?_|(refine Qz ?_;(first|refine QD rfl ?_|refine Qb rfl rfl rfl ?_))|refine Qv rfl rfl (by first|assumption|omega|(simp;done)|(simp;omega)) ?_|refine QZ rfl rfl (hwh) ?_|refine Qd rfl rfl ?_|refine ZZ rfl rfl (by omega) (by omega) ?_))|exact ⟨rfl, rfl⟩)) ?_|refine Zr ?_)))
     exact e_1 (Tryz.results70) (Qg rfl) (Qw rfl)
end Go.Proofs
end
