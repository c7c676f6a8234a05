/-
  Part 10 of the proof: W3 W4 S3.
-/
import Derived.Test.YtecbcpilcjmhlaaDoorZB1
import Derived.Test.YtecbcpilcjmhlaaDoorZB5
import Derived.Test.YtecbcpilcjmhlaaDoorZB7
import Derived.Test.YtecbcpilcjmhlaaDoorZB9
set_option linter.unusedSimpArgs false
set_option linter.unusedVariables false
set_option maxRecDepth 10000
set_option maxHeartbeats 4000000
section
namespace Go.Proofs
open Go.Av
variable {G : Nat -> DV}
attribute [local irreducible] OpSem WE WY W0 ACalls ZE QV RV
open Go.Fv
end Go.Proofs
end
section
namespace Go.Proofs
open Go.Av
variable {G : Nat -> DV}
attribute [local irreducible] OpSem WE WY W0 ACalls ZE QV RV
open Go.Bl
def wW (v : Int) : Int := (v + 8) % 16 - 8
def wN (v : Int) : Nat := ((v + 16) % 16).toNat
theorem wN_lt (v : Int) : wN v < 16 := by unfold wN; omega
theorem wW_bd (v : Int) : -8 <= wW v /\ wW v <= 7 := by unfold wW; omega
theorem wW_self {v : Int} (hv : -8 <= v /\ v <= 7) : wW v = v := by unfold wW; omega
theorem tmod16 (v : Int) : v.tmod 16 = if 0 <= v then v % 16 else -((-v) % 16) := by
 split
 ·rw [Int.tmod_eq_emod_of_nonneg (by assumption)]
 ·conv => lhs; rw [show v = -(-v) by omega, Int.neg_tmod, Int.tmod_eq_emod_of_nonneg (by omega)]
theorem W8 (v : Int) (hv : -100000 <= v /\ v <= 100000) : Go.Av.Pure Tryd.prog G 58 [.i v] (.i (wW v)) := fun B => by
 have hr := tmod16 v
 have hw : wW v = (v + 8) % 16 - 8 := rfl
 refine Qb Tryd.func58 rfl Tryd.ntmps58 rfl (t := [(0, .i v)]) rfl fun E hE => ?_
 by_cases h0 : 0 <= v
 ·rw [if_pos h0] at hr
  (repeat' first | refine Qt rfl ?_ | refine Qv rfl ?_ | refine ZV rfl rfl (by omega) ?_ | refine QG rfl rfl ?_ | refine s_gtr rfl rfl ?_ | refine Qe ?_ | refine Qp rfl ?_ | refine Qf ?_ | refine Qa ?_ | refine Qj ?_ | refine QD rfl (by omega) ?_ | fail)
  rw [hr]
  by_cases h7 : v % 16 > 7
  ·(repeat' first | refine Qt rfl ?_ | refine Qv rfl ?_ | refine Zn rfl rfl (by omega) ?_ | refine Qe ?_ | refine Qp rfl ?_ | refine Qf ?_ | refine Qa ?_ | refine Qx rfl (by omega) ?_ | refine Qm ?_ | fail)
   refine e_1 Tryd.results58 (Qh rfl) (Qr ?_)
   congr 2; omega
  ·(repeat' first | refine Qt rfl ?_ | refine Qv rfl ?_ | refine Qe ?_ | refine Qp rfl ?_ | refine Qf ?_ | refine Qa ?_ | refine Qj ?_ | refine QD rfl (by omega) ?_ | refine Qm ?_ | fail)
   refine e_1 Tryd.results58 (Qh rfl) (Qr ?_)
   congr 2; omega
 ·rw [if_neg h0] at hr
  (repeat' first | refine Qt rfl ?_ | refine Qv rfl ?_ | refine ZV rfl rfl (by omega) ?_ | refine QG rfl rfl ?_ | refine Qe ?_ | refine Qp rfl ?_ | refine Qf ?_ | refine Qa ?_ | fail)
  rw [hr]
  by_cases h7 : -((-v) % 16) < -8
  ·(repeat' first | refine Qt rfl ?_ | refine Qv rfl ?_ | refine QS rfl rfl (by omega) ?_ | refine Qe ?_ | refine Qp rfl ?_ | refine Qf ?_ | refine Qa ?_ | refine Qx rfl (by omega) ?_ | refine Qm ?_ | fail)
   refine e_1 Tryd.results58 (Qh rfl) (Qr ?_)
   congr 2; omega
  ·(repeat' first | refine Qt rfl ?_ | refine Qv rfl ?_ | refine s_gtr rfl rfl ?_ | refine Qe ?_ | refine Qp rfl ?_ | refine Qf ?_ | refine Qa ?_ | refine Qj ?_ | refine QD rfl (by omega) ?_ | refine Qm ?_ | fail)
   refine e_1 Tryd.results58 (Qh rfl) (Qr ?_)
   congr 2; omega
theorem Z4 (v : Int) (hv : -100000 <= v /\ v <= 100000) : Go.Av.Pure Tryd.prog G 76 [.i v] (.i (wN v)) := fun B => by
 have hw : ((wN v : Nat) : Int) = (v + 16) % 16 := by unfold wN; omega
 have hb := wW_bd v
 have hww : wW v = (v + 8) % 16 - 8 := rfl
 refine Qb Tryd.func76 rfl Tryd.ntmps76 rfl (t := [(0, .i v)]) rfl fun E hE => ?_
 (repeat' first | refine Qt rfl ?_ | refine Qv rfl ?_ | refine ZV rfl rfl (by omega) ?_ | refine QS rfl rfl (by omega) ?_ | refine QZ rfl rfl (W8 _ (by omega)) ?_ | refine Qe ?_ | refine Qp rfl ?_ | refine Qf ?_ | refine Qa ?_ | refine Qm ?_ | fail)
 refine e_1 Tryd.results76 (Qh rfl) (Qr ?_)
 rw [Int.tmod_eq_emod_of_nonneg (by omega), hw, hww]
 congr 2; omega
def ZD (w i : Nat) : Bool := decide ((w / 2 ^ i) % 2 = 1)
def bitsTo (w : Nat) : Nat -> List Bool
 | 0 => []
 | i + 1 => bitsTo w i ++ [ZD w i]
def bitsV (v kind : Int) : List Bool := if kind = 1 then [decide (v = 1)] else bitsTo (wN v) 4
theorem bitsTo_len (w : Nat) : ∀ i, (bitsTo w i).length = i
 | 0 => rfl
 | i + 1 => by rw [bitsTo, List.length_append, bitsTo_len w i]; rfl
theorem r21Bits_1 (v : Int) : Go.Av.Pure Tryd.prog G 53 [.i v, .i 1] (Qy [decide (v = 1)]) := fun B => by
 refine Qb Tryd.func53 rfl Tryd.ntmps53 rfl (t := [(0, .i v), (1, .i 1)]) rfl fun E hE => ?_
 (repeat' first | refine Qt rfl ?_ | refine Qv rfl ?_ | refine QH rfl rfl ?_ | refine Wl rfl rfl (by decide) rfl ?_ | refine Qe ?_ | refine Qp rfl ?_ | refine Qf ?_ | refine Qa ?_ | refine Qs rfl ?_ | refine Qm ?_ | fail)
 refine e_1 Tryd.results53 (Qh rfl) (Qr ?_)
 rfl
theorem r21Bits_0 (v kind : Int) (hv : -100000 <= v /\ v <= 100000) (h1 : kind ≠ 1) : Own Tryd.prog G 53 [.i v, .i kind] (bitsTo (wN v) 4).length 1 (Qq (bitsTo (wN v) 4)) := fun B => by
 refine Qb Tryd.func53 rfl Tryd.ntmps53 rfl (t := [(0, .i v), (1, .i kind)]) rfl fun E hE => ?_
 have hr := Z4 (G := G) v hv
 have hlt := wN_lt v
 generalize wN v = w at *
 (repeat' first | refine Qt rfl ?_ | refine Qv rfl ?_ | refine QH rfl rfl ?_ | refine QZ rfl rfl (hr) ?_ | refine Qe ?_ | refine Qp rfl ?_ | refine Qf ?_ | refine Qa ?_ | refine Qg ?_ | refine Qj ?_ | refine QD rfl (by omega) ?_ | fail)
 refine r_own 6 1 rfl fun g0 hg0 => ?_
 refine r_loopg (fun (i : Nat) g => ⟨[(5, .i ((w / 2 ^ i : Nat) : Int)), (6, .ref 0 g 0 (bitsTo w i).length 1), (7, .i i)], [.row g (Qq (bitsTo w i))]⟩) (fun i => i <= 4) (fun i => 4 - i) 0 g0 hg0 ?_ (by omega) ?_
 ·rw [Nat.pow_zero, Nat.div_one]
  exact zal rfl
 intro i g hi hg
 by_cases h : i < 4
 ·have hlen := bitsTo_len w i
  have hq : w / 2 ^ i < 16 := Nat.lt_of_le_of_lt (Nat.div_le_self _ _) hlt
  have hq2 : ((w / 2 ^ (i + 1) : Nat) : Int) = ((w / 2 ^ i : Nat) : Int) / 2 := by rw [Nat.pow_succ, <- Nat.div_div_eq_div_mul]; exact Int.natCast_ediv _ 2
  have hsu : bitsTo w (i + 1) = bitsTo w i ++ [decide (((w / 2 ^ i : Nat) : Int).tmod 2 = 1)] := by
   rw [bitsTo]
   unfold ZD
   generalize w / 2 ^ i = q
   congr 2
   rw [Int.tmod_eq_emod_of_nonneg (by omega)]
   refine decide_eq_decide.2 ?_
   omega
  generalize w / 2 ^ i = q at *
  generalize bitsTo w i = acc at *
  (repeat' first | refine Qt rfl ?_ | refine Qv rfl ?_ | refine ZV rfl rfl (by omega) ?_ | refine s_quo rfl rfl (by omega) (by omega) (by omega) ?_ | refine QG rfl rfl ?_ | refine QH rfl rfl ?_ | refine QS rfl rfl (by omega) ?_ | refine s_app1 rfl rfl rfl rfl rfl rfl rfl (by first | omega | (simp; omega)) (by first | omega | (simp; omega)) (fun _ => rfl) (fun _ _ => ?_) | refine Wl rfl rfl (by decide) rfl ?_ | refine Qe ?_ | refine Qp rfl ?_ | refine Qf ?_ | refine Qa ?_ | refine Qg ?_ | refine Qj ?_ | refine Qx rfl (by omega) ?_ | fail)
  rename_i g5 hg5
  refine ⟨i + 1, g5, by omega, by omega, by omega, ?_⟩
  rw [hsu, hq2]
  exact zal rfl
 ·have hj : i = 4 := by omega
  subst hj
  (repeat' first | refine Qt rfl ?_ | refine Qv rfl ?_ | refine QG rfl rfl ?_ | refine Qe ?_ | refine Qp rfl ?_ | refine Qf ?_ | refine Qa ?_ | refine Qi rfl ?_ | refine QU rfl ?_ | refine Qm ?_ | fail)
  exact e_1 Tryd.results53 (Qh rfl) (c_ownedB hE rfl rfl rfl rfl)
theorem r21Bits_c (v kind : Int) (hv : -100000 <= v /\ v <= 100000) : Go.Av.Pure Tryd.prog G 53 [.i v, .i kind] (Qy (bitsV v kind)) := by
 unfold bitsV
 split
 ·rename_i h; subst h; exact r21Bits_1 v
 ·rename_i h; exact (r21Bits_0 v kind hv h).read
def litTo (fi : Int) (bs : List Bool) : Nat -> List Int
 | 0 => []
 | k + 1 => litTo fi bs k ++ [if bs.getD k false = true then fi + (k : Int) else -fi - (k : Int)]
theorem litTo_len (fi : Int) (bs : List Bool) : ∀ k, (litTo fi bs k).length = k
 | 0 => rfl
 | k + 1 => by rw [litTo, List.length_append, litTo_len fi bs k]; rfl
def WM (vals : List Int) (n : Int) : Int := if n < vals.length then vals.getD n.toNat 0 else 0
def litsTo (vals nm ty fi : List Int) : Nat -> List Int
 | 0 => []
 | i + 1 => litsTo vals nm ty fi i ++ litTo (fi.getD i 0) (bitsV (WM vals (nm.getD i 0)) (ty.getD i 0)) (bitsV (WM vals (nm.getD i 0)) (ty.getD i 0)).length
theorem bitsV_len (v k : Int) : (bitsV v k).length <= 4 := by
 unfold bitsV; split
 ·simp
 ·rw [bitsTo_len]; omega
theorem litsTo_len (vals nm ty fi : List Int) : ∀ i, (litsTo vals nm ty fi i).length <= 4 * i
 | 0 => Nat.le_refl _
 | i + 1 => by
  have := litsTo_len vals nm ty fi i
  have := bitsV_len (WM vals (nm.getD i 0)) (ty.getD i 0)
  rw [litsTo, List.length_append, litTo_len]; omega
theorem valAt_bd {vals : List Int} (h : ∀ x ∈ vals, -100000 <= x /\ x <= 100000) (n : Int) : -100000 <= WM vals n /\ WM vals n <= 100000 := by
 unfold WM
 split
 ·rw [List.getD_eq_getElem?_getD]
  cases e : vals[n.toNat]? with
  | none => exact ⟨by decide, by decide⟩
  | some x => exact h x (List.mem_of_getElem? e)
 ·exact ⟨by decide, by decide⟩
theorem literals_c (vars : Int) (cl : List (List Int)) (nm ty fi vals : List Int) (hnl : nm.length <= 1000) (htl : ty.length = nm.length) (hfl : fi.length = nm.length) (hnn : ∀ x ∈ nm, 0 <= x /\ x <= 63) (hfi : ∀ x ∈ fi, 0 <= x /\ x <= 100000) (hvl : vals.length <= 1000) (hv : ∀ x ∈ vals, -100000 <= x /\ x <= 100000) :
  Own Tryd.prog G 18 [.agg [.i vars, Qy cl, Qy nm, Qy ty, Qy fi], Qy vals] (litsTo vals nm ty fi nm.length).length 1 (Qq (litsTo vals nm ty fi nm.length)) := fun B => by
 refine Qb Tryd.func18 rfl Tryd.ntmps18 rfl (t := [(0, .agg [.i vars, Qy cl, Qy nm, Qy ty, Qy fi]), (1, Qy vals)]) rfl fun E hE => ?_
 (repeat' first | refine Qv rfl ?_ | refine Q5 rfl rfl (fun _ _ => ?_) | refine Qe ?_ | refine Qp rfl ?_ | refine Qf ?_ | refine Qa ?_ | refine Qg ?_ | fail)
 rename_i g1 hg1
 refine r_own 5 1 rfl fun g0 hg0 => ?_
 refine r_loopg (fun (i : Nat) g => ⟨[(1, Qy vals), (2, .ptr 0 g1 0), (5, .ref 1 g 0 (litsTo vals nm ty fi i).length 1), (6, .i i)], [.row g1 [.i vars, Qy cl, Qy nm, Qy ty, Qy fi], .row g (Qq (litsTo vals nm ty fi i))]⟩) (fun i => i <= nm.length) (fun i => nm.length - i) 0 g0 hg0 ?_ (by omega) ?_
 ·exact zal rfl
 intro i g hi hg
 have hll := litsTo_len vals nm ty fi i
 by_cases h : i < nm.length
 ·have hit : i < ty.length := by omega
  have hif : i < fi.length := by omega
  have en : nm.getD i 0 = nm[i] := by rw [List.getD_eq_getElem?_getD, List.getElem?_eq_getElem h]; rfl
  have et : ty.getD i 0 = ty[i] := by rw [List.getD_eq_getElem?_getD, List.getElem?_eq_getElem hit]; rfl
  have ef : fi.getD i 0 = fi[i] := by rw [List.getD_eq_getElem?_getD, List.getElem?_eq_getElem hif]; rfl
  have hn0 := hnn _ (List.getElem_mem h)
  have hf0 := hfi _ (List.getElem_mem hif)
  have hvb := valAt_bd hv nm[i]
  have hb := r21Bits_c (G := G) (WM vals nm[i]) ty[i] hvb
  have hbl := bitsV_len (WM vals nm[i]) ty[i]
  have hsu : litsTo vals nm ty fi (i + 1) = litsTo vals nm ty fi i ++ litTo fi[i] (bitsV (WM vals nm[i]) ty[i]) (bitsV (WM vals nm[i]) ty[i]).length := by rw [litsTo, en, et, ef]
  have hva : WM vals nm[i] = if nm[i] < vals.length then vals.getD nm[i].toNat 0 else 0 := rfl
  generalize WM vals nm[i] = v at *
  generalize bitsV v ty[i] = bs at *
  generalize litsTo vals nm ty fi i = acc at *
  by_cases hlt : nm[i] < vals.length
  ·have hix : nm[i].toNat < vals.length := by clear hva hvb; omega
   have hva : v = vals[nm[i].toNat] := by rw [hva, if_pos hlt, List.getD_eq_getElem?_getD, List.getElem?_eq_getElem hix]; rfl
   subst hva
   (repeat' first | refine Qt rfl ?_ | refine Qv rfl ?_ | refine QF rfl ?_ | refine Qc rfl rfl rfl ?_ | refine Qo rfl rfl (by first | assumption | omega | (simp; done) | (simp; omega)) ?_ | refine s_idx_sl rfl rfl (by omega) (by first | assumption | omega | (simp; done) | (simp; omega)) ?_ | refine QG rfl rfl ?_ | refine Qn rfl ?_ | refine QZ rfl rfl (hb) ?_ | refine Qd rfl rfl ?_ | refine Qe ?_ | refine Qp rfl ?_ | refine Qf ?_ | refine Qa ?_ | refine Qg ?_ | refine Qj ?_ | refine Qx rfl (by omega) ?_ | fail)
   refine r_loopg (fun (k : Nat) g => ⟨[(1, Qy vals), (2, .ptr 0 g1 0), (5, .ref 1 g 0 (acc ++ litTo fi[i] bs k).length 1), (6, .i i), (8, Qy bs), (9, .i k)], [.row g1 [.i vars, Qy cl, Qy nm, Qy ty, Qy fi], .row g (Qq (acc ++ litTo fi[i] bs k))]⟩) (fun k => k <= bs.length) (fun k => bs.length - k) 0 g hg ?_ (by omega) ?_
   ·rw [litTo, List.append_nil]
    exact zal rfl
   intro k g2 hk hg2
   have hkl := litTo_len fi[i] bs k
   by_cases hkb : k < bs.length
   ·have eb : bs.getD k false = bs[k] := by rw [List.getD_eq_getElem?_getD, List.getElem?_eq_getElem hkb]; rfl
    have hsk : litTo fi[i] bs (k + 1) = litTo fi[i] bs k ++ [if bs[k] = true then fi[i] + (k : Int) else -fi[i] - (k : Int)] := by rw [litTo, eb]
    generalize litTo fi[i] bs k = lk at *
    cases hbk : bs[k] with
    | true =>
     rw [hbk, if_pos rfl] at hsk
     (repeat' first | refine Qt rfl ?_ | refine QF rfl ?_ | refine Qo rfl rfl (by first | assumption | omega | (simp; done) | (simp; omega)) ?_ | refine QG rfl rfl ?_ | refine Qn rfl ?_ | refine Qe ?_ | refine Qp rfl ?_ | refine Qf ?_ | refine Qa ?_ | refine Qg ?_ | refine Qj ?_ | refine Qx rfl (by omega) ?_ | fail)
     rw [hbk]
     (repeat' first | refine Qt rfl ?_ | refine Qv rfl ?_ | refine QF rfl ?_ | refine Qc rfl rfl rfl ?_ | refine Qo rfl rfl (by first | assumption | omega | (simp; done) | (simp; omega)) ?_ | refine QS rfl rfl (by omega) ?_ | refine s_app1 rfl rfl rfl rfl rfl rfl rfl (by first | omega | (simp; omega)) (by first | omega | (simp; omega)) (fun _ => rfl) (fun _ _ => ?_) | refine Qd rfl rfl ?_ | refine Wl rfl rfl (by decide) rfl ?_ | refine Qe ?_ | refine Qp rfl ?_ | refine Qa ?_ | refine Qs rfl ?_ | fail)
     rename_i g5 hg5
     refine ⟨k + 1, g5, by omega, by omega, by omega, ?_⟩
     rw [hsk, <- List.append_assoc]
     exact zal rfl
    | false =>
     rw [hbk, if_neg (by simp)] at hsk
     (repeat' first | refine Qt rfl ?_ | refine QF rfl ?_ | refine Qo rfl rfl (by first | assumption | omega | (simp; done) | (simp; omega)) ?_ | refine QG rfl rfl ?_ | refine Qn rfl ?_ | refine Qe ?_ | refine Qp rfl ?_ | refine Qf ?_ | refine Qa ?_ | refine Qg ?_ | refine Qj ?_ | refine Qx rfl (by omega) ?_ | fail)
     rw [hbk]
     (repeat' first | refine Qt rfl ?_ | refine Qv rfl ?_ | refine QF rfl ?_ | refine Qc rfl rfl rfl ?_ | refine Qo rfl rfl (by first | assumption | omega | (simp; done) | (simp; omega)) ?_ | refine QS rfl rfl (by omega) ?_ | refine Zn rfl rfl (by omega) ?_ | refine s_app1 rfl rfl rfl rfl rfl rfl rfl (by first | omega | (simp; omega)) (by first | omega | (simp; omega)) (fun _ => rfl) (fun _ _ => ?_) | refine Z1 rfl (by omega) ?_ | refine Qd rfl rfl ?_ | refine Wl rfl rfl (by decide) rfl ?_ | refine Qe ?_ | refine Qp rfl ?_ | refine Qa ?_ | refine Qi rfl ?_ | fail)
     rename_i g5 hg5
     refine ⟨k + 1, g5, by omega, by omega, by omega, ?_⟩
     rw [hsk, <- List.append_assoc]
     exact zal rfl
   ·have hkb : k = bs.length := by omega
    subst hkb
    rw [<- hsu]
    (repeat' first | refine Qt rfl ?_ | refine Qv rfl ?_ | refine QG rfl rfl ?_ | refine QS rfl rfl (by omega) ?_ | refine Qn rfl ?_ | refine Qe ?_ | refine Qp rfl ?_ | refine Qf ?_ | refine Qa ?_ | refine QD rfl (by omega) ?_ | refine QU rfl ?_ | fail)
    refine ⟨i + 1, g2, by omega, by omega, by omega, ?_⟩
    exact zal rfl
  ·rw [if_neg hlt] at hva
   subst hva
   (repeat' first | refine Qt rfl ?_ | refine Qv rfl ?_ | refine QF rfl ?_ | refine Qc rfl rfl rfl ?_ | refine Qo rfl rfl (by first | assumption | omega | (simp; done) | (simp; omega)) ?_ | refine QG rfl rfl ?_ | refine Qn rfl ?_ | refine QZ rfl rfl (hb) ?_ | refine Qd rfl rfl ?_ | refine Qe ?_ | refine Qp rfl ?_ | refine Qf ?_ | refine Qa ?_ | refine Qg ?_ | refine Qj ?_ | refine Qx rfl (by omega) ?_ | refine QD rfl (by omega) ?_ | fail)
   refine r_loopg (fun (k : Nat) g => ⟨[(1, Qy vals), (2, .ptr 0 g1 0), (5, .ref 1 g 0 (acc ++ litTo fi[i] bs k).length 1), (6, .i i), (8, Qy bs), (9, .i k)], [.row g1 [.i vars, Qy cl, Qy nm, Qy ty, Qy fi], .row g (Qq (acc ++ litTo fi[i] bs k))]⟩) (fun k => k <= bs.length) (fun k => bs.length - k) 0 g hg ?_ (by omega) ?_
   ·rw [litTo, List.append_nil]
    exact zal rfl
   intro k g2 hk hg2
   have hkl := litTo_len fi[i] bs k
   by_cases hkb : k < bs.length
   ·have eb : bs.getD k false = bs[k] := by rw [List.getD_eq_getElem?_getD, List.getElem?_eq_getElem hkb]; rfl
    have hsk : litTo fi[i] bs (k + 1) = litTo fi[i] bs k ++ [if bs[k] = true then fi[i] + (k : Int) else -fi[i] - (k : Int)] := by rw [litTo, eb]
    generalize litTo fi[i] bs k = lk at *
    cases hbk : bs[k] with
    | true =>
     rw [hbk, if_pos rfl] at hsk
     (repeat' first | refine Qt rfl ?_ | refine QF rfl ?_ | refine Qo rfl rfl (by first | assumption | omega | (simp; done) | (simp; omega)) ?_ | refine QG rfl rfl ?_ | refine Qn rfl ?_ | refine Qe ?_ | refine Qp rfl ?_ | refine Qf ?_ | refine Qa ?_ | refine Qg ?_ | refine Qj ?_ | refine Qx rfl (by omega) ?_ | fail)
     rw [hbk]
     (repeat' first | refine Qt rfl ?_ | refine Qv rfl ?_ | refine QF rfl ?_ | refine Qc rfl rfl rfl ?_ | refine Qo rfl rfl (by first | assumption | omega | (simp; done) | (simp; omega)) ?_ | refine QS rfl rfl (by omega) ?_ | refine s_app1 rfl rfl rfl rfl rfl rfl rfl (by first | omega | (simp; omega)) (by first | omega | (simp; omega)) (fun _ => rfl) (fun _ _ => ?_) | refine Qd rfl rfl ?_ | refine Wl rfl rfl (by decide) rfl ?_ | refine Qe ?_ | refine Qp rfl ?_ | refine Qa ?_ | refine Qs rfl ?_ | fail)
     rename_i g5 hg5
     refine ⟨k + 1, g5, by omega, by omega, by omega, ?_⟩
     rw [hsk, <- List.append_assoc]
     exact zal rfl
    | false =>
     rw [hbk, if_neg (by simp)] at hsk
     (repeat' first | refine Qt rfl ?_ | refine QF rfl ?_ | refine Qo rfl rfl (by first | assumption | omega | (simp; done) | (simp; omega)) ?_ | refine QG rfl rfl ?_ | refine Qn rfl ?_ | refine Qe ?_ | refine Qp rfl ?_ | refine Qf ?_ | refine Qa ?_ | refine Qg ?_ | refine Qj ?_ | refine Qx rfl (by omega) ?_ | fail)
     rw [hbk]
     (repeat' first | refine Qt rfl ?_ | refine Qv rfl ?_ | refine QF rfl ?_ | refine Qc rfl rfl rfl ?_ | refine Qo rfl rfl (by first | assumption | omega | (simp; done) | (simp; omega)) ?_ | refine QS rfl rfl (by omega) ?_ | refine Zn rfl rfl (by omega) ?_ | refine s_app1 rfl rfl rfl rfl rfl rfl rfl (by first | omega | (simp; omega)) (by first | omega | (simp; omega)) (fun _ => rfl) (fun _ _ => ?_) | refine Z1 rfl (by omega) ?_ | refine Qd rfl rfl ?_ | refine Wl rfl rfl (by decide) rfl ?_ | refine Qe ?_ | refine Qp rfl ?_ | refine Qa ?_ | refine Qi rfl ?_ | fail)
     rename_i g5 hg5
     refine ⟨k + 1, g5, by omega, by omega, by omega, ?_⟩
     rw [hsk, <- List.append_assoc]
     exact zal rfl
   ·have hkb : k = bs.length := by omega
    subst hkb
    rw [<- hsu]
    (repeat' first | refine Qt rfl ?_ | refine Qv rfl ?_ | refine QG rfl rfl ?_ | refine QS rfl rfl (by omega) ?_ | refine Qn rfl ?_ | refine Qe ?_ | refine Qp rfl ?_ | refine Qf ?_ | refine Qa ?_ | refine QD rfl (by omega) ?_ | refine QU rfl ?_ | fail)
    refine ⟨i + 1, g2, by omega, by omega, by omega, ?_⟩
    exact zal rfl
 ·have hj : i = nm.length := by omega
  subst hj
  (repeat' first | refine Qt rfl ?_ | refine Qv rfl ?_ | refine Qc rfl rfl rfl ?_ | refine QG rfl rfl ?_ | refine Qn rfl ?_ | refine Qd rfl rfl ?_ | refine Qe ?_ | refine Qp rfl ?_ | refine Qf ?_ | refine Qa ?_ | refine QD rfl (by omega) ?_ | refine QU rfl ?_ | refine Qm ?_ | fail)
  exact e_1 Tryd.results18 (Qh rfl) (c_ownedB hE rfl rfl rfl rfl)
end Go.Proofs
end
