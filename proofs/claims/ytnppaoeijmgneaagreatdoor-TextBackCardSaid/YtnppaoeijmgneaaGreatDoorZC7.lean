/-
  Part 7 of the proof: SQ GZ GW SR BK RT.
-/
import Derived.Test.YtnppaoeijmgneaaGreatDoorRows
import Derived.ProofKit
import Derived.LaidMore
import Derived.LaidHandle
import Derived.LaidSub
import Derived.MakeChecks
import Derived.OpenShut
import Derived.Deep.Strs
import Derived.Stop.Joined
import Derived.Test.YtnppaoeijmgneaaGreatDoorZC1
import Derived.Test.YtnppaoeijmgneaaGreatDoorZC4
import Derived.Test.YtnppaoeijmgneaaGreatDoorZC6
set_option linter.unusedSimpArgs false
set_option linter.unusedVariables false
set_option maxRecDepth 100000
set_option maxHeartbeats 4000000
section
namespace Go.Proofs
open Go.Av Go.Bl
def mkKind (l : List Int) (n k a : Int) : Nd × Int :=
 if k < n then (.mk (atI l a 2) 0 0 [], a + 1)
 else if atI l (a + 1) 3 = 0 then (.mk 2 (1 + atI l (a + 1 + 1) 4) 0 [], a + 1 + 1 + 1)
 else if atI l (a + 1 + 1) 3 = 0 then (.mk 3 0 0 [.mk (atI l (a + 1 + 1 + 1) 2) 0 0 [], .mk (atI l (a + 1 + 1 + 1 + 1) 2) 0 0 []], a + 1 + 1 + 1 + 1 + 1)
 else (.mk (atI l a 2) 0 0 [], a + 1 + 1 + 1)
theorem mkKind_ok (l : List Int) (n k a : Int) : Wr (mkKind l n k a).1 (if k < n then 3 else 2) = true /\ QS (mkKind l n k a).1 <= 2 /\ Qs (mkKind l n k a).1 <= 3 /\ a + 1 <= (mkKind l n k a).2 /\ (mkKind l n k a).2 <= a + 5 := by
 have h2 := Qw l a (most := 2) (by decide)
 have hp : ∀ w : Int, w = 2 \/ w = 3 -> Wr (.mk (atI l a 2) 0 0 []) w = true := fun w hw => qJ (by omega) hw
 unfold mkKind
 by_cases hk : k < n
 ·rw [if_pos hk, if_pos hk]
  exact ⟨hp 3 (.inr rfl), by simp [QS, QV], by simp [Qs, QC], by simp, by dsimp only; omega⟩
 ·rw [if_neg hk, if_neg hk]
  by_cases h1 : atI l (a + 1) 3 = 0
  ·rw [if_pos h1]
   have h4 := Qw l (a + 1 + 1) (most := 4) (by decide)
   refine ⟨Wa ⟨2, 1, 4, 0, [], 0, 0, 0⟩ rfl (by decide) (by decide) (by dsimp only; omega) (by decide) (by simp) Z0, by simp [QS, QV], by simp [Qs, QC], by dsimp only; omega, by dsimp only; omega⟩
  ·rw [if_neg h1]
   by_cases h3 : atI l (a + 1 + 1) 3 = 0
   ·rw [if_pos h3]
    have hA := Qw l (a + 1 + 1 + 1) (most := 2) (by decide)
    have hB := Qw l (a + 1 + 1 + 1 + 1) (most := 2) (by decide)
    refine ⟨Wa ⟨2, 0, 0, 0, [], 3, 1, 3⟩ rfl (by decide) (by decide) (by decide) (by decide) (by simp) (kids2 (qJ (by omega) (.inr rfl)) (qJ (by omega) (.inr rfl))), by simp [QS, QV], by simp [Qs, QC], by dsimp only; omega, by dsimp only; omega⟩
   ·rw [if_neg h3]
    exact ⟨hp 2 (.inl rfl), by simp [QS, QV], by simp [Qs, QC], by dsimp only; omega, by dsimp only; omega⟩
def runK (l : List Int) (n : Int) : Nat -> Int -> Int -> List Nd × Int
 | 0, _, a => ([], a)
 | q + 1, k, a => ((mkKind l n k a).1 :: (runK l n q (k + 1) (mkKind l n k a).2).1, (runK l n q (k + 1) (mkKind l n k a).2).2)
theorem runK_ok (l : List Int) (n : Int) : ∀ (q : Nat) (k a : Int), (runK l n q k a).1.length = q /\ (∀ i (h : i < (runK l n q k a).1.length), Wr (runK l n q k a).1[i] (if k + i < n then 3 else 2) = true) /\ (∀ x ∈ (runK l n q k a).1, QS x <= 2) /\ QC (runK l n q k a).1 <= 3 * q /\ a <= (runK l n q k a).2 /\ (runK l n q k a).2 <= a + 5 * q
 | 0, k, a => by
  rw [runK]
  exact ⟨rfl, fun i h => absurd h (Nat.not_lt_zero _), fun x hx => (by cases hx), by simp [QC], by simp, by simp⟩
 | q + 1, k, a => by
  obtain ⟨k1, k2, k3, k4, k5⟩ := mkKind_ok l n k a
  obtain ⟨i1, i2, i3, i4, i5, i6⟩ := runK_ok l n q (k + 1) (mkKind l n k a).2
  rw [runK]
  dsimp only
  refine ⟨by rw [List.length_cons, i1], fun i h => ?_, fun x hx => ?_, ?_, by omega, by omega⟩
  ·cases i with
   | zero => rw [List.getElem_cons_zero, show k + ((0 : Nat) : Int) = k by omega]; exact k1
   | succ i =>
    rw [List.getElem_cons_succ, show k + ((i + 1 : Nat) : Int) = k + 1 + (i : Int) by omega]
    exact i2 i (by simpa using h)
  ·rcases List.mem_cons.1 hx with rfl | hx
   ·exact k2
   ·exact i3 x hx
  ·rw [QC]; omega
def mfunT (l : List Int) (a : Int) : List Nd × Int := runK l (atI l a 3) (atI l a 3 + atI l (a + 1) 3).toNat 0 (a + 1 + 1)
def mfunG (l : List Int) (Bk : GenF) : GenF := fun a L =>
 (.mk 26 (atI l a 3) 0 ((mfunT l a).1 ++ [(Bk (mfunT l a).2 L).1]), (Bk (mfunT l a).2 L).2.1, (Bk (mfunT l a).2 L).2.2)
structure QG (f : Nd) (a L a' L' : Int) : Prop where
 fit : Wr f 1 = true
 dep : QS f <= 14
 size : L' + (Qs f : Int) <= L + 13
 low : L - 1 <= L' \/ -11 <= L'
 mono : a <= a'
 used : a' <= a + 400
theorem mfun_q (l : List Int) (Bk : GenF) (hB : ∀ a L, preB a L -> QE 6 13 1 11 (Bk a L).1 a L (Bk a L).2.1 (Bk a L).2.2) (a L : Int) (ha : 0 <= a /\ a <= 100000) (hL : -40 <= L /\ L <= 45) : QG (mfunG l Bk a L).1 a L (mfunG l Bk a L).2.1 (mfunG l Bk a L).2.2 /\ preB (mfunT l a).2 L := by
 have b3 := Qw l a (most := 3) (by decide)
 have c3 := Qw l (a + 1) (most := 3) (by decide)
 have hk := runK_ok l (atI l a 3) (atI l a 3 + atI l (a + 1) 3).toNat 0 (a + 1 + 1)
 have hF : mfunT l a = runK l (atI l a 3) (atI l a 3 + atI l (a + 1) 3).toNat 0 (a + 1 + 1) := rfl
 rw [<- hF] at hk
 obtain ⟨k1, k2, k3, k4, k5, k6⟩ := hk
 have hpre : preB (mfunT l a).2 L := ⟨by omega, by omega, by omega, by omega⟩
 refine ⟨?_, hpre⟩
 obtain ⟨q1, q2, q3, q4, q5, q6⟩ := hB _ _ hpre
 unfold mfunG
 dsimp only
 generalize mfunT l a = T at *
 generalize Bk T.2 L = e at *
 obtain ⟨b, c, K⟩ := e
 dsimp only at *
 have hs := QX b
 refine ⟨fit_fun (by omega) rfl (by omega) q1 (fun i hi => ?_), ?_, ?_, ?_, ?_, ?_⟩
 ·have := k2 i hi
  rw [show (0 : Int) + (i : Int) = (i : Int) by omega] at this
  exact this
 ·rw [QS, depthL_app, W7]
  have h2 : QV T.1 <= 2 := Wj k3
  omega
 ·rw [Qs, Z2, sizeL1]
  omega
 ·omega
 ·omega
 ·omega
theorem mfuns_q (l : List Int) (Bk : GenF) (hB : ∀ a L, preB a L -> QE 6 13 1 11 (Bk a L).1 a L (Bk a L).2.1 (Bk a L).2.2) : ∀ (n : Nat) (a L : Int), 0 <= a -> a + 400 * n <= 100000 -> -20 + (n : Int) <= L -> L <= 45 -> n <= 9 ->
  (∀ x ∈ (ZB (mfunG l Bk) n a L).1, Wr x 1 = true /\ QS x <= 14) /\ (QC (ZB (mfunG l Bk) n a L).1 : Int) <= L + 20 + 13 * n
 | 0, a, L, _, _, _, _, _ => by
  rw [ZB]
  exact ⟨fun x hx => (by cases hx), by simp [QC]; omega⟩
 | n + 1, a, L, ha, hb, hL, hL2, hn => by
  rw [ZB]
  obtain ⟨⟨q1, q2, q3, q4, q5, q6⟩, _⟩ := mfun_q l Bk hB a L ⟨ha, by omega⟩ ⟨by omega, hL2⟩
  have hs := QX (mfunG l Bk a L).1
  by_cases h45 : (mfunG l Bk a L).2.2 <= 45
  ·obtain ⟨i1, i2⟩ := mfuns_q l Bk hB n (mfunG l Bk a L).2.1 (mfunG l Bk a L).2.2 (by omega) (by omega) (by omega) h45 (by omega)
   refine ⟨fun x hx => ?_, ?_⟩
   ·rcases List.mem_cons.1 hx with rfl | hx
    ·exact ⟨q1, q2⟩
    ·exact i1 x hx
   ·rw [QC]; omega
  ·exfalso
   have := mfun_q l Bk hB a L ⟨ha, by omega⟩ ⟨by omega, hL2⟩
   have h2 := hB _ _ this.2
   have h3 := h2.size
   have h4 := QX (Bk (mfunT l a).2 L).1
   have h5 : (mfunG l Bk a L).2.2 = (Bk (mfunT l a).2 L).2.2 := rfl
   omega
def progV (l : List Int) (Bk : GenF) : Nd := .mk 27 (atI l 0 4) 0 (ZB (mfunG l Bk) (1 + atI l 1 3).toNat 2 45).1
theorem progV_ok (l : List Int) (Bk : GenF) (hB : ∀ a L, preB a L -> QE 6 13 1 11 (Bk a L).1 a L (Bk a L).2.1 (Bk a L).2.2) : qF (progV l Bk) = true := by
 have b4 := Qw l 0 (most := 4) (by decide)
 have b3 := Qw l 1 (most := 3) (by decide)
 obtain ⟨h1, h2⟩ := mfuns_q l Bk hB (1 + atI l 1 3).toNat 2 45 (by decide) (by omega) (by omega) (by decide) (by omega)
 have h3 := WD (mfunG l Bk) (1 + atI l 1 3).toNat 2 45
 exact prog_valid (by omega) (by omega) (fun x hx => ⟨(h1 x hx).1, by have := (h1 x hx).2; omega⟩) (by omega)
end Go.Proofs
end
section
namespace Go.Proofs
open Go.Av
variable {G : Nat -> DV}
attribute [local irreducible] OpSem Zs ZH qa ACalls qP AClose RV
open Go.Bl
theorem mkBlock (l : List Int) (hl : OkI l) (e : Nat) (he : e <= 8) (S : GenF) (hS : ∀ a L, preS a L -> QE 5 (2 * e + 4) 5 (7 + e) (S a L).1 a L (S a L).2.1 (S a L).2.2 /\ CE Tryz.prog G 80 (fun p g => [.ptr p g 0, .i ((e : Int) - 1)]) (Zo l a L) (.agg (Enc.enc (S a L).1)) (Zo l (S a L).2.1 (S a L).2.2)) :
  ∃ Bk : GenF, ∀ a L, preB a L -> QE 6 (2 * e + 5) 1 (7 + e) (Bk a L).1 a L (Bk a L).2.1 (Bk a L).2.2 /\ CE Tryz.prog G 39 (fun p g => [.ptr p g 0, .i (e : Nat)]) (Zo l a L) (.agg (Enc.enc (Bk a L).1)) (Zo l (Bk a L).2.1 (Bk a L).2.2) := by
 refine ZQ (pre := preB) (R := fun a L t => QE 6 (2 * e + 5) 1 (7 + e) t.1 a L t.2.1 t.2.2 /\ CE Tryz.prog G 39 (fun p g => [.ptr p g 0, .i (e : Nat)]) (Zo l a L) (.agg (Enc.enc t.1)) (Zo l t.2.1 t.2.2)) fun a L h => ?_
 obtain ⟨p1, p2, p3, p4⟩ := h
 have b4 := Qw l a (most := 4) (by decide)
 obtain ⟨N, hN⟩ : ∃ N : Nat, atI l a 4 = (N : Int) := ⟨(atI l a 4).toNat, by omega⟩
 have hq := run_p (S := S) (dep := 2 * e + 4) (c := 7 + e) (by omega) (fun a L h => (hS a L h).1) N (a + 1) (L - 1) (by omega) (by omega) (by omega)
 have hln := runP_len S N (a + 1) (L - 1)
 refine ⟨(.mk 13 0 0 (runP S N (a + 1) (L - 1)).1, (runP S N (a + 1) (L - 1)).2), ?_, fun g B hg => ?_⟩
 ·have q1 := hq.low
  have q2 := hq.mono
  have q3 := hq.used
  have q4 := hq.size
  have q5 := Wj hq.dep
  refine ⟨Wa ⟨6, 0, 0, 0, [], 8, 0, 5⟩ rfl (by decide) (by decide) (by decide) (by decide) (by dsimp only; simp; omega) (kidsA rfl hq.fit), ?_, ?_, ?_, ?_, ?_⟩
  ·rw [QS]; omega
  ·rw [Qs]; dsimp only; omega
  ·dsimp only; omega
  ·dsimp only; omega
  ·dsimp only; omega
 clear hq
 have hnum := Wb (G := G) l hl a L 4 (by omega) (by omega)
 rw [hN] at hnum b4
 generalize hT : runP S N (a + 1) (L - 1) = T at *
 refine Qa Tryz.func39 rfl Tryz.ntmps39 rfl (t := [(0, .ptr 0 g 0), (1, .i (e : Nat))]) rfl fun E0 hE0 => ?_
 (repeat' first | (refine Qi ?_; (first | refine QM rfl ?_ | refine QR rfl ?_ | refine Qc rfl rfl rfl ?_ | refine Wt rfl rfl (by omega) ?_ | refine QT 0 (hnum) rfl rfl rfl rfl ?_ | (refine QK ?_; (first | refine Ws rfl rfl rfl rfl ?_ | refine QD rfl rfl rfl rfl (by rfl) (by rfl) (by rfl) ?_)) | refine Qd rfl rfl ?_ | refine Qp rfl rfl ?_ | refine Qf rfl rfl ?_ | refine Qq (fun _ _ => ?_))) | (refine Qn ?_; (first | refine Ql ?_ | refine QN rfl ?_ | refine QJ ?_)) | (refine Qm ?_; (first | refine Qo ?_ | refine Qb ?_ | refine Qe ?_)))
 rename_i g4 hg4 g5 hg5
 refine r_ownin 2 3 4 rfl rfl (fun _ => rfl) (fun gk hgk => ?_)
 refine r_loop5 (fun (i : Nat) (o : List Nd) (b M : Int) (gg : Nat) => ⟨[(0, .ptr 0 g 0), (1, .i (e : Nat)), (4, .ptr 1 g4 0), (5, .ptr 2 g5 0), (6, .i N), (7, .i i)], [.row g (Zo l b M), .row g4 [.i 0, .i 0, .i 0, .nil], .row g5 [.i 13, .i 0, .i 0, .ref 3 gg 0 o.length 4], .row gg (Wq o)]⟩) (fun i o b M gg => i <= N /\ o.length <= i /\ E0.N < gg /\ o ++ (runP S (N - i) b M).1 = T.1 /\ (runP S (N - i) b M).2 = T.2 /\ 0 <= b /\ b + 4 * M <= 1000000000 /\ M <= 500 /\ -100 <= M) (fun i _ _ _ _ => N - i) 0 [] (a + 1) (L - 1) gk ?_ ⟨by omega, by simp, hgk, by rw [Nat.sub_zero, hT]; rfl, by rw [Nat.sub_zero, hT], by omega, by omega, by omega, by omega⟩ ?_
 ·exact zal rfl
 intro i o b M gg ⟨hi, hol, hgg, h1, h2, m1, m2, m3, m4⟩
 by_cases hiN : i < N
 ·rw [show N - i = (N - (i + 1)) + 1 by omega, runP] at h1 h2
  by_cases hM : 0 < M
  ·rw [if_pos hM] at h1 h2
   obtain ⟨hq, hE1⟩ := hS b M ⟨m1, m2, by omega, m3⟩
   have q1 := hq.low
   have q2 := hq.mono
   have q3 := hq.used
   have q4 := hq.size
   have hd1 : ((e : Nat) : Int) - 1 = (e : Int) - 1 := rfl
   generalize S b M = t at *
   obtain ⟨v1, b1, M1⟩ := t
   dsimp only at *
   have hs := QX v1
   clear hS
   (repeat' first | (refine Qi ?_; (first | refine QM rfl ?_ | refine QR rfl ?_ | refine Qc rfl rfl rfl ?_ | (refine Qj ?_; (first | refine Q9 rfl rfl ?_ | refine ZV rfl rfl ?_ | refine Zh rfl rfl (by omega) ?_)) | (refine Qu ?_; (first | refine ZG (z := v1) rfl rfl rfl rfl rfl rfl rfl (by first | omega | (simp; omega)) (by first | omega | (simp; omega)) (fun _ => rfl) (fun _ _ => ?_) | refine QT 0 (hE1) rfl rfl rfl rfl ?_)) | refine W6 rfl rfl ?_ | refine QD rfl rfl rfl rfl (by rfl) (by rfl) (by rfl) ?_ | refine Qd rfl rfl ?_ | refine Qf rfl rfl ?_)) | (refine Qn ?_; (first | refine Ql ?_ | refine QN rfl ?_ | refine WJ rfl rfl rfl rfl ?_ | refine Wg rfl rfl (by omega) ?_)) | (refine Qm ?_; (first | refine Qo ?_ | refine Qb ?_ | refine Qe ?_ | (refine WO ?_; first | (refine Qz (fun p => p) 100 [(0, true)] (by rfl) (by rfl) (by kernel_rfl) (by decide +kernel) (by decide +kernel) ⟨_, rfl⟩ ?_) | (refine Qz (fun p => p.1 :: .row g4 [.i 0, .i 0, .i 0, .nil] :: .row g5 [.i 13, .i 0, .i 0, .ref 3 gg 0 o.length 4] :: p.2) 9 [(0, true), (1, true), (2, true), (3, true), (4, true), (5, false), (6, true), (7, false), (8, true), (9, false)] (by rfl) (by rfl) (by kernel_rfl) (by decide +kernel) (by decide +kernel) ⟨(_, _), rfl⟩ ?_) | refine Wn (by rfl) (by kernel_rfl) (by kernel_rfl) ?_ | refine Wm (by kernel_rfl) (by kernel_rfl) ?_) | refine QB ?_ | refine Qh rfl (by omega) ?_)) | (refine W9 ?_; (first | refine ZO ?_ | refine i_z0 ?_ | refine i_st rfl rfl (fun _ => (by (repeat' first | (refine Qi ?_; (first | refine QM rfl ?_ | refine Qc rfl rfl rfl ?_ | refine Zk rfl rfl hd1 ⟨by omega, by omega⟩ ?_ | refine Q0 (z := v1) rfl rfl (by decide) ?_ | refine Qd rfl rfl ?_)) | exact ⟨rfl, rfl⟩))) ?_ | refine i_ef rfl ?_)) | refine And.intro (Exists.intro ((_, _)) rfl) ?_)
   refine ⟨i + 1, o ++ [v1], b1, M1, _, ⟨by omega, by simp; omega, by assumption, by rw [List.append_assoc]; exact h1, h2, by omega, by omega, by omega, by omega⟩, by omega, ?_⟩
   exact zal rfl
  ·rw [if_neg hM] at h1 h2
   dsimp only at h1 h2
   rw [List.append_nil] at h1
   rw [<- h1, <- h2]
   clear hS
   (repeat' first | (refine Qi ?_; (first | refine QM rfl ?_ | (refine QO ?_; (first | refine W2 rfl rfl ?_ | refine Qc rfl rfl rfl ?_)) | (refine Qj ?_; (first | refine Q9 rfl rfl ?_ | refine ZV rfl rfl ?_)) | refine W6 rfl rfl ?_ | refine Ws rfl rfl rfl rfl ?_ | refine Qd rfl rfl ?_ | refine Qf rfl rfl ?_)) | (refine Qn ?_; (first | refine Ql ?_ | refine QN rfl ?_ | refine QJ ?_ | refine WJ rfl rfl rfl rfl ?_ | refine Wg rfl rfl (by omega) ?_)) | (refine Qm ?_; (first | refine Qo ?_ | refine Qb ?_ | refine Qg rfl (by omega) ?_ | refine WS rfl ?_ | refine Qx ?_)))
   exact e_1 (Tryz.results39) (Qr (size := 4) rfl rfl rfl rfl) (Zj (D := fun d => .agg [.i 13, .i 0, .i 0, d]) (k := 2) (.node rfl rfl rfl) rfl (by rw [We]; rfl) (by rw [QI]; rfl) rfl)
 ·have hie : N - i = 0 := by omega
  rw [hie, runP] at h1 h2
  dsimp only at h1 h2
  rw [List.append_nil] at h1
  rw [<- h1, <- h2]
  clear hS
  (repeat' first | (refine Qi ?_; (first | refine QM rfl ?_ | refine W2 rfl rfl ?_ | refine Q9 rfl rfl ?_ | refine WK rfl rfl ?_ | refine Ws rfl rfl rfl rfl ?_)) | (refine Qn ?_; (first | refine Ql ?_ | refine QN rfl ?_ | refine QJ ?_ | refine Zd rfl rfl rfl rfl ?_ | refine QZ rfl rfl (by omega) ?_)) | (refine Qm ?_; (first | refine Qo ?_ | refine Qb ?_ | refine Qy rfl ?_ | refine WS rfl ?_ | refine Qx ?_)))
  exact e_1 (Tryz.results39) (Qr (size := 4) rfl rfl rfl rfl) (Zj (D := fun d => .agg [.i 13, .i 0, .i 0, d]) (k := 2) (.node rfl rfl rfl) rfl (by rw [We]; rfl) (by rw [QI]; rfl) rfl)
theorem mkLeafS (l : List Int) (hl : OkI l) (E2 E1 : GenF) (hE2x : ∀ a L, preE a L -> QE 4 3 1 4 (E2 a L).1 a L (E2 a L).2.1 (E2 a L).2.2 /\ CE Tryz.prog G 128 (fun p g => [.ptr p g 0, .i 2]) (Zo l a L) (.agg (Enc.enc (E2 a L).1)) (Zo l (E2 a L).2.1 (E2 a L).2.2))
  (hE1x : ∀ a L, preE a L -> QE 4 2 1 2 (E1 a L).1 a L (E1 a L).2.1 (E1 a L).2.2 /\ CE Tryz.prog G 128 (fun p g => [.ptr p g 0, .i 1]) (Zo l a L) (.agg (Enc.enc (E1 a L).1)) (Zo l (E1 a L).2.1 (E1 a L).2.2)) (dd a L x : Int) (h : preS a L)
  (hx : (dd <= 0 /\ atI l a 14 % 8 = x) \/ (0 < dd /\ L - 1 <= 0 /\ atI l a 14 % 8 = x) \/ (0 < dd /\ 0 < L - 1 /\ atI l a 14 = x)) (hx2 : 0 <= x /\ x <= 8) :
  ∃ t : Nd × Int × Int, QE 5 4 5 7 t.1 a L t.2.1 t.2.2 /\ CE Tryz.prog G 80 (fun p g => [.ptr p g 0, .i dd]) (Zo l a L) (.agg (Enc.enc t.1)) (Zo l t.2.1 t.2.2) := by
 obtain ⟨p1, p2, p3, p4⟩ := h
 have bx := Qw l a (most := 14) (by decide)
 have hsm2 := mkSome (G := G) l hl 2 (by decide) E2 hE2x
 have hsm1 := mkSome (G := G) l hl 1 (by decide) E1 hE1x
 have hrq2 := run_q (E := E2) (w := 4) (dep := 3) (c := 4) (by decide) fun a L h => (hE2x a L h).1
 have hrq1 := run_q (E := E1) (w := 4) (dep := 2) (c := 2) (by decide) fun a L h => (hE1x a L h).1
 have hxx : x = 0 \/ x = 1 \/ x = 2 \/ x = 3 \/ x = 4 \/ x = 5 \/ x = 6 \/ x = 7 \/ x = 8 := by omega
 rcases hx with hx | hx | hx
 ·rcases hxx with rfl | rfl | rfl | rfl | rfl | rfl | rfl | rfl | rfl
  ·have hS1 := hsm2 1 (by omega) (a + 1 + 1) (L - 1) ⟨by omega, by omega, by omega, by omega⟩ (by omega)
   have hq := hrq2 1 (a + 1 + 1) (L - 1) (by omega) ⟨by omega, by omega, by omega, by omega⟩ (by omega)
   have hln := WD E2 1 (a + 1 + 1) (L - 1)
   obtain ⟨f1, d1, s1, w1, m1, u1⟩ := hq
   generalize ZB E2 1 (a + 1 + 1) (L - 1) = T at *
   obtain ⟨ks, b1, M1⟩ := T
   dsimp only at *
   have hdl := Wj d1
   rw [show ((1 : Nat) : Int) = 1 from rfl, show ((2 : Nat) : Int) = 2 from rfl] at hS1
   have n6 := Qw l (a + 1) (most := 6) (by decide)
   clear hE2x hE1x hsm1 hsm2 hrq1 hrq2
   refine ⟨(.mk 14 (atI l (a + 1) 6) (0) ks, b1, M1), ?_, fun g B hg => ?_⟩
   ·refine ⟨Wa ⟨5, 0, 5, 0, [4], 0, 0, 0⟩ rfl (by decide) (by decide) (by dsimp only; omega) (by dsimp only; omega) (by first | (simp; done) | (simp; omega)) (qI 1 hln (by decide) f1), ?_, ?_, ?_, ?_, ?_⟩
    ·rw [QS]; (try simp only [QV]); omega
    ·rw [Qs]; (try simp only [QC]); omega
    ·dsimp only; omega
    ·dsimp only; omega
    ·dsimp only; omega
   ·refine Qa Tryz.func80 rfl Tryz.ntmps80 rfl (t := [(0, .ptr 0 g 0), (1, .i dd)]) rfl fun E0 hE0 => ?_
    (repeat' first | (refine Qi ?_; (first | refine QM rfl ?_ | refine QR rfl ?_ | refine Qc rfl rfl rfl ?_ | (refine Qj ?_; (first | refine Wt rfl rfl (by omega) ?_ | refine Wu rfl rfl ?_ | refine QY rfl rfl ?_ | refine ZA rfl rfl (by first | omega | exact nn_shr (by omega)) (by omega) ?_)) | (refine Qu ?_; (first | refine QT 0 (Wb l hl _ _ _ (by omega) (by omega)) rfl rfl rfl rfl ?_ | refine QT 0 (hS1) rfl rfl rfl rfl ?_)) | refine W6 rfl rfl ?_ | (refine QK ?_; (first | refine Ws rfl rfl rfl rfl ?_ | refine QD rfl rfl rfl rfl (by rfl) (by rfl) (by rfl) ?_)) | refine Qd rfl rfl ?_ | refine Qp rfl rfl ?_ | refine Qf rfl rfl ?_ | refine Qq (fun _ _ => ?_))) | (refine Qn ?_; (first | refine Ql ?_ | refine QN rfl ?_ | refine QJ ?_ | refine Zd rfl rfl rfl rfl ?_ | refine Wg rfl rfl (by omega) ?_)) | (refine Qm ?_; (first | refine Qo ?_ | refine Qb ?_ | refine Qe ?_ | refine QB ?_ | refine Qv rfl ?_ | refine Qg rfl (by omega) ?_ | refine Qx ?_)))
    refine e_1 (Tryz.results80) (Qr (size := 4) rfl rfl rfl rfl) ?_
    rw [QI]
    exact ZI (by first | rfl | (simp [Q5, Wq]; try rfl)) rfl
  ·have hS1 := hsm2 1 (by omega) (a + 1) (L - 1) ⟨by omega, by omega, by omega, by omega⟩ (by omega)
   have hq := hrq2 1 (a + 1) (L - 1) (by omega) ⟨by omega, by omega, by omega, by omega⟩ (by omega)
   have hln := WD E2 1 (a + 1) (L - 1)
   obtain ⟨f1, d1, s1, w1, m1, u1⟩ := hq
   generalize ZB E2 1 (a + 1) (L - 1) = T at *
   obtain ⟨ks, b1, M1⟩ := T
   dsimp only at *
   have hdl := Wj d1
   rw [show ((1 : Nat) : Int) = 1 from rfl, show ((2 : Nat) : Int) = 2 from rfl] at hS1
   clear hE2x hE1x hsm1 hsm2 hrq1 hrq2
   refine ⟨(.mk 19 (0) (0) ks, b1, M1), ?_, fun g B hg => ?_⟩
   ·refine ⟨Wa ⟨5, 0, 0, 0, [4], 0, 0, 0⟩ rfl (by decide) (by decide) (by dsimp only; omega) (by dsimp only; omega) (by first | (simp; done) | (simp; omega)) (qI 1 hln (by decide) f1), ?_, ?_, ?_, ?_, ?_⟩
    ·rw [QS]; (try simp only [QV]); omega
    ·rw [Qs]; (try simp only [QC]); omega
    ·dsimp only; omega
    ·dsimp only; omega
    ·dsimp only; omega
   ·refine Qa Tryz.func80 rfl Tryz.ntmps80 rfl (t := [(0, .ptr 0 g 0), (1, .i dd)]) rfl fun E0 hE0 => ?_
    (repeat' first | (refine Qi ?_; (first | refine QM rfl ?_ | refine QR rfl ?_ | refine Qc rfl rfl rfl ?_ | (refine Qj ?_; (first | refine Wt rfl rfl (by omega) ?_ | refine Wu rfl rfl ?_ | refine QY rfl rfl ?_ | refine ZA rfl rfl (by first | omega | exact nn_shr (by omega)) (by omega) ?_)) | (refine Qu ?_; (first | refine QT 0 (Wb l hl _ _ _ (by omega) (by omega)) rfl rfl rfl rfl ?_ | refine QT 0 (hS1) rfl rfl rfl rfl ?_)) | refine W6 rfl rfl ?_ | (refine QK ?_; (first | refine Ws rfl rfl rfl rfl ?_ | refine QD rfl rfl rfl rfl (by rfl) (by rfl) (by rfl) ?_)) | refine Qd rfl rfl ?_ | refine Qp rfl rfl ?_ | refine Qf rfl rfl ?_ | refine Qq (fun _ _ => ?_))) | (refine Qn ?_; (first | refine Ql ?_ | refine QN rfl ?_ | refine QJ ?_ | refine Zd rfl rfl rfl rfl ?_ | refine Wg rfl rfl (by omega) ?_)) | (refine Qm ?_; (first | refine Qo ?_ | refine Qb ?_ | refine Qe ?_ | refine Qv rfl ?_ | refine Qh rfl (by omega) ?_ | refine Qx ?_)))
    refine e_1 (Tryz.results80) (Qr (size := 4) rfl rfl rfl rfl) ?_
    rw [QI]
    exact ZI (by first | rfl | (simp [Q5, Wq]; try rfl)) rfl
  ·have hS1 := hsm1 1 (by omega) (a + 1) (L - 1) ⟨by omega, by omega, by omega, by omega⟩ (by omega)
   have hq := hrq1 1 (a + 1) (L - 1) (by omega) ⟨by omega, by omega, by omega, by omega⟩ (by omega)
   have hln := WD E1 1 (a + 1) (L - 1)
   obtain ⟨f1, d1, s1, w1, m1, u1⟩ := hq
   generalize ZB E1 1 (a + 1) (L - 1) = T at *
   obtain ⟨ks, b1, M1⟩ := T
   dsimp only at *
   have hdl := Wj d1
   rw [show ((1 : Nat) : Int) = 1 from rfl] at hS1
   clear hE2x hE1x hsm1 hsm2 hrq1 hrq2
   refine ⟨(.mk 20 (0) (0) ks, b1, M1), ?_, fun g B hg => ?_⟩
   ·refine ⟨Wa ⟨5, 0, 0, 0, [4], 0, 0, 0⟩ rfl (by decide) (by decide) (by dsimp only; omega) (by dsimp only; omega) (by first | (simp; done) | (simp; omega)) (qI 1 hln (by decide) f1), ?_, ?_, ?_, ?_, ?_⟩
    ·rw [QS]; (try simp only [QV]); omega
    ·rw [Qs]; (try simp only [QC]); omega
    ·dsimp only; omega
    ·dsimp only; omega
    ·dsimp only; omega
   ·refine Qa Tryz.func80 rfl Tryz.ntmps80 rfl (t := [(0, .ptr 0 g 0), (1, .i dd)]) rfl fun E0 hE0 => ?_
    (repeat' first | (refine Qi ?_; (first | refine QM rfl ?_ | refine QR rfl ?_ | refine Qc rfl rfl rfl ?_ | (refine Qj ?_; (first | refine Wt rfl rfl (by omega) ?_ | refine Wu rfl rfl ?_ | refine QY rfl rfl ?_ | refine ZA rfl rfl (by first | omega | exact nn_shr (by omega)) (by omega) ?_)) | (refine Qu ?_; (first | refine QT 0 (Wb l hl _ _ _ (by omega) (by omega)) rfl rfl rfl rfl ?_ | refine QT 0 (hS1) rfl rfl rfl rfl ?_)) | refine W6 rfl rfl ?_ | (refine QK ?_; (first | refine Ws rfl rfl rfl rfl ?_ | refine QD rfl rfl rfl rfl (by rfl) (by rfl) (by rfl) ?_)) | refine Qd rfl rfl ?_ | refine Qp rfl rfl ?_ | refine Qf rfl rfl ?_ | refine Qq (fun _ _ => ?_))) | (refine Qn ?_; (first | refine Ql ?_ | refine QN rfl ?_ | refine QJ ?_ | refine Zd rfl rfl rfl rfl ?_ | refine Wg rfl rfl (by omega) ?_)) | (refine Qm ?_; (first | refine Qo ?_ | refine Qb ?_ | refine Qe ?_ | refine Qv rfl ?_ | refine Qh rfl (by omega) ?_ | refine Qg rfl (by omega) ?_ | refine Qx ?_)))
    refine e_1 (Tryz.results80) (Qr (size := 4) rfl rfl rfl rfl) ?_
    rw [QI]
    exact ZI (by first | rfl | (simp [Q5, Wq]; try rfl)) rfl
  ·have hS1 := hsm2 1 (by omega) (a + 1 + 1) (L - 1) ⟨by omega, by omega, by omega, by omega⟩ (by omega)
   have hq := hrq2 1 (a + 1 + 1) (L - 1) (by omega) ⟨by omega, by omega, by omega, by omega⟩ (by omega)
   have hln := WD E2 1 (a + 1 + 1) (L - 1)
   obtain ⟨f1, d1, s1, w1, m1, u1⟩ := hq
   generalize ZB E2 1 (a + 1 + 1) (L - 1) = T at *
   obtain ⟨ks, b1, M1⟩ := T
   dsimp only at *
   have hdl := Wj d1
   rw [show ((1 : Nat) : Int) = 1 from rfl, show ((2 : Nat) : Int) = 2 from rfl] at hS1
   have n3 := Qw l (a + 1) (most := 3) (by decide)
   clear hE2x hE1x hsm1 hsm2 hrq1 hrq2
   refine ⟨(.mk 22 (atI l (a + 1) 3) (0) ks, b1, M1), ?_, fun g B hg => ?_⟩
   ·refine ⟨Wa ⟨5, 0, 2, 0, [4], 0, 0, 0⟩ rfl (by decide) (by decide) (by dsimp only; omega) (by dsimp only; omega) (by first | (simp; done) | (simp; omega)) (qI 1 hln (by decide) f1), ?_, ?_, ?_, ?_, ?_⟩
    ·rw [QS]; (try simp only [QV]); omega
    ·rw [Qs]; (try simp only [QC]); omega
    ·dsimp only; omega
    ·dsimp only; omega
    ·dsimp only; omega
   ·refine Qa Tryz.func80 rfl Tryz.ntmps80 rfl (t := [(0, .ptr 0 g 0), (1, .i dd)]) rfl fun E0 hE0 => ?_
    (repeat' first | (refine Qi ?_; (first | refine QM rfl ?_ | refine QR rfl ?_ | refine Qc rfl rfl rfl ?_ | (refine Qj ?_; (first | refine Wt rfl rfl (by omega) ?_ | refine Wu rfl rfl ?_ | refine QY rfl rfl ?_ | refine ZA rfl rfl (by first | omega | exact nn_shr (by omega)) (by omega) ?_)) | (refine Qu ?_; (first | refine QT 0 (Wb l hl _ _ _ (by omega) (by omega)) rfl rfl rfl rfl ?_ | refine QT 0 (hS1) rfl rfl rfl rfl ?_)) | refine W6 rfl rfl ?_ | (refine QK ?_; (first | refine Ws rfl rfl rfl rfl ?_ | refine QD rfl rfl rfl rfl (by rfl) (by rfl) (by rfl) ?_)) | refine Qd rfl rfl ?_ | refine Qp rfl rfl ?_ | refine Qf rfl rfl ?_ | refine Qq (fun _ _ => ?_))) | (refine Qn ?_; (first | refine Ql ?_ | refine QN rfl ?_ | refine QJ ?_ | refine Zd rfl rfl rfl rfl ?_ | refine Wg rfl rfl (by omega) ?_)) | (refine Qm ?_; (first | refine Qo ?_ | refine Qb ?_ | refine Qe ?_ | refine Qv rfl ?_ | refine Qh rfl (by omega) ?_ | refine Qg rfl (by omega) ?_ | refine Qx ?_)))
    refine e_1 (Tryz.results80) (Qr (size := 4) rfl rfl rfl rfl) ?_
    rw [QI]
    exact ZI (by first | rfl | (simp [Q5, Wq]; try rfl)) rfl
  ·have hS1 := hsm2 1 (by omega) (a + 1) (L - 1) ⟨by omega, by omega, by omega, by omega⟩ (by omega)
   have hq := hrq2 1 (a + 1) (L - 1) (by omega) ⟨by omega, by omega, by omega, by omega⟩ (by omega)
   have hln := WD E2 1 (a + 1) (L - 1)
   obtain ⟨f1, d1, s1, w1, m1, u1⟩ := hq
   generalize ZB E2 1 (a + 1) (L - 1) = T at *
   obtain ⟨ks, b1, M1⟩ := T
   dsimp only at *
   have hdl := Wj d1
   rw [show ((1 : Nat) : Int) = 1 from rfl, show ((2 : Nat) : Int) = 2 from rfl] at hS1
   clear hE2x hE1x hsm1 hsm2 hrq1 hrq2
   refine ⟨(.mk 24 (0) (0) ks, b1, M1), ?_, fun g B hg => ?_⟩
   ·refine ⟨Wa ⟨5, 0, 0, 0, [4], 0, 0, 0⟩ rfl (by decide) (by decide) (by dsimp only; omega) (by dsimp only; omega) (by first | (simp; done) | (simp; omega)) (qI 1 hln (by decide) f1), ?_, ?_, ?_, ?_, ?_⟩
    ·rw [QS]; (try simp only [QV]); omega
    ·rw [Qs]; (try simp only [QC]); omega
    ·dsimp only; omega
    ·dsimp only; omega
    ·dsimp only; omega
   ·refine Qa Tryz.func80 rfl Tryz.ntmps80 rfl (t := [(0, .ptr 0 g 0), (1, .i dd)]) rfl fun E0 hE0 => ?_
    (repeat' first | (refine Qi ?_; (first | refine QM rfl ?_ | refine QR rfl ?_ | refine Qc rfl rfl rfl ?_ | (refine Qj ?_; (first | refine Wt rfl rfl (by omega) ?_ | refine Wu rfl rfl ?_ | refine QY rfl rfl ?_ | refine ZA rfl rfl (by first | omega | exact nn_shr (by omega)) (by omega) ?_)) | (refine Qu ?_; (first | refine QT 0 (Wb l hl _ _ _ (by omega) (by omega)) rfl rfl rfl rfl ?_ | refine QT 0 (hS1) rfl rfl rfl rfl ?_)) | refine W6 rfl rfl ?_ | (refine QK ?_; (first | refine Ws rfl rfl rfl rfl ?_ | refine QD rfl rfl rfl rfl (by rfl) (by rfl) (by rfl) ?_)) | refine Qd rfl rfl ?_ | refine Qp rfl rfl ?_ | refine Qf rfl rfl ?_ | refine Qq (fun _ _ => ?_))) | (refine Qn ?_; (first | refine Ql ?_ | refine QN rfl ?_ | refine QJ ?_ | refine Zd rfl rfl rfl rfl ?_ | refine Wg rfl rfl (by omega) ?_)) | (refine Qm ?_; (first | refine Qo ?_ | refine Qb ?_ | refine Qe ?_ | refine Qv rfl ?_ | refine Qh rfl (by omega) ?_ | refine Qg rfl (by omega) ?_ | refine Qx ?_)))
    refine e_1 (Tryz.results80) (Qr (size := 4) rfl rfl rfl rfl) ?_
    rw [QI]
    exact ZI (by first | rfl | (simp [Q5, Wq]; try rfl)) rfl
  ·have hS1 := hsm1 2 (by omega) (a + 1 + 1) (L - 1) ⟨by omega, by omega, by omega, by omega⟩ (by omega)
   have hq := hrq1 2 (a + 1 + 1) (L - 1) (by omega) ⟨by omega, by omega, by omega, by omega⟩ (by omega)
   have hln := WD E1 2 (a + 1 + 1) (L - 1)
   obtain ⟨f1, d1, s1, w1, m1, u1⟩ := hq
   generalize ZB E1 2 (a + 1 + 1) (L - 1) = T at *
   obtain ⟨ks, b1, M1⟩ := T
   dsimp only at *
   have hdl := Wj d1
   rw [show ((2 : Nat) : Int) = 2 from rfl, show ((1 : Nat) : Int) = 1 from rfl] at hS1
   have n6 := Qw l (a + 1) (most := 6) (by decide)
   clear hE2x hE1x hsm1 hsm2 hrq1 hrq2
   refine ⟨(.mk 15 (atI l (a + 1) 6) (0) ks, b1, M1), ?_, fun g B hg => ?_⟩
   ·refine ⟨Wa ⟨5, 0, 5, 0, [4, 4], 0, 0, 0⟩ rfl (by decide) (by decide) (by dsimp only; omega) (by dsimp only; omega) (by first | (simp; done) | (simp; omega)) (qI 2 hln (by decide) f1), ?_, ?_, ?_, ?_, ?_⟩
    ·rw [QS]; (try simp only [QV]); omega
    ·rw [Qs]; (try simp only [QC]); omega
    ·dsimp only; omega
    ·dsimp only; omega
    ·dsimp only; omega
   ·refine Qa Tryz.func80 rfl Tryz.ntmps80 rfl (t := [(0, .ptr 0 g 0), (1, .i dd)]) rfl fun E0 hE0 => ?_
    (repeat' first | (refine Qi ?_; (first | refine QM rfl ?_ | refine QR rfl ?_ | refine Qc rfl rfl rfl ?_ | (refine Qj ?_; (first | refine Wt rfl rfl (by omega) ?_ | refine Wu rfl rfl ?_ | refine QY rfl rfl ?_ | refine ZA rfl rfl (by first | omega | exact nn_shr (by omega)) (by omega) ?_)) | (refine Qu ?_; (first | refine QT 0 (Wb l hl _ _ _ (by omega) (by omega)) rfl rfl rfl rfl ?_ | refine QT 0 (hS1) rfl rfl rfl rfl ?_)) | refine W6 rfl rfl ?_ | (refine QK ?_; (first | refine Ws rfl rfl rfl rfl ?_ | refine QD rfl rfl rfl rfl (by rfl) (by rfl) (by rfl) ?_)) | refine Qd rfl rfl ?_ | refine Qp rfl rfl ?_ | refine Qf rfl rfl ?_ | refine Qq (fun _ _ => ?_))) | (refine Qn ?_; (first | refine Ql ?_ | refine QN rfl ?_ | refine QJ ?_ | refine Zd rfl rfl rfl rfl ?_ | refine Wg rfl rfl (by omega) ?_)) | (refine Qm ?_; (first | refine Qo ?_ | refine Qb ?_ | refine Qe ?_ | refine Qv rfl ?_ | refine Qh rfl (by omega) ?_ | refine Qg rfl (by omega) ?_ | refine Qx ?_)))
    refine e_1 (Tryz.results80) (Qr (size := 4) rfl rfl rfl rfl) ?_
    rw [QI]
    exact ZI (by first | rfl | (simp [Q5, Wq]; try rfl)) rfl
  ·have hS1 := hsm2 1 (by omega) (a + 1 + 1 + 1) (L - 1) ⟨by omega, by omega, by omega, by omega⟩ (by omega)
   have hq := hrq2 1 (a + 1 + 1 + 1) (L - 1) (by omega) ⟨by omega, by omega, by omega, by omega⟩ (by omega)
   have hln := WD E2 1 (a + 1 + 1 + 1) (L - 1)
   obtain ⟨f1, d1, s1, w1, m1, u1⟩ := hq
   generalize ZB E2 1 (a + 1 + 1 + 1) (L - 1) = T at *
   obtain ⟨ks, b1, M1⟩ := T
   dsimp only at *
   have hdl := Wj d1
   rw [show ((1 : Nat) : Int) = 1 from rfl, show ((2 : Nat) : Int) = 2 from rfl] at hS1
   have n6 := Qw l (a + 1) (most := 6) (by decide)
   have m3 := Qw l (a + 1 + 1) (most := 3) (by decide)
   clear hE2x hE1x hsm1 hsm2 hrq1 hrq2
   refine ⟨(.mk 16 (atI l (a + 1) 6) (atI l (a + 1 + 1) 3) ks, b1, M1), ?_, fun g B hg => ?_⟩
   ·refine ⟨Wa ⟨5, 0, 5, 2, [4], 0, 0, 0⟩ rfl (by decide) (by decide) (by dsimp only; omega) (by dsimp only; omega) (by first | (simp; done) | (simp; omega)) (qI 1 hln (by decide) f1), ?_, ?_, ?_, ?_, ?_⟩
    ·rw [QS]; (try simp only [QV]); omega
    ·rw [Qs]; (try simp only [QC]); omega
    ·dsimp only; omega
    ·dsimp only; omega
    ·dsimp only; omega
   ·refine Qa Tryz.func80 rfl Tryz.ntmps80 rfl (t := [(0, .ptr 0 g 0), (1, .i dd)]) rfl fun E0 hE0 => ?_
    (repeat' first | (refine Qi ?_; (first | refine QM rfl ?_ | refine QR rfl ?_ | refine Qc rfl rfl rfl ?_ | (refine Qj ?_; (first | refine Wt rfl rfl (by omega) ?_ | refine Wu rfl rfl ?_ | refine QY rfl rfl ?_ | refine ZA rfl rfl (by first | omega | exact nn_shr (by omega)) (by omega) ?_)) | (refine Qu ?_; (first | refine QT 0 (Wb l hl _ _ _ (by omega) (by omega)) rfl rfl rfl rfl ?_ | refine QT 0 (hS1) rfl rfl rfl rfl ?_)) | refine W6 rfl rfl ?_ | (refine QK ?_; (first | refine Ws rfl rfl rfl rfl ?_ | refine QD rfl rfl rfl rfl (by rfl) (by rfl) (by rfl) ?_)) | refine Qd rfl rfl ?_ | refine Qp rfl rfl ?_ | refine Qf rfl rfl ?_ | refine Qq (fun _ _ => ?_))) | (refine Qn ?_; (first | refine Ql ?_ | refine QN rfl ?_ | refine QJ ?_ | refine Zd rfl rfl rfl rfl ?_ | refine Wg rfl rfl (by omega) ?_)) | (refine Qm ?_; (first | refine Qo ?_ | refine Qb ?_ | refine Qe ?_ | refine Qv rfl ?_ | refine Qh rfl (by omega) ?_ | refine Qg rfl (by omega) ?_ | refine Qx ?_)))
    refine e_1 (Tryz.results80) (Qr (size := 4) rfl rfl rfl rfl) ?_
    rw [QI]
    exact ZI (by first | rfl | (simp [Q5, Wq]; try rfl)) rfl
  ·clear hE2x hE1x hsm1 hsm2 hrq1 hrq2
   refine ⟨(.mk 25 (0) (0) [], a + 1, L - 1), ?_, fun g B hg => ?_⟩
   ·refine ⟨Wa ⟨5, 0, 0, 0, [], 0, 0, 0⟩ rfl (by decide) (by decide) (by dsimp only; omega) (by dsimp only; omega) (by first | (simp; done) | (simp; omega)) (Z0), ?_, ?_, ?_, ?_, ?_⟩
    ·rw [QS]; (try simp only [QV]); omega
    ·rw [Qs]; (try simp only [QC]); omega
    ·dsimp only; omega
    ·dsimp only; omega
    ·dsimp only; omega
   ·refine Qa Tryz.func80 rfl Tryz.ntmps80 rfl (t := [(0, .ptr 0 g 0), (1, .i dd)]) rfl fun E0 hE0 => ?_
    (repeat' first | (refine Qi ?_; (first | refine QM rfl ?_ | refine QR rfl ?_ | refine Qc rfl rfl rfl ?_ | (refine Qj ?_; (first | refine Wt rfl rfl (by omega) ?_ | refine Wu rfl rfl ?_ | refine QY rfl rfl ?_ | refine ZA rfl rfl (by first | omega | exact nn_shr (by omega)) (by omega) ?_)) | refine QT 0 (Wb l hl _ _ _ (by omega) (by omega)) rfl rfl rfl rfl ?_ | refine W6 rfl rfl ?_ | (refine QK ?_; (first | refine Ws rfl rfl rfl rfl ?_ | refine QD rfl rfl rfl rfl (by rfl) (by rfl) (by rfl) ?_)) | refine Qd rfl rfl ?_ | refine Qp rfl rfl ?_ | refine Qf rfl rfl ?_ | refine Qq (fun _ _ => ?_))) | (refine Qn ?_; (first | refine Ql ?_ | refine QN rfl ?_ | refine QJ ?_ | refine Zd rfl rfl rfl rfl ?_ | refine Wg rfl rfl (by omega) ?_)) | (refine Qm ?_; (first | refine Qo ?_ | refine Qb ?_ | refine Qe ?_ | refine Qv rfl ?_ | refine Qh rfl (by omega) ?_ | refine Qg rfl (by omega) ?_ | refine Qx ?_)))
    exact e_1 (Tryz.results80) (Qr (size := 4) rfl rfl rfl rfl) (Wk (es := 4) (.node rfl rfl rfl) (by show _ = DV.agg (Enc.enc (Nd.mk _ _ _ [])); rw [QI]; rfl) rfl)
  ·omega
 ·rcases hxx with rfl | rfl | rfl | rfl | rfl | rfl | rfl | rfl | rfl
  ·have hS1 := hsm2 1 (by omega) (a + 1 + 1) (L - 1) ⟨by omega, by omega, by omega, by omega⟩ (by omega)
   have hq := hrq2 1 (a + 1 + 1) (L - 1) (by omega) ⟨by omega, by omega, by omega, by omega⟩ (by omega)
   have hln := WD E2 1 (a + 1 + 1) (L - 1)
   obtain ⟨f1, d1, s1, w1, m1, u1⟩ := hq
   generalize ZB E2 1 (a + 1 + 1) (L - 1) = T at *
   obtain ⟨ks, b1, M1⟩ := T
   dsimp only at *
   have hdl := Wj d1
   rw [show ((1 : Nat) : Int) = 1 from rfl, show ((2 : Nat) : Int) = 2 from rfl] at hS1
   have n6 := Qw l (a + 1) (most := 6) (by decide)
   clear hE2x hE1x hsm1 hsm2 hrq1 hrq2
   refine ⟨(.mk 14 (atI l (a + 1) 6) (0) ks, b1, M1), ?_, fun g B hg => ?_⟩
   ·refine ⟨Wa ⟨5, 0, 5, 0, [4], 0, 0, 0⟩ rfl (by decide) (by decide) (by dsimp only; omega) (by dsimp only; omega) (by first | (simp; done) | (simp; omega)) (qI 1 hln (by decide) f1), ?_, ?_, ?_, ?_, ?_⟩
    ·rw [QS]; (try simp only [QV]); omega
    ·rw [Qs]; (try simp only [QC]); omega
    ·dsimp only; omega
    ·dsimp only; omega
    ·dsimp only; omega
   ·refine Qa Tryz.func80 rfl Tryz.ntmps80 rfl (t := [(0, .ptr 0 g 0), (1, .i dd)]) rfl fun E0 hE0 => ?_
    (repeat' first | (refine Qi ?_; (first | refine QM rfl ?_ | refine QR rfl ?_ | refine Qc rfl rfl rfl ?_ | (refine Qj ?_; (first | refine Wt rfl rfl (by omega) ?_ | refine Wu rfl rfl ?_ | refine QY rfl rfl ?_ | refine ZA rfl rfl (by first | omega | exact nn_shr (by omega)) (by omega) ?_)) | (refine Qu ?_; (first | refine QT 0 (Wb l hl _ _ _ (by omega) (by omega)) rfl rfl rfl rfl ?_ | refine QT 0 (hS1) rfl rfl rfl rfl ?_)) | refine WK rfl rfl ?_ | (refine QK ?_; (first | refine Ws rfl rfl rfl rfl ?_ | refine QD rfl rfl rfl rfl (by rfl) (by rfl) (by rfl) ?_)) | refine Qd rfl rfl ?_ | refine Qp rfl rfl ?_ | refine Qf rfl rfl ?_ | refine Qq (fun _ _ => ?_))) | (refine Qn ?_; (first | refine Ql ?_ | refine QN rfl ?_ | refine QJ ?_ | refine WJ rfl rfl rfl rfl ?_ | refine QZ rfl rfl (by omega) ?_)) | (refine Qm ?_; (first | refine Qo ?_ | refine Qb ?_ | refine Qe ?_ | refine QB ?_ | refine Qh rfl (by omega) ?_ | refine Qg rfl (by omega) ?_ | refine Qx ?_)))
    refine e_1 (Tryz.results80) (Qr (size := 4) rfl rfl rfl rfl) ?_
    rw [QI]
    exact ZI (by first | rfl | (simp [Q5, Wq]; try rfl)) rfl
  ·have hS1 := hsm2 1 (by omega) (a + 1) (L - 1) ⟨by omega, by omega, by omega, by omega⟩ (by omega)
   have hq := hrq2 1 (a + 1) (L - 1) (by omega) ⟨by omega, by omega, by omega, by omega⟩ (by omega)
   have hln := WD E2 1 (a + 1) (L - 1)
   obtain ⟨f1, d1, s1, w1, m1, u1⟩ := hq
   generalize ZB E2 1 (a + 1) (L - 1) = T at *
   obtain ⟨ks, b1, M1⟩ := T
   dsimp only at *
   have hdl := Wj d1
   rw [show ((1 : Nat) : Int) = 1 from rfl, show ((2 : Nat) : Int) = 2 from rfl] at hS1
   clear hE2x hE1x hsm1 hsm2 hrq1 hrq2
   refine ⟨(.mk 19 (0) (0) ks, b1, M1), ?_, fun g B hg => ?_⟩
   ·refine ⟨Wa ⟨5, 0, 0, 0, [4], 0, 0, 0⟩ rfl (by decide) (by decide) (by dsimp only; omega) (by dsimp only; omega) (by first | (simp; done) | (simp; omega)) (qI 1 hln (by decide) f1), ?_, ?_, ?_, ?_, ?_⟩
    ·rw [QS]; (try simp only [QV]); omega
    ·rw [Qs]; (try simp only [QC]); omega
    ·dsimp only; omega
    ·dsimp only; omega
    ·dsimp only; omega
   ·refine Qa Tryz.func80 rfl Tryz.ntmps80 rfl (t := [(0, .ptr 0 g 0), (1, .i dd)]) rfl fun E0 hE0 => ?_
    (repeat' first | (refine Qi ?_; (first | refine QM rfl ?_ | refine QR rfl ?_ | refine Qc rfl rfl rfl ?_ | (refine Qj ?_; (first | refine Wt rfl rfl (by omega) ?_ | refine Wu rfl rfl ?_ | refine QY rfl rfl ?_ | refine ZA rfl rfl (by first | omega | exact nn_shr (by omega)) (by omega) ?_)) | (refine Qu ?_; (first | refine QT 0 (Wb l hl _ _ _ (by omega) (by omega)) rfl rfl rfl rfl ?_ | refine QT 0 (hS1) rfl rfl rfl rfl ?_)) | refine WK rfl rfl ?_ | (refine QK ?_; (first | refine Ws rfl rfl rfl rfl ?_ | refine QD rfl rfl rfl rfl (by rfl) (by rfl) (by rfl) ?_)) | refine Qd rfl rfl ?_ | refine Qp rfl rfl ?_ | refine Qf rfl rfl ?_ | refine Qq (fun _ _ => ?_))) | (refine Qn ?_; (first | refine Ql ?_ | refine QN rfl ?_ | refine QJ ?_ | refine WJ rfl rfl rfl rfl ?_ | refine QZ rfl rfl (by omega) ?_)) | (refine Qm ?_; (first | refine Qo ?_ | refine Qb ?_ | refine Qe ?_ | refine Qh rfl (by omega) ?_ | refine Qx ?_)))
    refine e_1 (Tryz.results80) (Qr (size := 4) rfl rfl rfl rfl) ?_
    rw [QI]
    exact ZI (by first | rfl | (simp [Q5, Wq]; try rfl)) rfl
  ·have hS1 := hsm1 1 (by omega) (a + 1) (L - 1) ⟨by omega, by omega, by omega, by omega⟩ (by omega)
   have hq := hrq1 1 (a + 1) (L - 1) (by omega) ⟨by omega, by omega, by omega, by omega⟩ (by omega)
   have hln := WD E1 1 (a + 1) (L - 1)
   obtain ⟨f1, d1, s1, w1, m1, u1⟩ := hq
   generalize ZB E1 1 (a + 1) (L - 1) = T at *
   obtain ⟨ks, b1, M1⟩ := T
   dsimp only at *
   have hdl := Wj d1
   rw [show ((1 : Nat) : Int) = 1 from rfl] at hS1
   clear hE2x hE1x hsm1 hsm2 hrq1 hrq2
   refine ⟨(.mk 20 (0) (0) ks, b1, M1), ?_, fun g B hg => ?_⟩
   ·refine ⟨Wa ⟨5, 0, 0, 0, [4], 0, 0, 0⟩ rfl (by decide) (by decide) (by dsimp only; omega) (by dsimp only; omega) (by first | (simp; done) | (simp; omega)) (qI 1 hln (by decide) f1), ?_, ?_, ?_, ?_, ?_⟩
    ·rw [QS]; (try simp only [QV]); omega
    ·rw [Qs]; (try simp only [QC]); omega
    ·dsimp only; omega
    ·dsimp only; omega
    ·dsimp only; omega
   ·refine Qa Tryz.func80 rfl Tryz.ntmps80 rfl (t := [(0, .ptr 0 g 0), (1, .i dd)]) rfl fun E0 hE0 => ?_
    (repeat' first | (refine Qi ?_; (first | refine QM rfl ?_ | refine QR rfl ?_ | refine Qc rfl rfl rfl ?_ | (refine Qj ?_; (first | refine Wt rfl rfl (by omega) ?_ | refine Wu rfl rfl ?_ | refine QY rfl rfl ?_ | refine ZA rfl rfl (by first | omega | exact nn_shr (by omega)) (by omega) ?_)) | (refine Qu ?_; (first | refine QT 0 (Wb l hl _ _ _ (by omega) (by omega)) rfl rfl rfl rfl ?_ | refine QT 0 (hS1) rfl rfl rfl rfl ?_)) | refine WK rfl rfl ?_ | (refine QK ?_; (first | refine Ws rfl rfl rfl rfl ?_ | refine QD rfl rfl rfl rfl (by rfl) (by rfl) (by rfl) ?_)) | refine Qd rfl rfl ?_ | refine Qp rfl rfl ?_ | refine Qf rfl rfl ?_ | refine Qq (fun _ _ => ?_))) | (refine Qn ?_; (first | refine Ql ?_ | refine QN rfl ?_ | refine QJ ?_ | refine WJ rfl rfl rfl rfl ?_ | refine QZ rfl rfl (by omega) ?_)) | (refine Qm ?_; (first | refine Qo ?_ | refine Qb ?_ | refine Qe ?_ | refine Qh rfl (by omega) ?_ | refine Qg rfl (by omega) ?_ | refine Qx ?_)))
    refine e_1 (Tryz.results80) (Qr (size := 4) rfl rfl rfl rfl) ?_
    rw [QI]
    exact ZI (by first | rfl | (simp [Q5, Wq]; try rfl)) rfl
  ·have hS1 := hsm2 1 (by omega) (a + 1 + 1) (L - 1) ⟨by omega, by omega, by omega, by omega⟩ (by omega)
   have hq := hrq2 1 (a + 1 + 1) (L - 1) (by omega) ⟨by omega, by omega, by omega, by omega⟩ (by omega)
   have hln := WD E2 1 (a + 1 + 1) (L - 1)
   obtain ⟨f1, d1, s1, w1, m1, u1⟩ := hq
   generalize ZB E2 1 (a + 1 + 1) (L - 1) = T at *
   obtain ⟨ks, b1, M1⟩ := T
   dsimp only at *
   have hdl := Wj d1
   rw [show ((1 : Nat) : Int) = 1 from rfl, show ((2 : Nat) : Int) = 2 from rfl] at hS1
   have n3 := Qw l (a + 1) (most := 3) (by decide)
   clear hE2x hE1x hsm1 hsm2 hrq1 hrq2
   refine ⟨(.mk 22 (atI l (a + 1) 3) (0) ks, b1, M1), ?_, fun g B hg => ?_⟩
   ·refine ⟨Wa ⟨5, 0, 2, 0, [4], 0, 0, 0⟩ rfl (by decide) (by decide) (by dsimp only; omega) (by dsimp only; omega) (by first | (simp; done) | (simp; omega)) (qI 1 hln (by decide) f1), ?_, ?_, ?_, ?_, ?_⟩
    ·rw [QS]; (try simp only [QV]); omega
    ·rw [Qs]; (try simp only [QC]); omega
    ·dsimp only; omega
    ·dsimp only; omega
    ·dsimp only; omega
   ·refine Qa Tryz.func80 rfl Tryz.ntmps80 rfl (t := [(0, .ptr 0 g 0), (1, .i dd)]) rfl fun E0 hE0 => ?_
    (repeat' first | (refine Qi ?_; (first | refine QM rfl ?_ | refine QR rfl ?_ | refine Qc rfl rfl rfl ?_ | (refine Qj ?_; (first | refine Wt rfl rfl (by omega) ?_ | refine Wu rfl rfl ?_ | refine QY rfl rfl ?_ | refine ZA rfl rfl (by first | omega | exact nn_shr (by omega)) (by omega) ?_)) | (refine Qu ?_; (first | refine QT 0 (Wb l hl _ _ _ (by omega) (by omega)) rfl rfl rfl rfl ?_ | refine QT 0 (hS1) rfl rfl rfl rfl ?_)) | refine WK rfl rfl ?_ | (refine QK ?_; (first | refine Ws rfl rfl rfl rfl ?_ | refine QD rfl rfl rfl rfl (by rfl) (by rfl) (by rfl) ?_)) | refine Qd rfl rfl ?_ | refine Qp rfl rfl ?_ | refine Qf rfl rfl ?_ | refine Qq (fun _ _ => ?_))) | (refine Qn ?_; (first | refine Ql ?_ | refine QN rfl ?_ | refine QJ ?_ | refine WJ rfl rfl rfl rfl ?_ | refine QZ rfl rfl (by omega) ?_)) | (refine Qm ?_; (first | refine Qo ?_ | refine Qb ?_ | refine Qe ?_ | refine Qh rfl (by omega) ?_ | refine Qg rfl (by omega) ?_ | refine Qx ?_)))
    refine e_1 (Tryz.results80) (Qr (size := 4) rfl rfl rfl rfl) ?_
    rw [QI]
    exact ZI (by first | rfl | (simp [Q5, Wq]; try rfl)) rfl
  ·have hS1 := hsm2 1 (by omega) (a + 1) (L - 1) ⟨by omega, by omega, by omega, by omega⟩ (by omega)
   have hq := hrq2 1 (a + 1) (L - 1) (by omega) ⟨by omega, by omega, by omega, by omega⟩ (by omega)
   have hln := WD E2 1 (a + 1) (L - 1)
   obtain ⟨f1, d1, s1, w1, m1, u1⟩ := hq
   generalize ZB E2 1 (a + 1) (L - 1) = T at *
   obtain ⟨ks, b1, M1⟩ := T
   dsimp only at *
   have hdl := Wj d1
   rw [show ((1 : Nat) : Int) = 1 from rfl, show ((2 : Nat) : Int) = 2 from rfl] at hS1
   clear hE2x hE1x hsm1 hsm2 hrq1 hrq2
   refine ⟨(.mk 24 (0) (0) ks, b1, M1), ?_, fun g B hg => ?_⟩
   ·refine ⟨Wa ⟨5, 0, 0, 0, [4], 0, 0, 0⟩ rfl (by decide) (by decide) (by dsimp only; omega) (by dsimp only; omega) (by first | (simp; done) | (simp; omega)) (qI 1 hln (by decide) f1), ?_, ?_, ?_, ?_, ?_⟩
    ·rw [QS]; (try simp only [QV]); omega
    ·rw [Qs]; (try simp only [QC]); omega
    ·dsimp only; omega
    ·dsimp only; omega
    ·dsimp only; omega
   ·refine Qa Tryz.func80 rfl Tryz.ntmps80 rfl (t := [(0, .ptr 0 g 0), (1, .i dd)]) rfl fun E0 hE0 => ?_
    (repeat' first | (refine Qi ?_; (first | refine QM rfl ?_ | refine QR rfl ?_ | refine Qc rfl rfl rfl ?_ | (refine Qj ?_; (first | refine Wt rfl rfl (by omega) ?_ | refine Wu rfl rfl ?_ | refine QY rfl rfl ?_ | refine ZA rfl rfl (by first | omega | exact nn_shr (by omega)) (by omega) ?_)) | (refine Qu ?_; (first | refine QT 0 (Wb l hl _ _ _ (by omega) (by omega)) rfl rfl rfl rfl ?_ | refine QT 0 (hS1) rfl rfl rfl rfl ?_)) | refine WK rfl rfl ?_ | (refine QK ?_; (first | refine Ws rfl rfl rfl rfl ?_ | refine QD rfl rfl rfl rfl (by rfl) (by rfl) (by rfl) ?_)) | refine Qd rfl rfl ?_ | refine Qp rfl rfl ?_ | refine Qf rfl rfl ?_ | refine Qq (fun _ _ => ?_))) | (refine Qn ?_; (first | refine Ql ?_ | refine QN rfl ?_ | refine QJ ?_ | refine WJ rfl rfl rfl rfl ?_ | refine QZ rfl rfl (by omega) ?_)) | (refine Qm ?_; (first | refine Qo ?_ | refine Qb ?_ | refine Qe ?_ | refine Qh rfl (by omega) ?_ | refine Qg rfl (by omega) ?_ | refine Qx ?_)))
    refine e_1 (Tryz.results80) (Qr (size := 4) rfl rfl rfl rfl) ?_
    rw [QI]
    exact ZI (by first | rfl | (simp [Q5, Wq]; try rfl)) rfl
  ·have hS1 := hsm1 2 (by omega) (a + 1 + 1) (L - 1) ⟨by omega, by omega, by omega, by omega⟩ (by omega)
   have hq := hrq1 2 (a + 1 + 1) (L - 1) (by omega) ⟨by omega, by omega, by omega, by omega⟩ (by omega)
   have hln := WD E1 2 (a + 1 + 1) (L - 1)
   obtain ⟨f1, d1, s1, w1, m1, u1⟩ := hq
   generalize ZB E1 2 (a + 1 + 1) (L - 1) = T at *
   obtain ⟨ks, b1, M1⟩ := T
   dsimp only at *
   have hdl := Wj d1
   rw [show ((2 : Nat) : Int) = 2 from rfl, show ((1 : Nat) : Int) = 1 from rfl] at hS1
   have n6 := Qw l (a + 1) (most := 6) (by decide)
   clear hE2x hE1x hsm1 hsm2 hrq1 hrq2
   refine ⟨(.mk 15 (atI l (a + 1) 6) (0) ks, b1, M1), ?_, fun g B hg => ?_⟩
   ·refine ⟨Wa ⟨5, 0, 5, 0, [4, 4], 0, 0, 0⟩ rfl (by decide) (by decide) (by dsimp only; omega) (by dsimp only; omega) (by first | (simp; done) | (simp; omega)) (qI 2 hln (by decide) f1), ?_, ?_, ?_, ?_, ?_⟩
    ·rw [QS]; (try simp only [QV]); omega
    ·rw [Qs]; (try simp only [QC]); omega
    ·dsimp only; omega
    ·dsimp only; omega
    ·dsimp only; omega
   ·refine Qa Tryz.func80 rfl Tryz.ntmps80 rfl (t := [(0, .ptr 0 g 0), (1, .i dd)]) rfl fun E0 hE0 => ?_
    (repeat' first | (refine Qi ?_; (first | refine QM rfl ?_ | refine QR rfl ?_ | refine Qc rfl rfl rfl ?_ | (refine Qj ?_; (first | refine Wt rfl rfl (by omega) ?_ | refine Wu rfl rfl ?_ | refine QY rfl rfl ?_ | refine ZA rfl rfl (by first | omega | exact nn_shr (by omega)) (by omega) ?_)) | (refine Qu ?_; (first | refine QT 0 (Wb l hl _ _ _ (by omega) (by omega)) rfl rfl rfl rfl ?_ | refine QT 0 (hS1) rfl rfl rfl rfl ?_)) | refine WK rfl rfl ?_ | (refine QK ?_; (first | refine Ws rfl rfl rfl rfl ?_ | refine QD rfl rfl rfl rfl (by rfl) (by rfl) (by rfl) ?_)) | refine Qd rfl rfl ?_ | refine Qp rfl rfl ?_ | refine Qf rfl rfl ?_ | refine Qq (fun _ _ => ?_))) | (refine Qn ?_; (first | refine Ql ?_ | refine QN rfl ?_ | refine QJ ?_ | refine WJ rfl rfl rfl rfl ?_ | refine QZ rfl rfl (by omega) ?_)) | (refine Qm ?_; (first | refine Qo ?_ | refine Qb ?_ | refine Qe ?_ | refine Qh rfl (by omega) ?_ | refine Qg rfl (by omega) ?_ | refine Qx ?_)))
    refine e_1 (Tryz.results80) (Qr (size := 4) rfl rfl rfl rfl) ?_
    rw [QI]
    exact ZI (by first | rfl | (simp [Q5, Wq]; try rfl)) rfl
  ·have hS1 := hsm2 1 (by omega) (a + 1 + 1 + 1) (L - 1) ⟨by omega, by omega, by omega, by omega⟩ (by omega)
   have hq := hrq2 1 (a + 1 + 1 + 1) (L - 1) (by omega) ⟨by omega, by omega, by omega, by omega⟩ (by omega)
   have hln := WD E2 1 (a + 1 + 1 + 1) (L - 1)
   obtain ⟨f1, d1, s1, w1, m1, u1⟩ := hq
   generalize ZB E2 1 (a + 1 + 1 + 1) (L - 1) = T at *
   obtain ⟨ks, b1, M1⟩ := T
   dsimp only at *
   have hdl := Wj d1
   rw [show ((1 : Nat) : Int) = 1 from rfl, show ((2 : Nat) : Int) = 2 from rfl] at hS1
   have n6 := Qw l (a + 1) (most := 6) (by decide)
   have m3 := Qw l (a + 1 + 1) (most := 3) (by decide)
   clear hE2x hE1x hsm1 hsm2 hrq1 hrq2
   refine ⟨(.mk 16 (atI l (a + 1) 6) (atI l (a + 1 + 1) 3) ks, b1, M1), ?_, fun g B hg => ?_⟩
   ·refine ⟨Wa ⟨5, 0, 5, 2, [4], 0, 0, 0⟩ rfl (by decide) (by decide) (by dsimp only; omega) (by dsimp only; omega) (by first | (simp; done) | (simp; omega)) (qI 1 hln (by decide) f1), ?_, ?_, ?_, ?_, ?_⟩
    ·rw [QS]; (try simp only [QV]); omega
    ·rw [Qs]; (try simp only [QC]); omega
    ·dsimp only; omega
    ·dsimp only; omega
    ·dsimp only; omega
   ·refine Qa Tryz.func80 rfl Tryz.ntmps80 rfl (t := [(0, .ptr 0 g 0), (1, .i dd)]) rfl fun E0 hE0 => ?_
    (repeat' first | (refine Qi ?_; (first | refine QM rfl ?_ | refine QR rfl ?_ | refine Qc rfl rfl rfl ?_ | (refine Qj ?_; (first | refine Wt rfl rfl (by omega) ?_ | refine Wu rfl rfl ?_ | refine QY rfl rfl ?_ | refine ZA rfl rfl (by first | omega | exact nn_shr (by omega)) (by omega) ?_)) | (refine Qu ?_; (first | refine QT 0 (Wb l hl _ _ _ (by omega) (by omega)) rfl rfl rfl rfl ?_ | refine QT 0 (hS1) rfl rfl rfl rfl ?_)) | refine WK rfl rfl ?_ | (refine QK ?_; (first | refine Ws rfl rfl rfl rfl ?_ | refine QD rfl rfl rfl rfl (by rfl) (by rfl) (by rfl) ?_)) | refine Qd rfl rfl ?_ | refine Qp rfl rfl ?_ | refine Qf rfl rfl ?_ | refine Qq (fun _ _ => ?_))) | (refine Qn ?_; (first | refine Ql ?_ | refine QN rfl ?_ | refine QJ ?_ | refine WJ rfl rfl rfl rfl ?_ | refine QZ rfl rfl (by omega) ?_)) | (refine Qm ?_; (first | refine Qo ?_ | refine Qb ?_ | refine Qe ?_ | refine Qh rfl (by omega) ?_ | refine Qg rfl (by omega) ?_ | refine Qx ?_)))
    refine e_1 (Tryz.results80) (Qr (size := 4) rfl rfl rfl rfl) ?_
    rw [QI]
    exact ZI (by first | rfl | (simp [Q5, Wq]; try rfl)) rfl
  ·clear hE2x hE1x hsm1 hsm2 hrq1 hrq2
   refine ⟨(.mk 25 (0) (0) [], a + 1, L - 1), ?_, fun g B hg => ?_⟩
   ·refine ⟨Wa ⟨5, 0, 0, 0, [], 0, 0, 0⟩ rfl (by decide) (by decide) (by dsimp only; omega) (by dsimp only; omega) (by first | (simp; done) | (simp; omega)) (Z0), ?_, ?_, ?_, ?_, ?_⟩
    ·rw [QS]; (try simp only [QV]); omega
    ·rw [Qs]; (try simp only [QC]); omega
    ·dsimp only; omega
    ·dsimp only; omega
    ·dsimp only; omega
   ·refine Qa Tryz.func80 rfl Tryz.ntmps80 rfl (t := [(0, .ptr 0 g 0), (1, .i dd)]) rfl fun E0 hE0 => ?_
    (repeat' first | (refine Qi ?_; (first | refine QM rfl ?_ | refine QR rfl ?_ | refine Qc rfl rfl rfl ?_ | (refine Qj ?_; (first | refine Wt rfl rfl (by omega) ?_ | refine Wu rfl rfl ?_ | refine QY rfl rfl ?_ | refine ZA rfl rfl (by first | omega | exact nn_shr (by omega)) (by omega) ?_)) | refine QT 0 (Wb l hl _ _ _ (by omega) (by omega)) rfl rfl rfl rfl ?_ | refine WK rfl rfl ?_ | (refine QK ?_; (first | refine Ws rfl rfl rfl rfl ?_ | refine QD rfl rfl rfl rfl (by rfl) (by rfl) (by rfl) ?_)) | refine Qd rfl rfl ?_ | refine Qp rfl rfl ?_ | refine Qf rfl rfl ?_ | refine Qq (fun _ _ => ?_))) | (refine Qn ?_; (first | refine Ql ?_ | refine QN rfl ?_ | refine QJ ?_ | refine WJ rfl rfl rfl rfl ?_ | refine QZ rfl rfl (by omega) ?_)) | (refine Qm ?_; (first | refine Qo ?_ | refine Qb ?_ | refine Qe ?_ | refine Qh rfl (by omega) ?_ | refine Qg rfl (by omega) ?_ | refine Qx ?_)))
    exact e_1 (Tryz.results80) (Qr (size := 4) rfl rfl rfl rfl) (Wk (es := 4) (.node rfl rfl rfl) (by show _ = DV.agg (Enc.enc (Nd.mk _ _ _ [])); rw [QI]; rfl) rfl)
  ·omega
 ·rcases hxx with rfl | rfl | rfl | rfl | rfl | rfl | rfl | rfl | rfl
  ·have hS1 := hsm2 1 (by omega) (a + 1 + 1) (L - 1) ⟨by omega, by omega, by omega, by omega⟩ (by omega)
   have hq := hrq2 1 (a + 1 + 1) (L - 1) (by omega) ⟨by omega, by omega, by omega, by omega⟩ (by omega)
   have hln := WD E2 1 (a + 1 + 1) (L - 1)
   obtain ⟨f1, d1, s1, w1, m1, u1⟩ := hq
   generalize ZB E2 1 (a + 1 + 1) (L - 1) = T at *
   obtain ⟨ks, b1, M1⟩ := T
   dsimp only at *
   have hdl := Wj d1
   rw [show ((1 : Nat) : Int) = 1 from rfl, show ((2 : Nat) : Int) = 2 from rfl] at hS1
   have n6 := Qw l (a + 1) (most := 6) (by decide)
   clear hE2x hE1x hsm1 hsm2 hrq1 hrq2
   refine ⟨(.mk 14 (atI l (a + 1) 6) (0) ks, b1, M1), ?_, fun g B hg => ?_⟩
   ·refine ⟨Wa ⟨5, 0, 5, 0, [4], 0, 0, 0⟩ rfl (by decide) (by decide) (by dsimp only; omega) (by dsimp only; omega) (by first | (simp; done) | (simp; omega)) (qI 1 hln (by decide) f1), ?_, ?_, ?_, ?_, ?_⟩
    ·rw [QS]; (try simp only [QV]); omega
    ·rw [Qs]; (try simp only [QC]); omega
    ·dsimp only; omega
    ·dsimp only; omega
    ·dsimp only; omega
   ·refine Qa Tryz.func80 rfl Tryz.ntmps80 rfl (t := [(0, .ptr 0 g 0), (1, .i dd)]) rfl fun E0 hE0 => ?_
    (repeat' first | (refine Qi ?_; (first | refine QM rfl ?_ | refine QR rfl ?_ | refine Qc rfl rfl rfl ?_ | (refine Qj ?_; (first | refine Wt rfl rfl (by omega) ?_ | refine Wu rfl rfl ?_ | refine QY rfl rfl ?_)) | (refine Qu ?_; (first | refine QT 0 (Wb l hl _ _ _ (by omega) (by omega)) rfl rfl rfl rfl ?_ | refine QT 0 (hS1) rfl rfl rfl rfl ?_)) | refine WK rfl rfl ?_ | (refine QK ?_; (first | refine Ws rfl rfl rfl rfl ?_ | refine QD rfl rfl rfl rfl (by rfl) (by rfl) (by rfl) ?_)) | refine Qd rfl rfl ?_ | refine Qp rfl rfl ?_ | refine Qf rfl rfl ?_ | refine Qq (fun _ _ => ?_))) | (refine Qn ?_; (first | refine Ql ?_ | refine QN rfl ?_ | refine QJ ?_ | refine WJ rfl rfl rfl rfl ?_ | refine QZ rfl rfl (by omega) ?_)) | (refine Qm ?_; (first | refine Qo ?_ | refine Qb ?_ | refine Qe ?_ | refine QB ?_ | refine Qg rfl (by omega) ?_ | refine Qx ?_)))
    refine e_1 (Tryz.results80) (Qr (size := 4) rfl rfl rfl rfl) ?_
    rw [QI]
    exact ZI (by first | rfl | (simp [Q5, Wq]; try rfl)) rfl
  ·have hS1 := hsm2 1 (by omega) (a + 1) (L - 1) ⟨by omega, by omega, by omega, by omega⟩ (by omega)
   have hq := hrq2 1 (a + 1) (L - 1) (by omega) ⟨by omega, by omega, by omega, by omega⟩ (by omega)
   have hln := WD E2 1 (a + 1) (L - 1)
   obtain ⟨f1, d1, s1, w1, m1, u1⟩ := hq
   generalize ZB E2 1 (a + 1) (L - 1) = T at *
   obtain ⟨ks, b1, M1⟩ := T
   dsimp only at *
   have hdl := Wj d1
   rw [show ((1 : Nat) : Int) = 1 from rfl, show ((2 : Nat) : Int) = 2 from rfl] at hS1
   clear hE2x hE1x hsm1 hsm2 hrq1 hrq2
   refine ⟨(.mk 19 (0) (0) ks, b1, M1), ?_, fun g B hg => ?_⟩
   ·refine ⟨Wa ⟨5, 0, 0, 0, [4], 0, 0, 0⟩ rfl (by decide) (by decide) (by dsimp only; omega) (by dsimp only; omega) (by first | (simp; done) | (simp; omega)) (qI 1 hln (by decide) f1), ?_, ?_, ?_, ?_, ?_⟩
    ·rw [QS]; (try simp only [QV]); omega
    ·rw [Qs]; (try simp only [QC]); omega
    ·dsimp only; omega
    ·dsimp only; omega
    ·dsimp only; omega
   ·refine Qa Tryz.func80 rfl Tryz.ntmps80 rfl (t := [(0, .ptr 0 g 0), (1, .i dd)]) rfl fun E0 hE0 => ?_
    (repeat' first | (refine Qi ?_; (first | refine QM rfl ?_ | refine QR rfl ?_ | refine Qc rfl rfl rfl ?_ | (refine Qj ?_; (first | refine Wt rfl rfl (by omega) ?_ | refine Wu rfl rfl ?_ | refine QY rfl rfl ?_)) | (refine Qu ?_; (first | refine QT 0 (Wb l hl _ _ _ (by omega) (by omega)) rfl rfl rfl rfl ?_ | refine QT 0 (hS1) rfl rfl rfl rfl ?_)) | refine WK rfl rfl ?_ | (refine QK ?_; (first | refine Ws rfl rfl rfl rfl ?_ | refine QD rfl rfl rfl rfl (by rfl) (by rfl) (by rfl) ?_)) | refine Qd rfl rfl ?_ | refine Qp rfl rfl ?_ | refine Qf rfl rfl ?_ | refine Qq (fun _ _ => ?_))) | (refine Qn ?_; (first | refine Ql ?_ | refine QN rfl ?_ | refine QJ ?_ | refine WJ rfl rfl rfl rfl ?_ | refine QZ rfl rfl (by omega) ?_)) | (refine Qm ?_; (first | refine Qo ?_ | refine Qb ?_ | refine Qe ?_ | refine QB ?_ | refine Qh rfl (by omega) ?_ | refine Qg rfl (by omega) ?_ | refine Qx ?_)))
    refine e_1 (Tryz.results80) (Qr (size := 4) rfl rfl rfl rfl) ?_
    rw [QI]
    exact ZI (by first | rfl | (simp [Q5, Wq]; try rfl)) rfl
  ·have hS1 := hsm1 1 (by omega) (a + 1) (L - 1) ⟨by omega, by omega, by omega, by omega⟩ (by omega)
   have hq := hrq1 1 (a + 1) (L - 1) (by omega) ⟨by omega, by omega, by omega, by omega⟩ (by omega)
   have hln := WD E1 1 (a + 1) (L - 1)
   obtain ⟨f1, d1, s1, w1, m1, u1⟩ := hq
   generalize ZB E1 1 (a + 1) (L - 1) = T at *
   obtain ⟨ks, b1, M1⟩ := T
   dsimp only at *
   have hdl := Wj d1
   rw [show ((1 : Nat) : Int) = 1 from rfl] at hS1
   clear hE2x hE1x hsm1 hsm2 hrq1 hrq2
   refine ⟨(.mk 20 (0) (0) ks, b1, M1), ?_, fun g B hg => ?_⟩
   ·refine ⟨Wa ⟨5, 0, 0, 0, [4], 0, 0, 0⟩ rfl (by decide) (by decide) (by dsimp only; omega) (by dsimp only; omega) (by first | (simp; done) | (simp; omega)) (qI 1 hln (by decide) f1), ?_, ?_, ?_, ?_, ?_⟩
    ·rw [QS]; (try simp only [QV]); omega
    ·rw [Qs]; (try simp only [QC]); omega
    ·dsimp only; omega
    ·dsimp only; omega
    ·dsimp only; omega
   ·refine Qa Tryz.func80 rfl Tryz.ntmps80 rfl (t := [(0, .ptr 0 g 0), (1, .i dd)]) rfl fun E0 hE0 => ?_
    (repeat' first | (refine Qi ?_; (first | refine QM rfl ?_ | refine QR rfl ?_ | refine Qc rfl rfl rfl ?_ | (refine Qj ?_; (first | refine Wt rfl rfl (by omega) ?_ | refine Wu rfl rfl ?_ | refine QY rfl rfl ?_)) | (refine Qu ?_; (first | refine QT 0 (Wb l hl _ _ _ (by omega) (by omega)) rfl rfl rfl rfl ?_ | refine QT 0 (hS1) rfl rfl rfl rfl ?_)) | refine WK rfl rfl ?_ | (refine QK ?_; (first | refine Ws rfl rfl rfl rfl ?_ | refine QD rfl rfl rfl rfl (by rfl) (by rfl) (by rfl) ?_)) | refine Qd rfl rfl ?_ | refine Qp rfl rfl ?_ | refine Qf rfl rfl ?_ | refine Qq (fun _ _ => ?_))) | (refine Qn ?_; (first | refine Ql ?_ | refine QN rfl ?_ | refine QJ ?_ | refine WJ rfl rfl rfl rfl ?_ | refine QZ rfl rfl (by omega) ?_)) | (refine Qm ?_; (first | refine Qo ?_ | refine Qb ?_ | refine Qe ?_ | refine QB ?_ | refine Qh rfl (by omega) ?_ | refine Qg rfl (by omega) ?_ | refine Qx ?_)))
    refine e_1 (Tryz.results80) (Qr (size := 4) rfl rfl rfl rfl) ?_
    rw [QI]
    exact ZI (by first | rfl | (simp [Q5, Wq]; try rfl)) rfl
  ·have hS1 := hsm2 1 (by omega) (a + 1 + 1) (L - 1) ⟨by omega, by omega, by omega, by omega⟩ (by omega)
   have hq := hrq2 1 (a + 1 + 1) (L - 1) (by omega) ⟨by omega, by omega, by omega, by omega⟩ (by omega)
   have hln := WD E2 1 (a + 1 + 1) (L - 1)
   obtain ⟨f1, d1, s1, w1, m1, u1⟩ := hq
   generalize ZB E2 1 (a + 1 + 1) (L - 1) = T at *
   obtain ⟨ks, b1, M1⟩ := T
   dsimp only at *
   have hdl := Wj d1
   rw [show ((1 : Nat) : Int) = 1 from rfl, show ((2 : Nat) : Int) = 2 from rfl] at hS1
   have n3 := Qw l (a + 1) (most := 3) (by decide)
   clear hE2x hE1x hsm1 hsm2 hrq1 hrq2
   refine ⟨(.mk 22 (atI l (a + 1) 3) (0) ks, b1, M1), ?_, fun g B hg => ?_⟩
   ·refine ⟨Wa ⟨5, 0, 2, 0, [4], 0, 0, 0⟩ rfl (by decide) (by decide) (by dsimp only; omega) (by dsimp only; omega) (by first | (simp; done) | (simp; omega)) (qI 1 hln (by decide) f1), ?_, ?_, ?_, ?_, ?_⟩
    ·rw [QS]; (try simp only [QV]); omega
    ·rw [Qs]; (try simp only [QC]); omega
    ·dsimp only; omega
    ·dsimp only; omega
    ·dsimp only; omega
   ·refine Qa Tryz.func80 rfl Tryz.ntmps80 rfl (t := [(0, .ptr 0 g 0), (1, .i dd)]) rfl fun E0 hE0 => ?_
    (repeat' first | (refine Qi ?_; (first | refine QM rfl ?_ | refine QR rfl ?_ | refine Qc rfl rfl rfl ?_ | (refine Qj ?_; (first | refine Wt rfl rfl (by omega) ?_ | refine Wu rfl rfl ?_ | refine QY rfl rfl ?_)) | (refine Qu ?_; (first | refine QT 0 (Wb l hl _ _ _ (by omega) (by omega)) rfl rfl rfl rfl ?_ | refine QT 0 (hS1) rfl rfl rfl rfl ?_)) | refine WK rfl rfl ?_ | (refine QK ?_; (first | refine Ws rfl rfl rfl rfl ?_ | refine QD rfl rfl rfl rfl (by rfl) (by rfl) (by rfl) ?_)) | refine Qd rfl rfl ?_ | refine Qp rfl rfl ?_ | refine Qf rfl rfl ?_ | refine Qq (fun _ _ => ?_))) | (refine Qn ?_; (first | refine Ql ?_ | refine QN rfl ?_ | refine QJ ?_ | refine WJ rfl rfl rfl rfl ?_ | refine QZ rfl rfl (by omega) ?_)) | (refine Qm ?_; (first | refine Qo ?_ | refine Qb ?_ | refine Qe ?_ | refine QB ?_ | refine Qh rfl (by omega) ?_ | refine Qg rfl (by omega) ?_ | refine Qx ?_)))
    refine e_1 (Tryz.results80) (Qr (size := 4) rfl rfl rfl rfl) ?_
    rw [QI]
    exact ZI (by first | rfl | (simp [Q5, Wq]; try rfl)) rfl
  ·have hS1 := hsm2 1 (by omega) (a + 1) (L - 1) ⟨by omega, by omega, by omega, by omega⟩ (by omega)
   have hq := hrq2 1 (a + 1) (L - 1) (by omega) ⟨by omega, by omega, by omega, by omega⟩ (by omega)
   have hln := WD E2 1 (a + 1) (L - 1)
   obtain ⟨f1, d1, s1, w1, m1, u1⟩ := hq
   generalize ZB E2 1 (a + 1) (L - 1) = T at *
   obtain ⟨ks, b1, M1⟩ := T
   dsimp only at *
   have hdl := Wj d1
   rw [show ((1 : Nat) : Int) = 1 from rfl, show ((2 : Nat) : Int) = 2 from rfl] at hS1
   clear hE2x hE1x hsm1 hsm2 hrq1 hrq2
   refine ⟨(.mk 24 (0) (0) ks, b1, M1), ?_, fun g B hg => ?_⟩
   ·refine ⟨Wa ⟨5, 0, 0, 0, [4], 0, 0, 0⟩ rfl (by decide) (by decide) (by dsimp only; omega) (by dsimp only; omega) (by first | (simp; done) | (simp; omega)) (qI 1 hln (by decide) f1), ?_, ?_, ?_, ?_, ?_⟩
    ·rw [QS]; (try simp only [QV]); omega
    ·rw [Qs]; (try simp only [QC]); omega
    ·dsimp only; omega
    ·dsimp only; omega
    ·dsimp only; omega
   ·refine Qa Tryz.func80 rfl Tryz.ntmps80 rfl (t := [(0, .ptr 0 g 0), (1, .i dd)]) rfl fun E0 hE0 => ?_
    (repeat' first | (refine Qi ?_; (first | refine QM rfl ?_ | refine QR rfl ?_ | refine Qc rfl rfl rfl ?_ | (refine Qj ?_; (first | refine Wt rfl rfl (by omega) ?_ | refine Wu rfl rfl ?_ | refine QY rfl rfl ?_)) | (refine Qu ?_; (first | refine QT 0 (Wb l hl _ _ _ (by omega) (by omega)) rfl rfl rfl rfl ?_ | refine QT 0 (hS1) rfl rfl rfl rfl ?_)) | refine WK rfl rfl ?_ | (refine QK ?_; (first | refine Ws rfl rfl rfl rfl ?_ | refine QD rfl rfl rfl rfl (by rfl) (by rfl) (by rfl) ?_)) | refine Qd rfl rfl ?_ | refine Qp rfl rfl ?_ | refine Qf rfl rfl ?_ | refine Qq (fun _ _ => ?_))) | (refine Qn ?_; (first | refine Ql ?_ | refine QN rfl ?_ | refine QJ ?_ | refine WJ rfl rfl rfl rfl ?_ | refine QZ rfl rfl (by omega) ?_)) | (refine Qm ?_; (first | refine Qo ?_ | refine Qb ?_ | refine Qe ?_ | refine QB ?_ | refine Qh rfl (by omega) ?_ | refine Qg rfl (by omega) ?_ | refine Qx ?_)))
    refine e_1 (Tryz.results80) (Qr (size := 4) rfl rfl rfl rfl) ?_
    rw [QI]
    exact ZI (by first | rfl | (simp [Q5, Wq]; try rfl)) rfl
  ·have hS1 := hsm1 2 (by omega) (a + 1 + 1) (L - 1) ⟨by omega, by omega, by omega, by omega⟩ (by omega)
   have hq := hrq1 2 (a + 1 + 1) (L - 1) (by omega) ⟨by omega, by omega, by omega, by omega⟩ (by omega)
   have hln := WD E1 2 (a + 1 + 1) (L - 1)
   obtain ⟨f1, d1, s1, w1, m1, u1⟩ := hq
   generalize ZB E1 2 (a + 1 + 1) (L - 1) = T at *
   obtain ⟨ks, b1, M1⟩ := T
   dsimp only at *
   have hdl := Wj d1
   rw [show ((2 : Nat) : Int) = 2 from rfl, show ((1 : Nat) : Int) = 1 from rfl] at hS1
   have n6 := Qw l (a + 1) (most := 6) (by decide)
   clear hE2x hE1x hsm1 hsm2 hrq1 hrq2
   refine ⟨(.mk 15 (atI l (a + 1) 6) (0) ks, b1, M1), ?_, fun g B hg => ?_⟩
   ·refine ⟨Wa ⟨5, 0, 5, 0, [4, 4], 0, 0, 0⟩ rfl (by decide) (by decide) (by dsimp only; omega) (by dsimp only; omega) (by first | (simp; done) | (simp; omega)) (qI 2 hln (by decide) f1), ?_, ?_, ?_, ?_, ?_⟩
    ·rw [QS]; (try simp only [QV]); omega
    ·rw [Qs]; (try simp only [QC]); omega
    ·dsimp only; omega
    ·dsimp only; omega
    ·dsimp only; omega
   ·refine Qa Tryz.func80 rfl Tryz.ntmps80 rfl (t := [(0, .ptr 0 g 0), (1, .i dd)]) rfl fun E0 hE0 => ?_
    (repeat' first | (refine Qi ?_; (first | refine QM rfl ?_ | refine QR rfl ?_ | refine Qc rfl rfl rfl ?_ | (refine Qj ?_; (first | refine Wt rfl rfl (by omega) ?_ | refine Wu rfl rfl ?_ | refine QY rfl rfl ?_)) | (refine Qu ?_; (first | refine QT 0 (Wb l hl _ _ _ (by omega) (by omega)) rfl rfl rfl rfl ?_ | refine QT 0 (hS1) rfl rfl rfl rfl ?_)) | refine WK rfl rfl ?_ | (refine QK ?_; (first | refine Ws rfl rfl rfl rfl ?_ | refine QD rfl rfl rfl rfl (by rfl) (by rfl) (by rfl) ?_)) | refine Qd rfl rfl ?_ | refine Qp rfl rfl ?_ | refine Qf rfl rfl ?_ | refine Qq (fun _ _ => ?_))) | (refine Qn ?_; (first | refine Ql ?_ | refine QN rfl ?_ | refine QJ ?_ | refine WJ rfl rfl rfl rfl ?_ | refine QZ rfl rfl (by omega) ?_)) | (refine Qm ?_; (first | refine Qo ?_ | refine Qb ?_ | refine Qe ?_ | refine QB ?_ | refine Qh rfl (by omega) ?_ | refine Qg rfl (by omega) ?_ | refine Qx ?_)))
    refine e_1 (Tryz.results80) (Qr (size := 4) rfl rfl rfl rfl) ?_
    rw [QI]
    exact ZI (by first | rfl | (simp [Q5, Wq]; try rfl)) rfl
  ·have hS1 := hsm2 1 (by omega) (a + 1 + 1 + 1) (L - 1) ⟨by omega, by omega, by omega, by omega⟩ (by omega)
   have hq := hrq2 1 (a + 1 + 1 + 1) (L - 1) (by omega) ⟨by omega, by omega, by omega, by omega⟩ (by omega)
   have hln := WD E2 1 (a + 1 + 1 + 1) (L - 1)
   obtain ⟨f1, d1, s1, w1, m1, u1⟩ := hq
   generalize ZB E2 1 (a + 1 + 1 + 1) (L - 1) = T at *
   obtain ⟨ks, b1, M1⟩ := T
   dsimp only at *
   have hdl := Wj d1
   rw [show ((1 : Nat) : Int) = 1 from rfl, show ((2 : Nat) : Int) = 2 from rfl] at hS1
   have n6 := Qw l (a + 1) (most := 6) (by decide)
   have m3 := Qw l (a + 1 + 1) (most := 3) (by decide)
   clear hE2x hE1x hsm1 hsm2 hrq1 hrq2
   refine ⟨(.mk 16 (atI l (a + 1) 6) (atI l (a + 1 + 1) 3) ks, b1, M1), ?_, fun g B hg => ?_⟩
   ·refine ⟨Wa ⟨5, 0, 5, 2, [4], 0, 0, 0⟩ rfl (by decide) (by decide) (by dsimp only; omega) (by dsimp only; omega) (by first | (simp; done) | (simp; omega)) (qI 1 hln (by decide) f1), ?_, ?_, ?_, ?_, ?_⟩
    ·rw [QS]; (try simp only [QV]); omega
    ·rw [Qs]; (try simp only [QC]); omega
    ·dsimp only; omega
    ·dsimp only; omega
    ·dsimp only; omega
   ·refine Qa Tryz.func80 rfl Tryz.ntmps80 rfl (t := [(0, .ptr 0 g 0), (1, .i dd)]) rfl fun E0 hE0 => ?_
    (repeat' first | (refine Qi ?_; (first | refine QM rfl ?_ | refine QR rfl ?_ | refine Qc rfl rfl rfl ?_ | (refine Qj ?_; (first | refine Wt rfl rfl (by omega) ?_ | refine Wu rfl rfl ?_ | refine QY rfl rfl ?_)) | (refine Qu ?_; (first | refine QT 0 (Wb l hl _ _ _ (by omega) (by omega)) rfl rfl rfl rfl ?_ | refine QT 0 (hS1) rfl rfl rfl rfl ?_)) | refine WK rfl rfl ?_ | (refine QK ?_; (first | refine Ws rfl rfl rfl rfl ?_ | refine QD rfl rfl rfl rfl (by rfl) (by rfl) (by rfl) ?_)) | refine Qd rfl rfl ?_ | refine Qp rfl rfl ?_ | refine Qf rfl rfl ?_ | refine Qq (fun _ _ => ?_))) | (refine Qn ?_; (first | refine Ql ?_ | refine QN rfl ?_ | refine QJ ?_ | refine WJ rfl rfl rfl rfl ?_ | refine QZ rfl rfl (by omega) ?_)) | (refine Qm ?_; (first | refine Qo ?_ | refine Qb ?_ | refine Qe ?_ | refine QB ?_ | refine Qh rfl (by omega) ?_ | refine Qg rfl (by omega) ?_ | refine Qx ?_)))
    refine e_1 (Tryz.results80) (Qr (size := 4) rfl rfl rfl rfl) ?_
    rw [QI]
    exact ZI (by first | rfl | (simp [Q5, Wq]; try rfl)) rfl
  ·clear hE2x hE1x hsm1 hsm2 hrq1 hrq2
   refine ⟨(.mk 25 (0) (0) [], a + 1, L - 1), ?_, fun g B hg => ?_⟩
   ·refine ⟨Wa ⟨5, 0, 0, 0, [], 0, 0, 0⟩ rfl (by decide) (by decide) (by dsimp only; omega) (by dsimp only; omega) (by first | (simp; done) | (simp; omega)) (Z0), ?_, ?_, ?_, ?_, ?_⟩
    ·rw [QS]; (try simp only [QV]); omega
    ·rw [Qs]; (try simp only [QC]); omega
    ·dsimp only; omega
    ·dsimp only; omega
    ·dsimp only; omega
   ·refine Qa Tryz.func80 rfl Tryz.ntmps80 rfl (t := [(0, .ptr 0 g 0), (1, .i dd)]) rfl fun E0 hE0 => ?_
    (repeat' first | (refine Qi ?_; (first | refine QM rfl ?_ | refine QR rfl ?_ | refine Qc rfl rfl rfl ?_ | (refine Qj ?_; (first | refine Wt rfl rfl (by omega) ?_ | refine Wu rfl rfl ?_ | refine QY rfl rfl ?_)) | refine QT 0 (Wb l hl _ _ _ (by omega) (by omega)) rfl rfl rfl rfl ?_ | refine WK rfl rfl ?_ | (refine QK ?_; (first | refine Ws rfl rfl rfl rfl ?_ | refine QD rfl rfl rfl rfl (by rfl) (by rfl) (by rfl) ?_)) | refine Qd rfl rfl ?_ | refine Qp rfl rfl ?_ | refine Qf rfl rfl ?_ | refine Qq (fun _ _ => ?_))) | (refine Qn ?_; (first | refine Ql ?_ | refine QN rfl ?_ | refine QJ ?_ | refine WJ rfl rfl rfl rfl ?_ | refine QZ rfl rfl (by omega) ?_)) | (refine Qm ?_; (first | refine Qo ?_ | refine Qb ?_ | refine Qe ?_ | refine QB ?_ | refine Qh rfl (by omega) ?_ | refine Qg rfl (by omega) ?_ | refine Qx ?_)))
    exact e_1 (Tryz.results80) (Qr (size := 4) rfl rfl rfl rfl) (Wk (es := 4) (.node rfl rfl rfl) (by show _ = DV.agg (Enc.enc (Nd.mk _ _ _ [])); rw [QI]; rfl) rfl)
  ·have hb := Qw l (a + 1 + 1) (most := 4) (by decide)
   obtain ⟨N, hN⟩ : ∃ N : Nat, atI l (a + 1 + 1) 4 = (N : Int) := ⟨(atI l (a + 1 + 1) 4).toNat, by omega⟩
   have hnum := Wb (G := G) l hl (a + 1 + 1) (L - 1) 4 (by omega) (by omega)
   rw [hN] at hnum
   have hS1 := hsm1 N (by omega) (a + 1 + 1 + 1) (L - 1) ⟨by omega, by omega, by omega, by omega⟩ (by omega)
   have hq := hrq1 N (a + 1 + 1 + 1) (L - 1) (by omega) ⟨by omega, by omega, by omega, by omega⟩ (by omega)
   have hln := WD E1 N (a + 1 + 1 + 1) (L - 1)
   obtain ⟨f1, d1, s1, w1, m1, u1⟩ := hq
   generalize ZB E1 N (a + 1 + 1 + 1) (L - 1) = T at *
   obtain ⟨ks, b1, M1⟩ := T
   dsimp only at *
   have hdl := Wj d1
   rw [show ((1 : Nat) : Int) = 1 from rfl] at hS1
   have n6 := Qw l (a + 1) (most := 6) (by decide)
   clear hE2x hE1x hsm1 hsm2 hrq1 hrq2
   refine ⟨(.mk 23 (atI l (a + 1) 6) (0) ks, b1, M1), ?_, fun g B hg => ?_⟩
   ·refine ⟨Wa ⟨5, 0, 5, 0, [], 3, 0, 4⟩ rfl (by decide) (by decide) (by dsimp only; omega) (by dsimp only; omega) (by first | (simp; done) | (simp; omega)) (kidsA rfl f1), ?_, ?_, ?_, ?_, ?_⟩
    ·rw [QS]; (try simp only [QV]); omega
    ·rw [Qs]; (try simp only [QC]); omega
    ·dsimp only; omega
    ·dsimp only; omega
    ·dsimp only; omega
   ·refine Qa Tryz.func80 rfl Tryz.ntmps80 rfl (t := [(0, .ptr 0 g 0), (1, .i dd)]) rfl fun E0 hE0 => ?_
    (repeat' first | (refine Qi ?_; (first | refine QM rfl ?_ | refine QR rfl ?_ | refine Qc rfl rfl rfl ?_ | (refine Qj ?_; (first | refine Wt rfl rfl (by omega) ?_ | refine Wu rfl rfl ?_ | refine QY rfl rfl ?_)) | (refine Qu ?_; (first | refine QT 0 (hnum) rfl rfl rfl rfl ?_ | refine QT 0 (Wb l hl _ _ _ (by omega) (by omega)) rfl rfl rfl rfl ?_ | refine QT 0 (hS1) rfl rfl rfl rfl ?_)) | refine WK rfl rfl ?_ | (refine QK ?_; (first | refine Ws rfl rfl rfl rfl ?_ | refine QD rfl rfl rfl rfl (by rfl) (by rfl) (by rfl) ?_)) | refine Qd rfl rfl ?_ | refine Qp rfl rfl ?_ | refine Qf rfl rfl ?_ | refine Qq (fun _ _ => ?_))) | (refine Qn ?_; (first | refine Ql ?_ | refine QN rfl ?_ | refine QJ ?_ | refine WJ rfl rfl rfl rfl ?_ | refine QZ rfl rfl (by omega) ?_)) | (refine Qm ?_; (first | refine Qo ?_ | refine Qb ?_ | refine Qe ?_ | refine QB ?_ | refine Qh rfl (by omega) ?_ | refine Qg rfl (by omega) ?_ | refine Qx ?_)))
    refine e_1 (Tryz.results80) (Qr (size := 4) rfl rfl rfl rfl) ?_
    rw [QI]
    exact ZI (by first | rfl | (simp [Q5, Wq]; try rfl)) rfl
theorem mkLow (l : List Int) (hl : OkI l) (E2 E1 : GenF) (hE2x : ∀ a L, preE a L -> QE 4 3 1 4 (E2 a L).1 a L (E2 a L).2.1 (E2 a L).2.2 /\ CE Tryz.prog G 128 (fun p g => [.ptr p g 0, .i 2]) (Zo l a L) (.agg (Enc.enc (E2 a L).1)) (Zo l (E2 a L).2.1 (E2 a L).2.2))
  (hE1x : ∀ a L, preE a L -> QE 4 2 1 2 (E1 a L).1 a L (E1 a L).2.1 (E1 a L).2.2 /\ CE Tryz.prog G 128 (fun p g => [.ptr p g 0, .i 1]) (Zo l a L) (.agg (Enc.enc (E1 a L).1)) (Zo l (E1 a L).2.1 (E1 a L).2.2)) (e : Nat) (he : ((e : Nat) : Int) - 1 <= 0) : (∃ S : GenF, ∀ a L, preS a L -> QE 5 (2 * (e) + 4) 5 (7 + ((e : Nat) : Int)) (S a L).1 a L (S a L).2.1 (S a L).2.2 /\ CE Tryz.prog G 80 (fun p g => [.ptr p g 0, .i (((e : Nat) : Int) - 1)]) (Zo l a L) (.agg (Enc.enc (S a L).1)) (Zo l (S a L).2.1 (S a L).2.2)) := by
 refine ZQ (pre := preS) (R := fun a L t => QE 5 (2 * e + 4) 5 (7 + (e : Nat)) t.1 a L t.2.1 t.2.2 /\ CE Tryz.prog G 80 (fun p g => [.ptr p g 0, .i (((e : Nat) : Int) - 1)]) (Zo l a L) (.agg (Enc.enc t.1)) (Zo l t.2.1 t.2.2)) fun a L h => ?_
 have bx := Qw l a (most := 14) (by decide)
 obtain ⟨t, hq, hc⟩ := mkLeafS l hl E2 E1 hE2x hE1x (((e : Nat) : Int) - 1) a L (atI l a 14 % 8) h (.inl ⟨he, rfl⟩) (by omega)
 have q1 := hq.low
 have q2 := hq.dep
 exact ⟨t, ⟨hq.fit, by omega, hq.size, by omega, hq.mono, hq.used⟩, hc⟩
theorem mkStep (l : List Int) (hl : OkI l) (E2 E1 : GenF) (hE2x : ∀ a L, preE a L -> QE 4 3 1 4 (E2 a L).1 a L (E2 a L).2.1 (E2 a L).2.2 /\ CE Tryz.prog G 128 (fun p g => [.ptr p g 0, .i 2]) (Zo l a L) (.agg (Enc.enc (E2 a L).1)) (Zo l (E2 a L).2.1 (E2 a L).2.2))
  (hE1x : ∀ a L, preE a L -> QE 4 2 1 2 (E1 a L).1 a L (E1 a L).2.1 (E1 a L).2.2 /\ CE Tryz.prog G 128 (fun p g => [.ptr p g 0, .i 1]) (Zo l a L) (.agg (Enc.enc (E1 a L).1)) (Zo l (E1 a L).2.1 (E1 a L).2.2)) (e : Nat) (he : e <= 6) (Bk0 Bk1 : GenF)
  (hBk0 : ∀ a L, preB a L -> QE 6 (2 * e + 5) 1 (7 + e) (Bk0 a L).1 a L (Bk0 a L).2.1 (Bk0 a L).2.2 /\ CE Tryz.prog G 39 (fun p g => [.ptr p g 0, .i (e : Nat)]) (Zo l a L) (.agg (Enc.enc (Bk0 a L).1)) (Zo l (Bk0 a L).2.1 (Bk0 a L).2.2))
  (hBk1 : ∀ a L, preB a L -> QE 6 (2 * (e + 1) + 5) 1 (7 + (e + 1 : Nat)) (Bk1 a L).1 a L (Bk1 a L).2.1 (Bk1 a L).2.2 /\ CE Tryz.prog G 39 (fun p g => [.ptr p g 0, .i (e + 1 : Nat)]) (Zo l a L) (.agg (Enc.enc (Bk1 a L).1)) (Zo l (Bk1 a L).2.1 (Bk1 a L).2.2)) : (∃ S : GenF, ∀ a L, preS a L -> QE 5 (2 * (e + 2) + 4) 5 (7 + ((e + 2 : Nat) : Int)) (S a L).1 a L (S a L).2.1 (S a L).2.2 /\ CE Tryz.prog G 80 (fun p g => [.ptr p g 0, .i (((e + 2 : Nat) : Int) - 1)]) (Zo l a L) (.agg (Enc.enc (S a L).1)) (Zo l (S a L).2.1 (S a L).2.2)) := by
 refine ZQ (pre := preS) (R := fun a L t => QE 5 (2 * (e + 2) + 4) 5 (7 + (e + 2 : Nat)) t.1 a L t.2.1 t.2.2 /\ CE Tryz.prog G 80 (fun p g => [.ptr p g 0, .i (((e + 2 : Nat) : Int) - 1)]) (Zo l a L) (.agg (Enc.enc t.1)) (Zo l t.2.1 t.2.2)) fun a L h => ?_
 have bx := Qw l a (most := 14) (by decide)
 have lift : (∃ t : Nd × Int × Int, QE 5 4 5 7 t.1 a L t.2.1 t.2.2 /\ CE Tryz.prog G 80 (fun p g => [.ptr p g 0, .i (((e + 2 : Nat) : Int) - 1)]) (Zo l a L) (.agg (Enc.enc t.1)) (Zo l t.2.1 t.2.2)) -> ∃ t : Nd × Int × Int, QE 5 (2 * (e + 2) + 4) 5 (7 + (e + 2 : Nat)) t.1 a L t.2.1 t.2.2 /\ CE Tryz.prog G 80 (fun p g => [.ptr p g 0, .i (((e + 2 : Nat) : Int) - 1)]) (Zo l a L) (.agg (Enc.enc t.1)) (Zo l t.2.1 t.2.2) := fun ⟨t, hq, hc⟩ => by
  have q1 := hq.low
  have q2 := hq.dep
  exact ⟨t, ⟨hq.fit, by omega, hq.size, by omega, hq.mono, hq.used⟩, hc⟩
 by_cases hlf : L - 1 <= 0
 ·exact lift (mkLeafS l hl E2 E1 hE2x hE1x _ a L (atI l a 14 % 8) h (.inr (.inl ⟨by omega, hlf, rfl⟩)) (by omega))
 by_cases hx9 : atI l a 14 <= 8
 ·exact lift (mkLeafS l hl E2 E1 hE2x hE1x _ a L (atI l a 14) h (.inr (.inr ⟨by omega, by omega, rfl⟩)) (by omega))
 clear lift
 obtain ⟨p1, p2, p3, p4⟩ := h
 have hed : ((e + 2 : Nat) : Int) - 1 = (e + 1 : Nat) := by omega
 have hd1 : ((e + 1 : Nat) : Int) - 1 = (e : Nat) := by omega
 have hd0 : ¬ (((e + 1 : Nat) : Int) <= 0) := by omega
 rw [hed]
 have hxx : atI l a 14 = 9 \/ atI l a 14 = 10 \/ atI l a 14 = 11 \/ atI l a 14 = 12 \/ atI l a 14 = 13 := by omega
 generalize hdd : ((e + 1 : Nat) : Int) = dd at *
 rcases hxx with hx | hx | hx | hx | hx
 ·obtain ⟨hqv1, hE1⟩ := hE2x (a + 1) (L - 1) ⟨by omega, by omega, by omega, by omega⟩
  obtain ⟨fv1, dv1, sv1, wv1, mv1, uv1⟩ := hqv1
  generalize E2 (a + 1) (L - 1) = tv1 at *
  obtain ⟨v1, b1, M1⟩ := tv1
  dsimp only at *
  have spv1 := QX v1
  obtain ⟨hqw1, hB1⟩ := hBk0 (b1) (M1) ⟨by omega, by omega, by omega, by omega⟩
  obtain ⟨fw1, dw1, sw1, ww1, mw1, uw1⟩ := hqw1
  generalize Bk0 (b1) (M1) = tw1 at *
  obtain ⟨w1, c1, K1⟩ := tw1
  dsimp only at *
  have spw1 := QX w1
  obtain ⟨hqw2, hB2⟩ := hBk0 (c1) (K1) ⟨by omega, by omega, by omega, by omega⟩
  obtain ⟨fw2, dw2, sw2, ww2, mw2, uw2⟩ := hqw2
  generalize Bk0 (c1) (K1) = tw2 at *
  obtain ⟨w2, c2, K2⟩ := tw2
  dsimp only at *
  have spw2 := QX w2
  clear hE2x hE1x hBk0 hBk1
  refine ⟨(.mk 17 (0) (0) [v1, w1, w2], c2, K2), ?_, fun g B hg => ?_⟩
  ·refine ⟨Wa ⟨5, 0, 0, 0, [4, 6, 6], 0, 0, 0⟩ rfl (by decide) (by decide) (by dsimp only; omega) (by dsimp only; omega) (by first | (simp; done) | (simp; omega)) (kids3 fv1 fw1 fw2), ?_, ?_, ?_, ?_, ?_⟩
   ·rw [QS]; (try simp only [QV]); omega
   ·rw [Qs]; (try simp only [QC]); omega
   ·dsimp only; omega
   ·dsimp only; omega
   ·dsimp only; omega
  ·refine Qa Tryz.func80 rfl Tryz.ntmps80 rfl (t := [(0, .ptr 0 g 0), (1, .i dd)]) rfl fun E0 hE0 => ?_
   (repeat' first | (refine Qi ?_; (first | refine QM rfl ?_ | refine QR rfl ?_ | refine Qc rfl rfl rfl ?_ | (refine Qj ?_; (first | refine Zk rfl rfl hd1 ⟨by omega, by omega⟩ ?_ | refine Wt rfl rfl (by omega) ?_ | refine Wu rfl rfl ?_ | refine QY rfl rfl ?_)) | (refine Qu ?_; (first | refine QT 0 (Wb l hl _ _ _ (by omega) (by omega)) rfl rfl rfl rfl ?_ | refine QT 0 (hE1) rfl rfl rfl rfl ?_ | refine QT 0 (hB1) rfl rfl rfl rfl ?_ | refine QT 0 (hB2) rfl rfl rfl rfl ?_)) | refine WK rfl rfl ?_ | (refine QK ?_; (first | refine Ws rfl rfl rfl rfl ?_ | refine QD rfl rfl rfl rfl (by rfl) (by rfl) (by rfl) ?_)) | refine s_bslice_three (x := v1) (y := w1) (z := w2) rfl rfl (by decide) ?_ | refine Qd rfl rfl ?_ | refine Qp rfl rfl ?_ | refine Qf rfl rfl ?_ | refine Qq (fun _ _ => ?_))) | (refine Qn ?_; (first | refine Ql ?_ | refine QN rfl ?_ | refine QJ ?_ | refine WJ rfl rfl rfl rfl ?_ | refine QZ rfl rfl (by omega) ?_)) | (refine Qm ?_; (first | refine Qo ?_ | refine Qb ?_ | refine Qe ?_ | refine QB ?_ | refine Qh rfl (by omega) ?_ | refine Qg rfl (by omega) ?_ | refine Qx ?_)))
   refine e_1 (Tryz.results80) (Qr (size := 4) rfl rfl rfl rfl) ?_
   rw [QI]
   exact ZI (by first | rfl | (simp [Q5, Wq]; try rfl)) rfl
 ·obtain ⟨hqv1, hE1⟩ := hE2x (a + 1) (L - 1) ⟨by omega, by omega, by omega, by omega⟩
  obtain ⟨fv1, dv1, sv1, wv1, mv1, uv1⟩ := hqv1
  generalize E2 (a + 1) (L - 1) = tv1 at *
  obtain ⟨v1, b1, M1⟩ := tv1
  dsimp only at *
  have spv1 := QX v1
  obtain ⟨hqw1, hB1⟩ := hBk0 (b1) (M1) ⟨by omega, by omega, by omega, by omega⟩
  obtain ⟨fw1, dw1, sw1, ww1, mw1, uw1⟩ := hqw1
  generalize Bk0 (b1) (M1) = tw1 at *
  obtain ⟨w1, c1, K1⟩ := tw1
  dsimp only at *
  have spw1 := QX w1
  obtain ⟨hqw2, hB2⟩ := hBk0 (c1) (K1) ⟨by omega, by omega, by omega, by omega⟩
  obtain ⟨fw2, dw2, sw2, ww2, mw2, uw2⟩ := hqw2
  generalize Bk0 (c1) (K1) = tw2 at *
  obtain ⟨w2, c2, K2⟩ := tw2
  dsimp only at *
  have spw2 := QX w2
  clear hE2x hE1x hBk0 hBk1
  refine ⟨(.mk 17 (0) (0) [v1, w1, w2], c2, K2), ?_, fun g B hg => ?_⟩
  ·refine ⟨Wa ⟨5, 0, 0, 0, [4, 6, 6], 0, 0, 0⟩ rfl (by decide) (by decide) (by dsimp only; omega) (by dsimp only; omega) (by first | (simp; done) | (simp; omega)) (kids3 fv1 fw1 fw2), ?_, ?_, ?_, ?_, ?_⟩
   ·rw [QS]; (try simp only [QV]); omega
   ·rw [Qs]; (try simp only [QC]); omega
   ·dsimp only; omega
   ·dsimp only; omega
   ·dsimp only; omega
  ·refine Qa Tryz.func80 rfl Tryz.ntmps80 rfl (t := [(0, .ptr 0 g 0), (1, .i dd)]) rfl fun E0 hE0 => ?_
   (repeat' first | (refine Qi ?_; (first | refine QM rfl ?_ | refine QR rfl ?_ | refine Qc rfl rfl rfl ?_ | (refine Qj ?_; (first | refine Zk rfl rfl hd1 ⟨by omega, by omega⟩ ?_ | refine Wt rfl rfl (by omega) ?_ | refine Wu rfl rfl ?_ | refine QY rfl rfl ?_)) | (refine Qu ?_; (first | refine QT 0 (Wb l hl _ _ _ (by omega) (by omega)) rfl rfl rfl rfl ?_ | refine QT 0 (hE1) rfl rfl rfl rfl ?_ | refine QT 0 (hB1) rfl rfl rfl rfl ?_ | refine QT 0 (hB2) rfl rfl rfl rfl ?_)) | refine WK rfl rfl ?_ | (refine QK ?_; (first | refine Ws rfl rfl rfl rfl ?_ | refine QD rfl rfl rfl rfl (by rfl) (by rfl) (by rfl) ?_)) | refine s_bslice_three (x := v1) (y := w1) (z := w2) rfl rfl (by decide) ?_ | refine Qd rfl rfl ?_ | refine Qp rfl rfl ?_ | refine Qf rfl rfl ?_ | refine Qq (fun _ _ => ?_))) | (refine Qn ?_; (first | refine Ql ?_ | refine QN rfl ?_ | refine QJ ?_ | refine WJ rfl rfl rfl rfl ?_ | refine QZ rfl rfl (by omega) ?_)) | (refine Qm ?_; (first | refine Qo ?_ | refine Qb ?_ | refine Qe ?_ | refine QB ?_ | refine Qh rfl (by omega) ?_ | refine Qg rfl (by omega) ?_ | refine Qx ?_)))
   refine e_1 (Tryz.results80) (Qr (size := 4) rfl rfl rfl rfl) ?_
   rw [QI]
   exact ZI (by first | rfl | (simp [Q5, Wq]; try rfl)) rfl
 ·obtain ⟨hqv1, hE1⟩ := hE2x (a + 1) (L - 1) ⟨by omega, by omega, by omega, by omega⟩
  obtain ⟨fv1, dv1, sv1, wv1, mv1, uv1⟩ := hqv1
  generalize E2 (a + 1) (L - 1) = tv1 at *
  obtain ⟨v1, b1, M1⟩ := tv1
  dsimp only at *
  have spv1 := QX v1
  obtain ⟨hqw1, hB1⟩ := hBk0 (b1) (M1) ⟨by omega, by omega, by omega, by omega⟩
  obtain ⟨fw1, dw1, sw1, ww1, mw1, uw1⟩ := hqw1
  generalize Bk0 (b1) (M1) = tw1 at *
  obtain ⟨w1, c1, K1⟩ := tw1
  dsimp only at *
  have spw1 := QX w1
  clear hE2x hE1x hBk0 hBk1
  refine ⟨(.mk 18 (0) (0) [v1, w1], c1, K1), ?_, fun g B hg => ?_⟩
  ·refine ⟨Wa ⟨5, 0, 0, 0, [4, 6], 0, 0, 0⟩ rfl (by decide) (by decide) (by dsimp only; omega) (by dsimp only; omega) (by first | (simp; done) | (simp; omega)) (kids2 fv1 fw1), ?_, ?_, ?_, ?_, ?_⟩
   ·rw [QS]; (try simp only [QV]); omega
   ·rw [Qs]; (try simp only [QC]); omega
   ·dsimp only; omega
   ·dsimp only; omega
   ·dsimp only; omega
  ·refine Qa Tryz.func80 rfl Tryz.ntmps80 rfl (t := [(0, .ptr 0 g 0), (1, .i dd)]) rfl fun E0 hE0 => ?_
   (repeat' first | (refine Qi ?_; (first | refine QM rfl ?_ | refine QR rfl ?_ | refine Qc rfl rfl rfl ?_ | (refine Qj ?_; (first | refine Zk rfl rfl hd1 ⟨by omega, by omega⟩ ?_ | refine Wt rfl rfl (by omega) ?_ | refine Wu rfl rfl ?_ | refine QY rfl rfl ?_)) | (refine Qu ?_; (first | refine QT 0 (Wb l hl _ _ _ (by omega) (by omega)) rfl rfl rfl rfl ?_ | refine QT 0 (hE1) rfl rfl rfl rfl ?_ | refine QT 0 (hB1) rfl rfl rfl rfl ?_)) | refine WK rfl rfl ?_ | (refine QK ?_; (first | refine Ws rfl rfl rfl rfl ?_ | refine QD rfl rfl rfl rfl (by rfl) (by rfl) (by rfl) ?_)) | refine Zl (y := v1) (z := w1) rfl rfl (by decide) ?_ | refine Qd rfl rfl ?_ | refine Qp rfl rfl ?_ | refine Qf rfl rfl ?_ | refine Qq (fun _ _ => ?_))) | (refine Qn ?_; (first | refine Ql ?_ | refine QN rfl ?_ | refine QJ ?_ | refine WJ rfl rfl rfl rfl ?_ | refine QZ rfl rfl (by omega) ?_)) | (refine Qm ?_; (first | refine Qo ?_ | refine Qb ?_ | refine Qe ?_ | refine QB ?_ | refine Qh rfl (by omega) ?_ | refine Qg rfl (by omega) ?_ | refine Qx ?_)))
   refine e_1 (Tryz.results80) (Qr (size := 4) rfl rfl rfl rfl) ?_
   rw [QI]
   exact ZI (by first | rfl | (simp [Q5, Wq]; try rfl)) rfl
 ·have n6 := Qw l (a + 1) (most := 6) (by decide)
  obtain ⟨hqw1, hB1⟩ := hBk0 (a + 1 + 1) (L - 1) ⟨by omega, by omega, by omega, by omega⟩
  obtain ⟨fw1, dw1, sw1, ww1, mw1, uw1⟩ := hqw1
  generalize Bk0 (a + 1 + 1) (L - 1) = tw1 at *
  obtain ⟨w1, c1, K1⟩ := tw1
  dsimp only at *
  have spw1 := QX w1
  obtain ⟨hqw2, hB2⟩ := hBk0 (c1) (K1) ⟨by omega, by omega, by omega, by omega⟩
  obtain ⟨fw2, dw2, sw2, ww2, mw2, uw2⟩ := hqw2
  generalize Bk0 (c1) (K1) = tw2 at *
  obtain ⟨w2, c2, K2⟩ := tw2
  dsimp only at *
  have spw2 := QX w2
  clear hE2x hE1x hBk0 hBk1
  refine ⟨(.mk 21 (atI l (a + 1) 6) (0) [w1, w2], c2, K2), ?_, fun g B hg => ?_⟩
  ·refine ⟨Wa ⟨5, 0, 5, 0, [6, 6], 0, 0, 0⟩ rfl (by decide) (by decide) (by dsimp only; omega) (by dsimp only; omega) (by first | (simp; done) | (simp; omega)) (kids2 fw1 fw2), ?_, ?_, ?_, ?_, ?_⟩
   ·rw [QS]; (try simp only [QV]); omega
   ·rw [Qs]; (try simp only [QC]); omega
   ·dsimp only; omega
   ·dsimp only; omega
   ·dsimp only; omega
  ·refine Qa Tryz.func80 rfl Tryz.ntmps80 rfl (t := [(0, .ptr 0 g 0), (1, .i dd)]) rfl fun E0 hE0 => ?_
   (repeat' first | (refine Qi ?_; (first | refine QM rfl ?_ | refine QR rfl ?_ | refine Qc rfl rfl rfl ?_ | (refine Qj ?_; (first | refine Zk rfl rfl hd1 ⟨by omega, by omega⟩ ?_ | refine Wt rfl rfl (by omega) ?_ | refine Wu rfl rfl ?_ | refine QY rfl rfl ?_)) | (refine Qu ?_; (first | refine QT 0 (Wb l hl _ _ _ (by omega) (by omega)) rfl rfl rfl rfl ?_ | refine QT 0 (hB1) rfl rfl rfl rfl ?_ | refine QT 0 (hB2) rfl rfl rfl rfl ?_)) | refine WK rfl rfl ?_ | (refine QK ?_; (first | refine Ws rfl rfl rfl rfl ?_ | refine QD rfl rfl rfl rfl (by rfl) (by rfl) (by rfl) ?_)) | refine Zl (y := w1) (z := w2) rfl rfl (by decide) ?_ | refine Qd rfl rfl ?_ | refine Qp rfl rfl ?_ | refine Qf rfl rfl ?_ | refine Qq (fun _ _ => ?_))) | (refine Qn ?_; (first | refine Ql ?_ | refine QN rfl ?_ | refine QJ ?_ | refine WJ rfl rfl rfl rfl ?_ | refine QZ rfl rfl (by omega) ?_)) | (refine Qm ?_; (first | refine Qo ?_ | refine Qb ?_ | refine Qe ?_ | refine QB ?_ | refine Qh rfl (by omega) ?_ | refine Qg rfl (by omega) ?_ | refine Qx ?_)))
   refine e_1 (Tryz.results80) (Qr (size := 4) rfl rfl rfl rfl) ?_
   rw [QI]
   exact ZI (by first | rfl | (simp [Q5, Wq]; try rfl)) rfl
 ·obtain ⟨hqw1, hB1⟩ := hBk1 (a + 1) (L - 1) ⟨by omega, by omega, by omega, by omega⟩
  obtain ⟨fw1, dw1, sw1, ww1, mw1, uw1⟩ := hqw1
  generalize Bk1 (a + 1) (L - 1) = tw1 at *
  obtain ⟨w1, c1, K1⟩ := tw1
  dsimp only at *
  have spw1 := QX w1
  clear hE2x hE1x hBk0 hBk1
  refine ⟨(w1, c1, K1), ⟨fit_block fw1, by dsimp only; omega, by dsimp only; omega, by dsimp only; omega, by dsimp only; omega, by dsimp only; omega⟩, fun g B hg => ?_⟩
  refine Qa Tryz.func80 rfl Tryz.ntmps80 rfl (t := [(0, .ptr 0 g 0), (1, .i dd)]) rfl fun E0 hE0 => ?_
  (repeat' first | (refine Qi ?_; (first | refine QM rfl ?_ | refine QR rfl ?_ | refine Qc rfl rfl rfl ?_ | (refine Qj ?_; (first | refine Wt rfl rfl (by omega) ?_ | refine Wu rfl rfl ?_ | refine QY rfl rfl ?_)) | (refine Qu ?_; (first | refine QT 0 (Wb l hl _ _ _ (by omega) (by omega)) rfl rfl rfl rfl ?_ | refine QT 0 (hB1) rfl rfl rfl rfl ?_)) | refine WK rfl rfl ?_ | (refine QK ?_; (first | refine Ws rfl rfl rfl rfl ?_ | refine QD rfl rfl rfl rfl (by rfl) (by rfl) (by rfl) ?_)) | refine Qd rfl rfl ?_ | refine Qf rfl rfl ?_ | refine Qq (fun _ _ => ?_))) | (refine Qn ?_; (first | refine Ql ?_ | refine QN rfl ?_ | refine QJ ?_ | refine WJ rfl rfl rfl rfl ?_ | refine QZ rfl rfl (by omega) ?_)) | (refine Qm ?_; (first | refine Qo ?_ | refine Qb ?_ | refine Qe ?_ | refine QB ?_ | refine Qh rfl (by omega) ?_ | refine Qg rfl (by omega) ?_ | refine Qx ?_)))
  exact e_1 (Tryz.results80) (Qr (size := 4) rfl rfl (partD_nd0 _) (Enc.len _)) (ZI rfl rfl)
theorem mkStmt (l : List Int) (hl : OkI l) (e : Nat) (he : e <= 7) : (∃ S : GenF, ∀ a L, preS a L -> QE 5 (2 * (e) + 4) 5 (7 + ((e : Nat) : Int)) (S a L).1 a L (S a L).2.1 (S a L).2.2 /\ CE Tryz.prog G 80 (fun p g => [.ptr p g 0, .i (((e : Nat) : Int) - 1)]) (Zo l a L) (.agg (Enc.enc (S a L).1)) (Zo l (S a L).2.1 (S a L).2.2)) /\ (∃ S : GenF, ∀ a L, preS a L -> QE 5 (2 * (e + 1) + 4) 5 (7 + ((e + 1 : Nat) : Int)) (S a L).1 a L (S a L).2.1 (S a L).2.2 /\ CE Tryz.prog G 80 (fun p g => [.ptr p g 0, .i (((e + 1 : Nat) : Int) - 1)]) (Zo l a L) (.agg (Enc.enc (S a L).1)) (Zo l (S a L).2.1 (S a L).2.2)) := by
 obtain ⟨E2, hE2x⟩ := mkExpr (G := G) l hl 2 (by decide)
 obtain ⟨E1, hE1x⟩ := mkExpr (G := G) l hl 1 (by decide)
 induction e with
 | zero => exact ⟨mkLow l hl E2 E1 hE2x hE1x 0 (by decide), mkLow l hl E2 E1 hE2x hE1x 1 (by decide)⟩
 | succ e ih =>
  obtain ⟨h0, h1⟩ := ih (by omega)
  refine ⟨h1, ?_⟩
  obtain ⟨S0, hS0⟩ := h0
  obtain ⟨S1, hS1⟩ := h1
  obtain ⟨Bk0, hBk0⟩ := mkBlock (G := G) l hl e (by omega) S0 hS0
  obtain ⟨Bk1, hBk1⟩ := mkBlock (G := G) l hl (e + 1) (by omega) S1 hS1
  exact mkStep l hl E2 E1 hE2x hE1x e (by omega) Bk0 Bk1 hBk0 hBk1
section
variable {P : Program} {G : Nat -> DV} {B : Nat} {f : Operand -> DV} {σ : List ABlk} {K : DV -> List ABlk -> Prop} {dst : Option Tmp} {type : TypeId} {pos : String} {after : Array Edge} {gd : Option (Nat × Bool)}
theorem Z8 {t : TypeId} {pl : List (Nat × Nat)} {zs : List Value} {ps : List (Nat × Operand)} {m : List (Nat × DV)} {k n mm : Int} {z : Nd} (hz0 : z = Nd.mk k n mm []) [ht : TyS P t pl] [hz : TyZ P t zs] (hp : partsD f ps = some m) (hc : fillD (pl[·]?) (zs.map .sc) m = some [.i k, .i n, .i mm, .sc (.slice none 0 0)]) (kk : K (.agg (Enc.enc z)) σ) :
  OpSem P G B ⟨dst, .build t ps.toArray, type, pos, after, gd⟩ f σ K := by subst hz0; exact s_build_nd hp hc kk
theorem s_geq_asR {t t' : TypeId} {x y : Operand} {a b : Int} {k1 : IntKind} {v : Bool} (hx : f x = .sc (.int k1 a)) (hy : f y = .sc (.int k1 b)) (hc : decide (b <= a) = v)
  (k : K (.sc (.bool v)) σ) : OpSem P G B ⟨dst, .binOp .geq t x y t', type, pos, after, gd⟩ f σ K := Zt hx hy (by rw [hc]; exact k)
theorem s_eql_asR {t t' : TypeId} {x y : Operand} {a b : Int} {k1 : IntKind} {v : Bool} (hx : f x = .sc (.int k1 a)) (hy : f y = .sc (.int k1 b)) (hc : decide (a = b) = v)
  (k : K (.sc (.bool v)) σ) : OpSem P G B ⟨dst, .binOp .eql t x y t', type, pos, after, gd⟩ f σ K := QY hx hy (by rw [hc]; exact k)
end
theorem program_c (l : List Int) (hl : OkI l) : ∃ v, qF v = true /\ (∃ n ks, v = .mk 27 n 0 ks) /\ Go.Av.Pure Tryz.prog G 11 [Q5 l] (.agg (Enc.enc v)) := by
 obtain ⟨⟨S, hS⟩, _⟩ := mkStmt (G := G) l hl 4 (by decide)
 obtain ⟨Bk, hBk⟩ := mkBlock (G := G) l hl 4 (by decide) S hS
 have hB1 : ∀ a L, preB a L -> QE 6 13 1 11 (Bk a L).1 a L (Bk a L).2.1 (Bk a L).2.2 := fun a L h => (hBk a L h).1
 have hB2 : ∀ a L, preB a L -> CE Tryz.prog G 39 (fun p g => [.ptr p g 0, .i 4]) (Zo l a L) (.agg (Enc.enc (Bk a L).1)) (Zo l (Bk a L).2.1 (Bk a L).2.2) := fun a L h => (hBk a L h).2
 have hv := progV_ok l Bk hB1
 clear hBk hS
 refine ⟨progV l Bk, hv, ⟨_, _, rfl⟩, fun B => ?_⟩
 clear hv
 unfold progV
 have b4 := Qw l 0 (most := 4) (by decide)
 have b3 := Qw l 1 (most := 3) (by decide)
 have hn0 : atI l (0 + 1) 3 = atI l 1 3 := rfl
 obtain ⟨Nf, hNf⟩ : ∃ Nf : Nat, 1 + atI l 1 3 = (Nf : Int) := ⟨(1 + atI l 1 3).toNat, by omega⟩
 rw [hNf, show ((Nf : Int)).toNat = Nf by omega, QI]
 generalize hT : ZB (mfunG l Bk) Nf 2 45 = T at *
 refine Qa Tryz.func11 rfl Tryz.ntmps11 rfl (t := [(0, Q5 l)]) rfl fun E0 hE0 => ?_
 have hnumA := trivial
 have hnumB := trivial
 have hnumC := trivial
 have hnumD := trivial
 have hnumE := trivial
 have hblk := trivial
 have hfe := trivial
 have hze := trivial
 have hV := trivial
 have hge := trivial
 have he1 := trivial
 have he2 := trivial
 (repeat' first | (refine Qi ?_; (first | refine QM rfl ?_ | refine QR rfl ?_ | refine Zh rfl rfl (by omega) ?_ | refine QT 1 (Wb l hl _ _ _ (by omega) (by omega)) rfl rfl rfl rfl ?_ | refine Ws rfl rfl rfl rfl ?_ | refine Qp rfl rfl ?_ | refine Qq (fun _ _ => ?_) | refine Wi rfl rfl (fun _ _ => ?_))) | (refine Qn ?_; (first | refine Ql ?_ | refine QN rfl ?_ | refine QJ ?_)) | (refine Qm ?_; (first | refine Qo ?_ | refine Qb ?_ | refine Qe ?_)))
 rename_i g2 hg2 gc hgc gp hgp
 refine r_ownin 2 3 4 rfl rfl (fun _ => rfl) (fun gk hgk => ?_)
 refine r_loop5 (fun (i : Nat) (o : List Nd) (a Lc : Int) (gg : Nat) => ⟨[(2, .ptr 0 g2 0), (3, .ptr 1 gc 0), (4, .ptr 2 gp 0), (5, .i (1 + atI l (0 + 1) 3)), (6, .i i)], [.row g2 [.i 0, .i 0, .i 0, .nil], .row gc (Zo l a Lc), .row gp [.i 27, .i (atI l 0 4), .i 0, .ref 3 gg 0 o.length 4], .row gg (Wq o)]⟩) (fun i o a Lc gg => i <= Nf /\ o.length <= i /\ E0.N < gg /\ o ++ (ZB (mfunG l Bk) (Nf - i) a Lc).1 = T.1 /\ 0 <= a /\ a + 400 * (Nf - i : Int) <= 100000 /\ -20 + (Nf - i : Int) <= Lc /\ Lc <= 45) (fun i _ _ _ _ => Nf - i) 0 [] 2 45 gk ?_ ⟨by omega, by simp, hgk, by rw [Nat.sub_zero, hT]; rfl, by omega, by omega, by omega, by omega⟩ ?_
 ·exact zal rfl
 generalize hn00 : atI l 0 4 = n0 at *
 intro i o a Lc gg ⟨hi, hol, hgg, h1, m1, m2, m3, m4⟩
 by_cases hiN : i < Nf
 ·rw [show Nf - i = (Nf - (i + 1)) + 1 by omega, ZB] at h1
  obtain ⟨⟨_, _, u0, u1, u2, u3⟩, hpre⟩ := mfun_q l Bk hB1 a Lc ⟨m1, by omega⟩ ⟨by omega, m4⟩
  have hsz := QX (Bk (mfunT l a).2 Lc).1
  have hbsz := (hB1 _ _ hpre).size
  have hblkS := hB2 _ _ hpre
  generalize hf : mfunG l Bk a Lc = F at *
  unfold mfunG at hf
  have c4 := Qw l a (most := 3) (by decide)
  have d4 := Qw l (a + 1) (most := 3) (by decide)
  obtain ⟨m, hm⟩ : ∃ m : Nat, atI l a 3 = (m : Int) := ⟨(atI l a 3).toNat, by omega⟩
  obtain ⟨V, hV⟩ : ∃ V : Nat, atI l a 3 + atI l (a + 1) 3 = (V : Int) := ⟨(atI l a 3 + atI l (a + 1) 3).toNat, by omega⟩
  have hm3 : (m : Int) < 3 := by omega
  have hV3 : (V : Int) < 5 := by omega
  have hko := runK_ok l (atI l a 3) (atI l a 3 + atI l (a + 1) 3).toNat 0 (a + 1 + 1)
  unfold mfunT at hf hblkS hsz hbsz
  rw [hV, show ((V : Int)).toNat = V by omega] at hf hblkS hko hsz hbsz
  rw [hm] at hf hblkS hV hko hsz hbsz
  have hnumA := Wb (G := G) l hl a Lc 3 (by omega) (by decide)
  rw [hm] at hnumA
  generalize hT2 : runK l m V 0 (a + 1 + 1) = T2 at *
  obtain ⟨ks2, a2⟩ := T2
  dsimp only at *
  generalize hv1 : Bk a2 Lc = v at *
  obtain ⟨v1, b1, M1⟩ := v
  dsimp only at *
  clear hB2
  have hnumB := trivial
  have hnumC := trivial
  have hnumD := trivial
  have hnumE := trivial
  have hblk := trivial
  have hfe := trivial
  have hze := trivial
  (repeat' first | (refine Qi ?_; (first | refine QM rfl ?_ | refine QR rfl ?_ | refine Q9 rfl rfl ?_ | (refine Qu ?_; (first | refine QT 1 (hnumA) rfl rfl rfl rfl ?_ | refine QT 1 (Wb l hl _ _ _ (by omega) (by omega)) rfl rfl rfl rfl ?_)) | refine Ws rfl rfl rfl rfl ?_ | refine Qp rfl rfl ?_ | refine Qq (fun _ _ => ?_))) | (refine Qn ?_; (first | refine Ql ?_ | refine QN rfl ?_ | refine QJ ?_)) | (refine Qm ?_; (first | refine Qo ?_ | refine Qb ?_ | refine Qe ?_ | (refine WO ?_; first | (rename_i g7 hg7; refine Qz (fun p => .row g2 [.i 0, .i 0, .i 0, .nil] :: p :: .row gp [.i 27, .i n0, .i 0, .ref 3 gg 0 o.length 4] :: .row gg (Wq o) :: .row g7 [.i 26, .i (m : Nat), .i 0, .nil] :: []) 6 [(0, true), (1, true), (2, true), (3, false), (4, true), (5, true)] (by rfl) (by rfl) (by kernel_rfl) (by decide +kernel) (by decide +kernel) ⟨_, rfl⟩ ?_) | (refine Qz (fun p => p) 100 [(0, true)] (by rfl) (by rfl) (by kernel_rfl) (by decide +kernel) (by decide +kernel) ⟨_, rfl⟩ ?_) | (refine Qz (fun p => .row g2 [.i 0, .i 0, .i 0, .nil] :: p.1 :: .row gp [.i 27, .i n0, .i 0, .ref 3 gg 0 o.length 4] :: .row gg (Wq o) :: .row g7 [.i 26, .i (m : Nat), .i 0, .ref 5 gh 0 ks.length 4] :: p.2) 7 [(0, true), (1, true), (2, true), (3, false), (4, true), (5, false), (6, true), (7, false)] (by rfl) (by rfl) (by kernel_rfl) (by decide +kernel) (by decide +kernel) ⟨(_, _), rfl⟩ ?_) | refine Wn (by rfl) (by kernel_rfl) (by kernel_rfl) ?_ | refine Wm (by kernel_rfl) (by kernel_rfl) ?_) | refine QB ?_ | refine Qh rfl (by omega) ?_)) | (refine W9 ?_; (first | refine ZO ?_ | refine i_st rfl rfl (fun _ => (by (repeat' first | (refine Qi ?_; (first | refine QM rfl ?_ | refine QR rfl ?_ | refine Qc rfl rfl rfl ?_ | refine s_add_as rfl rfl hV ⟨by omega, by omega⟩ ?_ | refine Qd rfl rfl ?_)) | exact ⟨rfl, rfl⟩))) ?_ | refine i_ef rfl ?_)) | refine And.intro (Exists.intro (_) rfl) ?_)
  refine r_ownin 4 3 4 rfl rfl (fun _ => rfl) (fun gk2 hgk2 => ?_)
  refine r_loop5 (fun (k : Nat) (ks : List Nd) (b : Int) (_ : Unit) (gh : Nat) => ⟨[(2, .ptr 0 g2 0), (3, .ptr 1 gc 0), (4, .ptr 2 gp 0), (5, .i (1 + atI l (0 + 1) 3)), (6, .i i), (7, .ptr 4 g7 0), (8, .i V), (9, .i k)], [.row g2 [.i 0, .i 0, .i 0, .nil], .row gc (Zo l b Lc), .row gp [.i 27, .i n0, .i 0, .ref 3 gg 0 o.length 4], .row gg (Wq o), .row g7 [.i 26, .i (m : Nat), .i 0, .ref 5 gh 0 ks.length 4], .row gh (Wq ks)]⟩) (fun k ks b _ gh => k <= V /\ ks.length = k /\ E0.N < gh /\ ks ++ (runK l m (V - k) k b).1 = ks2 /\ (runK l m (V - k) k b).2 = a2 /\ 0 <= b /\ b + 5 * (V - k : Int) <= 200000) (fun k _ _ _ _ => V - k) 0 [] (a + 1 + 1) () gk2 ?_ ⟨by omega, rfl, hgk2, by rw [Nat.sub_zero]; show [] ++ (runK l m V 0 (a + 1 + 1)).1 = ks2; rw [hT2]; rfl, by rw [Nat.sub_zero]; show (runK l m V 0 (a + 1 + 1)).2 = a2; rw [hT2], by omega, by omega⟩ ?_
  ·exact zal rfl
  clear hnumA hV
  have hV := trivial
  intro k ks b _ gh ⟨hk, hkl, hgh, h3, h4, n1, n2⟩
  by_cases hkV : k < V
  ·rw [show V - k = (V - (k + 1)) + 1 by omega, runK] at h3 h4
   have bt := Qw l b (most := 2) (by decide)
   have bt1 := Qw l (b + 1) (most := 3) (by decide)
   have bt2 := Qw l (b + 1 + 1) (most := 4) (by decide)
   have hnumA := Wb (G := G) l hl b Lc 2 (by omega) (by decide)
   clear hblkS
   by_cases hkm : k < m
   ·unfold mkKind at h3 h4
    rw [if_pos (by omega)] at h3 h4
    dsimp only at h3 h4
    have hge : decide ((m : Int) <= (k : Int)) = false := decide_eq_false (by omega)
    generalize hty : atI l b 2 = ty0 at *
    clear hnumA
    have hnumA := hty ▸ Wb (G := G) l hl b Lc 2 (by omega) (by decide)
    obtain ⟨z0, hz0⟩ : ∃ z0, z0 = Nd.mk ty0 0 0 [] := ⟨_, rfl⟩
    rw [<- hz0] at h3
    (repeat' first | (refine Qi ?_; (first | refine QM rfl ?_ | refine QR rfl ?_ | (refine QO ?_; (first | refine W2 rfl rfl ?_ | refine Qc rfl rfl rfl ?_)) | (refine Qj ?_; (first | refine s_geq_asR rfl rfl hge ?_ | refine Zh rfl rfl (by omega) ?_ | refine Q9 rfl rfl ?_)) | (refine Qu ?_; (first | refine ZG (z := z0) rfl rfl rfl rfl rfl rfl rfl (by first | omega | (simp; omega)) (by first | omega | (simp; omega)) (fun _ => rfl) (fun _ _ => ?_) | refine QT 1 (hnumA) rfl rfl rfl rfl ?_)) | refine WK rfl rfl ?_ | (refine QK ?_; (first | refine Ws rfl rfl rfl rfl ?_ | refine QD rfl rfl rfl rfl (by rfl) (by rfl) (by rfl) ?_)) | refine Z8 hz0 rfl rfl ?_ | refine Q0 (z := z0) rfl rfl (by decide) ?_ | refine Qd rfl rfl ?_ | refine Qq (fun _ _ => ?_))) | (refine Qn ?_; (first | refine Ql ?_ | refine QN rfl ?_ | refine QJ ?_ | refine Zd rfl rfl rfl rfl ?_)) | (refine Qm ?_; (first | refine Qo ?_ | refine Qb ?_ | refine Qe ?_ | refine QB ?_ | refine Qy rfl ?_ | refine Qh rfl (by omega) ?_)))
    refine ⟨k + 1, ks ++ [z0], b + 1, (), _, ⟨by omega, by simp; omega, by assumption, by rw [List.append_assoc]; exact h3, h4, by omega, by omega⟩, by omega, ?_⟩
    exact zal rfl
   ·unfold mkKind at h3 h4
    rw [if_neg (by omega)] at h3 h4
    have hge : decide ((m : Int) <= (k : Int)) = true := decide_eq_true (by omega)
    have hnumB := Wb (G := G) l hl (b + 1) Lc 3 (by omega) (by decide)
    by_cases hx1 : atI l (b + 1) 3 = 0
    ·rw [if_pos hx1] at h3 h4
     rw [hx1] at hnumB
     have he1 : decide ((0 : Int) = 0) = true := rfl
     have hnumC := Wb (G := G) l hl (b + 1 + 1) Lc 4 (by omega) (by decide)
     dsimp only at h3 h4
     generalize hn4 : atI l (b + 1 + 1) 4 = n4 at *
     generalize hty : atI l b 2 = tyC at *
     obtain ⟨z0, hz0⟩ : ∃ z0, z0 = Nd.mk 2 (1 + n4) 0 [] := ⟨_, rfl⟩
     obtain ⟨zC, hzC⟩ : ∃ zC, zC = Nd.mk tyC 0 0 [] := ⟨_, rfl⟩
     rw [<- hz0] at h3
     (repeat' first | (refine Qi ?_; (first | refine QM rfl ?_ | refine QR rfl ?_ | (refine QO ?_; (first | refine W2 rfl rfl ?_ | refine Qc rfl rfl rfl ?_)) | (refine Qj ?_; (first | refine s_geq_asR rfl rfl hge ?_ | refine s_eql_asR rfl rfl he1 ?_ | refine Zh rfl rfl (by omega) ?_ | refine Q9 rfl rfl ?_)) | (refine Qu ?_; (first | refine ZG (z := z0) rfl rfl rfl rfl rfl rfl rfl (by first | omega | (simp; omega)) (by first | omega | (simp; omega)) (fun _ => rfl) (fun _ _ => ?_) | refine QT 1 (hnumA) rfl rfl rfl rfl ?_ | refine QT 1 (hnumB) rfl rfl rfl rfl ?_ | refine QT 1 (hnumC) rfl rfl rfl rfl ?_)) | refine W6 rfl rfl ?_ | (refine QK ?_; (first | refine Ws rfl rfl rfl rfl ?_ | refine QD rfl rfl rfl rfl (by rfl) (by rfl) (by rfl) ?_)) | (refine g_build ?_; (first | refine Z8 hz0 rfl rfl ?_ | refine Z8 hzC rfl rfl ?_)) | refine Q0 (z := z0) rfl rfl (by decide) ?_ | refine Qd rfl rfl ?_ | refine Qq (fun _ _ => ?_))) | (refine Qn ?_; (first | refine Ql ?_ | refine QN rfl ?_ | refine QJ ?_ | refine WJ rfl rfl rfl rfl ?_)) | (refine Qm ?_; (first | refine Qo ?_ | refine Qb ?_ | refine Qe ?_ | refine QB ?_ | refine Qv rfl ?_ | refine Qh rfl (by omega) ?_)))
     refine ⟨k + 1, ks ++ [z0], b + 1 + 1 + 1, (), _, ⟨by omega, by simp; omega, by assumption, by rw [List.append_assoc]; exact h3, h4, by omega, by omega⟩, by omega, ?_⟩
     exact zal rfl
    ·rw [if_neg hx1] at h3 h4
     have hnumC := Wb (G := G) l hl (b + 1 + 1) Lc 3 (by omega) (by decide)
     have he1 : decide (atI l (b + 1) 3 = 0) = false := decide_eq_false hx1
     generalize atI l (b + 1) 3 = x1 at *
     by_cases hx2 : atI l (b + 1 + 1) 3 = 0
     ·rw [if_pos hx2] at h3 h4
      rw [hx2] at hnumC
      have he2 : decide ((0 : Int) = 0) = true := rfl
      have hnumD := Wb (G := G) l hl (b + 1 + 1 + 1) Lc 2 (by omega) (by decide)
      have hnumE := Wb (G := G) l hl (b + 1 + 1 + 1 + 1) Lc 2 (by omega) (by decide)
      dsimp only at h3 h4
      generalize hty : atI l b 2 = tyC at *
      generalize atI l (b + 1 + 1 + 1) 2 = tyA at *
      generalize atI l (b + 1 + 1 + 1 + 1) 2 = tyB at *
      obtain ⟨zA, hzA⟩ : ∃ zA, zA = Nd.mk tyA 0 0 [] := ⟨_, rfl⟩
      obtain ⟨zB, hzB⟩ : ∃ zB, zB = Nd.mk tyB 0 0 [] := ⟨_, rfl⟩
      obtain ⟨zC, hzC⟩ : ∃ zC, zC = Nd.mk tyC 0 0 [] := ⟨_, rfl⟩
      rw [<- hzA, <- hzB] at h3
      obtain ⟨zN, hzN⟩ : ∃ zN, zN = Nd.mk 3 0 0 [zA, zB] := ⟨_, rfl⟩
      have hze : Enc.enc zN = [.i 3, .i 0, .i 0, Q5 [zA, zB]] := by rw [hzN, QI]
      rw [<- hzN] at h3
      (repeat' first | (refine Qi ?_; (first | refine QM rfl ?_ | refine QR rfl ?_ | (refine QO ?_; (first | refine W2 rfl rfl ?_ | refine Qc rfl rfl rfl ?_)) | (refine Qj ?_; (first | refine s_geq_asR rfl rfl hge ?_ | refine s_eql_asR rfl rfl he1 ?_ | refine s_eql_asR rfl rfl he2 ?_ | refine Zh rfl rfl (by omega) ?_ | refine Q9 rfl rfl ?_)) | (refine Qu ?_; (first | refine ZG (z := zN) rfl rfl rfl rfl rfl rfl rfl (by first | omega | (simp; omega)) (by first | omega | (simp; omega)) (fun _ => rfl) (fun _ _ => ?_) | refine QT 1 (hnumA) rfl rfl rfl rfl ?_ | refine QT 1 (hnumB) rfl rfl rfl rfl ?_ | refine QT 1 (hnumC) rfl rfl rfl rfl ?_ | refine QT 1 (hnumD) rfl rfl rfl rfl ?_ | refine QT 1 (hnumE) rfl rfl rfl rfl ?_)) | refine W6 rfl rfl ?_ | (refine QK ?_; (first | refine Ws rfl rfl rfl rfl ?_ | refine QD rfl rfl rfl rfl (by rfl) (by rfl) (by rfl) ?_)) | (refine g_build ?_; (first | refine Z8 hzC rfl rfl ?_ | refine Z8 hzA rfl rfl ?_ | refine Z8 hzB rfl rfl ?_ | refine Qp rfl rfl ?_)) | (refine g_buildSlice ?_; (first | refine Zl (y := zA) (z := zB) rfl rfl (by decide) ?_ | refine Q0 (z := zN) rfl (by rw [hze]; rfl) (by decide) ?_)) | refine Qd rfl rfl ?_ | refine Qq (fun _ _ => ?_))) | (refine Qn ?_; (first | refine Ql ?_ | refine QN rfl ?_ | refine QJ ?_ | refine WJ rfl rfl rfl rfl ?_)) | (refine Qm ?_; (first | refine Qo ?_ | refine Qb ?_ | refine Qe ?_ | refine QB ?_ | refine Qv rfl ?_ | refine Qy rfl ?_ | refine Qh rfl (by omega) ?_)))
      refine ⟨k + 1, ks ++ [zN], b + 1 + 1 + 1 + 1 + 1, (), _, ⟨by omega, by simp; omega, by assumption, by rw [List.append_assoc]; exact h3, h4, by omega, by omega⟩, by omega, ?_⟩
      exact zal rfl
     ·rw [if_neg hx2] at h3 h4
      dsimp only at h3 h4
      have he2 : decide (atI l (b + 1 + 1) 3 = 0) = false := decide_eq_false hx2
      generalize atI l (b + 1 + 1) 3 = x2 at *
      generalize hty : atI l b 2 = ty0 at *
      obtain ⟨z0, hz0⟩ : ∃ z0, z0 = Nd.mk ty0 0 0 [] := ⟨_, rfl⟩
      rw [<- hz0] at h3
      (repeat' first | (refine Qi ?_; (first | refine QM rfl ?_ | refine QR rfl ?_ | (refine QO ?_; (first | refine W2 rfl rfl ?_ | refine Qc rfl rfl rfl ?_)) | (refine Qj ?_; (first | refine s_geq_asR rfl rfl hge ?_ | refine s_eql_asR rfl rfl he1 ?_ | refine s_eql_asR rfl rfl he2 ?_ | refine Zh rfl rfl (by omega) ?_ | refine Q9 rfl rfl ?_)) | (refine Qu ?_; (first | refine ZG (z := z0) rfl rfl rfl rfl rfl rfl rfl (by first | omega | (simp; omega)) (by first | omega | (simp; omega)) (fun _ => rfl) (fun _ _ => ?_) | refine QT 1 (hnumA) rfl rfl rfl rfl ?_ | refine QT 1 (hnumB) rfl rfl rfl rfl ?_ | refine QT 1 (hnumC) rfl rfl rfl rfl ?_)) | refine W6 rfl rfl ?_ | (refine QK ?_; (first | refine Ws rfl rfl rfl rfl ?_ | refine QD rfl rfl rfl rfl (by rfl) (by rfl) (by rfl) ?_)) | refine Z8 hz0 rfl rfl ?_ | refine Q0 (z := z0) rfl rfl (by decide) ?_ | refine Qd rfl rfl ?_ | refine Qq (fun _ _ => ?_))) | (refine Qn ?_; (first | refine Ql ?_ | refine QN rfl ?_ | refine QJ ?_ | refine WJ rfl rfl rfl rfl ?_)) | (refine Qm ?_; (first | refine Qo ?_ | refine Qb ?_ | refine Qe ?_ | refine QB ?_ | refine Qy rfl ?_ | refine Qh rfl (by omega) ?_)))
      refine ⟨k + 1, ks ++ [z0], b + 1 + 1 + 1, (), _, ⟨by omega, by simp; omega, by assumption, by rw [List.append_assoc]; exact h3, h4, by omega, by omega⟩, by omega, ?_⟩
      exact zal rfl
  ·have hje : V - k = 0 := by omega
   rw [hje, runK] at h3 h4
   dsimp only at h3 h4
   rw [List.append_nil] at h3
   subst h3
   subst h4
   have hblk := hblkS
   obtain ⟨fN, hfN⟩ : ∃ fN, fN = Nd.mk 26 (m : Nat) 0 (ks ++ [v1]) := ⟨_, rfl⟩
   have hfe : Enc.enc fN = [.i 26, .i (m : Nat), .i 0, Q5 (ks ++ [v1])] := by rw [hfN, QI]
   rw [<- hfN] at hf
   subst hf
   dsimp only at *
   (repeat' first | (refine Qi ?_; (first | refine QM rfl ?_ | refine QR rfl ?_ | (refine QO ?_; (first | refine W2 rfl rfl ?_ | refine Qc rfl rfl rfl ?_)) | (refine Qj ?_; (first | refine Zh rfl rfl (by omega) ?_ | refine Q9 rfl rfl ?_)) | (refine Qu ?_; (first | refine ZG (z := v1) rfl rfl rfl rfl rfl rfl rfl (by first | omega | (simp; omega)) (by first | omega | (simp; omega)) (fun _ => rfl) (fun _ _ => ?_) | refine ZG (z := fN) rfl rfl rfl rfl rfl rfl rfl (by first | omega | (simp; omega)) (by first | omega | (simp; omega)) (fun _ => rfl) (fun _ _ => ?_) | refine QT 1 (hblk) rfl rfl rfl rfl ?_)) | refine QD rfl rfl rfl rfl (by rfl) (by rfl) (by rfl) ?_ | refine Q0 (z := fN) rfl (by rw [hfe]; rfl) (by decide) ?_ | refine Qd rfl rfl ?_)) | (refine Qn ?_; (first | refine Ql ?_ | refine QN rfl ?_ | refine QJ ?_)) | (refine Qm ?_; (first | refine r_pubin_at 82 4 3 rfl rfl rfl rfl (by first | exact (We _).symm | rfl) rfl rfl ?_ | refine Qo ?_ | refine Qb ?_ | (refine WO ?_; first | (rename_i g7 hg7; refine Qz (fun p => .row g2 [.i 0, .i 0, .i 0, .nil] :: p :: .row gp [.i 27, .i n0, .i 0, .ref 3 gg 0 o.length 4] :: .row gg (Wq o) :: .row g7 [.i 26, .i (m : Nat), .i 0, .nil] :: []) 6 [(0, true), (1, true), (2, true), (3, false), (4, true), (5, true)] (by rfl) (by rfl) (by kernel_rfl) (by decide +kernel) (by decide +kernel) ⟨_, rfl⟩ ?_) | (refine Qz (fun p => p) 100 [(0, true)] (by rfl) (by rfl) (by kernel_rfl) (by decide +kernel) (by decide +kernel) ⟨_, rfl⟩ ?_) | (refine Qz (fun p => .row g2 [.i 0, .i 0, .i 0, .nil] :: p.1 :: .row gp [.i 27, .i n0, .i 0, .ref 3 gg 0 o.length 4] :: .row gg (Wq o) :: .row g7 [.i 26, .i (m : Nat), .i 0, .ref 5 gh 0 ks.length 4] :: p.2) 7 [(0, true), (1, true), (2, true), (3, false), (4, true), (5, false), (6, true), (7, false)] (by rfl) (by rfl) (by kernel_rfl) (by decide +kernel) (by decide +kernel) ⟨(_, _), rfl⟩ ?_) | refine Wn (by rfl) (by kernel_rfl) (by kernel_rfl) ?_ | refine Wm (by kernel_rfl) (by kernel_rfl) ?_) | refine Qg rfl (by omega) ?_ | refine WS rfl ?_)) | (refine W9 ?_; (first | refine ZO ?_ | refine i_z0 ?_ | refine i_st rfl rfl (fun _ => (by (repeat' first | (refine Qi ?_; (first | refine QM rfl ?_ | refine Qc rfl rfl rfl ?_ | refine Q0 (z := v1) rfl rfl (by decide) ?_ | refine Qd rfl rfl ?_)) | exact ⟨rfl, rfl⟩))) ?_ | refine i_ef rfl ?_)) | refine And.intro (Exists.intro ((_, _)) rfl) ?_)
   refine ⟨i + 1, o ++ [fN], b1, M1, _, ⟨by omega, by simp; omega, by assumption, by rw [List.append_assoc]; exact h1, by omega, by omega, by omega, by omega⟩, by omega, ?_⟩
   exact zal rfl
 ·have hie : Nf - i = 0 := by omega
  rw [hie, ZB] at h1
  dsimp only at h1
  rw [List.append_nil] at h1
  rw [<- h1]
  clear hB2
  refine r_pubin 2 3 rfl rfl rfl (We _).symm rfl rfl ?_
  (repeat' first | (refine Qi ?_; (first | refine QM rfl ?_ | refine W2 rfl rfl ?_ | refine Q9 rfl rfl ?_ | refine Ws rfl rfl rfl rfl ?_)) | (refine Qn ?_; (first | refine Ql ?_ | refine QN rfl ?_ | refine QJ ?_)) | (refine Qm ?_; (first | refine Qo ?_ | refine Qb ?_ | refine Qg rfl (by omega) ?_ | refine WS rfl ?_ | refine Qx ?_)))
  exact e_1 (Tryz.results11) (Qr (size := 4) rfl rfl rfl rfl) (Q8 rfl)
section
variable {P : Program} {G : Nat -> DV} {B : Nat} {f : Operand -> DV} {σ : List ABlk} {K : DV -> List ABlk -> Prop} {dst : Option Tmp} {type : TypeId} {pos : String} {after : Array Edge} {gd : Option (Nat × Bool)}
theorem s_leq_asK {t t' : TypeId} {x y : Operand} {a b : Int} {k1 : IntKind} {v : Bool} (hx : f x = .sc (.int k1 a)) (hy : f y = .sc (.int k1 b)) (hc : decide (a <= b) = v)
  (k : K (.sc (.bool v)) σ) : OpSem P G B ⟨dst, .binOp .leq t x y t', type, pos, after, gd⟩ f σ K := Wu hx hy (by rw [hc]; exact k)
theorem s_neq_asK {t t' : TypeId} {x y : Operand} {a b : Int} {k1 : IntKind} {v : Bool} (hx : f x = .sc (.int k1 a)) (hy : f y = .sc (.int k1 b)) (hc : decide (a ≠ b) = v)
  (k : K (.sc (.bool v)) σ) : OpSem P G B ⟨dst, .binOp .neq t x y t', type, pos, after, gd⟩ f σ K := s_neq hx hy (by rw [hc]; exact k)
theorem s_eql_strK {t t' : TypeId} {g1 : Bool} {z1 : Nat} {x y : Operand} {a b : List UInt8} {v : Bool} [ht : TyI P t .string g1 z1] (hx : f x = W1 a) (hy : f y = W1 b) (hc : decide (a = b) = v) (k : K (.b v) σ) : OpSem P G B ⟨dst, .binOp .eql t x y t', type, pos, after, gd⟩ f σ K := WH hx hy (by rw [hc]; exact k)
theorem s_neq_strK {t t' : TypeId} {g1 : Bool} {z1 : Nat} {x y : Operand} {a b : List UInt8} {v : Bool} [ht : TyI P t .string g1 z1] (hx : f x = W1 a) (hy : f y = W1 b) (hc : decide (a ≠ b) = v) (k : K (.b v) σ) : OpSem P G B ⟨dst, .binOp .neq t x y t', type, pos, after, gd⟩ f σ K := s_neq_str hx hy (by rw [hc]; exact k)
end
theorem back_c (hG0 : G 0 = shapesT) (hG1 : G 1 = spaceT) (hG : G 6 = pow10T) (l m : List Int) (hl : OkI l) (hm : OkI m) : Go.Av.Pure Tryz.prog G 8 [Q5 l, Q5 m] (.b true) := fun B => by
 obtain ⟨v, hv, hvk, hsm1⟩ := sample_c (G := G) l hl
 obtain ⟨w, hw, hwk, hsm2⟩ := program_c (G := G) m hm
 have hlv := lives_c (G := G) hG0 hG1 hG
 have hpr := trivial
 have hpa := trivial
 have hval := trivial
 have hcm := trivial
 have hg := trivial
 have he0 := trivial
 have he1 := trivial
 have he2 := trivial
 have he3 := trivial
 refine Qa Tryz.func8 rfl Tryz.ntmps8 rfl (t := [(0, Q5 l), (1, Q5 m)]) rfl fun E0 hE0 => ?_
 (repeat' first | (refine Qi ?_; (first | refine QM rfl ?_ | refine QR rfl ?_ | (refine Qu ?_; (first | refine ZS rfl rfl hsm1 (WT (Enc.clo _)) ?_ | refine ZS rfl rfl hsm2 (WT (Enc.clo _)) ?_)) | refine Zl (y := v) (z := w) rfl rfl (by decide) ?_)) | (refine Qn ?_; (first | refine Ql ?_ | refine QN rfl ?_)) | (refine Qm ?_; (first | refine Qo ?_ | refine Qb ?_ | refine Qe ?_)))
 generalize hL : [v, w] = L at *
 have hLl : L.length = 2 := by rw [<- hL]; rfl
 have hall : ∀ x ∈ L, qF x = true /\ ∃ n ks, x = .mk 27 n 0 ks := fun x hx => by
  rw [<- hL] at hx
  rcases List.mem_cons.1 hx with rfl | hx
  ·exact ⟨hv, hvk⟩
  ·rcases List.mem_cons.1 hx with rfl | hx
   ·exact ⟨hw, hwk⟩
   ·cases hx
 clear hL hv hw hvk hwk hsm1 hsm2
 have hsm1 := trivial
 have hsm2 := trivial
 refine qm (fun i : Nat => ⟨[(5, Q5 L), (6, .i i)], []⟩) (fun i => i <= 2) (fun i => 2 - i) 0 ?_ (by omega) ?_
 ·exact zal rfl
 intro i hi
 by_cases hi2 : i < 2
 ·have hil : i < L.length := by omega
  obtain ⟨hv, n, ks, hvk⟩ := hall _ (List.getElem_mem hil)
  clear hall
  obtain ⟨hok, hsz, hpk⟩ := valid_ok hv
  have hpr := print_c hG hG1 L[i] hok (by omega)
  have hpl := print_len2 L[i] hok hsz
  have hcm := trCompare_c (G := G) L[i] (by omega)
  have hval := valid_c hG0 L[i] (by omega)
  rw [hv] at hval
  have hne : WW L[i] ≠ [] := fun e => by
   unfold WW at e
   rw [if_pos hpk, hvk, prT, if_pos rfl] at e
   have := congrArg List.length e
   rw [List.length_append, Wc, List.length_append] at this
   simp at this
  have he0 : decide (WW L[i] = []) = false := decide_eq_false hne
  have he3 : decide (WW L[i] ≠ WW L[i]) = false := by simp
  have hpp : 8192 < (WW L[i]).length \/ parseM zP (WW L[i]) = (L[i], -1) := by
   have := print_parse (z := zP) (n := n) (m := 0) (ks := ks) (by rw [<- hvk]; exact hv)
   rw [<- hvk] at this
   exact this
  have hpa := parse_c (G := G) hG0 hG1 (WW L[i]) (by omega)
  by_cases h8 : (WW L[i]).length <= 8192
  ·have hg : decide (((WW L[i]).length : Int) <= 8192) = true := decide_eq_true (by omega)
   have hpp : parseM zP (WW L[i]) = (L[i], -1) := by
    rcases hpp with h | h
    ·omega
    ·exact h
   rw [hpp] at hpa
   have he1 : decide ((-1 : Int) ≠ -1) = false := rfl
   have he2 : decide ((0 : Int) ≠ 0) = false := rfl
   clear hpp hne hvk
   generalize WW L[i] = s at *
   (repeat' first | (refine Qi ?_; (first | refine QM rfl ?_ | refine QR rfl ?_ | refine Q4 rfl ?_ | refine Q1 rfl rfl (by first | assumption | omega | (simp; done) | (simp; omega)) ?_ | (refine Qj ?_; (first | refine s_eql_strK rfl rfl he0 ?_ | refine Q9 rfl rfl ?_ | refine Zh rfl rfl (by omega) ?_)) | (refine Qu ?_; (first | refine ZS rfl rfl hpa (W4 (Ww (WT (Enc.clo _)) (Ww Wp W8))) ?_ | refine W5 rfl rfl (hpr) ?_ | refine W5 rfl rfl (hval) ?_)) | refine WK rfl rfl ?_ | refine Ws rfl rfl rfl rfl ?_ | refine Zq rfl ?_ | refine ZM rfl rfl rfl ?_ | refine Qq (fun _ _ => ?_))) | (refine Qn ?_; (first | refine Ql ?_ | refine QN rfl ?_ | refine QJ ?_ | refine WJ rfl rfl rfl rfl ?_)) | (refine Qm ?_; (first | refine Qo ?_ | refine Qb ?_ | refine Qe ?_ | (refine WO ?_; first | refine Wn (by rfl) (by kernel_rfl) (by kernel_rfl) ?_ | refine Wm (by kernel_rfl) (by kernel_rfl) ?_) | refine QB ?_ | refine Qy rfl ?_ | refine Qh rfl (by omega) ?_)) | (refine g_lex ?_; (first | refine x_op rfl (by (repeat' first | (refine Qi ?_; (first | refine QM rfl ?_ | (refine QO ?_; (first | refine W2 rfl rfl ?_ | refine Q4 rfl ?_)) | refine Q1 rfl rfl (by first | assumption | omega | (simp; done) | (simp; omega)) ?_ | (refine Qj ?_; (first | refine s_leq_asK rfl rfl hg ?_ | refine s_neq_asK rfl rfl he1 ?_ | refine s_neq_strK rfl rfl he3 ?_)) | (refine Qu ?_; (first | refine W5 rfl rfl (hpr) ?_ | refine W5 rfl rfl (hcm) ?_ | refine WA rfl ?_)) | (refine Wh ?_; (first | refine W6 rfl rfl ?_ | refine WK rfl rfl ?_)))) | exact ⟨rfl, rfl⟩)) ?_ | refine x_gy rfl rfl rfl rfl (by (repeat' first | (refine Qi ?_; (first | refine QM rfl ?_ | (refine QO ?_; (first | refine W2 rfl rfl ?_ | refine Q4 rfl ?_)) | refine Q1 rfl rfl (by first | assumption | omega | (simp; done) | (simp; omega)) ?_ | (refine Qj ?_; (first | refine s_leq_asK rfl rfl hg ?_ | refine s_neq_asK rfl rfl he1 ?_ | refine s_neq_strK rfl rfl he3 ?_)) | (refine Qu ?_; (first | refine W5 rfl rfl (hpr) ?_ | refine W5 rfl rfl (hcm) ?_ | refine WA rfl ?_)) | (refine Wh ?_; (first | refine W6 rfl rfl ?_ | refine WK rfl rfl ?_)))) | exact ⟨rfl, rfl⟩)) ?_ | refine x_nil ?_)))
   refine ⟨i + 1, by omega, by omega, ?_⟩
   exact zal rfl
  ·have hg : decide (((WW L[i]).length : Int) <= 8192) = false := decide_eq_false (by omega)
   clear hpp hne hvk
   generalize parseM zP (WW L[i]) = q at *
   generalize WW L[i] = s at *
   (repeat' first | (refine Qi ?_; (first | refine QM rfl ?_ | refine QR rfl ?_ | refine Q4 rfl ?_ | refine Q1 rfl rfl (by first | assumption | omega | (simp; done) | (simp; omega)) ?_ | (refine Qj ?_; (first | refine s_eql_strK rfl rfl he0 ?_ | refine Q9 rfl rfl ?_ | refine Zh rfl rfl (by omega) ?_)) | (refine Qu ?_; (first | refine ZS rfl rfl hpa (W4 (Ww (WT (Enc.clo _)) (Ww Wp W8))) ?_ | refine W5 rfl rfl (hpr) ?_ | refine W5 rfl rfl (hval) ?_)) | refine WK rfl rfl ?_ | refine Ws rfl rfl rfl rfl ?_ | refine Zq rfl ?_ | refine ZM rfl rfl rfl ?_ | refine Qq (fun _ _ => ?_))) | (refine Qn ?_; (first | refine Ql ?_ | refine QN rfl ?_ | refine QJ ?_ | refine WJ rfl rfl rfl rfl ?_)) | (refine Qm ?_; (first | refine Qo ?_ | refine Qb ?_ | refine Qe ?_ | (refine WO ?_; first | refine Wn (by rfl) (by kernel_rfl) (by kernel_rfl) ?_ | refine Wm (by kernel_rfl) (by kernel_rfl) ?_) | refine QB ?_ | refine Qy rfl ?_ | refine Qh rfl (by omega) ?_)) | (refine g_lex ?_; (first | refine x_gn rfl rfl rfl rfl ?_ | refine x_gu rfl rfl rfl rfl rfl ?_ | refine x_op rfl (by (repeat' first | (refine Qi ?_; (first | refine QM rfl ?_ | refine s_leq_asK rfl rfl hg ?_ | refine WA rfl ?_ | refine WK rfl rfl ?_)) | exact ⟨rfl, rfl⟩)) ?_ | refine x_nil ?_)))
   refine ⟨i + 1, by omega, by omega, ?_⟩
   exact zal rfl
 ·(repeat' first | (refine Qi ?_; (first | refine QM rfl ?_ | refine QR rfl ?_ | refine Q9 rfl rfl ?_ | refine W5 rfl rfl (hlv) ?_)) | (refine Qn ?_; (first | refine Ql ?_ | refine QN rfl ?_)) | (refine Qm ?_; (first | refine Qo ?_ | refine Qb ?_ | refine Qg rfl (by omega) ?_ | refine WS rfl ?_ | refine Qx ?_)))
  exact e_1 (Tryz.results8) (QH rfl) (Q8 rfl)
end Go.Proofs
end
section
namespace Go.Av
open Classical Go.ChangeShapes Go.WideShapes Go.ChangeAt Go.RowKit
theorem law_callsG {P : Program} {G : Nat -> DV} {f : FuncId} {args : List DV} (h : Pure P G f args (.b true)) {W : World} {vs : Array Value} (hv : ∀ L, Sees W L -> VReps L args vs)
  (hG : ∀ L, Sees W L -> ∀ g, (G g).clo = true /\ VRep L (G g) (.pointer (some ⟨g, 0, none⟩))) (hT : ∀ g cs, G g = .ep cs -> ∃ T, W.shape? g = some (T, cs.length)) :
  Calls P f vs W fun e W' => e = .returned (.bool true) /\ Below W.heap.size W W' := by
 let X : AX := { w := W, ρ := fun _ => none, σ := [], N := 0, hid := fun _ => False }
 have hm : ∀ b, ¬ X.mut b := fun b ⟨k, g, n, hl, _⟩ => by simp [AX.live, X] at hl
 have hS : Sto X := {
  inj := fun k k' g g' b n n' hl => by simp [AX.live, X] at hl
  gen := fun k g hl => by simp [AX.live, X] at hl
  hid := fun b hb => absurd hb (hm b)
  hidlt := fun b hb => hb.elim
  holds := fun k B hB => by simp [X] at hB }
 have hL : Sees W X.lay := fun b o v hc => AX.imm_mk (hm b) (fun h => h) hc
 refine (h 0 X vs hS rfl (Nat.le_refl _) (fun g => ⟨⟨(hG X.lay hL g).1, fun cs hc => hT g cs hc⟩, (hG X.lay hL g).2⟩) (hv X.lay hL)).mono ?_
 rintro e w' ⟨v, rfl, Y, hw, hY, hE, d, hr, rfl, _⟩
 subst hw
 rw [VRep.sc_eq hr]
 exact ⟨rfl, hE.os, hE.tape, hE.output, hE.size, fun k hk => (hE.old k hk (hm k)).1⟩
theorem slice_rep {β : Type} [Enc β] {w : World} {a : Addr} {len cap : Nat} (hlc : len <= cap) (y : Fin len -> β)
  (hy : ∀ i, ∃ ci : List Value, ci.length = Enc.es β /\ (∀ r, r < Enc.es β -> w.cell? ((a.add (i.1 * Enc.es β)).add r) = ci[r]?) /\ ∀ L, Sees w L -> ∀ (j : Nat) d, (Enc.enc (y i) : List DV)[j]? = some d -> VRep L d (ci.getD j undef))
  (L : Lay) (hL : Sees w L) : VRep L (Q5 (List.ofFn y)) (.slice (some a) len cap) := by
 have hp := Enc.pos (α := β)
 have hlen : (Wq (List.ofFn y)).length = len * Enc.es β := by rw [We, List.length_ofFn]
 let f : Nat -> Value := fun k => if h : k / Enc.es β < len then (Classical.choose (hy ⟨k / Enc.es β, h⟩)).getD (k % Enc.es β) undef else undef
 refine .sl _ _ _ _ _ f hlen.symm hlc (encs_one _) ?_ (fun k d hk => ?_)
 ·by_cases h0 : len = 0
  ·left
   exact List.eq_nil_of_length_eq_zero (by rw [hlen, h0, Nat.zero_mul])
  ·right
   obtain ⟨b, o, sp⟩ := a
   obtain ⟨c0, hc0, hc1, _⟩ := hy ⟨0, by omega⟩
   have hs := hc1 0 hp
   rw [List.getElem?_eq_getElem (by omega)] at hs
   have hsp : sp = none := by simpa [Addr.add] using spot_of hs
   subst hsp
   refine ⟨b, o, rfl, fun k hk => ?_⟩
   rw [hlen] at hk
   have hkd : k / Enc.es β < len := Nat.div_lt_of_lt_mul (by rw [Nat.mul_comm]; exact hk)
   have hfk : f k = (Classical.choose (hy ⟨k / Enc.es β, hkd⟩)).getD (k % Enc.es β) undef := dif_pos hkd
   obtain ⟨h4, h5, _⟩ := Classical.choose_spec (hy ⟨k / Enc.es β, hkd⟩)
   have hm := Nat.mod_lt k hp
   have h6 := h5 (k % Enc.es β) hm
   rw [List.getElem?_eq_getElem (by omega)] at h6
   refine hL b (o + k) (f k) ?_
   rw [hfk, List.getD_eq_getElem?_getD, List.getElem?_eq_getElem (by omega)]
   have hadd : ((⟨b, o, none⟩ : Addr).add (k / Enc.es β * Enc.es β)).add (k % Enc.es β) = ⟨b, o + k, none⟩ := by
    rw [ZY, ZY, Nat.add_assoc, Nat.mul_comm, Nat.div_add_mod]
   rw [hadd] at h6
   exact h6
 ·have hk' := (List.getElem?_eq_some_iff.1 hk).1
  rw [hlen] at hk'
  have hkd : k / Enc.es β < len := Nat.div_lt_of_lt_mul (by rw [Nat.mul_comm]; exact hk')
  have hfk : f k = (Classical.choose (hy ⟨k / Enc.es β, hkd⟩)).getD (k % Enc.es β) undef := dif_pos hkd
  obtain ⟨_, _, h7⟩ := Classical.choose_spec (hy ⟨k / Enc.es β, hkd⟩)
  have hm := Nat.mod_lt k hp
  have := encs_at (List.ofFn y) (k / Enc.es β) (by rw [List.length_ofFn]; exact hkd) (k % Enc.es β) hm
  rw [Nat.mul_comm, Nat.div_add_mod, hk, List.getElem_ofFn] at this
  rw [hfk]
  exact h7 L hL _ d this.symm
theorem ones {A B : Type} (g : B -> A) : ∀ (l : List B) (L : List A), L.length = l.length -> (∀ i b, l[i]? = some b -> (L.drop i).take 1 = [g b]) -> L = l.map g
 | [], L, hl, _ => List.eq_nil_of_length_eq_zero (by simpa using hl)
 | b :: l, L, hl, h => by
  have h0 := h 0 b rfl
  have hr := ones g l (L.drop 1) (by rw [List.length_drop, hl, List.length_cons]; omega) fun i b' hb => by
   have := h (i + 1) b' (by simpa using hb)
   rw [List.drop_drop]
   rwa [show 1 + i = i + 1 by omega]
  rw [List.map_cons, <- hr]
  have : L = L.take 1 ++ L.drop 1 := (List.take_append_drop 1 L).symm
  rw [List.drop_zero] at h0
  rw [h0] at this
  exact this
theorem shape_of_var {P : Program} {W : World} {name : String} {g : Nat} {cs : Array Value} (hg : P.globalNamed name = some g) (hv : W.var? P name = some cs) : ∃ T, W.shape? g = some (T, cs.size) := by
 unfold World.var? at hv
 rw [hg] at hv
 simp only [Option.bind_some] at hv
 split at hv
 ·rename_i h
  cases hv
  exact ⟨_, by unfold World.shape?; rw [h]⟩
 ·cases hv
end Go.Av
namespace Go.Proofs.YtnppaoeijmgneaaGreatDoor
open Go.ChangeShapes Go.WideShapes Go.ChangeAt Go.RowKit Go.Av Go.Proofs
def listD (l : List Int) : DataW Unit := match l with | [] => .nil | _ => .slice (l.map fun z => .lit (.int .i64 z)) []
def shD (s : Sh) : DataW Unit := .agg [.lit (.int .i64 s.is), .lit (.int .i64 s.low), .lit (.int .i64 s.high), .lit (.int .i64 s.last), listD s.kids, .lit (.int .i64 s.more), .lit (.int .i64 s.least), .lit (.int .i64 s.som)]
abbrev tok : TypeId × Value -> Unit := fun _ => ()
theorem cells3 : Tryz.prog.cellsOf 3 = 1 := by kernel_rfl
theorem cells111 : Tryz.prog.cellsOf 111 = 1 := by kernel_rfl
theorem cells128 : Tryz.prog.cellsOf 128 = 1 := by kernel_rfl
theorem cells130 : Tryz.prog.cellsOf 130 = 8 := by kernel_rfl
theorem cells131 : Tryz.prog.cellsOf 131 = 224 := by kernel_rfl
theorem cells5 : Tryz.prog.cellsOf 5 = 1 := by kernel_rfl
theorem cells154 : Tryz.prog.cellsOf 154 = 1 := by kernel_rfl
theorem cells158 : Tryz.prog.cellsOf 158 = 256 := by kernel_rfl
theorem cells194 : Tryz.prog.cellsOf 194 = 20 := by kernel_rfl
theorem gShapes : Tryz.prog.globalNamed "scoria/tree.shapes" = some 0 := by kernel_rfl
theorem tShapes : (Tryz.prog.globals[0]?).map (·.type) = some 131 := by kernel_rfl
theorem gSpace : Tryz.prog.globalNamed "strings.asciiSpace" = some 1 := by kernel_rfl
theorem tSpace : (Tryz.prog.globals[1]?).map (·.type) = some 158 := by kernel_rfl
theorem gPow : Tryz.prog.globalNamed "internal/strconv.uint64pow10" = some 6 := by kernel_rfl
theorem tPow : (Tryz.prog.globals[6]?).map (·.type) = some 194 := by kernel_rfl
theorem shapes_datum : (Rows.laid_scoria_tree_shapes : DataW Unit) = .agg (shapesL.map shD) := rfl
theorem space_datum : (Rows.laid_strings_asciiSpace : DataW Unit) = .agg (Lib.asciiSpaceTab.map fun z => .lit (.int .u8 z)) := rfl
theorem pow_datum : (Rows.laid_internal_strconv_uint64pow10 : DataW Unit) = .agg (Lib.pow10Tab.map fun z => .lit (.int .u64 z)) := rfl
variable {W : World} {l : List (String × DataW Unit)}
theorem kids_of {sp : Nat -> Bool} {b : Nat} {held : Bool} {fuel : Nat} {v : Value} {ks : List Int} {q : List MemPlace} (h : DataW.trod tok Tryz.prog W b sp held fuel 128 [v] = some (listD ks, q)) : ∀ L, Sees W L -> VRep L (Q5 ks) v := by
 rcases DataW.trod_slice (inferInstance : TyI Tryz.prog 128 (.slice 111) false 1).u h with ⟨e3, ex⟩ | ⟨a, len, cap, elems, rest, n, hn, e3, ex, _, hlc, hcap, hel, hget, _⟩
 ·have e3 : v = _ := List.head_eq_of_cons_eq e3
  have : ks = [] := by
   cases ks with
   | nil => rfl
   | cons x r => simp [listD] at ex
  subst this
  intro L hL
  rw [e3]
  exact .sl _ _ _ _ _ (fun _ => undef) (by simp [Wq]) (Nat.le_refl _) (fun d hd => by simp [Wq] at hd) (.inl rfl) (fun j d hj => by simp [Wq] at hj)
 ·have e3 : v = _ := List.head_eq_of_cons_eq e3
  have ex1 : listD ks = .slice (elems.map (·.1)) (rest.map (·.1)) := (Prod.mk.inj ex).1
  have hks : (elems.map (·.1)) = ks.map fun z => DataW.lit (.int .i64 z) := by
   cases ks with
   | nil => simp [listD] at ex1
   | cons x r => simp only [listD, DataW.slice.injEq] at ex1; exact ex1.1.symm
  have hlen : len = ks.length := by
   have := congrArg List.length hks
   rw [List.length_map, List.length_map] at this
   omega
  subst hlen
  intro L hL
  rw [e3]
  have key := slice_rep (w := W) (a := a) (len := ks.length) (cap := cap) hlc (fun i : Fin ks.length => ks[i]) (fun i => by
   have h1 := hget i.1 i.2
   rw [List.getElem?_eq_getElem (by omega), cells111] at h1
   obtain ⟨ci, h2, h3⟩ := Option.bind_eq_some_iff.1 h1
   obtain ⟨_, h4, h5⟩ := World.cells?_some h2
   obtain ⟨k, e1, e2, _⟩ := DataW.trod_int (inferInstance : TyI Tryz.prog 111 (.int .i64) false 1).u h3
   have hk : (elems.map (·.1))[i.1]? = (ks.map fun z => DataW.lit (.int .i64 z))[i.1]? := by rw [hks]
   rw [List.getElem?_map, List.getElem?_map, List.getElem?_eq_getElem (by omega), List.getElem?_eq_getElem i.2, e2] at hk
   have hk : k = ks[i.1] := by simpa using hk
   subst hk
   refine ⟨ci, h4, h5, fun L hL j d hj => ?_⟩
   rw [e1]
   cases j with
   | zero => cases hj; exact .sc _
   | succ j => simp [Enc.enc] at hj) L hL
  have hof : List.ofFn (fun i : Fin ks.length => ks[i]) = ks := List.ofFn_getElem
  rw [hof] at key
  exact key
theorem int_of {t : TypeId} {z : Nat} [ht : TyI Tryz.prog t (.int .i64) false z] {sp : Nat -> Bool} {b : Nat} {held : Bool} {fuel : Nat} {v : Value} {k : Int} {q : List MemPlace} (h : DataW.trod tok Tryz.prog W b sp held fuel t [v] = some (.lit (.int .i64 k), q)) : v = .int .i64 k := by
 obtain ⟨k', e1, e2, _⟩ := DataW.trod_int ht.u h
 have : k = k' := by simpa using (Prod.mk.inj e2).1
 rw [this]
 exact List.head_eq_of_cons_eq e1
theorem sh_of {sp : Nat -> Bool} {b : Nat} {held : Bool} {fuel : Nat} {c : List Value} {s : Sh} {q : List MemPlace} (h : DataW.trod tok Tryz.prog W b sp held fuel 130 c = some (shD s, q)) : c.length = 8 /\ ∀ L, Sees W L -> ∀ (j : Nat) d, (Enc.enc s : List DV)[j]? = some d -> VRep L d (c.getD j undef) := by
 obtain ⟨xs, n, hn, ex, hl, hxl, hf⟩ := DataW.trod_struct Tryz.underlying130 h
 rw [cells130] at hl
 match xs, hxl, c, hl with
 | [y0, y1, y2, y3, y4, y5, y6, y7], _, [v0, v1, v2, v3, v4, v5, v6, v7], _ =>
 have t0 := hf 0 _ rfl
 have t1 := hf 1 _ rfl
 have t2 := hf 2 _ rfl
 have t3 := hf 3 _ rfl
 have t4 := hf 4 _ rfl
 have t5 := hf 5 _ rfl
 have t6 := hf 6 _ rfl
 have t7 := hf 7 _ rfl
 clear hf h
 have t0 : DataW.trod tok Tryz.prog W b sp held n 111 [v0] = some y0 := by
  have e : (([v0, v1, v2, v3, v4, v5, v6, v7] : List Value).drop 0).take (Tryz.prog.cellsOf 111) = [v0] := by rw [cells111]; rfl
  rw [<- e]; exact t0
 have t1 : DataW.trod tok Tryz.prog W b sp held n 3 [v1] = some y1 := by
  have e : (([v0, v1, v2, v3, v4, v5, v6, v7] : List Value).drop 1).take (Tryz.prog.cellsOf 3) = [v1] := by rw [cells3]; rfl
  rw [<- e]; exact t1
 have t2 : DataW.trod tok Tryz.prog W b sp held n 3 [v2] = some y2 := by
  have e : (([v0, v1, v2, v3, v4, v5, v6, v7] : List Value).drop 2).take (Tryz.prog.cellsOf 3) = [v2] := by rw [cells3]; rfl
  rw [<- e]; exact t2
 have t3 : DataW.trod tok Tryz.prog W b sp held n 3 [v3] = some y3 := by
  have e : (([v0, v1, v2, v3, v4, v5, v6, v7] : List Value).drop 3).take (Tryz.prog.cellsOf 3) = [v3] := by rw [cells3]; rfl
  rw [<- e]; exact t3
 have t4 : DataW.trod tok Tryz.prog W b sp held n 128 [v4] = some y4 := by
  have e : (([v0, v1, v2, v3, v4, v5, v6, v7] : List Value).drop 4).take (Tryz.prog.cellsOf 128) = [v4] := by rw [cells128]; rfl
  rw [<- e]; exact t4
 have t5 : DataW.trod tok Tryz.prog W b sp held n 3 [v5] = some y5 := by
  have e : (([v0, v1, v2, v3, v4, v5, v6, v7] : List Value).drop 5).take (Tryz.prog.cellsOf 3) = [v5] := by rw [cells3]; rfl
  rw [<- e]; exact t5
 have t6 : DataW.trod tok Tryz.prog W b sp held n 3 [v6] = some y6 := by
  have e : (([v0, v1, v2, v3, v4, v5, v6, v7] : List Value).drop 6).take (Tryz.prog.cellsOf 3) = [v6] := by rw [cells3]; rfl
  rw [<- e]; exact t6
 have t7 : DataW.trod tok Tryz.prog W b sp held n 111 [v7] = some y7 := by
  have e : (([v0, v1, v2, v3, v4, v5, v6, v7] : List Value).drop 7).take (Tryz.prog.cellsOf 111) = [v7] := by rw [cells111]; rfl
  rw [<- e]; exact t7
 have ex1 := (Prod.mk.inj ex).1
 simp only [shD, List.map_cons, List.map_nil, DataW.agg.injEq, List.cons.injEq, and_true] at ex1
 obtain ⟨x0, x1, x2, x3, x4, x5, x6, x7⟩ := ex1
 obtain ⟨y0, p0⟩ := y0
 obtain ⟨y1, p1⟩ := y1
 obtain ⟨y2, p2⟩ := y2
 obtain ⟨y3, p3⟩ := y3
 obtain ⟨y4, p4⟩ := y4
 obtain ⟨y5, p5⟩ := y5
 obtain ⟨y6, p6⟩ := y6
 obtain ⟨y7, p7⟩ := y7
 dsimp only at x0 x1 x2 x3 x4 x5 x6 x7
 subst x0 x1 x2 x3 x4 x5 x6 x7
 have e0 := int_of (t := 111) (v := v0) t0
 have e1 := int_of (t := 3) (v := v1) t1
 have e2 := int_of (t := 3) (v := v2) t2
 have e3 := int_of (t := 3) (v := v3) t3
 have e4 := kids_of (v := v4) t4
 have e5 := int_of (t := 3) (v := v5) t5
 have e6 := int_of (t := 3) (v := v6) t6
 have e7 := int_of (t := 111) (v := v7) t7
 subst e0 e1 e2 e3 e5 e6 e7
 refine ⟨rfl, fun L hL j d hj => ?_⟩
 match j, hj with
 | 0, hj => cases hj; exact .sc _
 | 1, hj => cases hj; exact .sc _
 | 2, hj => cases hj; exact .sc _
 | 3, hj => cases hj; exact .sc _
 | 4, hj => cases hj; exact e4 L hL
 | 5, hj => cases hj; exact .sc _
 | 6, hj => cases hj; exact .sc _
 | 7, hj => cases hj; exact .sc _
 | j + 8, hj => simp [Enc.enc] at hj
theorem one_laid {name : String} {d : DataW Unit} {g t : Nat} (hf : l.filter (fun x => x.1 == name) = [(name, d)]) (hh : d.handleName? = none) (hg : Tryz.prog.globalNamed name = some g) (ht : (Tryz.prog.globals[g]?).map (·.type) = some t) (h : laidMetH Tryz.prog l W) :
  ∃ cs f p, W.var? Tryz.prog name = some cs /\ DataW.trod tok Tryz.prog W 0 (fun _ => true) false f t cs.toList = some (d, p) := by
 have h1 := h.filter fun x => x.1 == name
 rw [hf, MakeChecks.laidMetH_plain _ _ _ (by simp [hh])] at h1
 obtain ⟨ps, ⟨g', t', cs, f, p, q, hg', ht', hv, hd, _⟩, _, _⟩ := h1
 obtain rfl := Option.some.inj (hg.symm.trans hg')
 obtain rfl := Option.some.inj (ht.symm.trans ht')
 exact ⟨cs, f, p, hv, hd⟩
theorem shapes_laid (hf : l.filter (fun x => x.1 == "scoria/tree.shapes") = [("scoria/tree.shapes", Rows.laid_scoria_tree_shapes)]) (h : laidMetH Tryz.prog l W) :
  ∃ cs, W.var? Tryz.prog "scoria/tree.shapes" = some cs /\ cs.toList.length = 224 /\ ∀ L, Sees W L -> ∀ (j : Nat) d, (Wq shapesL)[j]? = some d -> VRep L d (cs.toList.getD j undef) := by
 obtain ⟨cs, f, p, hv, hd⟩ := one_laid hf rfl gShapes tShapes h
 rw [shapes_datum] at hd
 obtain ⟨xs, m, _, hx, hl, hn, hel⟩ := DataW.trod_array (inferInstance : TyI Tryz.prog 131 (.array 28 130) true 224).u hd
 rw [cells131] at hl
 have hx2 : (shapesL.map shD) = xs.map (·.1) := by simpa only [DataW.agg.injEq] using (Prod.mk.inj hx).1
 refine ⟨cs, hv, hl, fun L hL j d hj => ?_⟩
 have hj' : j < 224 := by
  have := (List.getElem?_eq_some_iff.1 hj).1
  rw [We] at this
  exact this
 have hi : j / 8 < 28 := by omega
 have hm : j % 8 < 8 := Nat.mod_lt _ (by decide)
 have h1 := hel (j / 8) hi
 rw [cells130] at h1
 have hxi : (xs.map (·.1))[j / 8]? = (shapesL.map shD)[j / 8]? := by rw [hx2]
 have hsl : shapesL.length = 28 := rfl
 rw [List.getElem?_map, List.getElem?_map, List.getElem?_eq_getElem (show j / 8 < xs.length by omega), List.getElem?_eq_getElem (show j / 8 < shapesL.length by omega)] at hxi
 rw [List.getElem?_eq_getElem (show j / 8 < xs.length by omega)] at h1
 have hxi : (xs[j / 8]'(by omega)).1 = shD (shapesL[j / 8]'(by omega)) := by simpa using hxi
 generalize xs[j / 8]'(by omega) = y at h1 hxi
 obtain ⟨y1, y2⟩ := y
 dsimp only at hxi
 subst hxi
 obtain ⟨hc, hrep⟩ := sh_of h1
 have he := encs_at shapesL (j / 8) (by omega) (j % 8) hm
 have hes : Enc.es Sh = 8 := rfl
 rw [hes, show j / 8 * 8 + j % 8 = j by omega, hj] at he
 have := hrep L hL (j % 8) d he.symm
 rw [List.getD_eq_getElem?_getD, List.getElem?_take, if_pos hm, List.getElem?_drop, show j / 8 * 8 + j % 8 = j by omega, <- List.getD_eq_getElem?_getD] at this
 exact this
theorem ints_laid {name : String} {k : IntKind} {zs : List Int} {g t e : Nat} {N : Nat} [hat : TyI Tryz.prog t (.array N e) true N] [hie : TyI Tryz.prog e (.int k) false 1] (hN : zs.length = N) (hc : Tryz.prog.cellsOf t = N) (hce : Tryz.prog.cellsOf e = 1) (hf : l.filter (fun x => x.1 == name) = [(name, .agg (zs.map fun z => .lit (.int k z)))]) (hg : Tryz.prog.globalNamed name = some g) (ht : (Tryz.prog.globals[g]?).map (·.type) = some t) (h : laidMetH Tryz.prog l W) :
  ∃ cs, W.var? Tryz.prog name = some cs /\ cs.toList = zs.map fun z => .int k z := by
 obtain ⟨cs, f, p, hv, hd⟩ := one_laid hf rfl hg ht h
 obtain ⟨xs, m, _, hx, hl, hn, hel⟩ := DataW.trod_array hat.u hd
 rw [hc] at hl
 have hx2 : (zs.map fun z => DataW.lit (H := Unit) (.int k z)) = xs.map (·.1) := by simpa only [DataW.agg.injEq] using (Prod.mk.inj hx).1
 refine ⟨cs, hv, ones (fun z => .int k z) zs cs.toList (by omega) fun i z hi => ?_⟩
 have hi20 : i < N := by rw [<- hN]; exact (List.getElem?_eq_some_iff.1 hi).1
 have h1 := hel i hi20
 rw [hce, Nat.mul_one] at h1
 have hxi : (xs.map (·.1))[i]? = some (.lit (.int k z)) := by rw [<- hx2, List.getElem?_map, hi]; rfl
 rw [List.getElem?_map] at hxi
 cases hxs : xs[i]? with
 | none => rw [hxs] at hxi; cases hxi
 | some y =>
  rw [hxs] at hxi h1
  obtain ⟨k', e1, e2, _⟩ := DataW.trod_int hie.u h1
  have hy := Option.some.inj hxi
  rw [e2] at hy
  have hk : k' = z := by simpa using hy
  rw [e1, hk]
def G016 : Nat -> DV := fun g => match g with | 0 => shapesT | 1 => spaceT | 6 => pow10T | _ => .any
theorem ints_rep {name : String} {k : IntKind} {zs : List Int} {g : Nat} {cs : Array Value} (hg : Tryz.prog.globalNamed name = some g) (hv : W.var? Tryz.prog name = some cs) (hcs : cs.toList = zs.map fun z => .int k z) (L : Lay) (hL : Sees W L) : VRep L (.ep (zs.map fun z => .sc (.int k z))) (.pointer (some ⟨g, 0, none⟩)) := by
 refine .ep _ g 0 (fun j => (zs.map fun z => Value.int k z).getD j undef) (fun d hd => ?_) (fun j hj => ?_) (fun j d hd => ?_)
 ·obtain ⟨z, _, rfl⟩ := List.mem_map.1 hd; rfl
 ·refine hL _ _ _ ?_
  rw [World.var?_cell hg hv, Nat.zero_add, <- hcs]
  have hj' : j < cs.toList.length := by rw [hcs]; simpa using hj
  rw [List.getD_eq_getElem?_getD, List.getElem?_eq_getElem hj']
  simp
 ·rw [List.getElem?_map] at hd
  cases hz : zs[j]? with
  | none => rw [hz] at hd; cases hd
  | some z =>
   rw [hz] at hd
   cases hd
   rw [List.getD_eq_getElem?_getD, List.getElem?_map, hz]
   exact .sc _
theorem of_laid (hf0 : l.filter (fun x => x.1 == "scoria/tree.shapes") = [("scoria/tree.shapes", Rows.laid_scoria_tree_shapes)]) (hf1 : l.filter (fun x => x.1 == "strings.asciiSpace") = [("strings.asciiSpace", Rows.laid_strings_asciiSpace)])
  (hf6 : l.filter (fun x => x.1 == "internal/strconv.uint64pow10") = [("internal/strconv.uint64pow10", Rows.laid_internal_strconv_uint64pow10)]) (h : laidMetH Tryz.prog l W) :
  (∀ L, Sees W L -> ∀ g, (G016 g).clo = true /\ VRep L (G016 g) (.pointer (some ⟨g, 0, none⟩))) /\ ∀ g cs, G016 g = .ep cs -> ∃ T, W.shape? g = some (T, cs.length) := by
 obtain ⟨c0, v0, n0, r0⟩ := shapes_laid hf0 h
 rw [space_datum] at hf1
 rw [pow_datum] at hf6
 obtain ⟨c1, v1, r1⟩ := ints_laid (t := 158) (e := 5) (N := 256) (by kernel_rfl) cells158 cells5 hf1 gSpace tSpace h
 obtain ⟨c6, v6, r6⟩ := ints_laid (t := 194) (e := 154) (N := 20) (by kernel_rfl) cells194 cells154 hf6 gPow tPow h
 refine ⟨fun L hL g => ?_, fun g cs hg => ?_⟩
 ·match g with
  | 0 =>
   refine ⟨ZJ (QW _), ?_⟩
   show VRep L shapesT _
   unfold shapesT
   refine .ep _ 0 0 (fun j => c0.toList.getD j undef) (encs_one _) (fun j hj => ?_) (r0 L hL)
   refine hL _ _ _ ?_
   rw [World.var?_cell gShapes v0, Nat.zero_add]
   have hj' : j < c0.toList.length := by rw [n0]; exact hj
   rw [List.getD_eq_getElem?_getD, List.getElem?_eq_getElem hj']
   simp
  | 1 =>
   refine ⟨?_, ints_rep gSpace v1 r1 L hL⟩
   show spaceT.clo = true
   unfold spaceT
   refine ZJ fun d hd => ?_
   obtain ⟨z, _, rfl⟩ := List.mem_map.1 hd
   exact Wp
  | 6 =>
   refine ⟨?_, ints_rep gPow v6 r6 L hL⟩
   show pow10T.clo = true
   unfold pow10T
   refine ZJ fun d hd => ?_
   obtain ⟨z, _, rfl⟩ := List.mem_map.1 hd
   exact Wp
  | 2 => exact ⟨by simp [G016, DV.clo], .any _⟩
  | 3 => exact ⟨by simp [G016, DV.clo], .any _⟩
  | 4 => exact ⟨by simp [G016, DV.clo], .any _⟩
  | 5 => exact ⟨by simp [G016, DV.clo], .any _⟩
  | g + 7 => exact ⟨by simp [G016, DV.clo], .any _⟩
 ·match g, hg with
  | 0, hg =>
   obtain ⟨T, hT⟩ := shape_of_var gShapes v0
   refine ⟨T, ?_⟩
   have : Wq shapesL = cs := by simpa [G016, shapesT] using hg
   rw [hT, <- Array.length_toList, n0, <- this]; rfl
  | 1, hg =>
   obtain ⟨T, hT⟩ := shape_of_var gSpace v1
   refine ⟨T, ?_⟩
   have : (Lib.asciiSpaceTab.map fun z => DV.sc (.int .u8 z)) = cs := by simpa [G016, spaceT] using hg
   rw [hT, <- Array.length_toList, r1, <- this, List.length_map, List.length_map]
  | 6, hg =>
   obtain ⟨T, hT⟩ := shape_of_var gPow v6
   refine ⟨T, ?_⟩
   have : (Lib.pow10Tab.map fun z => DV.sc (.int .u64 z)) = cs := by simpa [G016, pow10T] using hg
   rw [hT, <- Array.length_toList, r6, <- this, List.length_map, List.length_map]
  | 2, hg => simp [G016] at hg
  | 3, hg => simp [G016] at hg
  | 4, hg => simp [G016] at hg
  | 5, hg => simp [G016] at hg
  | g + 7, hg => simp [G016] at hg
end Go.Proofs.YtnppaoeijmgneaaGreatDoor
end
