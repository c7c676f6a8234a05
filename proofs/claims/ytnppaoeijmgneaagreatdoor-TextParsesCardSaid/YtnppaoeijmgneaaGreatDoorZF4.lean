/-
  Part 4 of the proof: TA TL KX KP KS GM PV AS GA BN AT LN T7 T9 TB PN TC LI CP AvD2 LV AvL5.
-/
import Derived.WalkKit
import Derived.LoopTactic
import Derived.WalkSmall
import Derived.Laws.RangeString
import Derived.Test.YtnppaoeijmgneaaGreatDoorZF1
import Derived.Test.YtnppaoeijmgneaaGreatDoorZF2
import Derived.Test.YtnppaoeijmgneaaGreatDoorZF3
set_option linter.unusedSimpArgs false
set_option linter.unusedVariables false
set_option maxRecDepth 10000
set_option maxHeartbeats 4000000
section
namespace Go.Proofs
open Go.Av Go.Bl
def funT : Nd -> List UInt8
 | .mk k n m ks =>
  if (decide (k = 26) && decide (0 < ks.length) && QI m ks.length (-1)) = true then
   ZQ 0 ([102, 117, 110, 32] ++ Lib.itoa n ++ [32, 40] ++ Wy ((ks.take (ks.length - 1)).map qz) ++ [41, 32, 123]) ++ (inT (ks.getD (ks.length - 1) (.mk 0 0 0 [])) 0 ++ ZQ 0 sClose)
  else []
def ZF : Nd -> Bool
 | .mk k n m ks => decide (k = 26) && decide (0 < ks.length) && QI m ks.length (-1) && WF n && (ks.take (ks.length - 1)).all ZH && inOk (ks.getD (ks.length - 1) (.mk 0 0 0 []))
def prT : Nd -> List UInt8
 | .mk k n m ks =>
  if k = 27 then ZQ 0 ([112, 114, 111, 103, 114, 97, 109, 32] ++ Lib.itoa n) ++ (ks.map funT).flatten else
  if k = 26 then funT (.mk k n m ks) else if 0 <= k /\ k <= 3 then qz (.mk k n m ks) else if 4 <= k /\ k <= 12 then exT (.mk k n m ks) else stT (.mk k n m ks) 0
def prOk : Nd -> Bool
 | .mk k n m ks =>
  if k = 27 then QI m ks.length (-1) && WF n && ks.all ZF else
  if k = 26 then ZF (.mk k n m ks) else if 0 <= k /\ k <= 3 then ZH (.mk k n m ks) else if 4 <= k /\ k <= 12 then Zn (.mk k n m ks) else qj (.mk k n m ks)
def Zz (t : Nd) : List UInt8 := if prOk t = true then prT t else []
theorem Z6 (f : Nd -> List UInt8) {M : Nat} (ks : List Nd) (j : Nat) (h : ∀ x ∈ ks, (f x).length + 2 <= M * Qk x) : (Wy ((ks.take j).map f)).length <= M * Qs (ks.take j) := ZN f _ fun x hx => h x (List.mem_of_mem_take hx)
theorem sizeL_last {ks : List Nd} (h : 0 < ks.length) : Qs (ks.take (ks.length - 1)) + Qk (ks.getD (ks.length - 1) (.mk 0 0 0 [])) = Qs ks := by
 have h1 := qr ks (ks.length - 1) (by omega)
 rw [show ks.length - 1 + 1 = ks.length by omega, List.take_length] at h1
 rw [List.getD_eq_getElem?_getD, List.getElem?_eq_getElem (show ks.length - 1 < ks.length by omega)]
 exact h1.symm
theorem last_mem {ks : List Nd} (h : 0 < ks.length) : ks.getD (ks.length - 1) (.mk 0 0 0 []) ∈ ks := by
 rw [List.getD_eq_getElem?_getD, List.getElem?_eq_getElem (show ks.length - 1 < ks.length by omega)]
 exact List.getElem_mem _
theorem funT_len (t : Nd) (hok : okN t) (hs : Qk t <= 1000000) : (funT t).length <= 7000000 * Qk t := by
 obtain ⟨k, n, m, ks⟩ := t
 rw [okN] at hok
 rw [Qk] at hs ⊢
 have hn := WP hok.1.2.1
 rw [funT]
 split
 ·rename_i h
  have hk : 0 < ks.length := by simp at h;omega
  have hl := sizeL_last hk
  have hb := (st_len _ (Wa hok.2 (last_mem hk)) 0).2
  have hc := Z6 qz (M := 30) ks (ks.length - 1) fun x hx => qT x (Wa hok.2 hx)
  generalize ks.getD (ks.length - 1) (.mk 0 0 0 []) = b at *
  have hb2 : (6 * (0 + Qk b) + 100) * (Qk b - 1) <= 7000000 * (Qk b - 1) := Nat.mul_le_mul (by omega) (Nat.le_refl _)
  simp only [List.length_append, Wx, List.length_cons, List.length_nil]
  omega
 ·simp
theorem funs_len : ∀ (ks : List Nd), okL ks -> Qs ks <= 1000000 -> ((ks.map funT).flatten).length <= 7000000 * Qs ks
 | [], _, _ => by simp
 | x :: r, h, hs => by
  rw [okL] at h
  rw [Qs] at hs
  have h1 := funT_len x h.1 (by omega)
  have h2 := funs_len r h.2 (by omega)
  rw [List.map_cons, List.flatten_cons, List.length_append, Qs, Nat.mul_add];omega
theorem flatten_take {ks : List Nd} {j : Nat} (f : Nd -> List UInt8) (h : j < ks.length) : ((ks.take (j + 1)).map f).flatten = ((ks.take j).map f).flatten ++ f ks[j] := by
 rw [List.take_succ_eq_append_getElem h, List.map_append, List.flatten_append];simp
def strs (l : List (List UInt8)) : List Str := l.map Str.mk
theorem Z9 (l : List (List UInt8)) : (strs l).length = l.length := List.length_map _
theorem strs_app (a b : List (List UInt8)) : strs (a ++ b) = strs a ++ strs b := List.map_append
def ind (l : List (List UInt8)) : List (List UInt8) := l.map fun s => [32, 32] ++ s
mutual
def stL : Nd -> List (List UInt8)
 | .mk k n m ks =>
  if k = 13 then sOpen :: (ind (stsL ks) ++ [sClose]) else
  if k = 17 then (sIf ++ (ks.map exT).getD 0 [] ++ sBr) :: ((insL ks).getD 1 [] ++ sElse :: ((insL ks).getD 2 [] ++ [sClose])) else
  if k = 18 then (sWhile ++ (ks.map exT).getD 0 [] ++ sBr) :: ((insL ks).getD 1 [] ++ [sClose]) else
  if k = 21 then sTry :: ((insL ks).getD 0 [] ++ (sCatch ++ Lib.itoa n ++ sBr) :: ((insL ks).getD 1 [] ++ [sClose])) else [simT (.mk k n m ks)]
def stsL : List Nd -> List (List UInt8)
 | [] => []
 | x :: r => stL x ++ stsL r
def inL : Nd -> List (List UInt8)
 | .mk k n m ks => ind (stsL ks)
def insL : List Nd -> List (List (List UInt8))
 | [] => []
 | x :: r => inL x :: insL r
end
theorem insL_eq : ∀ ks, insL ks = ks.map inL
 | [] => rfl
 | x :: r => by rw [insL, insL_eq r];rfl
theorem stsL_app (a b : List Nd) : stsL (a ++ b) = stsL a ++ stsL b := by
 induction a with
 | nil => simp [stsL]
 | cons x r ih => rw [List.cons_append, stsL, stsL, ih, List.append_assoc]
theorem stsL_take {ks : List Nd} {j : Nat} (h : j < ks.length) : stsL (ks.take (j + 1)) = stsL (ks.take j) ++ stL ks[j] := by
 rw [List.take_succ_eq_append_getElem h, stsL_app, stsL, stsL, List.append_nil]
theorem ind_app (a b : List (List UInt8)) : ind (a ++ b) = ind a ++ ind b := List.map_append
theorem ind_len (a : List (List UInt8)) : (ind a).length = a.length := List.length_map _
def ZZ (i : Nat) (l : List (List UInt8)) : List UInt8 := (l.map (ZQ i)).flatten
theorem Z5 (i : Nat) (a b : List (List UInt8)) : ZZ i (a ++ b) = ZZ i a ++ ZZ i b := by unfold ZZ;rw [List.map_append, List.flatten_append]
theorem qt (i : Nat) (a : List UInt8) (b : List (List UInt8)) : ZZ i (a :: b) = ZQ i a ++ ZZ i b := by unfold ZZ;rw [List.map_cons, List.flatten_cons]
theorem repeat_succ (s : List UInt8) (i : Nat) : Lib.repeatL s (i + 1) = Lib.repeatL s i ++ s := by
 induction i with
 | zero => simp [Lib.repeatL]
 | succ i ih =>
  show s ++ Lib.repeatL s (i + 1) = (s ++ Lib.repeatL s i) ++ s
  rw [ih, List.append_assoc]
theorem line_ind (i : Nat) (s : List UInt8) : ZQ (i + 1) s = ZQ i ([32, 32] ++ s) := by
 unfold ZQ
 rw [repeat_succ];simp
theorem joinN_ind (i : Nat) (l : List (List UInt8)) : ZZ i (ind l) = ZZ (i + 1) l := by
 unfold ZZ ind
 rw [List.map_map]
 congr 1
 refine List.map_congr_left fun s _ => ?_
 exact (line_ind i s).symm
theorem st_lines (t : Nd) : ∀ i, (qj t = true -> stT t i = ZZ i (stL t)) /\ (inOk t = true -> inT t i = ZZ i (inL t)) := by
 induction t using Nd.ind with
 | h k n m ks ih =>
 intro i
 have hsts : ∀ i, stOks ks = true -> stTs ks i = ZZ i (stsL ks) := fun j => by
  clear i
  induction ks with
  | nil => intro _;simp [stTs, stsL, ZZ]
  | cons x r ihr =>
   intro h
   rw [stOks] at h
   simp only [Bool.and_eq_true] at h
   rw [stTs, stsL, Z5, (ih x (by simp) j).1 h.1, ihr (fun y hy => ih y (by simp [hy])) h.2]
 have hin : inOk (.mk k n m ks) = true -> inT (.mk k n m ks) i = ZZ i (inL (.mk k n m ks)) := fun h => by
  rw [inOk] at h
  simp only [Bool.and_eq_true, decide_eq_true_eq] at h
  rw [inT, inL, joinN_ind, if_pos (by simp [h.1.1, h.1.2]), hsts _ h.2]
 refine ⟨fun h => ?_, hin⟩
 have hi2 : ∀ j, j < ks.length -> (ks.map inOk).getD j false = true -> (ks.map fun x => inT x i).getD j [] = ZZ i ((ks.map inL).getD j []) := fun j hj hb => by
  rw [List.getD_eq_getElem?_getD, List.getElem?_map, List.getElem?_eq_getElem hj] at *
  rw [List.getD_eq_getElem?_getD, List.getElem?_map, List.getElem?_eq_getElem hj]
  exact (ih _ (List.getElem_mem hj) i).2 hb
 have hlen : ∀ j, (ks.map inOk).getD j false = true -> j < ks.length := fun j hb => by
  rcases Nat.lt_or_ge j ks.length with h|h
  ·exact h
  ·rw [List.getD_eq_getElem?_getD, List.getElem?_eq_none (by simpa using h)] at hb;cases hb
 rw [qj, ql] at h
 rw [stT, stL, inTs_eq, insL_eq]
 by_cases k13 : k = 13
 ·rw [if_pos k13] at h ⊢
  rw [if_pos k13]
  simp only [Bool.and_eq_true] at h
  rw [if_pos h.1, qt, Z5, joinN_ind, hsts _ h.2]
  simp [ZZ]
 rw [if_neg k13] at h ⊢
 rw [if_neg k13]
 by_cases k17 : k = 17
 ·rw [if_pos k17] at h
  simp only [Bool.and_eq_true] at h
  rw [if_pos ⟨k17, h.1.1.1⟩, if_pos k17, hi2 1 (hlen _ h.1.2) h.1.2, hi2 2 (hlen _ h.2) h.2, qt, Z5, qt, Z5]
  simp [ZZ]
 rw [if_neg k17] at h
 rw [if_neg (fun h => k17 h.1), if_neg k17]
 by_cases k18 : k = 18
 ·rw [if_pos k18] at h
  simp only [Bool.and_eq_true] at h
  rw [if_pos ⟨k18, h.1.1⟩, if_pos k18, hi2 1 (hlen _ h.2) h.2, qt, Z5]
  simp [ZZ]
 rw [if_neg k18] at h
 rw [if_neg (fun h => k18 h.1), if_neg k18]
 by_cases k21 : k = 21
 ·rw [if_pos k21] at h
  simp only [Bool.and_eq_true] at h
  rw [if_pos ⟨k21, h.1.1.1⟩, if_pos k21, hi2 0 (hlen _ h.1.2) h.1.2, hi2 1 (hlen _ h.2) h.2, qt, Z5, qt, Z5]
  simp [ZZ]
 rw [if_neg (fun h => k21 h.1), if_neg k21]
 simp [ZZ]
theorem getD_sum {ks : List Nd} (f : Nd -> List (List UInt8)) {C : Nat} (h : ∀ x ∈ ks, (f x).length <= C * Qk x) : ((ks.map f).getD 1 []).length + ((ks.map f).getD 2 []).length <= C * Qs ks /\ ((ks.map f).getD 0 []).length + ((ks.map f).getD 1 []).length <= C * Qs ks := by
 match ks with
 | [] => simp
 | [a] => have := h a (by simp);simp [Qs];omega
 | [a, b] => have h1 := h a (by simp);have h2 := h b (by simp);simp [Qs, Nat.mul_add];omega
 | a :: b :: c :: r => have h1 := h a (by simp);have h2 := h b (by simp);have h3 := h c (by simp);simp [Qs, Nat.mul_add];omega
theorem stL_len (t : Nd) : (stL t).length <= 3 * Qk t /\ (inL t).length <= 3 * (Qk t - 1) := by
 induction t using Nd.ind with
 | h k n m ks ih =>
 have hs : (stsL ks).length <= 3 * Qs ks := by
  clear k n m
  induction ks with
  | nil => simp [stsL]
  | cons x r ihr =>
   have h1 := (ih x (by simp)).1
   have h2 := ihr fun y hy => ih y (by simp [hy])
   rw [stsL, Qs, List.length_append];omega
 have hg := getD_sum (ks := ks) inL (C := 3) fun x hx => Nat.le_trans (ih x hx).2 (by omega)
 refine ⟨?_, by rw [inL, ind_len, Qk];omega⟩
 rw [stL, Qk, insL_eq]
 repeat' split
 ·simp only [List.length_cons, List.length_append, ind_len, List.length_nil];omega
 ·simp only [List.length_cons, List.length_append, List.length_nil];omega
 ·simp only [List.length_cons, List.length_append, List.length_nil];omega
 ·simp only [List.length_cons, List.length_append, List.length_nil];omega
 ·simp only [List.length_cons, List.length_nil];omega
theorem getD_line {ks : List Nd} (f : Nd -> List (List UInt8)) {C : Nat} (h : ∀ x ∈ ks, ∀ s ∈ f x, s.length <= C * Qk x) (j : Nat) : ∀ s ∈ (ks.map f).getD j [], s.length <= C * Qs ks := fun s hs => by
 rw [List.getD_eq_getElem?_getD, List.getElem?_map] at hs
 rcases Nat.lt_or_ge j ks.length with hj|hj
 ·rw [List.getElem?_eq_getElem hj] at hs
  exact Nat.le_trans (h _ (List.getElem_mem hj) s hs) (Nat.mul_le_mul (Nat.le_refl _) (QG (List.getElem_mem hj)))
 ·rw [List.getElem?_eq_none hj] at hs;cases hs
theorem stL_line (t : Nd) : okN t -> (∀ s ∈ stL t, s.length <= 100 * Qk t) /\ (∀ s ∈ inL t, s.length <= 100 * Qk t) := by
 induction t using Nd.ind with
 | h k n m ks ih =>
 intro hok
 have hsim := simT_len (.mk k n m ks) hok
 rw [okN] at hok
 have hn := WP hok.1.2.1
 have hs : ∀ s ∈ stsL ks, s.length <= 100 * Qs ks := by
  have hok2 := hok.2
  clear hok hn hsim k n m
  induction ks with
  | nil => intro s hs;simp [stsL] at hs
  | cons x r ihr =>
   rw [okL] at hok2
   intro s hs
   rw [stsL, List.mem_append] at hs
   rw [Qs]
   rcases hs with hs|hs
   ·have := (ih x (by simp) hok2.1).1 s hs;omega
   ·have := ihr (fun y hy => ih y (by simp [hy])) hok2.2 s hs;omega
 have hsi : ∀ s ∈ ind (stsL ks), s.length <= 100 * (1 + Qs ks) := fun s h => by
  unfold ind at h
  obtain ⟨u, hu, rfl⟩ := List.mem_map.1 h
  have := hs u hu
  simp;omega
 have hg := fun j => getD_line (ks := ks) inL (C := 100) (fun x hx => (ih x hx (Wa hok.2 hx)).2) j
 have hx : ((ks.map exT).getD 0 []).length <= 60 * Qs ks := by
  match ks with
  | [] => simp
  | a :: r =>
   have h1 := qS a (Wa hok.2 (by simp))
   have h2 := QG (show a ∈ a :: r by simp)
   show (exT a).length <= _
   omega
 rw [Qk] at hsim
 refine ⟨?_, by rw [inL, Qk];exact hsi⟩
 have c1 : sOpen.length = 1 := rfl
 have c2 : sClose.length = 1 := rfl
 have c3 : sElse.length = 8 := rfl
 have c4 : sIf.length = 3 := rfl
 have c5 : sWhile.length = 6 := rfl
 have c6 : sTry.length = 5 := rfl
 have c7 : sCatch.length = 9 := rfl
 have c8 : sBr.length = 2 := rfl
 rw [stL, Qk, insL_eq]
 intro s hs
 split at hs
 ·simp only [List.mem_cons, List.mem_append, List.not_mem_nil, or_false] at hs
  rcases hs with rfl|hs|rfl
  ·omega
  ·exact hsi s hs
  ·omega
 split at hs
 ·simp only [List.mem_cons, List.mem_append, List.not_mem_nil, or_false] at hs
  rcases hs with rfl|hs|rfl|hs|rfl
  ·simp only [List.length_append];omega
  ·have := hg 1 s hs;omega
  ·omega
  ·have := hg 2 s hs;omega
  ·omega
 split at hs
 ·simp only [List.mem_cons, List.mem_append, List.not_mem_nil, or_false] at hs
  rcases hs with rfl|hs|rfl
  ·simp only [List.length_append];omega
  ·have := hg 1 s hs;omega
  ·omega
 split at hs
 ·simp only [List.mem_cons, List.mem_append, List.not_mem_nil, or_false] at hs
  rcases hs with rfl|hs|rfl|hs|rfl
  ·omega
  ·have := hg 0 s hs;omega
  ·simp only [List.length_append];omega
  ·have := hg 1 s hs;omega
  ·omega
 ·simp only [List.mem_cons, List.not_mem_nil, or_false] at hs
  subst hs;omega
theorem Zh {k n m : Int} {ks : List Nd} {w : Int} (s : Sh) (hs : shapesL.getD k.toNat noSh = s) (hk : 0 <= k /\ k < 28 /\ k ≠ 26) (hi : isB s w = true) (hn : s.low <= n /\ n <= s.high) (hm : 0 <= m /\ m <= s.last) (hc : s.least <= (ks.length : Int) - (s.kids.length : Int) /\ (ks.length : Int) - (s.kids.length : Int) <= s.more) (hw : ∀ i (h : i < ks.length), Qp ks[i] (qu s i) = true) : Qp (.mk k n m ks) w = true := by
 rw [Qp, if_pos ⟨hk.1, hk.2.1⟩, if_neg hk.2.2, hs, hi, fitsF_eq]
 have h1 : ZD s n m = true := by unfold ZD;simp [hn, hm]
 have h2 : Zf s ks.length = true := by unfold Zf;simp [hc]
 have h3 : Zd s (ks.map Qp) = true := by
  unfold Zd
  rw [allI_iff]
  intro i hi
  rw [List.length_map] at hi
  rw [Z2 ks Qp hi]
  exact hw i hi
 rw [h1, h2, h3];rfl
theorem kids1 {x : Nd} {s : Sh} (h : Qp x (qu s 0) = true) : ∀ i (h : i < [x].length), Qp [x][i] (qu s i) = true := fun i hi => by
 match i, hi with
 | 0, _ => exact h
theorem kids2 {x y : Nd} {s : Sh} (h : Qp x (qu s 0) = true) (h2 : Qp y (qu s 1) = true) : ∀ i (h : i < [x, y].length), Qp [x, y][i] (qu s i) = true := fun i hi => by
 match i, hi with
 | 0, _ => exact h
 | 1, _ => exact h2
theorem kids3 {x y z : Nd} {s : Sh} (h : Qp x (qu s 0) = true) (h2 : Qp y (qu s 1) = true) (h3 : Qp z (qu s 2) = true) : ∀ i (h : i < [x, y, z].length), Qp [x, y, z][i] (qu s i) = true := fun i hi => by
 match i, hi with
 | 0, _ => exact h
 | 1, _ => exact h2
 | 2, _ => exact h3
theorem kids0 {s : Sh} : ∀ i (h : i < ([] : List Nd).length), Qp ([] : List Nd)[i] (qu s i) = true := fun i hi => by simp at hi
theorem kidsA {ks : List Nd} {s : Sh} (hk : s.kids = []) (h : ∀ x ∈ ks, Qp x s.som = true) : ∀ i (h : i < ks.length), Qp ks[i] (qu s i) = true := fun i hi => by
 unfold qu
 rw [hk, if_neg (by simp)]
 exact h _ (List.getElem_mem hi)
theorem qO {x : Nd} : Q6 [x] = Q5 x := by simp [Q6]
theorem qZ {x y : Nd} : Q6 [x, y] = max (Q5 x) (Q5 y) := by simp [Q6]
theorem sizeL1 {x : Nd} : Qs [x] = Qk x := by simp [Qs]
theorem depthL_le {ks : List Nd} {D : Nat} (h : ∀ x ∈ ks, Q5 x <= D) : Q6 ks <= D := by
 induction ks with
 | nil => simp [Q6]
 | cons x r ih =>
  have h1 := h x (by simp)
  have h2 := ih fun y hy => h y (by simp [hy])
  rw [Q6];omega
theorem fit_block {t : Nd} (h : Qp t 6 = true) : Qp t 5 = true := by
 obtain ⟨k, n, m, ks⟩ := t
 rw [Qp] at h ⊢
 split at h
 ·rename_i hk
  rw [if_pos hk]
  simp only [Bool.and_eq_true] at h ⊢
  refine ⟨⟨?_, h.1.2⟩, h.2⟩
  have h1 := h.1.1
  unfold isB at h1 ⊢
  simp only [Bool.or_eq_true, Bool.and_eq_true, decide_eq_true_eq] at h1 ⊢
  rcases h1 with (h1|⟨_, h1⟩)|⟨_, h1⟩
  ·exact .inr ⟨h1, trivial⟩
  ·exact absurd h1 (by decide)
  ·exact absurd h1 (by decide)
 ·cases h
theorem fit_rng {k : Int} (h : 0 <= k /\ k < 28) : -8 <= (shapesL.getD k.toNat noSh).low /\ (shapesL.getD k.toNat noSh).high <= 13 /\ (shapesL.getD k.toNat noSh).last <= 2 := by
 have : ∀ i : Fin 28, -8 <= (shapesL.getD i.val noSh).low /\ (shapesL.getD i.val noSh).high <= 13 /\ (shapesL.getD i.val noSh).last <= 2 := by decide
 exact this ⟨k.toNat, by omega⟩
theorem okL_of {ks : List Nd} (h : ∀ x ∈ ks, okN x) : okL ks := by
 induction ks with
 | nil => rw [okL];trivial
 | cons x r ih => rw [okL];exact ⟨h x (by simp), ih fun y hy => h y (by simp [hy])⟩
theorem fit_ok (t : Nd) : ∀ w, Qp t w = true -> okN t := by
 induction t using Nd.ind with
 | h k n m ks ih =>
 intro w h
 rw [Qp] at h
 split at h
 ·rename_i hk
  have hr := fit_rng hk
  simp only [Bool.and_eq_true] at h
  obtain ⟨⟨_, h1⟩, h2⟩ := h
  unfold ZD at h1
  simp only [Bool.and_eq_true, decide_eq_true_eq] at h1
  rw [okN]
  refine ⟨⟨⟨by omega, by omega⟩, ⟨by omega, by omega⟩, ⟨by omega, by omega⟩⟩, okL_of fun x hx => ?_⟩
  obtain ⟨i, hi, rfl⟩ := List.getElem_of_mem hx
  rw [fitsF_eq] at h2
  split at h2
  ·unfold funB at h2
   simp only [Bool.and_eq_true, List.length_map] at h2
   by_cases hl : i = ks.length - 1
   ·have h3 := h2.1.2
    rw [Z2 ks Qp (by omega)] at h3
    subst hl
    exact ih _ hx 6 h3
   ·have h3 := allI_iff.1 h2.2 i (by omega)
    rw [Z2 ks Qp hi] at h3
    exact ih _ hx _ h3
  ·simp only [Bool.and_eq_true] at h2
   have h3 := h2.2
   unfold Zd at h3
   rw [List.length_map] at h3
   have h4 := allI_iff.1 h3 i hi
   rw [Z2 ks Qp hi] at h4
   exact ih _ hx _ h4
 ·cases h
abbrev GenF := Int -> Int -> Nd × Int × Int
theorem gen_skolem {pre : Int -> Int -> Prop} {R : Int -> Int -> Nd × Int × Int -> Prop} (h : ∀ a L, pre a L -> ∃ t, R a L t) : ∃ E : GenF, ∀ a L, pre a L -> R a L (E a L) := by
 classical
 refine ⟨fun a L => if h' : pre a L then Classical.choose (h a L h') else (.mk 0 0 0 [], 0, 0), fun a L h' => ?_⟩
 dsimp only
 rw [dif_pos h']
 exact Classical.choose_spec (h a L h')
def runM (E : GenF) : Nat -> Int -> Int -> List Nd × Int × Int
 | 0, a, L => ([], a, L)
 | n + 1, a, L => ((E a L).1 :: (runM E n (E a L).2.1 (E a L).2.2).1, (runM E n (E a L).2.1 (E a L).2.2).2)
def runP (E : GenF) : Nat -> Int -> Int -> List Nd × Int × Int
 | 0, a, L => ([], a, L)
 | n + 1, a, L => if 0 < L then ((E a L).1 :: (runP E n (E a L).2.1 (E a L).2.2).1, (runP E n (E a L).2.1 (E a L).2.2).2) else ([], a, L)
theorem runM_len (E : GenF) : ∀ n a L, (runM E n a L).1.length = n
 | 0, a, L => rfl
 | n + 1, a, L => by rw [runM, List.length_cons, runM_len E n]
theorem runP_len (E : GenF) : ∀ n a L, (runP E n a L).1.length <= n
 | 0, a, L => Nat.le_refl _
 | n + 1, a, L => by
  rw [runP]
  split
  ·have := runP_len E n (E a L).2.1 (E a L).2.2
   rw [List.length_cons];omega
  ·exact Nat.zero_le _
structure FitI (s : Sh) (n m : Int) (ks : List Nd) (w : Int) : Prop where
 is : s.is = w \/ (s.is = 3 /\ w = 2) \/ (s.is = 6 /\ w = 5)
 low : s.low <= n
 high : n <= s.high
 mlow : 0 <= m
 mhigh : m <= s.last
 least : s.least <= (ks.length : Int) - (s.kids.length : Int)
 more : (ks.length : Int) - (s.kids.length : Int) <= s.more
 kid : ∀ i (h : i < ks.length), Qp ks[i] (qu s i) = true
theorem fit_inv {k n m w : Int} {ks : List Nd} (h : Qp (.mk k n m ks) w = true) (hk : k ≠ 26) : FitI (shapesL.getD k.toNat noSh) n m ks w := by
 rw [Qp] at h
 split at h
 ·simp only [Bool.and_eq_true] at h
  obtain ⟨⟨h0, h1⟩, h2, h3⟩ := h
  unfold isB at h0
  unfold ZD at h1
  unfold Zf at h2
  unfold Zd at h3
  simp only [Bool.and_eq_true, Bool.or_eq_true, decide_eq_true_eq] at h0 h1 h2
  rw [fitsF_eq, List.length_map] at h3
  refine ⟨by omega, h1.1.1, h1.1.2, h1.2.1, h1.2.2, h2.1, h2.2, fun i hi => ?_⟩
  have := allI_iff.1 h3 i hi
  rw [Z2 ks Qp hi] at this
  exact this
 ·cases h
theorem kids_all {s : Sh} {n m w : Int} {ks : List Nd} (h : FitI s n m ks w) (c : Int) (hw : ∀ i, i < ks.length -> qu s i = c) : ∀ x ∈ ks, Qp x c = true := fun x hx => by
 obtain ⟨i, hi, rfl⟩ := List.getElem_of_mem hx
 have := h.kid i hi
 rw [hw i hi] at this
 exact this
theorem map_getDb (ks : List Nd) (f : Nd -> Bool) {i : Nat} (h : i < ks.length) : (ks.map f).getD i false = f ks[i] := by
 rw [List.getD_eq_getElem?_getD, List.getElem?_map, List.getElem?_eq_getElem h];rfl
theorem fit_k {k n m w : Int} {ks : List Nd} (h : Qp (.mk k n m ks) w = true) : 0 <= k /\ k < 28 := by
 rw [Qp] at h
 split at h
 ·assumption
 ·cases h
theorem fit_typ (t : Nd) : ∀ w, (w = 2 \/ w = 3) -> Qp t w = true -> ZH t = true := by
 induction t using Nd.ind with
 | h k n m ks ih =>
 intro w hw h
 have hk := fit_k h
 by_cases h26 : k = 26
 ·subst h26
  rw [Qp, if_pos (by decide)] at h
  simp only [Bool.and_eq_true] at h
  have := h.1.1
  unfold isB at this
  simp [shapesL] at this
  omega
 have hf := fit_inv h h26
 have hkk : k = 0 \/ k = 1 \/ k = 2 \/ k = 3 \/ (4 <= k /\ k <= 27) := by omega
 rw [ZH]
 rcases hkk with rfl|rfl|rfl|rfl|h4
 ·have hl : ks.length = 0 := by have := hf.least;have := hf.more;simp [shapesL] at this;simp_all
  obtain rfl : ks = [] := List.eq_nil_of_length_eq_zero hl
  obtain ⟨h0, h1, h2, h3, h4, h5, h6, h7⟩ := hf
  simp [shapesL] at h0 h1 h2 h3 h4 h5 h6
  simp [Wu, QI];omega
 ·have hl : ks.length = 0 := by have := hf.least;have := hf.more;simp [shapesL] at this;simp_all
  obtain rfl : ks = [] := List.eq_nil_of_length_eq_zero hl
  obtain ⟨h0, h1, h2, h3, h4, h5, h6, h7⟩ := hf
  simp [shapesL] at h0 h1 h2 h3 h4 h5 h6
  simp [Wu, QI];omega
 ·have hl : ks.length = 0 := by have := hf.least;have := hf.more;simp [shapesL] at this;simp_all
  obtain rfl : ks = [] := List.eq_nil_of_length_eq_zero hl
  obtain ⟨h0, h1, h2, h3, h4, h5, h6, h7⟩ := hf
  simp [shapesL] at h0 h1 h2 h3 h4 h5 h6
  simp [Wu, QI, WF];omega
 ·have ha := kids_all hf 3 fun i _ => by show (if i < 0 then _ else (3 : Int)) = 3;rw [if_neg (by omega)]
  obtain ⟨h0, h1, h2, h3, h4, h5, h6, h7⟩ := hf
  simp [shapesL] at h0 h1 h2 h3 h4 h5 h6
  have hl : 0 < ks.length := by omega
  rw [if_neg (by omega), if_neg (by omega), if_pos rfl, typOks_eq]
  have : ks.all ZH = true := by rw [List.all_eq_true];exact fun x hx => ih x hx 3 (.inr rfl) (ha x hx)
  rw [this]
  simp [Wu, QI, hl];omega
 ·exfalso
  have h0 := hf.is
  have hs : ∀ j : Fin 28, 4 <= j.val -> ((shapesL.getD j.val noSh).is ≠ 2 /\ (shapesL.getD j.val noSh).is ≠ 3) := by decide
  have := hs ⟨k.toNat, by omega⟩ (by show 4 <= k.toNat;omega)
  dsimp only at this
  omega
theorem fit_is {k n m w : Int} {ks : List Nd} (h : Qp (.mk k n m ks) w = true) : (shapesL.getD k.toNat noSh).is = w \/ ((shapesL.getD k.toNat noSh).is = 3 /\ w = 2) \/ ((shapesL.getD k.toNat noSh).is = 6 /\ w = 5) := by
 rw [Qp] at h
 split at h
 ·simp only [Bool.and_eq_true] at h
  have := h.1.1
  unfold isB at this
  simp only [Bool.and_eq_true, Bool.or_eq_true, decide_eq_true_eq] at this
  omega
 ·cases h
theorem kind_is {k n m w : Int} {ks : List Nd} (h : Qp (.mk k n m ks) w = true) : (w = 4 -> 4 <= k /\ k <= 12) /\ (w = 6 -> k = 13) /\ (w = 5 -> 13 <= k /\ k <= 25) /\ (w = 1 -> k = 26) /\ (w = 0 -> k = 27) := by
 have hk := fit_k h
 have h0 := fit_is h
 have hs : ∀ j : Fin 28, ((shapesL.getD j.val noSh).is = 4 -> 4 <= j.val /\ j.val <= 12) /\ ((shapesL.getD j.val noSh).is = 6 -> j.val = 13) /\ ((shapesL.getD j.val noSh).is = 5 -> 13 <= j.val /\ j.val <= 25) /\ ((shapesL.getD j.val noSh).is = 1 -> j.val = 26) /\ ((shapesL.getD j.val noSh).is = 0 -> j.val = 27) := by decide
 have := hs ⟨k.toNat, by omega⟩
 dsimp only at this
 obtain ⟨a1, a2, a3, a4, a5⟩ := this
 refine ⟨fun hw => ?_, fun hw => ?_, fun hw => ?_, fun hw => ?_, fun hw => ?_⟩
 ·have := a1 (by omega);omega
 ·have := a2 (by omega);omega
 ·by_cases h6 : (shapesL.getD k.toNat noSh).is = 6
  ·have := a2 h6;omega
  ·have := a3 (by omega);omega
 ·have := a4 (by omega);omega
 ·have := a5 (by omega);omega
theorem fit_ex (t : Nd) : Qp t 4 = true -> Zn t = true := by
 induction t using Nd.ind with
 | h k n m ks ih =>
 intro h
 have hk := (kind_is h).1 rfl
 have hf := fit_inv h (by omega)
 have hkk : k = 4 \/ k = 5 \/ k = 6 \/ k = 7 \/ k = 8 \/ k = 9 \/ k = 10 \/ k = 11 \/ k = 12 := by omega
 have hall : (∀ i, i < ks.length -> qu (shapesL.getD k.toNat noSh) i = 4) -> exOks ks = true := fun hw => by
  rw [WQ, List.all_eq_true]
  exact fun x hx => ih x hx (kids_all hf 4 hw x hx)
 rw [Zn]
 rcases hkk with rfl|rfl|rfl|rfl|rfl|rfl|rfl|rfl|rfl
 ·have hl : ks.length = 0 := by have := hf.least;have := hf.more;simp [shapesL] at this;simp_all
  obtain rfl : ks = [] := List.eq_nil_of_length_eq_zero hl
  obtain ⟨h0, h1, h2, h3, h4, h5, h6, h7⟩ := hf
  simp [shapesL] at h0 h1 h2 h3 h4 h5 h6
  by_cases hn : n < 0
  ·simp [QI, WF, hn];omega
  ·simp [QI, WF, hn];omega
 ·have hl : ks.length = 0 := by have := hf.least;have := hf.more;simp [shapesL] at this;simp_all
  obtain rfl : ks = [] := List.eq_nil_of_length_eq_zero hl
  obtain ⟨h0, h1, h2, h3, h4, h5, h6, h7⟩ := hf
  simp [shapesL] at h0 h1 h2 h3 h4 h5 h6
  simp [QI, WF];omega
 ·have hl : ks.length = 0 := by have := hf.least;have := hf.more;simp [shapesL] at this;simp_all
  obtain rfl : ks = [] := List.eq_nil_of_length_eq_zero hl
  obtain ⟨h0, h1, h2, h3, h4, h5, h6, h7⟩ := hf
  simp [shapesL] at h0 h1 h2 h3 h4 h5 h6
  simp [QI, WF];omega
 ·have hl : ks.length = 1 := by have := hf.least;have := hf.more;simp [shapesL] at *;omega
  have := hall fun i hi => by (have : i = 0 := by omega);subst this;rfl
  obtain ⟨h0, h1, h2, h3, h4, h5, h6, h7⟩ := hf
  simp [shapesL] at h0 h1 h2 h3 h4 h5 h6
  simp [QI, WF, this];omega
 ·have hl : ks.length = 0 := by have := hf.least;have := hf.more;simp [shapesL] at this;simp_all
  obtain rfl : ks = [] := List.eq_nil_of_length_eq_zero hl
  obtain ⟨h0, h1, h2, h3, h4, h5, h6, h7⟩ := hf
  simp [shapesL] at h0 h1 h2 h3 h4 h5 h6
  simp [QI, WF]
  omega
 ·have hl : ks.length = 2 := by have := hf.least;have := hf.more;simp [shapesL] at *;omega
  have := hall fun i hi => by (have : i = 0 \/ i = 1 := by omega);rcases this with rfl|rfl <;> rfl
  obtain ⟨h0, h1, h2, h3, h4, h5, h6, h7⟩ := hf
  simp [shapesL] at h0 h1 h2 h3 h4 h5 h6
  simp [QI, WF, this];omega
 ·have hl : ks.length = 1 := by have := hf.least;have := hf.more;simp [shapesL] at *;omega
  have := hall fun i hi => by (have : i = 0 := by omega);subst this;rfl
  obtain ⟨h0, h1, h2, h3, h4, h5, h6, h7⟩ := hf
  simp [shapesL] at h0 h1 h2 h3 h4 h5 h6
  simp [Wu, QI, WF, this];omega
 ·have := hall fun i hi => by show (if i < 0 then _ else (4 : Int)) = 4;rw [if_neg (by omega)]
  obtain ⟨h0, h1, h2, h3, h4, h5, h6, h7⟩ := hf
  simp [shapesL] at h0 h1 h2 h3 h4 h5 h6
  simp [QI, WF, this];omega
 ·have hl : ks.length = 0 := by have := hf.least;have := hf.more;simp [shapesL] at this;simp_all
  obtain rfl : ks = [] := List.eq_nil_of_length_eq_zero hl
  obtain ⟨h0, h1, h2, h3, h4, h5, h6, h7⟩ := hf
  simp [shapesL] at h0 h1 h2 h3 h4 h5 h6
  simp [QI, WF];omega
theorem fit_st (t : Nd) : (Qp t 5 = true -> qj t = true) /\ (Qp t 6 = true -> inOk t = true) := by
 induction t using Nd.ind with
 | h k n m ks ih =>
 have hblk : ∀ w, k = 13 -> Qp (.mk k n m ks) w = true -> Wu n m ks.length (-1) = true /\ stOks ks = true := fun w hk h => by
  have hf := fit_inv h (by omega)
  subst hk
  have ha := kids_all hf 5 fun i _ => by show (if i < 0 then _ else (5 : Int)) = 5;rw [if_neg (by omega)]
  obtain ⟨h0, h1, h2, h3, h4, h5, h6, h7⟩ := hf
  simp [shapesL] at h0 h1 h2 h3 h4 h5 h6
  refine ⟨by simp [Wu, QI];omega, ?_⟩
  have : ∀ ks : List Nd, (∀ x ∈ ks, qj x = true) -> stOks ks = true := by
   intro ks
   induction ks with
   | nil => intro _;rfl
   | cons x r ihr => intro h;rw [stOks, h x (by simp), ihr fun y hy => h y (by simp [hy])];rfl
  exact this ks fun x hx => (ih x hx).1 (ha x hx)
 refine ⟨fun h => ?_, fun h => ?_⟩
 ·have hk := (kind_is h).2.2.1 rfl
  have hf := fit_inv h (by omega)
  have hkk : k = 13 \/ k = 14 \/ k = 15 \/ k = 16 \/ k = 17 \/ k = 18 \/ k = 19 \/ k = 20 \/ k = 21 \/ k = 22 \/ k = 23 \/ k = 24 \/ k = 25 := by omega
  have hall : (∀ i, i < ks.length -> qu (shapesL.getD k.toNat noSh) i = 4) -> ks.all Zn = true := fun hw => by
   rw [List.all_eq_true]
   exact fun x hx => fit_ex x (kids_all hf 4 hw x hx)
  rw [qj]
  rcases hkk with rfl|rfl|rfl|rfl|rfl|rfl|rfl|rfl|rfl|rfl|rfl|rfl|rfl
  ·obtain ⟨b1, b2⟩ := hblk 5 rfl h
   rw [if_pos rfl, b1, b2];rfl
  ·have hl : ks.length = 1 := by have := hf.least;have := hf.more;simp [shapesL] at *;omega
   have := hall fun i hi => by (have : i = 0 := by omega);subst this;rfl
   obtain ⟨h0, h1, h2, h3, h4, h5, h6, h7⟩ := hf
   simp [shapesL] at h0 h1 h2 h3 h4 h5 h6
   simp only [Zt, this]
   simp [QI, WF];omega
  ·have hl : ks.length = 2 := by have := hf.least;have := hf.more;simp [shapesL] at *;omega
   have := hall fun i hi => by (have : i = 0 \/ i = 1 := by omega);rcases this with rfl|rfl <;> rfl
   obtain ⟨h0, h1, h2, h3, h4, h5, h6, h7⟩ := hf
   simp [shapesL] at h0 h1 h2 h3 h4 h5 h6
   simp only [Zt, this]
   simp [QI, WF];omega
  ·have hl : ks.length = 1 := by have := hf.least;have := hf.more;simp [shapesL] at *;omega
   have := hall fun i hi => by (have : i = 0 := by omega);subst this;rfl
   obtain ⟨h0, h1, h2, h3, h4, h5, h6, h7⟩ := hf
   simp [shapesL] at h0 h1 h2 h3 h4 h5 h6
   simp only [Zt, this]
   simp [QI, WF];omega
  ·have hl : ks.length = 3 := by have := hf.least;have := hf.more;simp [shapesL] at *;omega
   have k0 : Zn ks[0] = true := fit_ex _ (hf.kid 0 (by omega))
   have k1 : inOk ks[1] = true := (ih _ (List.getElem_mem _)).2 (hf.kid 1 (by omega))
   have k2 : inOk ks[2] = true := (ih _ (List.getElem_mem _)).2 (hf.kid 2 (by omega))
   obtain ⟨h0, h1, h2, h3, h4, h5, h6, h7⟩ := hf
   simp [shapesL] at h0 h1 h2 h3 h4 h5 h6
   rw [if_neg (by omega), if_pos rfl, ql, map_getDb ks Zn (i := 0) (by omega), map_getDb ks inOk (i := 1) (by omega), map_getDb ks inOk (i := 2) (by omega), k0, k1, k2]
   simp [Wu, QI];omega
  ·have hl : ks.length = 2 := by have := hf.least;have := hf.more;simp [shapesL] at *;omega
   have k0 : Zn ks[0] = true := fit_ex _ (hf.kid 0 (by omega))
   have k1 : inOk ks[1] = true := (ih _ (List.getElem_mem _)).2 (hf.kid 1 (by omega))
   obtain ⟨h0, h1, h2, h3, h4, h5, h6, h7⟩ := hf
   simp [shapesL] at h0 h1 h2 h3 h4 h5 h6
   rw [if_neg (by omega), if_neg (by omega), if_pos rfl, ql, map_getDb ks Zn (i := 0) (by omega), map_getDb ks inOk (i := 1) (by omega), k0, k1]
   simp [Wu, QI];omega
  ·have hl : ks.length = 1 := by have := hf.least;have := hf.more;simp [shapesL] at *;omega
   have := hall fun i hi => by (have : i = 0 := by omega);subst this;rfl
   obtain ⟨h0, h1, h2, h3, h4, h5, h6, h7⟩ := hf
   simp [shapesL] at h0 h1 h2 h3 h4 h5 h6
   simp only [Zt, this]
   simp [Wu, QI, WF];omega
  ·have hl : ks.length = 1 := by have := hf.least;have := hf.more;simp [shapesL] at *;omega
   have := hall fun i hi => by (have : i = 0 := by omega);subst this;rfl
   obtain ⟨h0, h1, h2, h3, h4, h5, h6, h7⟩ := hf
   simp [shapesL] at h0 h1 h2 h3 h4 h5 h6
   simp only [Zt, this]
   simp [Wu, QI, WF];omega
  ·have hl : ks.length = 2 := by have := hf.least;have := hf.more;simp [shapesL] at *;omega
   have k0 : inOk ks[0] = true := (ih _ (List.getElem_mem _)).2 (hf.kid 0 (by omega))
   have k1 : inOk ks[1] = true := (ih _ (List.getElem_mem _)).2 (hf.kid 1 (by omega))
   obtain ⟨h0, h1, h2, h3, h4, h5, h6, h7⟩ := hf
   simp [shapesL] at h0 h1 h2 h3 h4 h5 h6
   rw [if_neg (by omega), if_neg (by omega), if_neg (by omega), if_pos rfl, ql, map_getDb ks inOk (i := 0) (by omega), map_getDb ks inOk (i := 1) (by omega), k0, k1]
   simp [QI, WF];omega
  ·have hl : ks.length = 1 := by have := hf.least;have := hf.more;simp [shapesL] at *;omega
   have := hall fun i hi => by (have : i = 0 := by omega);subst this;rfl
   obtain ⟨h0, h1, h2, h3, h4, h5, h6, h7⟩ := hf
   simp [shapesL] at h0 h1 h2 h3 h4 h5 h6
   simp only [Zt, this]
   simp [QI, WF];omega
  ·have := hall fun i hi => by show (if i < 0 then _ else (4 : Int)) = 4;rw [if_neg (by omega)]
   obtain ⟨h0, h1, h2, h3, h4, h5, h6, h7⟩ := hf
   simp [shapesL] at h0 h1 h2 h3 h4 h5 h6
   simp only [Zt, this]
   simp [QI, WF];omega
  ·have hl : ks.length = 1 := by have := hf.least;have := hf.more;simp [shapesL] at *;omega
   have := hall fun i hi => by (have : i = 0 := by omega);subst this;rfl
   obtain ⟨h0, h1, h2, h3, h4, h5, h6, h7⟩ := hf
   simp [shapesL] at h0 h1 h2 h3 h4 h5 h6
   simp only [Zt, this]
   simp [Wu, QI, WF];omega
  ·have hl : ks.length = 0 := by have := hf.least;have := hf.more;simp [shapesL] at this;simp_all
   obtain rfl : ks = [] := List.eq_nil_of_length_eq_zero hl
   obtain ⟨h0, h1, h2, h3, h4, h5, h6, h7⟩ := hf
   simp [shapesL] at h0 h1 h2 h3 h4 h5 h6
   simp only [Zt]
   simp [Wu, QI, WF];omega
 ·have hk := (kind_is h).2.1 rfl
  obtain ⟨b1, b2⟩ := hblk 6 hk h
  rw [inOk, b1, b2, decide_eq_true hk];rfl
theorem fit_funok (t : Nd) (h : Qp t 1 = true) : ZF t = true := by
 obtain ⟨k, n, m, ks⟩ := t
 have hk := (kind_is h).2.2.2.1 rfl
 subst hk
 rw [Qp, if_pos (by decide), if_pos rfl, fitsF_eq] at h
 simp only [Bool.and_eq_true] at h
 obtain ⟨⟨_, h1⟩, h2⟩ := h
 unfold ZD at h1
 unfold funB at h2
 simp only [Bool.and_eq_true, decide_eq_true_eq, List.length_map] at h1 h2
 simp [shapesL] at h1
 obtain ⟨⟨⟨c1, c2⟩, c3⟩, c4⟩ := h2
 have hl : 0 < ks.length := by
  by_cases h0 : ks.length = 0
  ·omega
  ·omega
 rw [Z2 ks Qp (by omega)] at c3
 rw [ZF]
 have d1 : inOk (ks.getD (ks.length - 1) (.mk 0 0 0 [])) = true := by
  rw [List.getD_eq_getElem?_getD, List.getElem?_eq_getElem (show ks.length - 1 < ks.length by omega)]
  exact (fit_st _).2 c3
 have d2 : (ks.take (ks.length - 1)).all ZH = true := by
  rw [List.all_eq_true]
  intro x hx
  obtain ⟨i, hi, rfl⟩ := List.getElem_of_mem hx
  rw [List.length_take] at hi
  have h3 := allI_iff.1 c4 i (by omega)
  rw [Z2 ks Qp (by omega)] at h3
  rw [List.getElem_take]
  refine fit_typ _ _ ?_ h3
  split <;> simp
 rw [d1, d2, decide_eq_true hl]
 simp [QI, WF];omega
theorem fit_pr (t : Nd) (h : Qp t 0 = true) : prOk t = true := by
 obtain ⟨k, n, m, ks⟩ := t
 have hk := (kind_is h).2.2.2.2 rfl
 have hf := fit_inv h (by omega)
 subst hk
 have ha := kids_all hf 1 fun i _ => by show (if i < 0 then _ else (1 : Int)) = 1;rw [if_neg (by omega)]
 obtain ⟨h0, h1, h2, h3, h4, h5, h6, h7⟩ := hf
 simp [shapesL] at h0 h1 h2 h3 h4 h5 h6
 rw [prOk, if_pos rfl]
 have : ks.all ZF = true := by rw [List.all_eq_true];exact fun x hx => fit_funok x (ha x hx)
 rw [this]
 simp [QI, WF];omega
theorem valid_pr {t : Nd} (h : qX t = true) : prOk t = true := by
 unfold qX at h
 simp only [Bool.and_eq_true] at h
 exact fit_pr t h.2
def Li (l : List UInt8) : Prop := ∀ b ∈ l, b.toNat < 128 /\ b ≠ 10
theorem qs {a b : List UInt8} (ha : Li a) (hb : Li b) : Li (a ++ b) := fun x hx => (List.mem_append.1 hx).elim (ha x) (hb x)
theorem li_nil : Li [] := fun x hx => by cases hx
theorem li_cons {x : UInt8} {b : List UInt8} (hx : (decide (x.toNat < 128) && decide (x ≠ 10)) = true) (hb : Li b) : Li (x :: b) := fun y hy => by
 rcases List.mem_cons.1 hy with rfl|hy
 ·simpa using hx
 ·exact hb y hy
theorem ZW {l : List UInt8} (h : (l.all fun x => decide (x.toNat < 128) && decide (x ≠ 10)) = true) : Li l := fun b hb => by
 rw [List.all_eq_true] at h
 simpa using h b hb
theorem li_dec (u : Nat) : Li (Lib.decDigits u) := by
 rw [Lib.decDigits_eq]
 intro b hb
 obtain ⟨t, _, rfl⟩ := List.mem_map.1 hb
 unfold Lib.dg
 have h : u / 10 ^ (Lib.nDigits u - 1 - t) % 10 < 10 := Nat.mod_lt _ (by decide)
 generalize u / 10 ^ (Lib.nDigits u - 1 - t) % 10 = d at *
 have e : (UInt8.ofNat (48 + d)).toNat = 48 + d := by
  rw [UInt8.toNat_ofNat'];omega
 refine ⟨by omega, fun h10 => ?_⟩
 rw [h10] at e
 have : (10 : UInt8).toNat = 10 := rfl
 omega
theorem li_itoa (n : Int) : Li (Lib.itoa n) := by
 unfold Lib.itoa
 split
 ·exact li_cons (by decide) (li_dec _)
 ·exact li_dec _
theorem li_commas : ∀ l : List (List UInt8), (∀ x ∈ l, Li x) -> Li (Wy l)
 | [], _ => by show Li (Lib.join [] comma);rw [Lib.join_nil];exact li_nil
 | x :: r, h => by
  show Li (Lib.join (x :: r) comma)
  rw [Lib.join_cons]
  refine qs (h x (by simp)) ?_
  unfold Lib.joinTail
  intro b hb
  obtain ⟨y, hy, hby⟩ := List.mem_flatten.1 hb
  obtain ⟨z, hz, rfl⟩ := List.mem_map.1 hy
  exact qs (ZW (by decide)) (h z (by simp [hz])) b hby
theorem li_typ (t : Nd) : Li (qz t) := by
 induction t using Nd.ind with
 | h k n m ks ih =>
 rw [qz, typTs_eq]
 repeat' split
 ·exact ZW (by decide)
 ·exact ZW (by decide)
 ·exact qs (ZW (by decide)) (li_itoa n)
 ·refine qs (qs (ZW (by decide)) (li_commas _ fun x hx => ?_)) (ZW (by decide))
  obtain ⟨y, hy, rfl⟩ := List.mem_map.1 hx
  exact ih y hy
 ·exact li_nil
theorem li_op (i : Nat) : Li (opTexts.getD i []) := by
 rcases Nat.lt_or_ge i 14 with h|h
 ·have : ∀ j : Fin 14, (opTexts.getD j.val []).all (fun x => decide (x.toNat < 128) && decide (x ≠ 10)) = true := by decide
  exact ZW (this ⟨i, h⟩)
 ·rw [List.getD_eq_getElem?_getD, List.getElem?_eq_none (by simpa [opTexts] using h)];exact li_nil
theorem li_getD {l : List (List UInt8)} (h : ∀ x ∈ l, Li x) (i : Nat) : Li (l.getD i []) := by
 rw [List.getD_eq_getElem?_getD]
 cases hx : l[i]? with
 | none => exact li_nil
 | some x => exact h x (List.mem_of_getElem? hx)
theorem li_ex (t : Nd) : Li (exT t) := by
 induction t using Nd.ind with
 | h k n m ks ih =>
 rw [exT, q9]
 have hk : ∀ x ∈ ks.map exT, Li x := fun x hx => by obtain ⟨y, hy, rfl⟩ := List.mem_map.1 hx;exact ih y hy
 have hc := li_commas _ hk
 have h0 := li_getD hk 0
 have h1 := li_getD hk 1
 have hop := li_op n.toNat
 have hn := li_itoa n
 have hm := li_itoa m
 repeat' split
 all_goals repeat' first|assumption|exact li_nil|exact ZW (by decide)|refine qs ?_ ?_
theorem li_exs (ks : List Nd) : ∀ x ∈ ks.map exT, Li x := fun x hx => by obtain ⟨y, hy, rfl⟩ := List.mem_map.1 hx;exact li_ex y
theorem li_sim (t : Nd) : Li (simT t) := by
 obtain ⟨k, n, m, ks⟩ := t
 rw [simT]
 have hk := li_exs ks
 have hc := li_commas _ hk
 have h0 := li_getD hk 0
 have h1 := li_getD hk 1
 have hn := li_itoa n
 have hm := li_itoa m
 repeat' split
 all_goals repeat' first|assumption|exact li_nil|exact ZW (by decide)|refine qs ?_ ?_
def nlC (l : List UInt8) : Nat := l.countP (· == 10)
theorem nl_app (a b : List UInt8) : nlC (a ++ b) = nlC a + nlC b := List.countP_append
theorem nl_li {l : List UInt8} (h : Li l) : nlC l = 0 := by
 unfold nlC
 rw [List.countP_eq_zero]
 intro b hb
 simpa using (h b hb).2
theorem nl_le (l : List UInt8) : nlC l <= l.length := List.countP_le_length
theorem li_rep (i : Nat) : Li (Lib.repeatL [32, 32] i) := by
 induction i with
 | zero => exact li_nil
 | succ i ih => exact qs (a := [32, 32]) (ZW (by decide)) ih
def Asc (l : List UInt8) : Prop := ∀ b ∈ l, b.toNat < 128
theorem ZR {a b : List UInt8} (ha : Asc a) (hb : Asc b) : Asc (a ++ b) := fun x hx => (List.mem_append.1 hx).elim (ha x) (hb x)
theorem asc_nil : Asc [] := fun x hx => (by cases hx)
theorem li_asc {l : List UInt8} (h : Li l) : Asc l := fun b hb => (h b hb).1
theorem qG {s : List UInt8} (h : Li s) (i : Nat) : Asc (ZQ i s) /\ nlC (ZQ i s) = 1 := by
 unfold ZQ
 have h1 := qs (li_rep i) h
 refine ⟨ZR (li_asc h1) (fun b hb => by simp at hb;subst hb;decide), ?_⟩
 rw [nl_app, nl_li h1];rfl
theorem st_asc (t : Nd) : ∀ i, (Asc (stT t i) /\ nlC (stT t i) = nlC (stT t 0)) /\ (Asc (inT t i) /\ nlC (inT t i) = nlC (inT t 0)) := by
 induction t using Nd.ind with
 | h k n m ks ih =>
 have hsts : ∀ ks : List Nd, (∀ x ∈ ks, ∀ i, Asc (stT x i) /\ nlC (stT x i) = nlC (stT x 0)) -> ∀ i j, Asc (stTs ks i) /\ nlC (stTs ks i) = nlC (stTs ks j) := by
  intro ks
  induction ks with
  | nil => intro _ i j;exact ⟨by rw [stTs];exact asc_nil, by rw [stTs, stTs]⟩
  | cons x r ihr =>
   intro h i j
   have h1 := h x (by simp) i
   have h1' := h x (by simp) j
   have h2 := ihr (fun y hy => h y (by simp [hy])) i j
   rw [stTs, stTs, nl_app, nl_app]
   exact ⟨ZR h1.1 h2.1, by rw [h1.2, h1'.2, h2.2]⟩
 have hk := hsts ks fun x hx i => (ih x hx i).1
 have hin : ∀ j i, Asc ((ks.map fun x => inT x i).getD j []) /\ nlC ((ks.map fun x => inT x i).getD j []) = nlC ((ks.map fun x => inT x 0).getD j []) := fun j i => by
  rw [List.getD_eq_getElem?_getD, List.getD_eq_getElem?_getD, List.getElem?_map, List.getElem?_map]
  cases hx : ks[j]? with
  | none => exact ⟨asc_nil, rfl⟩
  | some x => exact (ih x (List.mem_of_getElem? hx) i).2
 have hex := li_exs ks
 have hie : Li (sIf ++ (ks.map exT).getD 0 [] ++ sBr) := qs (qs (ZW (by decide)) (li_getD hex 0)) (ZW (by decide))
 have hwe : Li (sWhile ++ (ks.map exT).getD 0 [] ++ sBr) := qs (qs (ZW (by decide)) (li_getD hex 0)) (ZW (by decide))
 have hce : Li (sCatch ++ Lib.itoa n ++ sBr) := qs (qs (ZW (by decide)) (li_itoa n)) (ZW (by decide))
 have lo := fun i => qG (s := sOpen) (ZW (by decide)) i
 have lc := fun i => qG (s := sClose) (ZW (by decide)) i
 have le := fun i => qG (s := sElse) (ZW (by decide)) i
 have lt := fun i => qG (s := sTry) (ZW (by decide)) i
 have l1 := fun i => qG hie i
 have l2 := fun i => qG hwe i
 have l3 := fun i => qG hce i
 have l4 := fun i => qG (li_sim (.mk k n m ks)) i
 intro i
 constructor
 ·rw [stT, stT, inTs_eq, inTs_eq]
  by_cases k13 : k = 13
  ·rw [if_pos k13, if_pos k13]
   split
   ·simp only [nl_app]
    exact ⟨ZR (ZR (lo i).1 (hk (i + 1) 0).1) (lc i).1, by rw [(lo i).2, (lo 0).2, (lc i).2, (lc 0).2, (hk (i + 1) (0 + 1)).2]⟩
   ·simp only [nl_app]
    exact ⟨ZR (ZR (lo i).1 asc_nil) (lc i).1, by rw [(lo i).2, (lo 0).2, (lc i).2, (lc 0).2]⟩
  rw [if_neg k13, if_neg k13]
  split
  ·simp only [nl_app]
   exact ⟨ZR (ZR (ZR (ZR (l1 i).1 (hin 1 i).1) (le i).1) (hin 2 i).1) (lc i).1, by rw [(l1 i).2, (l1 0).2, (hin 1 i).2, (le i).2, (le 0).2, (hin 2 i).2, (lc i).2, (lc 0).2]⟩
  split
  ·simp only [nl_app]
   exact ⟨ZR (ZR (l2 i).1 (hin 1 i).1) (lc i).1, by rw [(l2 i).2, (l2 0).2, (hin 1 i).2, (lc i).2, (lc 0).2]⟩
  split
  ·simp only [nl_app]
   exact ⟨ZR (ZR (ZR (ZR (lt i).1 (hin 0 i).1) (l3 i).1) (hin 1 i).1) (lc i).1, by rw [(lt i).2, (lt 0).2, (hin 0 i).2, (l3 i).2, (l3 0).2, (hin 1 i).2, (lc i).2, (lc 0).2]⟩
  ·exact ⟨(l4 i).1, by rw [(l4 i).2, (l4 0).2]⟩
 ·rw [inT, inT]
  split
  ·exact hk (i + 1) (0 + 1)
  ·exact ⟨asc_nil, rfl⟩
theorem fun_asc (t : Nd) : Asc (funT t) := by
 obtain ⟨k, n, m, ks⟩ := t
 rw [funT]
 split
 ·have hc : Li (Wy ((ks.take (ks.length - 1)).map qz)) := li_commas _ fun x hx => by obtain ⟨y, _, rfl⟩ := List.mem_map.1 hx;exact li_typ y
  exact ZR (qG (qs (qs (qs (qs (ZW (by decide)) (li_itoa n)) (ZW (by decide))) hc) (ZW (by decide))) 0).1 (ZR (st_asc _ 0).2.1 (qG (s := sClose) (ZW (by decide)) 0).1)
 ·exact asc_nil
theorem pr_asc (t : Nd) : Asc (prT t) := by
 obtain ⟨k, n, m, ks⟩ := t
 rw [prT]
 split
 ·refine ZR (qG (qs (ZW (by decide)) (li_itoa n)) 0).1 fun b hb => ?_
  obtain ⟨y, hy, hby⟩ := List.mem_flatten.1 hb
  obtain ⟨z, _, rfl⟩ := List.mem_map.1 hy
  exact fun_asc z b hby
 split
 ·exact fun_asc _
 split
 ·exact li_asc (li_typ _)
 split
 ·exact li_asc (li_ex _)
 ·exact (st_asc _ 0).1.1
theorem print_asc (t : Nd) : Asc (Zz t) := by
 unfold Zz
 split
 ·exact pr_asc t
 ·exact asc_nil
theorem prT_len (t : Nd) (hok : okN t) (hs : Qk t <= 1000000) : (prT t).length <= 7000000 * Qk t := by
 have h1 := qT t hok
 have h2 := qS t hok
 have h3 := (st_len t hok 0).1
 have h4 := funT_len t hok hs
 have hb : bnd 0 (Qk t) <= 7000000 * Qk t := by
  unfold bnd
  exact Nat.mul_le_mul (by omega) (Nat.le_refl _)
 obtain ⟨k, n, m, ks⟩ := t
 rw [prT]
 rw [okN] at hok
 have hn := WP hok.1.2.1
 have hse : Qk (.mk k n m ks) = 1 + Qs ks := by rw [Qk]
 have hf := funs_len ks hok.2 (by omega)
 repeat' split
 ·rw [List.length_append, Wx, List.length_append, hse]
  simp only [List.length_cons, List.length_nil];omega
 ·exact h4
 ·omega
 ·omega
 ·omega
theorem print_len (t : Nd) (hok : okN t) (hs : Qk t <= 1000000) : (Zz t).length <= 7000000 * Qk t := by
 unfold Zz
 split
 ·exact prT_len t hok hs
 ·simp
end Go.Proofs
end
section
namespace Go.Proofs
open Go.Av
variable {G : Nat -> DV}
attribute [local irreducible] OpSem WR Zc Zp ACalls ZS AClose RV
open Go.Bl
theorem s_sub_as2 {P : Program} {G : Nat -> DV} {B : Nat} {f : Operand -> DV} {σ : List ABlk} {K : DV -> List ABlk -> Prop} {dst : Option Tmp} {type : TypeId} {pos : String} {after : Array Edge} {gd : Option (Nat × Bool)} {t t' : TypeId} {x y : Operand} {a b c : Int} (hx : f x = .sc (.int .i64 a)) (hy : f y = .sc (.int .i64 b)) (hc : a - b = c) (h : -9223372036854775808 <= c /\ c <= 9223372036854775807)
  (k : K (.sc (.int .i64 c)) σ) : OpSem P G B ⟨dst, .binOp .sub t x y t', type, pos, after, gd⟩ f σ K :=
 qC hx hy (by rw [hc];exact h) (by rw [hc];exact k)
def arnd (n most : Int) : Int := (if n < 0 then -(n + 1) else n) % most
theorem arnd_bound (n : Int) {most : Int} (h : 0 < most) : 0 <= arnd n most /\ arnd n most < most := by
 unfold arnd
 exact ⟨Int.emod_nonneg _ (by omega), Int.emod_lt_of_pos _ h⟩
theorem wkGA {X W0 W1 W2 : Prop} (w0 : W0 := by exact True.intro) (w1 : W1 := by exact True.intro) (w2 : W2 := by exact True.intro) (s : (Unit -> W0) -> (Unit -> W1) -> (Unit -> W2) -> Unit -> X := by (intro w0 w1 w2 _;(repeat' first|(refine Qz ?_;(first|refine Ws rfl ?_|refine WM rfl ?_|(refine QN ?_;(first|refine QA rfl ?_|refine Qc rfl rfl rfl ?_))|refine s_idx_sl rfl rfl (by omega) (by first|assumption|omega|(simp;done)|(simp;omega)) ?_|(refine Qw ?_;(first|refine Zw rfl rfl ?_|refine WG rfl rfl ?_|refine ZU rfl rfl (by omega) ?_|refine s_rem rfl rfl (by first|omega|exact nn_shr (by omega)) (by omega) ?_))|(refine QK ?_;(first|refine Qv rfl ?_|refine WA rfl rfl (har) ?_))|(refine Q1 ?_;(first|refine ZO rfl rfl ?_|refine W9 rfl rfl ?_))|refine Wg rfl rfl rfl rfl (by rfl) (by rfl) (by rfl) ?_|refine s_neg rfl (by omega) ?_|refine Qe rfl rfl ?_|refine Qj rfl rfl ?_))|(refine We ?_;(first|refine Wb ?_|refine Zg rfl ?_|refine WI ?_|refine qd rfl rfl rfl rfl ?_|refine qw rfl rfl rfl rfl ?_|refine WD rfl rfl (by omega) ?_|refine za rfl rfl (fun _ => ?_) (fun _ => ?_)))|(refine Wc ?_;(first|refine Q7 ?_|refine Qm ?_|(refine WC ?_;first|refine Q9 (by rfl) (by kernel_rfl) (by kernel_rfl) ?_|refine Q8 (by kernel_rfl) (by kernel_rfl) ?_)|refine QV ?_|refine QD rfl ?_|refine Qu rfl (by omega) ?_|refine Qn rfl (by omega) ?_|refine Wi ?_))|(refine qM ?_;(first|refine x_op rfl (by (repeat' first|(refine Qz ?_;(first|refine Ws rfl ?_|refine WM rfl ?_|refine Qc rfl rfl rfl ?_|refine s_sub_as2 rfl rfl he ⟨by omega, by omega⟩ ?_|refine WA rfl rfl (hat) ?_|refine Qe rfl rfl ?_|refine Qj rfl rfl ?_))|exact ⟨rfl, rfl⟩)) ?_|refine qJ ?_)));(all_goals (repeat (rename_i x;(fail_if_success have : Unit := x);revert x)));(first|done|exact w0 ());(first|done|exact w1 ());(first|done|exact w2 ()))) (u : (W0 \/ True) /\ (W1 \/ True) /\ (W2 \/ True) := by (refine ⟨?_, ?_, ?_⟩ <;> first|exact Or.inl True.intro|exact Or.inr True.intro)) : X := s (fun _ => w0) (fun _ => w1) (fun _ => w2) ()
theorem around_c (n most : Int) (hn : -9223372036854775808 <= n /\ n <= 9223372036854775807) (hm : 0 < most /\ most <= 9223372036854775807) : Go.Av.Pure Tryz.prog G 14 [.i n, .i most] (.i (arnd n most)) := fun B => by
 have hb := arnd_bound n hm.1
 unfold arnd at hb ⊢
 by_cases h : n < 0
 ·rw [if_pos h] at hb ⊢
  refine Qa Tryz.func14 rfl Tryz.ntmps14 rfl (t := [(0, .i n), (1, .i most)]) rfl fun E hE => ?_
  (refine wkGA ?_;intros)
  refine e_1 Tryz.results14 (Qb rfl) (Qd ?_)
  rfl
 ·rw [if_neg h] at hb ⊢
  refine Qa Tryz.func14 rfl Tryz.ntmps14 rfl (t := [(0, .i n), (1, .i most)]) rfl fun E hE => ?_
  (refine wkGA ?_;intros)
  refine e_1 Tryz.results14 (Qb rfl) (Qd ?_)
  rfl
def atI (l : List Int) (i most : Int) : Int := if 0 <= i /\ i.toNat < l.length then arnd (l.getD i.toNat 0) most else 0
theorem QQ (l : List Int) (i : Int) {most : Int} (h : 0 < most) : 0 <= atI l i most /\ atI l i most < most := by
 unfold atI
 split
 ·exact arnd_bound _ h
 ·omega
def OkI (l : List Int) : Prop := l.length <= 9223372036854775807 /\ ∀ x ∈ l, -9223372036854775808 <= x /\ x <= 9223372036854775807
theorem r01At_c (l : List Int) (hl : OkI l) (i most : Int) (hm : 0 < most /\ most <= 9223372036854775807) : Go.Av.Pure Tryz.prog G 34 [Qo l, .i i, .i most] (.i (atI l i most)) := fun B => by
 unfold atI
 by_cases h : 0 <= i /\ i.toNat < l.length
 ·rw [if_pos h]
  have hgd : l.getD i.toNat 0 = l[i.toNat] := by rw [List.getD_eq_getElem?_getD, List.getElem?_eq_getElem h.2];rfl
  rw [hgd]
  have har := around_c (G := G) l[i.toNat] most (hl.2 _ (List.getElem_mem h.2)) hm
  obtain ⟨h0, h1⟩ := h
  refine Qa Tryz.func34 rfl Tryz.ntmps34 rfl (t := [(0, Qo l), (1, .i i), (2, .i most)]) rfl fun E hE => ?_
  (refine wkGA ?_;intros)
  refine e_1 Tryz.results34 (Qb rfl) (Qd ?_)
  rfl
 ·rw [if_neg h]
  refine Qa Tryz.func34 rfl Tryz.ntmps34 rfl (t := [(0, Qo l), (1, .i i), (2, .i most)]) rfl fun E hE => ?_
  (refine wkGA ?_ ?_ <;> first|exact True.intro|intros)
  all_goals
   refine e_1 Tryz.results34 (Qb rfl) (Qd ?_)
   rfl
abbrev genC (l : List Int) (a r : Int) : List DV := [Qo l, .i a, .i r]
theorem Zo (l : List Int) (hl : OkI l) (a r most : Int) (ha : 0 <= a /\ a <= 9000000000000000000) (hm : 0 < most /\ most <= 9223372036854775807) : CE Tryz.prog G 35 (fun p g => [.ptr p g 0, .i most]) (genC l a r) (.i (atI l a most)) (genC l (a + 1) r) := fun g B hg => by
 have hat := r01At_c (G := G) l hl a most hm
 refine Qa Tryz.func35 rfl Tryz.ntmps35 rfl (t := [(0, .ptr 0 g 0), (1, .i most)]) rfl fun E hE => ?_
 (refine wkGA ?_;intros)
 all_goals exact e_1 (Tryz.results35) (Qb rfl) (ZI rfl rfl)
end Go.Proofs
end
section
namespace Go.Proofs
open Go.Av Go.Bl
theorem funT_len2 (t : Nd) (hok : okN t) (hs : Qk t <= 256) : (funT t).length <= 3000 * Qk t := by
 obtain ⟨k, n, m, ks⟩ := t
 rw [okN] at hok
 rw [Qk] at hs ⊢
 have hn := WP hok.1.2.1
 rw [funT]
 split
 ·rename_i h
  have hk : 0 < ks.length := by simp at h;omega
  have hl := sizeL_last hk
  have hb := (st_len _ (Wa hok.2 (last_mem hk)) 0).2
  have hc := Z6 qz (M := 30) ks (ks.length - 1) fun x hx => qT x (Wa hok.2 hx)
  generalize ks.getD (ks.length - 1) (.mk 0 0 0 []) = b at *
  have hb2 : (6 * (0 + Qk b) + 100) * (Qk b - 1) <= 3000 * (Qk b - 1) := Nat.mul_le_mul (by omega) (Nat.le_refl _)
  simp only [List.length_append, Wx, List.length_cons, List.length_nil]
  omega
 ·simp
theorem funs_len2 : ∀ (ks : List Nd), okL ks -> Qs ks <= 256 -> ((ks.map funT).flatten).length <= 3000 * Qs ks
 | [], _, _ => by simp
 | x :: r, h, hs => by
  rw [okL] at h
  rw [Qs] at hs
  have h1 := funT_len2 x h.1 (by omega)
  have h2 := funs_len2 r h.2 (by omega)
  rw [List.map_cons, List.flatten_cons, List.length_append, Qs, Nat.mul_add];omega
theorem prT_len2 (t : Nd) (hok : okN t) (hs : Qk t <= 256) : (prT t).length <= 3000 * Qk t := by
 have h1 := qT t hok
 have h2 := qS t hok
 have h3 := (st_len t hok 0).1
 have h4 := funT_len2 t hok hs
 have hb : bnd 0 (Qk t) <= 3000 * Qk t := by
  unfold bnd
  exact Nat.mul_le_mul (by omega) (Nat.le_refl _)
 obtain ⟨k, n, m, ks⟩ := t
 rw [prT]
 rw [okN] at hok
 have hn := WP hok.1.2.1
 have hse : Qk (.mk k n m ks) = 1 + Qs ks := by rw [Qk]
 have hf := funs_len2 ks hok.2 (by omega)
 repeat' split
 ·rw [List.length_append, Wx, List.length_append, hse]
  simp only [List.length_cons, List.length_nil];omega
 ·exact h4
 ·omega
 ·omega
 ·omega
theorem print_len2 (t : Nd) (hok : okN t) (hs : Qk t <= 256) : (Zz t).length <= 768000 := by
 unfold Zz
 split
 ·have := prT_len2 t hok hs;omega
 ·simp
theorem valid_ok {t : Nd} (h : qX t = true) : okN t /\ Qk t <= 256 /\ prOk t = true := by
 have hp := valid_pr h
 unfold qX at h
 simp only [Bool.and_eq_true, decide_eq_true_eq] at h
 exact ⟨fit_ok t 0 h.2, h.1.1, hp⟩
def lenS (l : List (List UInt8)) : Nat := (l.map (·.length)).sum
theorem lenS_cons (x : List UInt8) (l : List (List UInt8)) : lenS (x :: l) = x.length + lenS l := by unfold lenS;rw [List.map_cons, List.sum_cons]
theorem scan_toks (s : List UInt8) (a : Nat) : (∀ t ∈ (WL s a).1.map (·.1), t ≠ [] /\ ∃ u, Wq u = t) /\ lenS ((WL s a).1.map (·.1)) <= s.length := by
 have key : ∀ (n : Nat) (u : List UInt8) (a : Nat), u.length = n -> (∀ t ∈ (WL u a).1.map (·.1), t ≠ [] /\ ∃ u, Wq u = t) /\ lenS ((WL u a).1.map (·.1)) <= u.length := by
  intro n
  induction n using Nat.strongRecOn with
  | _ n ih =>
  intro u a hu
  have hd := (List.dropWhile_sublist (l := u) spB).length_le
  by_cases hf : Wq (u.dropWhile spB) = []
  ·rw [scan_nil hf]
   exact ⟨fun t ht => by simp at ht, by simp [lenS]⟩
  ·have hle := firstM_le (u.dropWhile spB)
   have hpos : 1 <= (Wq (u.dropWhile spB)).length := by
    cases hq : Wq (u.dropWhile spB) with
    | nil => exact absurd hq hf
    | cons b q => simp
   rw [scan_cons rfl rfl hf rfl]
   have hdl : ((u.dropWhile spB).drop (Wq (u.dropWhile spB)).length).length = (u.dropWhile spB).length - (Wq (u.dropWhile spB)).length := List.length_drop
   obtain ⟨i1, i2⟩ := ih _ (by rw [hdl];omega) ((u.dropWhile spB).drop (Wq (u.dropWhile spB)).length) (a + (u.length - (u.dropWhile spB).length) + (Wq (u.dropWhile spB)).length) rfl
   rw [hdl] at i2
   refine ⟨fun t ht => ?_, ?_⟩
   ·rw [List.map_cons] at ht
    rcases List.mem_cons.1 ht with rfl|ht
    ·exact ⟨hf, _, rfl⟩
    ·exact i1 t ht
   ·rw [List.map_cons, lenS_cons];dsimp only at *;omega
 exact key _ s a rfl
theorem len_le_lenS : ∀ {l : List (List UInt8)}, (∀ t ∈ l, t ≠ []) -> l.length <= lenS l
 | [], _ => Nat.zero_le _
 | x :: r, h => by
  have h1 := List.length_pos_iff.2 (h x (by simp))
  have h2 := len_le_lenS (l := r) fun t ht => h t (by simp [ht])
  rw [lenS_cons, List.length_cons];omega
end Go.Proofs
end
section
namespace Go.Proofs
open Go.Av
variable {G : Nat -> DV}
attribute [local irreducible] OpSem WR Zc Zp ACalls ZS AClose RV
open Go.Bl
theorem partD_nd (v : Nd) : partD (Enc.enc v) 0 4 = some (Enc.enc v) := by cases v;rw [Qr];rfl
theorem wkAT {X W0 W1 W2 : Prop} (w0 : W0 := by exact True.intro) (w1 : W1 := by exact True.intro) (w2 : W2 := by exact True.intro) (s : (Unit -> W0) -> (Unit -> W1) -> (Unit -> W2) -> Unit -> X := by (intro w0 w1 w2 _;(repeat' first|(refine Qz ?_;(first|refine Ws rfl ?_|refine WM rfl ?_|(refine QN ?_;(first|refine Z4 rfl rfl ?_|refine QA rfl ?_|refine Q0 rfl ?_|refine Qc rfl rfl rfl ?_))|(refine qp ?_;(first|refine Qq rfl rfl (by first|assumption|omega|(simp;done)|(simp;omega)) ?_|refine s_idx_sl rfl rfl (by omega) (by first|assumption|omega|(simp;done)|(simp;omega)) ?_))|(refine Qw ?_;(first|refine Zw rfl rfl ?_|refine WG rfl rfl ?_|refine ZU rfl rfl (by omega) ?_))|(refine QK ?_;(first|refine qk rfl rfl hcp (WS (Enc.clo _)) ?_|refine Zy (z := (ks[i])) rfl rfl rfl rfl rfl rfl rfl (by first|omega|(simp;omega)) (by first|omega|(simp;omega)) (fun _ => rfl) (fun _ _ => ?_)|refine Qv rfl ?_))|(refine Q1 ?_;(first|refine ZO rfl rfl ?_|refine W9 rfl rfl ?_))|(refine Wr ?_;(first|refine qh rfl rfl rfl rfl ?_|refine Wg rfl rfl rfl rfl (by rfl) (by rfl) (by rfl) ?_))|refine Qe rfl rfl ?_|refine QB rfl rfl ?_|refine QU (fun _ _ => ?_)|refine ZC rfl rfl (fun _ _ => ?_)))|(refine We ?_;(first|refine Wb ?_|refine Zg rfl ?_|refine WI ?_|refine qd rfl rfl rfl rfl ?_|refine qw rfl rfl rfl rfl ?_|refine WD rfl rfl (by omega) ?_|refine za rfl rfl (fun _ => ?_) (fun _ => ?_)))|(refine Wc ?_;(first|refine Q7 ?_|refine Qm ?_|refine QM ?_|(refine WC ?_;first|(refine Ql ((fun g1 g2 g5 gc p => .row g1 [.i k, .i n, .i m, .ref 2 gc 0 (ks.take i).length 4] :: .row g2 [.i 0, .i 0, .i 0, .nil] :: p :: .row g5 (Enc.enc ks[i]) :: []) _ _ _ _) 7 [(0, true), (1, true), (2, true), (3, true), (4, true), (5, false), (6, true), (7, false)] (by rfl) (by rfl) (by kernel_rfl) (by decide +kernel) (by decide +kernel) ⟨_, rfl⟩ ?_)|(refine Ql (fun p => p) 100 [(0, true)] (by rfl) (by rfl) (by kernel_rfl) (by decide +kernel) (by decide +kernel) ⟨_, rfl⟩ ?_)|refine Q9 (by rfl) (by kernel_rfl) (by kernel_rfl) ?_|refine Q8 (by kernel_rfl) (by kernel_rfl) ?_)|refine QV ?_|refine QD rfl ?_|refine Qu rfl (by omega) ?_|refine Qn rfl (by omega) ?_|refine W8 rfl ?_|refine Wi ?_))|(refine ZG ?_;(first|refine qL ?_|refine i_z0 ?_|refine i_st rfl rfl (fun _ => (by (repeat' first|(refine Qz ?_;(first|(refine QN ?_;(first|refine Z4 rfl rfl ?_|refine Qc rfl rfl rfl ?_))|refine qk rfl rfl hi1 (WS (Enc.clo _)) ?_|refine QO (z := ks[i]) rfl rfl (by decide) ?_|refine Qe rfl rfl ?_))|exact ⟨rfl, rfl⟩))) ?_|refine i_ef rfl ?_))|refine And.intro (Exists.intro (_) rfl) ?_);(all_goals (repeat (rename_i x;(fail_if_success have : Unit := x);revert x)));(first|done|exact w0 ());(first|done|exact w1 ());(first|done|exact w2 ()))) (u : (W0 \/ True) /\ (W1 \/ True) /\ (W2 \/ True) := by (refine ⟨?_, ?_, ?_⟩ <;> first|exact Or.inl True.intro|exact Or.inr True.intro)) : X := s (fun _ => w0) (fun _ => w1) (fun _ => w2) ()
theorem copied_c (t : Nd) : Qk t <= 1000000 -> Go.Av.Pure Tryz.prog G 121 [.agg (Enc.enc t)] (.agg (Enc.enc t)) := by
 induction t using Nd.ind with
 | h k n m ks ih =>
 intro hsz B
 have hse : Qk (.mk k n m ks) = 1 + Qs ks := by rw [Qk]
 rw [hse] at hsz
 have hln := Wk ks
 have hi : ∀ x ∈ ks, Go.Av.Pure Tryz.prog G 121 [.agg (Enc.enc x)] (.agg (Enc.enc x)) := fun x hx => ih x hx (by have := QG hx;omega)
 clear ih
 rw [Qr]
 refine Qa Tryz.func121 rfl Tryz.ntmps121 rfl (t := [(0, .agg [.i k, .i n, .i m, Qo ks])]) rfl fun E hE => ?_
 (refine wkAT ?_;intros)
 rename_i g1 hg1 g2 hg2
 refine r_ownin 0 3 4 rfl rfl (fun _ => rfl) (fun gk hgk => ?_)
 refine r_loop2 (fun (i gc : Nat) => ⟨[(1, .ptr 0 g1 0), (2, .ptr 1 g2 0), (9, Qo ks), (10, .i ks.length), (11, .i i)], [.row g1 [.i k, .i n, .i m, .ref 2 gc 0 (ks.take i).length 4], .row g2 [.i 0, .i 0, .i 0, .nil], .row gc (Wf (ks.take i))]⟩) (fun i gc => i <= ks.length /\ E.N < gc) (fun i _ => ks.length - i) 0 gk ?_ ⟨by omega, hgk⟩ ?_
 ·exact zal rfl
 intro i gc ⟨hi2, hgc⟩
 have hcl : (ks.take i).length <= 1000000 := by rw [List.length_take];omega
 by_cases hil : i < ks.length
 ·have hi1 := hi _ (List.getElem_mem hil)
  have hst := List.take_succ_eq_append_getElem hil
  clear hi
  (refine wkAT ?_;intros)
  rename_i ga hga
  refine ⟨i + 1, ga, ⟨by omega, by omega⟩, by omega, ?_⟩
  rw [hst]
  exact zal rfl
 ·have hi3 : i = ks.length := by omega
  subst hi3
  rw [List.take_length]
  have c1 := Qx ks
  clear hi
  refine r_pubin 0 3 rfl rfl rfl c1.symm rfl rfl ?_
  (refine wkAT ?_;intros)
  all_goals exact e_1 (Tryz.results121) (Qg (size := 4) rfl rfl rfl rfl) (Qd rfl)
def atM : List Int -> Nd -> Option Nd
 | [], t => some t
 | i :: p, .mk k n m ks => if 0 <= i then (match ks[i.toNat]? with|some x => atM p x|none => none) else none
theorem atM_cons {a : Int} {p : List Int} {k n m : Int} {ks : List Nd} (h0 : 0 <= a) (h1 : a.toNat < ks.length) : atM (a :: p) (.mk k n m ks) = atM p ks[a.toNat] := by
 rw [atM, if_pos h0, List.getElem?_eq_getElem h1]
theorem atM_none {a : Int} {p : List Int} {k n m : Int} {ks : List Nd} (h : a < 0 \/ (ks.length : Int) <= a) : atM (a :: p) (.mk k n m ks) = none := by
 rw [atM]
 split
 ·rw [List.getElem?_eq_none (by omega)]
 ·rfl
def atD (o : Option Nd) : DV := match o with|some x => .tup [.agg (Enc.enc x), .b true]|none => .tup [.agg (Enc.enc zero0), .b false]
where zero0 : Nd := .mk 0 0 0 []
theorem tup_nil0 {L : Lay} {a b c d : DV} {es : Nat} {v : Value} (h : VRep L (.tup [.agg [a, b, c, .sc (.slice none 0 0)], d]) v) : VRep L (.tup [.agg [a, b, c, .sl es []], d]) v := by
 cases h with|tup _ vs hl hg =>
 refine .tup _ _ hl fun j e hj => ?_
 match j with
 | 0 =>
  simp at hj;subst hj
  have h0 := hg 0 _ rfl
  generalize vs.getD 0 undef = v0 at h0 ⊢
  cases h0 with|agg _ ws hl2 ho2 hg2 =>
  refine .agg _ _ hl2 (fun e he => ?_) fun j e hj => ?_
  ·simp only [List.mem_cons, List.not_mem_nil, or_false] at he
   rcases he with rfl|rfl|rfl|rfl
   ·exact ho2 _ (by simp)
   ·exact ho2 _ (by simp)
   ·exact ho2 _ (by simp)
   ·rfl
  ·match j with
   | 0 => exact hg2 0 e hj
   | 1 => exact hg2 1 e hj
   | 2 => exact hg2 2 e hj
   | 3 => simp at hj;subst hj;exact Zj (hg2 3 _ rfl)
   | j + 4 => simp at hj
 | j + 1 => exact hg (j + 1) e hj
theorem trAt_c (t : Nd) (hsz : Qk t <= 1000000) (path : List Int) (hpl : path.length <= 4611686018427387904) : Go.Av.Pure Tryz.prog G 67 [.agg (Enc.enc t), Qo path] (atD (atM path t)) := fun B => by
 refine Qa Tryz.func67 rfl Tryz.ntmps67 rfl (t := [(0, .agg (Enc.enc t)), (1, Qo path)]) rfl fun E hE => ?_
 (refine wkAT ?_;intros)
 rename_i g2 hg2 g4 hg4
 refine r_loop2 (fun (j : Nat) (cur : Nd) => ⟨[(2, .ptr 0 g2 0), (4, .ptr 1 g4 0), (8, Qo path), (9, .i path.length), (10, .i j)], [.row g2 (Enc.enc cur), .row g4 [.i 0, .i 0, .i 0, .nil]]⟩) (fun j cur => j <= path.length /\ atM path t = atM (path.drop j) cur /\ Qk cur <= 1000000) (fun j _ => path.length - j) 0 t ?_ ⟨by omega, by simp, hsz⟩ ?_
 ·exact zal rfl
 intro j cur ⟨hj, he, hcs⟩
 obtain ⟨k, n, m, ks⟩ := cur
 have hse : Qk (.mk k n m ks) = 1 + Qs ks := by rw [Qk]
 have hln := Wk ks
 by_cases hjl : j < path.length
 ·rw [List.drop_eq_getElem_cons hjl] at he
  rw [Qr]
  by_cases hc : 0 <= path[j] /\ path[j].toNat < ks.length
  ·rw [atM_cons hc.1 hc.2] at he
   have hat : ((path[j].toNat : Nat) : Int) = path[j] := Int.toNat_of_nonneg hc.1
   have hsm := QG (List.getElem_mem hc.2)
   obtain ⟨hc0, hc1⟩ := hc
   (refine wkAT ?_;intros)
   refine ⟨j + 1, ks[path[j].toNat], ⟨by omega, he, by omega⟩, by omega, ?_⟩
   exact zal rfl
  ·rw [atM_none (by omega)] at he
   rw [he]
   (refine wkAT ?_ ?_ <;> first|exact True.intro|intros)
   all_goals exact e_2 (Tryz.results67) (Qg (size := 4) rfl rfl rfl rfl) (Qb rfl) (Ze (d2 := .tup [.agg [.i 0, .i 0, .i 0, .sl 4 []], .b false]) (fun L v h => tup_nil0 h) (Qd (by show _ = DV.tup [.agg (Enc.enc (Nd.mk 0 0 0 [])), .b false];rw [Qr];rfl)))
 ·have hje : j = path.length := by omega
  subst hje
  rw [List.drop_length] at he
  have hcp := copied_c (G := G) (.mk k n m ks) hcs
  rw [he]
  show WR _ _ _ _ _ _ _ _ _
  (refine wkAT ?_;intros)
  all_goals exact e_2 (Tryz.results67) (Qg (size := 4) rfl rfl (partD_nd _) (Enc.len _)) (Qb rfl) (Qd rfl)
end Go.Proofs
end
section
namespace Go.Proofs
open Go.RowKit
theorem nlC_succ {l : List UInt8} {i : Nat} (h : i < l.length) : nlC (l.take (i + 1)) = nlC (l.take i) + (if l[i] = 10 then 1 else 0) := by
 unfold nlC
 rw [List.take_succ_eq_append_getElem h, List.countP_append, List.countP_singleton]
 congr 1
 by_cases e : l[i] = 10
 ·simp [e]
 ·simp [e]
theorem ba_get (l : List UInt8) (i : Nat) (h : i < (⟨l.toArray⟩ : ByteArray).size) : (⟨l.toArray⟩ : ByteArray)[i]'h = l[i]'(by have := h;change i < l.toArray.size at this;simpa using this) := by
 show l.toArray[i]'h = _
 simp
set_option maxHeartbeats 1600000 in
set_option maxRecDepth 100000 in
theorem lines_gives (l : List UInt8) (ha : ∀ b ∈ l, b.toNat < 128) (hl : l.length <= 9223372036854775807) (w : World) :
  Calls Tryz.prog 69 #[.string ⟨l.toArray⟩] w fun e w' => e = .returned (.int .i64 (nlC l)) /\ Below w.heap.size w w' := by
 have hsz : (⟨l.toArray⟩ : ByteArray).size = l.length := by show l.toArray.size = _;simp
 have hcl : ∀ i, nlC (l.take i) <= i := fun i => by
  have h1 : nlC (l.take i) <= (l.take i).length := List.countP_le_length
  have h2 := List.length_take_le i l
  omega
 go_enter Tryz.func69, Tryz.ntmps69
 go_wp2
 go_loopw [3] (fun v wr => ∃ pos : Nat, pos <= l.length /\ v = .int .i64 (nlC (l.take pos) : Nat) /\ wr = w.iter ⟨l.toArray⟩ pos) (fun _ wr => l.length - wr.iterPos w.heap.size)
 case atStart => exact ⟨0, Nat.zero_le _, rfl, rfl⟩
 case round =>
  obtain ⟨pos, hp, rfl, rfl⟩ := hrel
  have hip : (w.iter ⟨l.toArray⟩ pos).iterPos w.heap.size = pos := by unfold World.iterPos;rw [World.iter_heap]
  have hip1 : (w.iter ⟨l.toArray⟩ (pos + 1)).iterPos w.heap.size = pos + 1 := by unfold World.iterPos;rw [World.iter_heap]
  have hcp := hcl pos
  by_cases hpl : pos < l.length
  ·have hi : pos < (⟨l.toArray⟩ : ByteArray).size := by omega
   have hg := ba_get l pos hi
   have hasc : ((⟨l.toArray⟩ : ByteArray)[pos]'hi).toNat < 128 := by rw [hg];exact ha _ (List.getElem_mem hpl)
   have hnx := fun ty => run_next_ascii (P := Tryz.prog) w ⟨l.toArray⟩ pos ty hi hasc
   rw [hg] at hnx
   have hs := nlC_succ hpl
   by_cases h10 : l[pos] = 10
   ·rw [h10] at hnx
    rw [if_pos h10] at hs
    go_wp2
    go_roundw
    case rel => exact ⟨pos + 1, hpl, by rw [hs];rfl, rfl⟩
    case measure => rw [hip, hip1];omega
   ·have h10' : ((l[pos].toNat : Nat) : Int) ≠ 10 := by
     intro e
     apply h10
     have : l[pos].toNat = 10 := by omega
     exact UInt8.toNat_inj.1 this
    rw [if_neg h10] at hs
    go_wp2
    exact ⟨⟨pos + 1, hpl, by rw [hs];rfl, rfl⟩, by rw [hip, hip1];omega⟩
  ·have hpe : pos = l.length := by omega
   subst hpe
   have hnx := fun ty => run_next_end (P := Tryz.prog) w ⟨l.toArray⟩ l.length ty (by omega)
   go_wp2
   go_ret
   exact ⟨by rw [List.take_length];rfl, (Below.refl _ w).alloc (Nat.le_refl _) _⟩
section
open Go.Av Go.Bl
variable {G : Nat -> DV}
theorem lines_c (l : List UInt8) (ha : ∀ b ∈ l, b.toNat < 128) (hl : l.length <= 9223372036854775807) : Go.Av.Pure Tryz.prog G 69 [Q2 l] (.i (nlC l)) :=
 pure_of (us := [.string ⟨l.toArray⟩]) (v := .int .i64 (nlC l)) rfl rfl fun X _ => lines_gives l ha hl X.w
end
end Go.Proofs
end
section
namespace Go.Proofs
open Go.Av
variable {G : Nat -> DV}
attribute [local irreducible] OpSem WR Zc Zp ACalls ZS AClose RV
open Go.Bl
variable {o : List UInt8}
theorem wkT7 {X W0 W1 W2 : Prop} (w0 : W0 := by exact True.intro) (w1 : W1 := by exact True.intro) (w2 : W2 := by exact True.intro) (s : (Unit -> W0) -> (Unit -> W1) -> (Unit -> W2) -> Unit -> X := by (intro w0 w1 w2 _;(repeat' first|(refine Qz ?_;(first|refine Ws rfl ?_|refine WM rfl ?_|(refine QN ?_;(first|refine Z4 rfl rfl ?_|refine Qc rfl rfl rfl ?_))|(refine Qw ?_;(first|refine WX rfl rfl ?_|refine s_ad rfl rfl ?_))|(refine QK ?_;(first|refine s_callv_eq rfl rfl (simple1_c _ g0 g1 _ _ hlist) ?_|refine s_pe 0 1 (need_c _) rfl rfl rfl rfl rfl rfl ?_|refine s_pe 0 1 (hpl _) rfl rfl rfl rfl rfl rfl ?_|refine s_pe 0 1 (numeral_c hG _ (by assumption)) rfl rfl rfl rfl rfl rfl ?_|refine s_pe 0 1 (hlist _) rfl rfl rfl rfl rfl rfl ?_|refine s_pe 0 1 (ha _) rfl rfl rfl rfl rfl rfl ?_|refine s_pe 0 1 (hb _) rfl rfl rfl rfl rfl rfl ?_|refine Qv rfl ?_))|(refine Q1 ?_;(first|refine ZO rfl rfl ?_|refine W9 rfl rfl ?_))|refine Qe rfl rfl ?_|refine Zu rfl rfl ?_|refine ZC rfl rfl (fun _ _ => ?_)))|(refine We ?_;(first|refine Wb ?_|refine Zg rfl ?_|refine qd rfl rfl rfl rfl ?_|refine qw rfl rfl rfl rfl ?_|refine WD rfl rfl (by omega) ?_))|(refine Wc ?_;(first|refine Q7 ?_|refine Qm ?_|refine QM ?_|(refine WC ?_;first|(refine Ql (pfx3 _ _) 100 [(0, true), (1, true), (2, true), (6, true), (7, true), (8, true), (12, true), (3, false), (4, true), (5, true), (9, false), (10, true), (11, true), (13, false), (14, true), (15, true)] (by rfl) (by rfl) (by kernel_rfl) (by decide +kernel) (by decide +kernel) ⟨(_, _, _, _), rfl⟩ ?_)|(refine Ql (pfx3 _ _) 100 [(0, true), (1, true), (2, true), (6, true), (7, true), (8, true), (9, true), (10, true), (14, true), (15, true), (16, true), (17, true), (18, true), (3, false), (4, true), (5, true), (11, false), (12, true), (13, true), (19, false), (20, true), (21, true)] (by rfl) (by rfl) (by kernel_rfl) (by decide +kernel) (by decide +kernel) ⟨(_, _, _, _), rfl⟩ ?_)|refine Q9 (by rfl) (by kernel_rfl) (by kernel_rfl) ?_|refine Q8 (by kernel_rfl) (by kernel_rfl) ?_)|refine QV ?_|refine QD rfl ?_|refine QR rfl ?_|refine Qu rfl (by omega) ?_|refine Qn rfl (by omega) ?_|refine Wi ?_))|(refine ZG ?_;(first|refine qL ?_|refine i_st rfl rfl (fun _ => (by (repeat' first|(refine Qz ?_;(first|refine Ws rfl ?_|refine WM rfl ?_|(refine QN ?_;(first|refine Q0 rfl ?_|refine Qc rfl rfl rfl ?_))|refine Qq rfl rfl (by first|assumption|omega|(simp;done)|(simp;omega)) ?_|refine s_ad rfl rfl ?_|refine Qe rfl rfl ?_))|exact ⟨rfl, rfl⟩))) ?_|refine i_ef rfl ?_))|refine And.intro (Exists.intro ((_, _, _, _)) rfl) ?_);all_goals (repeat (rename_i x;(fail_if_success have : Unit := x);revert x));(first|done|exact w0 ());(first|done|exact w1 ());(first|done|exact w2 ()))) (u : (W0 \/ True) /\ (W1 \/ True) /\ (W2 \/ True) := by (refine ⟨?_, ?_, ?_⟩ <;> first|exact Or.inl True.intro|exact Or.inr True.intro)) : X := s (fun _ => w0) (fun _ => w1) (fun _ => w2) ()
theorem simple1_c {k n m : Int} {ks : List Nd} (b : Bool) (g0 g1 gp gn : Nat) {B : Nat} (hlist : ∀ b, PE Tryz.prog G 84 (fun p g => [Qo ks, .fn (.func 48) [.ptr p g 0] []]) o b (Q2 (Wy (ks.map exT))) (b || !ks.all Zn)) : 
  ACalls Tryz.prog G B 138 [.ptr 3 gn 0, .ptr 2 gp 0] [pRow 0 1 g0 g1 o.length b, .row g1 (Wf o), .row gp [.ptr 0 g0 0], .row gn [.i k, .i n, .i m, Qo ks]]
   (fun d τ => d = Q2 (Wy (ks.map exT)) /\ τ = [pRow 0 1 g0 g1 o.length (b || !ks.all Zn), .row g1 (Wf o), .row gp [.ptr 0 g0 0], .row gn [.i k, .i n, .i m, Qo ks]]) := by
 refine Qa Tryz.func138 rfl Tryz.ntmps138 rfl (t := [(0, .ptr 3 gn 0), (1, .ptr 2 gp 0)]) rfl fun E hE => ?_
 (refine wkT7 ?_;intros)
 exact e_1 (Tryz.results138) (Qb rfl) (c_same ⟨rfl, rfl⟩)
theorem simple_c (hG : G 6 = pow10T) (hG1 : G 1 = spaceT) (t : Nd) (hok : okN t) (hsz : Qk t <= 1000000) (bad : Bool) : PE Tryz.prog G 91 (fun p g => [.ptr p g 0, .agg (Enc.enc t)]) o bad (Q2 (simT t)) (bad || !Zt t) := fun g0 g1 B h0 h1 => by
 obtain ⟨k, n, m, ks⟩ := t
 rw [okN] at hok
 rw [Qk] at hsz
 have hl1 := Wk ks
 have hl : ks.length <= 1048576 := by omega
 have hn : -9223372036854775808 <= n /\ n <= 9223372036854775807 := hok.1.2.1
 have hm : -9223372036854775808 <= m /\ m <= 9223372036854775807 := hok.1.2.2
 have hnl := WP hok.1.2.1
 have hml := WP hok.1.2.2
 have hcl := ZN exT ks (exs_len hok.2)
 have hlist : ∀ b, PE Tryz.prog G 84 (fun p g => [Qo ks, .fn (.func 48) [.ptr p g 0] []]) o b (Q2 (Wy (ks.map exT))) (b || !ks.all Zn) := fun b => list_c _ exT Zn ks b (fun x hx b => expr_c hG hG1 x (Wa hok.2 hx) (by have := QG hx;omega) b) hl (by omega)
 have hx : ∀ x ∈ ks, ∀ b, PE Tryz.prog G 48 (fun p g => [.ptr p g 0, .agg (Enc.enc x)]) o b (Q2 (exT x)) (b || !Zn x) := fun x hx b => expr_c hG hG1 x (Wa hok.2 hx) (by have := QG hx;omega) b
 have hxl : ∀ x ∈ ks, (exT x).length <= 60000000 := fun x hx => by have := qS x (Wa hok.2 hx);have := QG hx;omega
 clear hok
 rw [simT, Zt]
 rw [Qr]
 by_cases k14 : k = 14
 ·subst k14
  by_cases hp : QI m ks.length 1 = true
  ·have hpl : ∀ b, PE Tryz.prog G 42 (fun p g => [.ptr p g 0, .agg [.i 14, .i n, .i m, Qo ks], .i 1]) o b (.b true) b := fun b => (ZY 14 n m ks 1 hl).conv (by rw [hp]) (by rw [hp];simp)
   refine Qa Tryz.func91 rfl Tryz.ntmps91 rfl (t := [(0, .ptr 0 g0 0), (1, .agg [.i _, .i n, .i m, Qo ks])]) rfl fun E hE => ?_
   (refine wkT7 ?_;intros)
   exact e_1 Tryz.results91 (Qb rfl) (c_pe (by simp [*]) (by simp [*, Bool.or_assoc]))
  ·have hp : QI m ks.length 1 = false := by rw [<- Bool.not_eq_true];exact hp
   have hpl : ∀ b, PE Tryz.prog G 42 (fun p g => [.ptr p g 0, .agg [.i 14, .i n, .i m, Qo ks], .i 1]) o b (.b false) true := fun b => (ZY 14 n m ks 1 hl).conv (by rw [hp]) (by rw [hp];simp)
   refine Qa Tryz.func91 rfl Tryz.ntmps91 rfl (t := [(0, .ptr 0 g0 0), (1, .agg [.i _, .i n, .i m, Qo ks])]) rfl fun E hE => ?_
   (refine wkT7 ?_;intros)
   exact e_1 Tryz.results91 (Qb rfl) (c_pe (by simp [*]) (by simp [*, Bool.or_assoc]))
 by_cases k15 : k = 15
 ·subst k15
  by_cases hp : QI m ks.length 2 = true
  ·have hpl : ∀ b, PE Tryz.prog G 42 (fun p g => [.ptr p g 0, .agg [.i 15, .i n, .i m, Qo ks], .i 2]) o b (.b true) b := fun b => (ZY 15 n m ks 2 hl).conv (by rw [hp]) (by rw [hp];simp)
   have h2 : ks.length = 2 := by simp [QI] at hp;omega
   match ks, h2 with
   | [a, b], _ =>
    have ha := hx a (by simp)
    have hb := hx b (by simp)
    have hal := hxl a (by simp)
    have hbl := hxl b (by simp)
    clear hx hxl hlist hcl
    refine Qa Tryz.func91 rfl Tryz.ntmps91 rfl (t := [(0, .ptr 0 g0 0), (1, .agg [.i _, .i n, .i m, Qo [a, b]])]) rfl fun E hE => ?_
    (refine wkT7 ?_;intros)
    have hp2 : QI m 2 2 = true := hp
    exact e_1 Tryz.results91 (Qb rfl) (c_pe (by simp [*]) (by simp [*, Bool.or_assoc]))
  ·have hp : QI m ks.length 2 = false := by rw [<- Bool.not_eq_true];exact hp
   have hpl : ∀ b, PE Tryz.prog G 42 (fun p g => [.ptr p g 0, .agg [.i 15, .i n, .i m, Qo ks], .i 2]) o b (.b false) true := fun b => (ZY 15 n m ks 2 hl).conv (by rw [hp]) (by rw [hp];simp)
   refine Qa Tryz.func91 rfl Tryz.ntmps91 rfl (t := [(0, .ptr 0 g0 0), (1, .agg [.i _, .i n, .i m, Qo ks])]) rfl fun E hE => ?_
   (refine wkT7 ?_;intros)
   exact e_1 Tryz.results91 (Qb rfl) (c_pe (by simp [*]) (by simp [*, Bool.or_assoc]))
 by_cases k19 : k = 19
 ·subst k19
  by_cases hp : Wu n m ks.length 1 = true
  ·have hpl : ∀ b, PE Tryz.prog G 87 (fun p g => [.ptr p g 0, .agg [.i 19, .i n, .i m, Qo ks], .i 1]) o b (.b true) b := fun b => (zb 19 n m ks 1 hl).conv (by rw [hp]) (by rw [hp];simp)
   refine Qa Tryz.func91 rfl Tryz.ntmps91 rfl (t := [(0, .ptr 0 g0 0), (1, .agg [.i _, .i n, .i m, Qo ks])]) rfl fun E hE => ?_
   (refine wkT7 ?_;intros)
   exact e_1 Tryz.results91 (Qb rfl) (c_pe (by simp [*]) (by simp [*, Bool.or_assoc]))
  ·have hp : Wu n m ks.length 1 = false := by rw [<- Bool.not_eq_true];exact hp
   have hpl : ∀ b, PE Tryz.prog G 87 (fun p g => [.ptr p g 0, .agg [.i 19, .i n, .i m, Qo ks], .i 1]) o b (.b false) true := fun b => (zb 19 n m ks 1 hl).conv (by rw [hp]) (by rw [hp];simp)
   refine Qa Tryz.func91 rfl Tryz.ntmps91 rfl (t := [(0, .ptr 0 g0 0), (1, .agg [.i _, .i n, .i m, Qo ks])]) rfl fun E hE => ?_
   (refine wkT7 ?_;intros)
   exact e_1 Tryz.results91 (Qb rfl) (c_pe (by simp [*]) (by simp [*, Bool.or_assoc]))
 by_cases k20 : k = 20
 ·subst k20
  by_cases hp : Wu n m ks.length 1 = true
  ·have hpl : ∀ b, PE Tryz.prog G 87 (fun p g => [.ptr p g 0, .agg [.i 20, .i n, .i m, Qo ks], .i 1]) o b (.b true) b := fun b => (zb 20 n m ks 1 hl).conv (by rw [hp]) (by rw [hp];simp)
   refine Qa Tryz.func91 rfl Tryz.ntmps91 rfl (t := [(0, .ptr 0 g0 0), (1, .agg [.i _, .i n, .i m, Qo ks])]) rfl fun E hE => ?_
   (refine wkT7 ?_;intros)
   exact e_1 Tryz.results91 (Qb rfl) (c_pe (by simp [*]) (by simp [*, Bool.or_assoc]))
  ·have hp : Wu n m ks.length 1 = false := by rw [<- Bool.not_eq_true];exact hp
   have hpl : ∀ b, PE Tryz.prog G 87 (fun p g => [.ptr p g 0, .agg [.i 20, .i n, .i m, Qo ks], .i 1]) o b (.b false) true := fun b => (zb 20 n m ks 1 hl).conv (by rw [hp]) (by rw [hp];simp)
   refine Qa Tryz.func91 rfl Tryz.ntmps91 rfl (t := [(0, .ptr 0 g0 0), (1, .agg [.i _, .i n, .i m, Qo ks])]) rfl fun E hE => ?_
   (refine wkT7 ?_;intros)
   exact e_1 Tryz.results91 (Qb rfl) (c_pe (by simp [*]) (by simp [*, Bool.or_assoc]))
 by_cases k24 : k = 24
 ·subst k24
  by_cases hp : Wu n m ks.length 1 = true
  ·have hpl : ∀ b, PE Tryz.prog G 87 (fun p g => [.ptr p g 0, .agg [.i 24, .i n, .i m, Qo ks], .i 1]) o b (.b true) b := fun b => (zb 24 n m ks 1 hl).conv (by rw [hp]) (by rw [hp];simp)
   refine Qa Tryz.func91 rfl Tryz.ntmps91 rfl (t := [(0, .ptr 0 g0 0), (1, .agg [.i _, .i n, .i m, Qo ks])]) rfl fun E hE => ?_
   (refine wkT7 ?_;intros)
   exact e_1 Tryz.results91 (Qb rfl) (c_pe (by simp [*]) (by simp [*, Bool.or_assoc]))
  ·have hp : Wu n m ks.length 1 = false := by rw [<- Bool.not_eq_true];exact hp
   have hpl : ∀ b, PE Tryz.prog G 87 (fun p g => [.ptr p g 0, .agg [.i 24, .i n, .i m, Qo ks], .i 1]) o b (.b false) true := fun b => (zb 24 n m ks 1 hl).conv (by rw [hp]) (by rw [hp];simp)
   refine Qa Tryz.func91 rfl Tryz.ntmps91 rfl (t := [(0, .ptr 0 g0 0), (1, .agg [.i _, .i n, .i m, Qo ks])]) rfl fun E hE => ?_
   (refine wkT7 ?_;intros)
   exact e_1 Tryz.results91 (Qb rfl) (c_pe (by simp [*]) (by simp [*, Bool.or_assoc]))
 by_cases k25 : k = 25
 ·subst k25
  by_cases hp : Wu n m ks.length 0 = true
  ·have hpl : ∀ b, PE Tryz.prog G 87 (fun p g => [.ptr p g 0, .agg [.i 25, .i n, .i m, Qo ks], .i 0]) o b (.b true) b := fun b => (zb 25 n m ks 0 hl).conv (by rw [hp]) (by rw [hp];simp)
   refine Qa Tryz.func91 rfl Tryz.ntmps91 rfl (t := [(0, .ptr 0 g0 0), (1, .agg [.i _, .i n, .i m, Qo ks])]) rfl fun E hE => ?_
   (refine wkT7 ?_;intros)
   exact e_1 Tryz.results91 (Qb rfl) (c_pe (by simp [*]) (by simp [*, Bool.or_assoc]))
  ·have hp : Wu n m ks.length 0 = false := by rw [<- Bool.not_eq_true];exact hp
   have hpl : ∀ b, PE Tryz.prog G 87 (fun p g => [.ptr p g 0, .agg [.i 25, .i n, .i m, Qo ks], .i 0]) o b (.b false) true := fun b => (zb 25 n m ks 0 hl).conv (by rw [hp]) (by rw [hp];simp)
   refine Qa Tryz.func91 rfl Tryz.ntmps91 rfl (t := [(0, .ptr 0 g0 0), (1, .agg [.i _, .i n, .i m, Qo ks])]) rfl fun E hE => ?_
   (refine wkT7 ?_;intros)
   exact e_1 Tryz.results91 (Qb rfl) (c_pe (by simp [*]) (by simp [*, Bool.or_assoc]))
 by_cases k22 : k = 22
 ·subst k22
  by_cases hp : QI m ks.length 1 = true
  ·have hpl : ∀ b, PE Tryz.prog G 42 (fun p g => [.ptr p g 0, .agg [.i 22, .i n, .i m, Qo ks], .i 1]) o b (.b true) b := fun b => (ZY 22 n m ks 1 hl).conv (by rw [hp]) (by rw [hp];simp)
   refine Qa Tryz.func91 rfl Tryz.ntmps91 rfl (t := [(0, .ptr 0 g0 0), (1, .agg [.i _, .i n, .i m, Qo ks])]) rfl fun E hE => ?_
   (refine wkT7 ?_;intros)
   exact e_1 Tryz.results91 (Qb rfl) (c_pe (by simp [*]) (by simp [*, Bool.or_assoc]))
  ·have hp : QI m ks.length 1 = false := by rw [<- Bool.not_eq_true];exact hp
   have hpl : ∀ b, PE Tryz.prog G 42 (fun p g => [.ptr p g 0, .agg [.i 22, .i n, .i m, Qo ks], .i 1]) o b (.b false) true := fun b => (ZY 22 n m ks 1 hl).conv (by rw [hp]) (by rw [hp];simp)
   refine Qa Tryz.func91 rfl Tryz.ntmps91 rfl (t := [(0, .ptr 0 g0 0), (1, .agg [.i _, .i n, .i m, Qo ks])]) rfl fun E hE => ?_
   (refine wkT7 ?_;intros)
   exact e_1 Tryz.results91 (Qb rfl) (c_pe (by simp [*]) (by simp [*, Bool.or_assoc]))
 by_cases k23 : k = 23
 ·subst k23
  by_cases hp : QI m ks.length (-1) = true
  ·have hpl : ∀ b, PE Tryz.prog G 42 (fun p g => [.ptr p g 0, .agg [.i 23, .i n, .i m, Qo ks], .i (-1)]) o b (.b true) b := fun b => (ZY 23 n m ks (-1) hl).conv (by rw [hp]) (by rw [hp];simp)
   refine Qa Tryz.func91 rfl Tryz.ntmps91 rfl (t := [(0, .ptr 0 g0 0), (1, .agg [.i _, .i n, .i m, Qo ks])]) rfl fun E hE => ?_
   (refine wkT7 ?_;intros)
   exact e_1 Tryz.results91 (Qb rfl) (c_pe (by simp [*]) (by simp [*, Bool.or_assoc]))
  ·have hp : QI m ks.length (-1) = false := by rw [<- Bool.not_eq_true];exact hp
   have hpl : ∀ b, PE Tryz.prog G 42 (fun p g => [.ptr p g 0, .agg [.i 23, .i n, .i m, Qo ks], .i (-1)]) o b (.b false) true := fun b => (ZY 23 n m ks (-1) hl).conv (by rw [hp]) (by rw [hp];simp)
   refine Qa Tryz.func91 rfl Tryz.ntmps91 rfl (t := [(0, .ptr 0 g0 0), (1, .agg [.i _, .i n, .i m, Qo ks])]) rfl fun E hE => ?_
   (refine wkT7 ?_;intros)
   exact e_1 Tryz.results91 (Qb rfl) (c_pe (by simp [*]) (by simp [*, Bool.or_assoc]))
 by_cases k16 : k = 16
 ·subst k16
  by_cases hp : ks.length = 1
  ·refine Qa Tryz.func91 rfl Tryz.ntmps91 rfl (t := [(0, .ptr 0 g0 0), (1, .agg [.i _, .i n, .i m, Qo ks])]) rfl fun E hE => ?_
   (refine wkT7 ?_;intros)
   exact e_1 Tryz.results91 (Qb rfl) (c_pe (by simp [*]) (by simp [*, Bool.or_assoc]))
  ·refine Qa Tryz.func91 rfl Tryz.ntmps91 rfl (t := [(0, .ptr 0 g0 0), (1, .agg [.i _, .i n, .i m, Qo ks])]) rfl fun E hE => ?_
   (refine wkT7 ?_;intros)
   exact e_1 Tryz.results91 (Qb rfl) (c_pe (by simp [*]) (by simp [*, Bool.or_assoc]))
 ·refine Qa Tryz.func91 rfl Tryz.ntmps91 rfl (t := [(0, .ptr 0 g0 0), (1, .agg [.i k, .i n, .i m, Qo ks])]) rfl fun E hE => ?_
  (refine wkT7 ?_;intros)
  exact e_1 Tryz.results91 (Qb rfl) (c_pe (by simp [*]) (by simp [*, Bool.or_assoc]))
end Go.Proofs
end
section
namespace Go.Proofs
open Go.Av
variable {G : Nat -> DV}
attribute [local irreducible] OpSem WR Zc Zp ACalls ZS AClose RV
open Go.Bl
variable {o : List UInt8} {bad : Bool}
theorem wkT9 {X W0 W1 W2 : Prop} (w0 : W0 := by exact True.intro) (w1 : W1 := by exact True.intro) (w2 : W2 := by exact True.intro) (s : (Unit -> W0) -> (Unit -> W1) -> (Unit -> W2) -> Unit -> X := by (intro w0 w1 w2 _;(repeat' first|(refine Qz ?_;(first|refine Ws rfl ?_|refine WM rfl ?_|(refine QN ?_;(first|refine Z4 rfl rfl ?_|refine Q0 rfl ?_|refine Qc rfl rfl rfl ?_))|refine Qq rfl rfl (by first|assumption|omega|(simp;done)|(simp;omega)) ?_|(refine Qw ?_;(first|refine Zw rfl rfl ?_|refine WX rfl rfl ?_|refine ZU rfl rfl (by omega) ?_))|(refine QK ?_;(first|refine s_callv_ex rfl rfl rfl (fun B' hB' => stmt1_c i _ hi1 (by first|omega|(simp only [List.length_append, Wx, List.length_cons, List.length_nil];omega)) g0 _ _ _ hB') (fun _ _ => ?_)|refine s_pm 0 1 (hwr) rfl rfl rfl rfl rfl rfl (fun _ => rfl) (fun _ _ => ?_)|refine s_pm 0 1 (hsx) rfl rfl rfl rfl rfl rfl (fun _ => rfl) (fun _ _ => ?_)|refine s_pe 0 1 (need_c _) rfl rfl rfl rfl rfl rfl ?_|refine s_pe 0 1 (hpl _ _) rfl rfl rfl rfl rfl rfl ?_|refine s_pe 0 1 (hpl _) rfl rfl rfl rfl rfl rfl ?_|refine s_pe 0 1 (hxa _ _) rfl rfl rfl rfl rfl rfl ?_|refine s_pe 0 1 (hsimc _ _) rfl rfl rfl rfl rfl rfl ?_|refine s_pe 0 1 (numeral_c hG _ (by assumption)) rfl rfl rfl rfl rfl rfl ?_|refine s_pm 0 1 (hb1) rfl rfl rfl rfl rfl rfl (fun _ => rfl) (fun _ _ => ?_)|refine s_pm 0 1 (hba i _ _ _ (by first|decide|(simp only [List.length_append, List.length_cons, List.length_nil];omega)) (by omega) (by first|omega|(simp only [List.length_append, Wx, List.length_cons, List.length_nil];omega))) rfl rfl rfl rfl rfl rfl (fun _ => rfl) (fun _ _ => ?_)|refine s_pm 0 1 (hbb i _ _ _ (by first|decide|(simp only [List.length_append, List.length_cons, List.length_nil];omega)) (by omega) (by first|omega|(simp only [List.length_append, Wx, List.length_cons, List.length_nil];omega))) rfl rfl rfl rfl rfl rfl (fun _ => rfl) (fun _ _ => ?_)|refine s_pm 0 1 (hbc i _ _ _ (by first|decide|(simp only [List.length_append, List.length_cons, List.length_nil];omega)) (by omega) (by first|omega|(simp only [List.length_append, Wx, List.length_cons, List.length_nil];omega))) rfl rfl rfl rfl rfl rfl (fun _ => rfl) (fun _ _ => ?_)|refine s_pm 0 1 (line_c _ _ (by first|assumption|omega) (by first|assumption|(simp only [List.length_append, Wx, List.length_cons, List.length_nil];omega))) rfl rfl rfl rfl rfl rfl (fun _ => rfl) (fun _ _ => ?_)|refine Qv rfl ?_))|(refine Q1 ?_;(first|refine ZO rfl rfl ?_|refine W9 rfl rfl ?_))|refine qh rfl rfl rfl rfl ?_|refine Qe rfl rfl ?_|refine Zu rfl rfl ?_|refine QU (fun _ _ => ?_)|refine ZC rfl rfl (fun _ _ => ?_)))|(refine We ?_;(first|refine Wb ?_|refine Zg rfl ?_|refine WI ?_|refine qd rfl rfl rfl rfl ?_|refine qw rfl rfl rfl rfl ?_|refine WD rfl rfl (by omega) ?_))|(refine Wc ?_;(first|refine Q7 ?_|refine Qm ?_|refine QM ?_|(refine WC ?_;first|(refine Ql (pfx3 _ _) 100 [(0, true), (1, true), (2, true), (3, true), (4, true), (5, true), (6, true), (7, true), (8, true), (9, false), (10, true), (11, true), (12, false)] (by rfl) (by rfl) (by kernel_rfl) (by decide +kernel) (by decide +kernel) ⟨(_, _, _, _), rfl⟩ ?_)|(refine Ql (pfx3 _ _) 100 [(0, true), (1, true), (2, true), (3, true), (4, true), (5, true), (6, false)] (by rfl) (by rfl) (by kernel_rfl) (by decide +kernel) (by decide +kernel) ⟨(_, _, _, _), rfl⟩ ?_)|(refine Ql (pfx3 _ _) 100 [(0, true), (1, true), (2, true), (3, true), (4, true), (5, true), (6, false), (7, true), (8, true), (9, false)] (by rfl) (by rfl) (by kernel_rfl) (by decide +kernel) (by decide +kernel) ⟨(_, _, _, _), rfl⟩ ?_)|(refine Ql (pfx3 _ _) 100 [(0, true), (1, true), (2, true), (3, true), (4, true), (5, true), (6, true), (7, true), (8, false)] (by rfl) (by rfl) (by kernel_rfl) (by decide +kernel) (by decide +kernel) ⟨(_, _, _, _), rfl⟩ ?_)|refine Q9 (by rfl) (by kernel_rfl) (by kernel_rfl) ?_|refine Q8 (by kernel_rfl) (by kernel_rfl) ?_)|refine QV ?_|refine QD rfl ?_|refine QR rfl ?_|refine Qu rfl (by omega) ?_|refine Qn rfl (by omega) ?_|refine W8 rfl ?_))|(refine ZG ?_;(first|refine qL ?_|refine i_st rfl rfl (fun _ => (by (repeat' first|(refine Qz ?_;(first|refine Ws rfl ?_|(refine QN ?_;(first|refine Q0 rfl ?_|refine Qc rfl rfl rfl ?_))|refine Qq rfl rfl (by first|assumption|omega|(simp;done)|(simp;omega)) ?_|refine s_ad rfl rfl ?_|refine WA rfl rfl (repeat_c _ _ (by omega) (by simp only [List.length_cons, List.length_nil];omega)) ?_|refine Qe rfl rfl ?_|refine Qj rfl rfl ?_))|exact ⟨rfl, rfl⟩))) ?_|refine i_ef rfl ?_))|refine And.intro (Exists.intro ((_, _, _, _)) rfl) ?_);(all_goals (repeat (rename_i x;(fail_if_success have : Unit := x);revert x)));(first|done|exact w0 ());(first|done|exact w1 ());(first|done|exact w2 ()))) (u : (W0 \/ True) /\ (W1 \/ True) /\ (W2 \/ True) := by (refine ⟨?_, ?_, ?_⟩ <;> first|exact Or.inl True.intro|exact Or.inr True.intro)) : X := s (fun _ => w0) (fun _ => w1) (fun _ => w2) ()
theorem line_c (i : Nat) (s : List UInt8) (hi : i <= 1000000) (hlen : o.length + s.length <= 140737480000000) : PM Tryz.prog G 43 (fun p g => [.ptr p g 0, .i i, Q2 s]) o bad (.tup []) (o ++ ZQ i s) bad := fun g0 g1 B h0 h1 => by
 have hrl : (Lib.repeatL [32, 32] i).length = 2 * i := by rw [Lib.repeatL_length];show i * 2 = _;omega
 have hwr : PM Tryz.prog G 46 (fun k g => [.ptr k g 0, Q2 (Lib.repeatL [32, 32] i ++ s ++ [10])]) o bad (.tup [.i (Lib.repeatL [32, 32] i ++ s ++ [10]).length, .sc .nilIface]) (o ++ ZQ i s) bad := write_c _ (by simp only [List.length_append, List.length_cons, List.length_nil];omega)
 refine Qa Tryz.func43 rfl Tryz.ntmps43 rfl (t := [(0, .ptr 0 g0 0), (1, .i i), (2, Q2 s)]) rfl fun E hE => ?_
 (refine wkT9 ?_;intros)
 exact e_0 (Tryz.results43) (c_pm rfl rfl rfl (by omega))
theorem stmt1_c (i : Nat) (s : List UInt8) (hi : i <= 1000000) (hlen : o.length + s.length <= 140737480000000) (g0 g1 gp gi : Nat) {B : Nat} {bl : ABlk} (h1 : g1 <= B) : 
  ACalls Tryz.prog G B 90 [Q2 s, .ptr 2 gp 0, .ptr 3 gi 0] [pRow 0 1 g0 g1 o.length bad, .row g1 (Wf o), .row gp [.ptr 0 g0 0], .row gi [.i i], bl]
   (fun d τ => d = .tup [] /\ ∃ g', (g' = g1 \/ B < g') /\ τ = [pRow 0 1 g0 g' (o ++ ZQ i s).length bad, .row g' (Wf (o ++ ZQ i s)), .row gp [.ptr 0 g0 0], .row gi [.i i], bl]) := by
 refine Qa Tryz.func90 rfl Tryz.ntmps90 rfl (t := [(0, Q2 s), (1, .ptr 2 gp 0), (2, .ptr 3 gi 0)]) rfl fun E hE => ?_
 (refine wkT9 ?_;intros)
 rename_i g' hg'
 exact e_0 (Tryz.results90) (c_same ⟨rfl, g', by omega, rfl⟩)
theorem st_lenX {t : Nd} (hok : okN t) {i : Nat} (hi : i + Qk t <= 1000000) : (stT t i).length <= 7000000 * Qk t /\ (inT t i).length <= 7000000 * (Qk t - 1) := by
 obtain ⟨h1, h2⟩ := st_len t hok i
 exact ⟨Nat.le_trans h1 (Nat.mul_le_mul (by omega) (Nat.le_refl _)), Nat.le_trans h2 (Nat.mul_le_mul (by omega) (Nat.le_refl _))⟩
def StC (G : Nat -> DV) (t : Nd) : Prop := ∀ (i : Nat) (o : List UInt8) (bad : Bool), i + Qk t <= 1000000 -> o.length + 7000000 * Qk t <= 140737470000000 -> PM Tryz.prog G 49 (fun p g => [.ptr p g 0, .i i, .agg (Enc.enc t)]) o bad (.tup []) (o ++ stT t i) (bad || !qj t)
def BlC (G : Nat -> DV) (t : Nd) : Prop := ∀ (i : Nat) (e : List UInt8) (o : List UInt8) (bad : Bool), e.length <= 100 -> i + Qk t <= 1000000 -> o.length + 7000000 * Qk t <= 140737475000000 -> PM Tryz.prog G 85 (fun p g => [.ptr p g 0, .i i, .agg (Enc.enc t), Q2 e]) o bad (.tup []) (o ++ (inT t i ++ ZQ i e)) (bad || !inOk t)
theorem block_c (k n m : Int) (ks : List Nd) (hok : okN (.mk k n m ks)) (hst : ∀ x ∈ ks, StC G x) : BlC G (.mk k n m ks) := fun i e o bad hel hi hlen g0 g1 B h0 h1 => by
 rw [okN] at hok
 rw [Qk] at hi hlen
 have hl1 := Wk ks
 have hl : ks.length <= 1048576 := by omega
 rw [Qr, inT, inOk]
 by_cases hk : k = 13
 ·subst hk
  by_cases hp : Wu n m ks.length (-1) = true
  ·have hpl : ∀ b, PE Tryz.prog G 87 (fun p g => [.ptr p g 0, .agg [.i 13, .i n, .i m, Qo ks], .i (-1)]) o b (.b true) b := fun b => (zb 13 n m ks (-1) hl).conv (by rw [hp]) (by rw [hp];simp)
   refine Qa Tryz.func85 rfl Tryz.ntmps85 rfl (t := [(0, .ptr 0 g0 0), (1, .i i), (2, .agg [.i _, .i n, .i m, Qo ks]), (3, Q2 e)]) rfl fun E hE => ?_
   (refine wkT9 ?_;intros)
   rename_i gn hgn
   have hpos := hst
   rw [show (bad || !decide ((13 : Int) = 13)) = bad by simp]
   refine r_loop2 (fun (j : Nat) (g : Nat) => ⟨[(0, .ptr 0 g0 0), (1, .i i), (3, Q2 e), (21, Qo ks), (22, .i ks.length), (23, .i j)], [pRow 0 1 g0 g (o ++ stTs (ks.take j) (i + 1)).length (bad || !stOks (ks.take j)), .row g (Wf (o ++ stTs (ks.take j) (i + 1))), .row gn [.i 13, .i n, .i m, Qo ks]]⟩) (fun j g => j <= ks.length /\ (g = g1 \/ E.N < g)) (fun j _ => ks.length - j) 0 g1 ?_ (by omega) ?_
   ·rw [show (bad || !stOks (ks.take 0)) = bad by simp [stOks], show o ++ stTs (ks.take 0) (i + 1) = o by simp [stTs]]
    exact zal rfl
   intro j g hj
   have hpre := stTs_len (C := 7000000) (ks.take j) (i + 1) fun x hx => (st_lenX (Wa hok.2 (List.mem_of_mem_take hx)) (by have := QG (List.mem_of_mem_take hx);omega)).1
   have hsl := Wp ks j
   by_cases hjl : j < ks.length
   ·have hsm := QG (List.getElem_mem hjl)
    have hst1 := qr ks j hjl
    have hst2 := Wp ks (j + 1)
    have hsx := hst _ (List.getElem_mem hjl) (i + 1) (o ++ stTs (ks.take j) (i + 1)) (bad || !stOks (ks.take j)) (by omega) (by rw [List.length_append];omega)
    have e1 : o ++ stTs (ks.take (j + 1)) (i + 1) = (o ++ stTs (ks.take j) (i + 1)) ++ stT ks[j] (i + 1) := by rw [stTs_take hjl, List.append_assoc]
    have e2 : (bad || !stOks (ks.take (j + 1))) = ((bad || !stOks (ks.take j)) || !qj ks[j]) := by rw [stOks_take hjl];cases bad <;> simp
    clear hpos hst
    (refine wkT9 ?_;intros)
    rename_i g' hg'
    refine ⟨j + 1, g', ⟨by omega, by omega⟩, by omega, ?_⟩
    rw [e1, e2]
    exact zal rfl
   ·have hje : j = ks.length := by omega
    subst hje
    rw [List.take_length] at *
    have hll : (o ++ stTs ks (i + 1)).length + e.length <= 140737480000000 := by rw [List.length_append];omega
    have hi1 : i <= 1000000 := by omega
    (refine wkT9 ?_;intros)
    exact e_0 (Tryz.results85) (c_pm rfl (by simp [hp]) (by simp [hp]) (by omega))
  ·have hp : Wu n m ks.length (-1) = false := by rw [<- Bool.not_eq_true];exact hp
   have hpl : ∀ b, PE Tryz.prog G 87 (fun p g => [.ptr p g 0, .agg [.i 13, .i n, .i m, Qo ks], .i (-1)]) o b (.b false) true := fun b => (zb 13 n m ks (-1) hl).conv (by rw [hp]) (by rw [hp];simp)
   have hll : o.length + e.length <= 140737480000000 := by omega
   have hi1 : i <= 1000000 := by omega
   refine Qa Tryz.func85 rfl Tryz.ntmps85 rfl (t := [(0, .ptr 0 g0 0), (1, .i i), (2, .agg [.i _, .i n, .i m, Qo ks]), (3, Q2 e)]) rfl fun E hE => ?_
   (refine wkT9 ?_;intros)
   exact e_0 (Tryz.results85) (c_pm rfl (by simp [hp]) (by simp [hp]) (by omega))
 ·have hll : o.length + e.length <= 140737480000000 := by omega
  have hi1 : i <= 1000000 := by omega
  refine Qa Tryz.func85 rfl Tryz.ntmps85 rfl (t := [(0, .ptr 0 g0 0), (1, .i i), (2, .agg [.i k, .i n, .i m, Qo ks]), (3, Q2 e)]) rfl fun E hE => ?_
  (refine wkT9 ?_;intros)
  exact e_0 (Tryz.results85) (c_pm rfl (by simp [hk]) (by simp [hk]) (by omega))
theorem stmt_c (hG : G 6 = pow10T) (hG1 : G 1 = spaceT) (k n m : Int) (ks : List Nd) (hok0 : okN (.mk k n m ks)) (hbl : BlC G (.mk k n m ks)) (hkb : ∀ x ∈ ks, BlC G x) : StC G (.mk k n m ks) := fun i o bad hi hlen g0 g1 B h0 h1 => by
 have hok := hok0
 rw [okN] at hok
 have hse : Qk (.mk k n m ks) = 1 + Qs ks := by rw [Qk]
 have hl1 := Wk ks
 have hsim := simT_len _ hok0
 have hsimc := fun (o : List UInt8) (b : Bool) => simple_c (G := G) (o := o) hG hG1 _ hok0 (by omega) b
 rw [hse] at hi hlen hsim
 have hl : ks.length <= 1048576 := by omega
 have hi1 : i <= 1000000 := by omega
 have hn : -9223372036854775808 <= n /\ n <= 9223372036854775807 := hok.1.2.1
 have hnl := WP hok.1.2.1
 have hx : ∀ x ∈ ks, ∀ (o : List UInt8) b, PE Tryz.prog G 48 (fun p g => [.ptr p g 0, .agg (Enc.enc x)]) o b (Q2 (exT x)) (b || !Zn x) := fun x hx o b => expr_c hG hG1 x (Wa hok.2 hx) (by have := QG hx;omega) b
 have hxl := exs_len hok.2
 have hil : ∀ x ∈ ks, (inT x i).length <= 7000000 * (Qk x - 1) := fun x hx => (st_lenX (Wa hok.2 hx) (by have := QG hx;omega)).2
 rw [stT, qj, inTs_eq, ql]
 rw [Qr] at hsimc ⊢
 by_cases k13 : k = 13
 ·subst k13
  have hb1 := hbl i sClose (o ++ ZQ i sOpen) bad (by decide) (by rw [hse];omega) (by rw [hse, List.length_append, Wx];simp only [List.length_cons, List.length_nil];omega)
  rw [Qr, inT, inOk] at hb1
  clear hkb hbl hx hxl hil hsimc
  refine Qa Tryz.func49 rfl Tryz.ntmps49 rfl (t := [(0, .ptr 0 g0 0), (1, .i i), (2, .agg [.i _, .i n, .i m, Qo ks])]) rfl fun E hE => ?_
  (refine wkT9 ?_;intros)
  exact e_0 (Tryz.results49) (c_pm rfl (by simp) (by simp [Bool.or_assoc]) (by omega))
 by_cases k17 : k = 17
 ·subst k17
  by_cases hp : Wu n m ks.length 3 = true
  ·have hpl : ∀ (o : List UInt8) b, PE Tryz.prog G 87 (fun p g => [.ptr p g 0, .agg [.i 17, .i n, .i m, Qo ks], .i 3]) o b (.b true) b := fun o b => (zb 17 n m ks 3 hl).conv (by rw [hp]) (by rw [hp];simp)
   have h2 : ks.length = 3 := by simp [Wu, QI] at hp;omega
   match ks, h2 with
   | [a, b, c], _ =>
    have hxa := hx a (by simp)
    have hba := hkb a (by simp)
    have hxal := hxl a (by simp)
    have hial := hil a (by simp)
    have hsa := QZ a
    have hxb := hx b (by simp)
    have hbb := hkb b (by simp)
    have hxbl := hxl b (by simp)
    have hibl := hil b (by simp)
    have hsb := QZ b
    have hxc := hx c (by simp)
    have hbc := hkb c (by simp)
    have hxcl := hxl c (by simp)
    have hicl := hil c (by simp)
    have hsc := QZ c
    have hp2 : Wu n m 3 3 = true := hp
    simp only [Qs] at hi hlen
    clear hx hkb hxl hil hbl hsimc
    refine Qa Tryz.func49 rfl Tryz.ntmps49 rfl (t := [(0, .ptr 0 g0 0), (1, .i i), (2, .agg [.i _, .i n, .i m, Qo [a, b, c]])]) rfl fun E hE => ?_
    (refine wkT9 ?_;intros)
    exact e_0 (Tryz.results49) (c_pm rfl (by simp [hp2]) (by simp [hp2, Bool.or_assoc]) (by omega))
  ·have hp : Wu n m ks.length 3 = false := by rw [<- Bool.not_eq_true];exact hp
   have hpl : ∀ (o : List UInt8) b, PE Tryz.prog G 87 (fun p g => [.ptr p g 0, .agg [.i 17, .i n, .i m, Qo ks], .i 3]) o b (.b false) true := fun o b => (zb 17 n m ks 3 hl).conv (by rw [hp]) (by rw [hp];simp)
   clear hkb hbl hx hxl hil
   refine Qa Tryz.func49 rfl Tryz.ntmps49 rfl (t := [(0, .ptr 0 g0 0), (1, .i i), (2, .agg [.i _, .i n, .i m, Qo ks])]) rfl fun E hE => ?_
   (refine wkT9 ?_;intros)
   exact e_0 (Tryz.results49) (c_pm rfl (by simp [hp]) (by simp [hp, Bool.or_assoc]) (by omega))
 by_cases k18 : k = 18
 ·subst k18
  by_cases hp : Wu n m ks.length 2 = true
  ·have hpl : ∀ (o : List UInt8) b, PE Tryz.prog G 87 (fun p g => [.ptr p g 0, .agg [.i 18, .i n, .i m, Qo ks], .i 2]) o b (.b true) b := fun o b => (zb 18 n m ks 2 hl).conv (by rw [hp]) (by rw [hp];simp)
   have h2 : ks.length = 2 := by simp [Wu, QI] at hp;omega
   match ks, h2 with
   | [a, b], _ =>
    have hxa := hx a (by simp)
    have hba := hkb a (by simp)
    have hxal := hxl a (by simp)
    have hial := hil a (by simp)
    have hsa := QZ a
    have hxb := hx b (by simp)
    have hbb := hkb b (by simp)
    have hxbl := hxl b (by simp)
    have hibl := hil b (by simp)
    have hsb := QZ b
    have hp2 : Wu n m 2 2 = true := hp
    simp only [Qs] at hi hlen
    clear hx hkb hxl hil hbl hsimc
    refine Qa Tryz.func49 rfl Tryz.ntmps49 rfl (t := [(0, .ptr 0 g0 0), (1, .i i), (2, .agg [.i _, .i n, .i m, Qo [a, b]])]) rfl fun E hE => ?_
    (refine wkT9 ?_;intros)
    exact e_0 (Tryz.results49) (c_pm rfl (by simp [hp2]) (by simp [hp2, Bool.or_assoc]) (by omega))
  ·have hp : Wu n m ks.length 2 = false := by rw [<- Bool.not_eq_true];exact hp
   have hpl : ∀ (o : List UInt8) b, PE Tryz.prog G 87 (fun p g => [.ptr p g 0, .agg [.i 18, .i n, .i m, Qo ks], .i 2]) o b (.b false) true := fun o b => (zb 18 n m ks 2 hl).conv (by rw [hp]) (by rw [hp];simp)
   clear hkb hbl hx hxl hil
   refine Qa Tryz.func49 rfl Tryz.ntmps49 rfl (t := [(0, .ptr 0 g0 0), (1, .i i), (2, .agg [.i _, .i n, .i m, Qo ks])]) rfl fun E hE => ?_
   (refine wkT9 ?_;intros)
   exact e_0 (Tryz.results49) (c_pm rfl (by simp [hp]) (by simp [hp, Bool.or_assoc]) (by omega))
 by_cases k21 : k = 21
 ·subst k21
  by_cases hp : QI m ks.length 2 = true
  ·have hpl : ∀ (o : List UInt8) b, PE Tryz.prog G 42 (fun p g => [.ptr p g 0, .agg [.i 21, .i n, .i m, Qo ks], .i 2]) o b (.b true) b := fun o b => (ZY 21 n m ks 2 hl).conv (by rw [hp]) (by rw [hp];simp)
   have h2 : ks.length = 2 := by simp [Wu, QI] at hp;omega
   match ks, h2 with
   | [a, b], _ =>
    have hxa := hx a (by simp)
    have hba := hkb a (by simp)
    have hxal := hxl a (by simp)
    have hial := hil a (by simp)
    have hsa := QZ a
    have hxb := hx b (by simp)
    have hbb := hkb b (by simp)
    have hxbl := hxl b (by simp)
    have hibl := hil b (by simp)
    have hsb := QZ b
    have hp2 : QI m 2 2 = true := hp
    simp only [Qs] at hi hlen
    clear hx hkb hxl hil hbl hsimc
    refine Qa Tryz.func49 rfl Tryz.ntmps49 rfl (t := [(0, .ptr 0 g0 0), (1, .i i), (2, .agg [.i _, .i n, .i m, Qo [a, b]])]) rfl fun E hE => ?_
    (refine wkT9 ?_;intros)
    exact e_0 (Tryz.results49) (c_pm rfl (by simp [hp2]) (by simp [hp2, Bool.or_assoc]) (by omega))
  ·have hp : QI m ks.length 2 = false := by rw [<- Bool.not_eq_true];exact hp
   have hpl : ∀ (o : List UInt8) b, PE Tryz.prog G 42 (fun p g => [.ptr p g 0, .agg [.i 21, .i n, .i m, Qo ks], .i 2]) o b (.b false) true := fun o b => (ZY 21 n m ks 2 hl).conv (by rw [hp]) (by rw [hp];simp)
   clear hkb hbl hx hxl hil
   refine Qa Tryz.func49 rfl Tryz.ntmps49 rfl (t := [(0, .ptr 0 g0 0), (1, .i i), (2, .agg [.i _, .i n, .i m, Qo ks])]) rfl fun E hE => ?_
   (refine wkT9 ?_;intros)
   exact e_0 (Tryz.results49) (c_pm rfl (by simp [hp]) (by simp [hp, Bool.or_assoc]) (by omega))
 ·clear hkb hbl hx hxl hil
  refine Qa Tryz.func49 rfl Tryz.ntmps49 rfl (t := [(0, .ptr 0 g0 0), (1, .i i), (2, .agg [.i k, .i n, .i m, Qo ks])]) rfl fun E hE => ?_
  (refine wkT9 ?_;intros)
  exact e_0 (Tryz.results49) (c_pm rfl (by simp [*]) (by simp [*, Bool.or_assoc]) (by omega))
theorem stmts_c (hG : G 6 = pow10T) (hG1 : G 1 = spaceT) (t : Nd) : okN t -> StC G t /\ BlC G t := by
 induction t using Nd.ind with
 | h k n m ks ih =>
 intro hok
 have hok2 := hok
 rw [okN] at hok2
 have hb := block_c k n m ks hok fun x hx => (ih x hx (Wa hok2.2 hx)).1
 exact ⟨stmt_c hG hG1 k n m ks hok hb fun x hx => (ih x hx (Wa hok2.2 hx)).2, hb⟩
theorem wkTB {X W0 W1 W2 : Prop} (w0 : W0 := by exact True.intro) (w1 : W1 := by exact True.intro) (w2 : W2 := by exact True.intro) (s : (Unit -> W0) -> (Unit -> W1) -> (Unit -> W2) -> Unit -> X := by (intro w0 w1 w2 _;(repeat' first|(refine Qz ?_;(first|refine Ws rfl ?_|refine WM rfl ?_|(refine QN ?_;(first|refine Z4 rfl rfl ?_|refine Q0 rfl ?_|refine Qc rfl rfl rfl ?_))|refine s_idx_sl rfl rfl (by omega) (by first|assumption|omega|(simp;done)|(simp;omega)) ?_|(refine Qw ?_;(first|refine s_gtr rfl rfl ?_|refine WX rfl rfl ?_|refine qC rfl rfl (by omega) ?_))|(refine QK ?_;(first|refine Qv rfl ?_|refine s_pe 0 1 (need_c _) rfl rfl rfl rfl rfl rfl ?_|refine s_pe 0 1 (hpl _) rfl rfl rfl rfl rfl rfl ?_|refine s_pe 0 1 (numeral_c hG _ (by assumption)) rfl rfl rfl rfl rfl rfl ?_|refine s_pe 0 1 (hlist2 _) rfl rfl rfl rfl rfl rfl ?_|refine s_pm 0 1 (line_c 0 _ (by omega) (by first|assumption|(simp only [List.length_append, Wx, List.length_cons, List.length_nil];omega))) rfl rfl rfl rfl rfl rfl (fun _ => rfl) (fun _ _ => ?_)|refine s_pm 0 1 (hbb2 0 _ _ _ (by decide) (by omega) (by first|assumption|omega|(simp only [List.length_append, Wx, List.length_cons, List.length_nil];omega))) rfl rfl rfl rfl rfl rfl (fun _ => rfl) (fun _ _ => ?_)))|(refine Q1 ?_;(first|refine ZO rfl rfl ?_|refine W9 rfl rfl ?_))|(refine g_unOp ?_;(first|refine s_not_d rfl ?_|refine qK rfl ?_))|refine Qe rfl rfl ?_|refine ZC rfl rfl (fun _ _ => ?_)))|(refine We ?_;(first|refine Wb ?_|refine Zg rfl ?_|refine qd rfl rfl rfl rfl ?_|refine qw rfl rfl rfl rfl ?_|refine WN rfl rfl (by omega) ?_|refine WD rfl rfl (by omega) ?_))|(refine Wc ?_;(first|refine Q7 ?_|refine Qm ?_|(refine WC ?_;first|(refine Ql (pfx3 _ _) 100 [(0, true), (1, true), (2, true), (3, true), (7, true), (8, true), (9, true), (10, true), (11, true), (12, true), (4, false), (5, true), (6, true), (13, false), (14, true), (15, true), (16, false)] (by rfl) (by rfl) (by kernel_rfl) (by decide +kernel) (by decide +kernel) ⟨(_, _, _, _), rfl⟩ ?_)|refine Q9 (by rfl) (by kernel_rfl) (by kernel_rfl) ?_|refine Q8 (by kernel_rfl) (by kernel_rfl) ?_)|refine QV ?_|refine QD rfl ?_|refine QR rfl ?_|refine Wi ?_))|(refine ZG ?_;(first|refine qL ?_|refine i_st rfl rfl (fun _ => (by (repeat' first|(refine Qz ?_;(first|refine Ws rfl ?_|refine Qc rfl rfl rfl ?_|refine s_ad rfl rfl ?_|refine Qe rfl rfl ?_|refine s_slice_h rfl rfl (by omega) (by omega) ?_|refine Zu rfl rfl ?_))|exact ⟨rfl, rfl⟩))) ?_|refine i_ef rfl ?_))|refine And.intro (Exists.intro ((_, _, _, _)) rfl) ?_);(all_goals (repeat (rename_i x;(fail_if_success have : Unit := x);revert x)));(first|done|exact w0 ());(first|done|exact w1 ());(first|done|exact w2 ()))) (u : (W0 \/ True) /\ (W1 \/ True) /\ (W2 \/ True) := by (refine ⟨?_, ?_, ?_⟩ <;> first|exact Or.inl True.intro|exact Or.inr True.intro)) : X := s (fun _ => w0) (fun _ => w1) (fun _ => w2) ()
theorem fun_c (hG : G 6 = pow10T) (hG1 : G 1 = spaceT) (t : Nd) (hok : okN t) (hsz : Qk t <= 1000000) (hlen : o.length + 7000000 * Qk t <= 140737470000000) : PM Tryz.prog G 45 (fun p g => [.ptr p g 0, .agg (Enc.enc t)]) o bad (.tup []) (o ++ funT t) (bad || !ZF t) := fun g0 g1 B h0 h1 => by
 obtain ⟨k, n, m, ks⟩ := t
 rw [okN] at hok
 rw [Qk] at hsz hlen
 have hl1 := Wk ks
 have hl : ks.length <= 1048576 := by omega
 have hn : -9223372036854775808 <= n /\ n <= 9223372036854775807 := hok.1.2.1
 have hnl := WP hok.1.2.1
 rw [funT, ZF, Qr]
 by_cases hk : k = 26
 ·subst hk
  by_cases hp : 0 < ks.length
  ·have hpz : (0 : Int) < (ks.length : Int) := by omega
   by_cases hm : QI m ks.length (-1) = true
   ·have hpl : ∀ b, PE Tryz.prog G 42 (fun p g => [.ptr p g 0, .agg [.i 26, .i n, .i m, Qo ks], .i (-1)]) o b (.b true) b := fun b => (ZY 26 n m ks (-1) hl).conv (by rw [hm]) (by rw [hm];simp)
    have hsl := sizeL_last hp
    have hmem := last_mem hp
    have hbb := (stmts_c hG hG1 _ (Wa hok.2 hmem)).2
    have hgl : ks.length - 1 < ks.length := by omega
    have hge : ks.getD (ks.length - 1) (.mk 0 0 0 []) = ks[ks.length - 1] := by rw [List.getD_eq_getElem?_getD, List.getElem?_eq_getElem hgl];rfl
    have hlist : ∀ b, PE Tryz.prog G 84 (fun p g => [Qo (ks.take (ks.length - 1)), .fn (.func 47) [.ptr p g 0] []]) o b (Q2 (Wy ((ks.take (ks.length - 1)).map qz))) (b || !(ks.take (ks.length - 1)).all ZH) := fun b =>
     list_c _ qz ZH _ b (fun x hx b => typed_c hG x (Wa hok.2 (List.mem_of_mem_take hx)) (by have := QG (List.mem_of_mem_take hx);omega) b) (by simp;omega) (by have := Z6 qz (M := 30) ks (ks.length - 1) fun x hx => qT x (Wa hok.2 hx);have := Wp ks (ks.length - 1);omega)
    have hcl := Z6 qz (M := 30) ks (ks.length - 1) fun x hx => qT x (Wa hok.2 hx)
    rw [hge] at hbb hsl ⊢
    have hq : ((ks.length : Int) - 1).toNat = ks.length - 1 := by omega
    have hgl2 : ((ks.length : Int) - 1).toNat < ks.length := by omega
    have hlist2 : ∀ b, PE Tryz.prog G 84 (fun p g => [Qo (ks.take ((ks.length : Int) - 1).toNat), .fn (.func 47) [.ptr p g 0] []]) o b (Q2 (Wy ((ks.take (ks.length - 1)).map qz))) (b || !(ks.take (ks.length - 1)).all ZH) := by rw [hq];exact hlist
    have hgq : ks[((ks.length : Int) - 1).toNat] = ks[ks.length - 1] := by congr 1
    have hbb2 : BlC G ks[((ks.length : Int) - 1).toNat] := by rw [hgq];exact hbb
    have hsl2 : Qs (ks.take (ks.length - 1)) + Qk ks[((ks.length : Int) - 1).toNat] = Qs ks := by rw [hgq];exact hsl
    have hsn := QZ ks[((ks.length : Int) - 1).toNat]
    refine Qa Tryz.func45 rfl Tryz.ntmps45 rfl (t := [(0, .ptr 0 g0 0), (1, .agg [.i _, .i n, .i m, Qo ks])]) rfl fun E hE => ?_
    (refine wkTB ?_;intros)
    exact e_0 (Tryz.results45) (c_pm rfl (by rw [hgq];simp [hm, hp]) (by rw [hgq];simp [hm, hp, Bool.or_assoc]) (by omega))
   ·have hm : QI m ks.length (-1) = false := by rw [<- Bool.not_eq_true];exact hm
    have hpl : ∀ b, PE Tryz.prog G 42 (fun p g => [.ptr p g 0, .agg [.i 26, .i n, .i m, Qo ks], .i (-1)]) o b (.b false) true := fun b => (ZY 26 n m ks (-1) hl).conv (by rw [hm]) (by rw [hm];simp)
    refine Qa Tryz.func45 rfl Tryz.ntmps45 rfl (t := [(0, .ptr 0 g0 0), (1, .agg [.i _, .i n, .i m, Qo ks])]) rfl fun E hE => ?_
    (refine wkTB ?_;intros)
    exact e_0 (Tryz.results45) (c_pm rfl (by simp [hm, hp]) (by simp [hm, hp]) (by omega))
  ·have hpz : ¬ (0 : Int) < (ks.length : Int) := by omega
   refine Qa Tryz.func45 rfl Tryz.ntmps45 rfl (t := [(0, .ptr 0 g0 0), (1, .agg [.i _, .i n, .i m, Qo ks])]) rfl fun E hE => ?_
   (refine wkTB ?_;intros)
   exact e_0 (Tryz.results45) (c_pm rfl (by simp [hp]) (by simp [hp]) (by omega))
 ·refine Qa Tryz.func45 rfl Tryz.ntmps45 rfl (t := [(0, .ptr 0 g0 0), (1, .agg [.i k, .i n, .i m, Qo ks])]) rfl fun E hE => ?_
  (refine wkTB ?_;intros)
  exact e_0 (Tryz.results45) (c_pm rfl (by simp [hk]) (by simp [hk]) (by omega))
end Go.Proofs
end
section
namespace Go.Av
open Go.Bl Go.Proofs
section
variable {P : Program} {G : Nat -> DV} {B : Nat} {f : Operand -> DV} {σ : List ABlk} {K : DV -> List ABlk -> Prop} {dst : Option Tmp} {type : TypeId} {pos : String} {after : Array Edge} {gd : Option (Nat × Bool)}
theorem s_box_bld {x : Operand} (hx : f x = .agg [.sc (.pointer none), .sc (.slice none 0 0), .sc (.bool false)]) (k : ∀ g g1, B < g -> B < g1 -> K (.ptr σ.length g 0) (σ ++ [pRow σ.length (σ.length + 1) g g1 ([] : List UInt8).length false, .row g1 (Wf ([] : List UInt8))])) : OpSem P G B ⟨dst, .box 77 x, type, pos, after, gd⟩ f σ K := fun X ρ hS hσ hB _ hf => by
 subst hσ
 have e1 := hf x (by simp [Op.operands, Call.operands]);rw [hx] at e1
 obtain ⟨h1, h2, h3⟩ := dcells_spec (ds := [.sc (.pointer none), .sc (.slice none 0 0), .sc (.bool false)]) rfl e1
 simp only [execOp, Instr.box, newVar, newRow, run_newObj, Sem.run_bind, Sem.run_pure, Result.andThen_ok, World.alloc_eq]
 generalize ρ x = u at *
 have hk := Keep.alloc X.w (.cells u.cells 77)
 have hnew := heap_alloc_new X.w (.cells u.cells 77)
 have hob : ∀ b' n, some (X.w.heap.size, u.cells.size) = some (b', n) -> X.w.heap.size <= b' := fun b' n h => by cases h;exact Nat.le_refl _
 let R0 : ABlk := .row (X.N + 1) [.sc (.pointer none), .sc (.slice none 0 0), .sc (.bool false)]
 have hh : R0.holds X.lay (X.w.alloc (.cells u.cells 77)) (some (X.w.heap.size, u.cells.size)) := ⟨u.cells, 77, (0, 0), hnew, rfl, by rw [h1];exact Nat.le_refl _, fun j _ h => by simp at h, h3⟩
 have hS' := hS.push hk (B := R0) rfl hob hh
 have hE' := WExt.push hS hk (B := R0) rfl hob
 have hσ1 : (X.push (X.w.alloc (.cells u.cells 77)) (some (X.w.heap.size, u.cells.size)) R0).σ = X.σ ++ [R0] := rfl
 have hρ1 : (X.push (X.w.alloc (.cells u.cells 77)) (some (X.w.heap.size, u.cells.size)) R0).ρ X.σ.length = some (X.w.heap.size, u.cells.size) := by simp [AX.push]
 have hw1 : (X.push (X.w.alloc (.cells u.cells 77)) (some (X.w.heap.size, u.cells.size)) R0).w = X.w.alloc (.cells u.cells 77) := rfl
 have hN1 : (X.push (X.w.alloc (.cells u.cells 77)) (some (X.w.heap.size, u.cells.size)) R0).N = X.N + 1 := rfl
 generalize X.push (X.w.alloc (.cells u.cells 77)) (some (X.w.heap.size, u.cells.size)) R0 = Y at *
 -- the buffer, which lies nowhere yet
 let R1 : ABlk := .row (Y.N + 1) []
 have hob1 : ∀ b' n, (none : Option (Nat × Nat)) = some (b', n) -> Y.w.heap.size <= b' := fun b' n h => by cases h
 have hS1 := hS'.push (Keep.refl Y.w) (B := R1) rfl hob1 rfl
 have hE1 := WExt.push hS' (Keep.refl Y.w) (B := R1) rfl hob1
 have hlen1 : Y.σ.length = X.σ.length + 1 := by rw [hσ1];simp
 have hσ2 : (Y.push Y.w none R1).σ = X.σ ++ [R0, .row (X.N + 2) []] := by show Y.σ ++ [ABlk.row (Y.N + 1) []] = _;rw [hσ1, hN1];simp
 have hρ2 : (Y.push Y.w none R1).ρ X.σ.length = some (X.w.heap.size, u.cells.size) := by simp only [AX.push];rw [if_neg (by omega)];exact hρ1
 have hρ3 : (Y.push Y.w none R1).ρ (X.σ.length + 1) = none := by simp only [AX.push];rw [if_pos hlen1.symm]
 have hw2 : (Y.push Y.w none R1).w = X.w.alloc (.cells u.cells 77) := hw1
 have hN2 : (Y.push Y.w none R1).N = X.N + 2 := by show Y.N + 1 = _;omega
 generalize hZ : Y.push Y.w none R1 = Z at *
 have hk0 : Z.σ[X.σ.length]? = some R0 := by rw [hσ2];simp
 have hk1 : Z.σ[X.σ.length + 1]? = some (.row (X.N + 2) []) := by rw [hσ2];simp
 let R2 : ABlk := pRow X.σ.length (X.σ.length + 1) (X.N + 1) (X.N + 2) 0 false
 have hok : ReplOk Z X.σ.length (X.N + 1) Z.w (Z.ρ X.σ.length) R2 Z.N := {
  live := Wt hk0, os := rfl, tape := rfl, output := rfl, size := Nat.le_refl _, block := fun _ _ _ => rfl
  gen := .inr ⟨rfl, Nat.le_refl _, rfl⟩
  lies := fun b n h => .inr ⟨n, h⟩
  shp := fun _ _ h => h }
 have hE2 := WExt.repl hS1 hok
 have hlive : (Z.repl X.σ.length Z.w (Z.ρ X.σ.length) R2 Z.N).live X.σ.length (X.N + 1) := (AX.repl_live (AX.live_lt (Wt hk0))).2 (.inr ⟨rfl, rfl⟩)
 have hlive1 : (Z.repl X.σ.length Z.w (Z.ρ X.σ.length) R2 Z.N).live (X.σ.length + 1) (X.N + 2) := (AX.repl_live (AX.live_lt (Wt hk0))).2 (.inl ⟨by omega, Wt hk1⟩)
 have hc : ∀ j e, [DV.sc (.pointer none), .sc (.slice none 0 0), .sc (.bool false)][j]? = some e -> u.cells.getD j undef = (match e with|.sc v => v|_ => undef) := fun j e hj => by
  have := (h3 j e hj).2
  match j, hj with
  | 0, hj => cases hj;exact VRep.sc_eq this
  | 1, hj => cases hj;exact VRep.sc_eq this
  | 2, hj => cases hj;exact VRep.sc_eq this
 have c0 := hc 0 _ rfl
 have c1 := hc 1 _ rfl
 have c2 := hc 2 _ rfl
 have key : ∀ (ob0 : Option (Nat × Nat)) (w0 : World), ob0 = some (X.w.heap.size, u.cells.size) -> w0 = X.w.alloc (.cells u.cells 77) -> R2.holds (Z.repl X.σ.length Z.w (Z.ρ X.σ.length) R2 Z.N).lay w0 ob0 := fun ob0 w0 e0 ew => by
  subst e0;subst ew
  refine ⟨u.cells, 77, (0, 0), hnew, rfl, by rw [h1];exact Nat.le_refl _, fun j _ h => by simp at h, fun j e hj => ?_⟩
  match j, hj with
  | 0, hj =>
   cases hj
   refine ⟨rfl, ?_⟩
   rw [c0]
   refine .bld _ _ _ _ (by show X.N + 1 <= Z.N;omega) fun ob hob => ?_
   rw [AX.row_mk hlive] at hob
   simp only [AX.repl, if_true, hρ2, Option.some.injEq] at hob
   refine ⟨X.w.heap.size, u.cells.size, hob.symm, ?_, .inl rfl⟩
   show World.shape? _ _ = _
   simp only [AX.repl, hw2, World.shape?, hnew]
   rw [h1];rfl
  | 1, hj =>
   cases hj
   refine ⟨rfl, ?_⟩
   rw [c1]
   refine .bref _ _ _ _ _ _ _ (by show X.N + 2 <= Z.N;omega) fun ob hob => ?_
   rw [AX.row_mk hlive1] at hob
   simp only [AX.repl, if_neg (show ¬ X.σ.length + 1 = X.σ.length by omega), hρ3, Option.some.injEq] at hob
   subst hob
   exact ⟨⟨rfl, rfl, rfl⟩, fun b n h => by cases h⟩
  | 2, hj => cases hj;exact ⟨rfl, by rw [c2];exact .sc _⟩
 have hS2 := Sto.repl' hS1 hok (key _ _ hρ2 hw2)
 have hk2 := k (X.N + 1) (X.N + 2) (by omega) (by omega)
 refine ⟨_, ?_, hS2, (hE'.trans hE1).trans hE2, .ptr X.σ.length (X.N + 1) 0, ?_, ?_⟩
 ·exact hw2
 ·refine .ptr _ _ _ _ (by show X.N + 1 <= Z.N;omega) fun ob hob => ?_
  rw [AX.row_mk hlive] at hob
  simp only [AX.repl, if_true, hρ2, Option.some.injEq] at hob
  exact ⟨_, _, hob.symm, rfl⟩
 ·have : (Z.repl X.σ.length Z.w (Z.ρ X.σ.length) R2 Z.N).σ = X.σ ++ [R2, .row (X.N + 2) []] := by
   simp only [AX.repl, hσ2]
   rw [List.set_append_right _ _ (Nat.le_refl _)]
   simp
  rw [this];exact hk2
end
theorem freeze_other {b n : Nat} (w : World) {b' : Nat} (o : Nat) (h : b' ≠ b) : (w.drew.freeze ⟨b, n, none⟩ o).heap[b']? = w.heap[b']? := by
 unfold World.freeze
 split
 ·rfl
 ·show (w.heap.modify b _)[b']? = _
  rw [Array.getElem?_modify, if_neg (fun e => h e.symm)]
theorem freeze_size (w : World) (a : Addr) (o : Nat) : (w.drew.freeze a o).heap.size = w.heap.size := by
 unfold World.freeze;split
 ·rfl
 ·show (w.heap.modify _ _).size = _;simp
theorem freeze_os (w : World) (a : Addr) (o : Nat) : (w.drew.freeze a o).os = w.os := by unfold World.freeze;split <;> rfl
theorem freeze_tape (w : World) (a : Addr) (o : Nat) : (w.drew.freeze a o).tape = w.tape := by unfold World.freeze;split <;> rfl
theorem freeze_output (w : World) (a : Addr) (o : Nat) : (w.drew.freeze a o).output = w.output := by unfold World.freeze;split <;> rfl
theorem freeze_shape (w : World) (a : Addr) (o b' : Nat) : (w.drew.freeze a o).shape? b' = w.shape? b' := by
 unfold World.freeze
 split
 ·rfl
 ·have key : ∀ x : Option Obj, (match x.map (fun|.cells c elem (lo, hi) => Obj.cells c elem (if lo == hi then (a.off, a.off + o) else (min lo a.off, max hi (a.off + o)))|x => x) with|some (.cells c elem _) => some (elem, c.size)|_ => none) = (match x with|some (.cells c elem _) => some (elem, c.size)|_ => none) := fun x => by
   cases x with
   | none => rfl
   | some o => cases o <;> rfl
  by_cases h : a.block = b'
  ·subst h
   have := key w.heap[a.block]?
   unfold World.shape?
   show (match (w.heap.modify a.block _)[a.block]? with|some (.cells c elem _) => some (elem, c.size)|_ => none) = _
   rw [Array.getElem?_modify, if_pos rfl]
   exact this
  ·unfold World.shape?
   show (match (w.heap.modify a.block _)[b']? with|some (.cells c elem _) => some (elem, c.size)|_ => none) = _
   rw [Array.getElem?_modify, if_neg h]
   rfl
theorem string_c {G : Nat -> DV} {B k0 k1 g0 g1 : Nat} {σ σ' : List ABlk} {o : List UInt8} {bad : Bool} (h0 : σ[k0]? = some (pRow k0 k1 g0 g1 o.length bad)) (h1 : σ[k1]? = some (.row g1 (Wf o))) (ho : o ≠ []) (hl : o.length <= 9223372036854775807) (hσ' : setA σ k1 .gone = some σ') :
  ACalls Tryz.prog G B 50 [.ptr k0 g0 0] σ (fun d τ => d = Q2 o /\ τ = σ') := fun X vs hS hσ hB hG hv => by
 subst hσ
 obtain ⟨hv1, hv2⟩ := hv
 have e1 := hv2 0 _ rfl
 obtain ⟨b, n, hρ, e2⟩ := e1.ptr_inv h0
 have hvs : vs = #[.pointer (some ⟨b, 0, none⟩)] := by
  apply Array.ext
  ·simpa using hv1
  ·intro j hj1 hj2
   have hj : j < 1 := by simpa using hj2
   match j, hj with
   | 0, _ => simpa [Array.getD_eq_getD_getElem?, hj1] using e2
 subst hvs
 obtain ⟨arr, T, fr, q1, q2, q3, q4, q5⟩ := hS.row h0 hρ
 have q30 : 3 <= n := q3
 have hr := (q5 1 _ rfl).2
 have hopos : 0 < o.length := List.length_pos_iff.2 ho
 have hel : (Wf o : List DV).length = o.length := by rw [Qx];exact Nat.mul_one _
 obtain ⟨a, l, c, hval⟩ : ∃ a l c, arr.getD 1 undef = .slice a l c := by
  generalize arr.getD 1 undef = u at hr
  cases hr with|bref _ _ _ _ a l c _ _ => exact ⟨a, l, c, rfl⟩
 rw [hval] at hr
 have hinv : RefOk (X.ρ k1) 0 o.length 1 (.slice a l c) /\ ∀ b n, X.ρ k1 = some (b, n) -> ∃ m, X.lay.shp b = some (5, m) := by
  cases hr with|bref _ _ _ _ _ _ _ g1 g2 => exact g2 _ (AX.row_mk (Wt h1))
 obtain ⟨hro, hshp⟩ := hinv
 unfold RefOk at hro
 cases hρ1 : X.ρ k1 with
 | none => rw [hρ1] at hro;obtain ⟨_, _, hz⟩ := hro;omega
 | some z =>
  obtain ⟨b1, n1⟩ := z
  rw [hρ1] at hro
  obtain ⟨a', cap, hsl, hlc, hcase⟩ := hro
  cases hsl
  rcases hcase with hcase|⟨rfl, hcap⟩
  ·omega
  obtain ⟨m, hm⟩ := hshp b1 n1 hρ1
  obtain ⟨arr1, T1, fr1, r1, r2, r3, r4, r5⟩ := hS.row h1 hρ1
  have hm' : X.w.shape? b1 = some (5, m) := hm
  have hT1 : T1 = 5 /\ arr1.size = m := by simp only [World.shape?, r1, Option.some.injEq, Prod.mk.injEq] at hm';exact hm'
  obtain ⟨rfl, hsz⟩ := hT1
  have hc1 : X.w.cell? ⟨b, 1, none⟩ = some (.slice (some ⟨b1, 0, none⟩) o.length c) := by
   have : 1 < arr.size := by omega
   simp only [World.cell?, q1]
   rw [<- hval];simp [Array.getD_eq_getD_getElem?, this]
  rw [hel] at r3
  refine (string_row b b1 c o arr1 X.w ho hc1 (by simp only [World.shape?, r1]) hlc hl (by omega) (fun j x hj => ?_)).mono ?_
  ·have hjl := (List.getElem?_eq_some_iff.1 hj).1
   have hen : (Wf o : List DV)[j]? = some (.u x) := by
    have := encs_at o j hjl 0 (by decide)
    have hes : Enc.es UInt8 = 1 := rfl
    have hx : o[j] = x := (List.getElem?_eq_some_iff.1 hj).2
    rw [hes, Nat.mul_one, Nat.add_zero, hx] at this
    exact this
   have hrep := VRep.sc_eq (r5 j _ hen).2
   have : j < arr1.size := by omega
   simp only [World.cell?, r1]
   rw [<- hrep];simp [Array.getD_eq_getD_getElem?, this]
  ·rintro e w' ⟨rfl, rfl⟩
   have hmut : X.mut b1 := ⟨k1, g1, n1, Wt h1, hρ1⟩
   have hoth : ∀ b', b' ≠ b1 -> (X.w.drew.freeze ⟨b1, 0, none⟩ o.length).heap[b']? = X.w.heap[b']? := fun b' hb' => freeze_other _ _ hb'
   have hset := qB hσ'
   have hlive : ∀ k g, (X.σ.set k1 .gone)[k]?.bind ABlk.gen? = some g -> k ≠ k1 /\ X.live k g := fun k g hg => by
    rw [List.getElem?_set] at hg
    split at hg
    ·split at hg <;> simp [ABlk.gen?] at hg
    ·rename_i hne;exact ⟨fun e => hne e.symm, hg⟩
   let X' : AX := { X with w := X.w.drew.freeze ⟨b1, 0, none⟩ o.length, σ := X.σ.set k1 .gone }
   have hE : WExt X X' := {
    hid := rfl, top := Nat.le_refl _, os := freeze_os _ _ _, tape := freeze_tape _ _ _, output := freeze_output _ _ _, size := Nat.le_of_eq (freeze_size _ _ _).symm
    old := fun b' _ hm' => ⟨hoth b' fun e => hm' (e ▸ hmut), fun ⟨k, g, n, hl', hr'⟩ => hm' ⟨k, g, n, (hlive k g hl').2, hr'⟩⟩
    rows := fun k g _ hl' => ⟨(hlive k g hl').2, rfl⟩
    shp := fun b' s hs => by rw [freeze_shape];exact hs }
   have hS' : Sto X' := {
    inj := fun k k' g g' b n n' hl hl' hr hr' => hS.inj k k' g g' b n n' (hlive k g hl).2 (hlive k' g' hl').2 hr hr'
    gen := fun k g hl => hS.gen k g (hlive k g hl).2
    hid := fun b ⟨k, g, n, hl, hr⟩ hh => hS.hid b ⟨k, g, n, (hlive k g hl).2, hr⟩ hh
    hidlt := fun b hb => Nat.lt_of_lt_of_le (hS.hidlt b hb) (Nat.le_of_eq (freeze_size _ _ _).symm)
    holds := fun k B hB => by
     have hB' : (X.σ.set k1 .gone)[k]? = some B := hB
     cases hg : B.gen? with
     | none => cases B <;> first|trivial|cases hg
     | some g =>
      obtain ⟨hne, hl⟩ := hlive k g (by rw [hB'];exact hg)
      have hBX : X.σ[k]? = some B := by rw [List.getElem?_set_ne (fun e => hne e.symm)] at hB';exact hB'
      exact (hS.holds k B hBX).mono hE.le fun b' n' hb' => hoth b' fun e => hne (hS.inj k k1 g g1 b' n' n1 hl (Wt h1) hb' (by rw [e];exact hρ1)) }
   exact ⟨_, rfl, X', rfl, hS', hE, _, .sc _, rfl, hset.symm⟩
abbrev pfx4 (b : ABlk) (g0 : Nat) (p : DV × DV × DV × ABlk) : List ABlk := b :: .row g0 [p.1, p.2.1, p.2.2.1] :: p.2.2.2 :: []
theorem s_call_str {G : Nat -> DV} {B : Nat} {f : Operand -> DV} {σ σ' : List ABlk} {K : DV -> List ABlk -> Prop} {dst : Option Tmp} {type : TypeId} {pos : String} {after : Array Edge} {gd : Option (Nat × Bool)} {args : Array Operand} {ts : Array TypeId} {k0 k1 g0 g1 : Nat} {o : List UInt8} {bad : Bool} (hx : f (.func 50) = .fn (.func 50) [] []) (hds : reL (args.toList.map f) = some [.ptr k0 g0 0]) (h0 : σ[k0]? = some (pRow k0 k1 g0 g1 o.length bad)) (h1 : σ[k1]? = some (.row g1 (Wf o))) (ho : o ≠ []) (hl : o.length <= 9223372036854775807) (hσ' : setA σ k1 .gone = some σ') (kk : K (Q2 o) σ') :
  OpSem Tryz.prog G B ⟨dst, .call ⟨.value (.func 50), args, ts⟩, type, pos, after, gd⟩ f σ K := s_call hx hds ((string_c h0 h1 ho hl hσ').mono fun _ _ ⟨e1, e2⟩ => by rw [e1, e2];exact kk)
end Go.Av
end
section
namespace Go.Proofs
open Go.Av
variable {G : Nat -> DV}
attribute [local irreducible] OpSem WR Zc Zp ACalls ZS AClose RV
open Go.Bl
theorem itoa_ne (n : Int) : Lib.itoa n ≠ [] := by
 intro h
 have h2 := congrArg List.length h
 unfold Lib.itoa at h2
 split at h2
 ·simp at h2
 ·rw [Lib.decDigits_length] at h2
  have := Lib.nDigits_pos n.toNat
  simp at h2;omega
theorem typT_ne (t : Nd) (h : ZH t = true) : qz t ≠ [] := by
 obtain ⟨k, n, m, ks⟩ := t
 rw [ZH] at h
 rw [qz]
 split at h
 ·rename_i hk
  rcases hk with hk|hk <;> simp [hk]
 split at h
 ·rename_i h1 hk;simp [hk]
 split at h
 ·rename_i h1 h2 hk;simp [hk]
 ·cases h
theorem exT_ne (t : Nd) (h : Zn t = true) : exT t ≠ [] := by
 obtain ⟨k, n, m, ks⟩ := t
 rw [Zn] at h
 rw [exT]
 split at h
 ·rename_i hk;rw [if_pos hk];exact itoa_ne n
 split at h
 ·rename_i h1 hk;simp [hk];split <;> simp
 split at h
 ·rename_i h1 h2 hk;simp [hk]
 split at h
 ·rename_i h1 h2 h3 hk;simp [hk]
 split at h
 ·rename_i h1 h2 h3 h4 hk;simp [hk]
 split at h
 ·rename_i h1 h2 h3 h4 h5 hk
  rw [if_neg h1, if_neg h2, if_neg h3, if_neg h4, if_neg h5, if_pos hk, if_pos (by simp at h;simp [h])]
  simp
 split at h
 ·rename_i h1 h2 h3 h4 h5 h6 hk;simp [hk]
 split at h
 ·rename_i h1 h2 h3 h4 h5 h6 h7 hk;simp [hk]
 split at h
 ·rename_i h1 h2 h3 h4 h5 h6 h7 h8 hk;simp [hk]
 ·cases h
theorem line_ne (i : Nat) (s r : List UInt8) : ZQ i s ++ r ≠ [] := by simp [ZQ]
theorem stT_ne (t : Nd) (i : Nat) : stT t i ≠ [] := by
 obtain ⟨k, n, m, ks⟩ := t
 rw [stT]
 repeat' split
 all_goals simp [ZQ]
theorem prT_ne (t : Nd) (h : prOk t = true) : prT t ≠ [] := by
 obtain ⟨k, n, m, ks⟩ := t
 rw [prOk] at h
 rw [prT]
 split
 ·exact line_ne _ _ _
 split
 ·rename_i h1 hk
  rw [if_neg h1, if_pos hk] at h
  rw [ZF] at h
  rw [funT, if_pos (by simp at h;simp [h])]
  exact line_ne _ _ _
 split
 ·rename_i h1 h2 hk
  rw [if_neg h1, if_neg h2, if_pos hk] at h
  exact typT_ne _ h
 split
 ·rename_i h1 h2 h3 hk
  rw [if_neg h1, if_neg h2, if_neg h3, if_pos hk] at h
  exact exT_ne _ h
 ·exact stT_ne _ _
theorem okL_take {ks : List Nd} (h : okL ks) : ∀ j, okL (ks.take j) := fun j => by
 induction ks generalizing j with
 | nil => simpa using h
 | cons x r ih =>
  rw [okL] at h
  cases j with
  | zero => rw [List.take_zero, okL];trivial
  | succ j => rw [List.take_succ_cons, okL];exact ⟨h.1, ih h.2 j⟩
theorem wkTC {X W0 W1 W2 : Prop} (w0 : W0 := by exact True.intro) (w1 : W1 := by exact True.intro) (w2 : W2 := by exact True.intro) (s : (Unit -> W0) -> (Unit -> W1) -> (Unit -> W2) -> Unit -> X := by (intro w0 w1 w2 _;(repeat' first|(refine Qz ?_;(first|refine Ws rfl ?_|refine WM rfl ?_|(refine QN ?_;(first|refine Z4 rfl rfl ?_|refine Q0 rfl ?_|refine Qc rfl rfl rfl ?_))|refine Qq rfl rfl (by first|assumption|omega|(simp;done)|(simp;omega)) ?_|(refine Qw ?_;(first|refine Zw rfl rfl ?_|refine qv rfl rfl ?_|refine WG rfl rfl ?_|refine WX rfl rfl ?_|refine ZU rfl rfl (by omega) ?_|refine s_ad rfl rfl ?_))|(refine QK ?_;(first|refine s_call_str (k0 := 1) (k1 := 2) rfl rfl rfl rfl hne hlim rfl ?_|refine s_pe 1 2 (ZY _ _ _ _ _ (by assumption)) rfl rfl rfl rfl rfl rfl ?_|refine s_pe 1 2 (numeral_c hG _ (by assumption)) rfl rfl rfl rfl rfl rfl ?_|refine s_pe 1 2 (htyp _ _) rfl rfl rfl rfl rfl rfl ?_|refine s_pe 1 2 (hex _ _) rfl rfl rfl rfl rfl rfl ?_|refine s_pm 1 2 (line_c 0 _ (by omega) (by first|assumption|omega|(simp only [List.length_append, Wx, List.length_cons, List.length_nil];omega))) rfl rfl rfl rfl rfl rfl (fun _ => rfl) (fun _ _ => ?_)|refine s_pm 1 2 (write_c _ (by first|assumption|omega|(simp only [List.length_append, List.length_cons, List.length_nil];omega))) rfl rfl rfl rfl rfl rfl (fun _ => rfl) (fun _ _ => ?_)|refine s_pm 1 2 (hsx) rfl rfl rfl rfl rfl rfl (fun _ => rfl) (fun _ _ => ?_)|refine s_pm 1 2 (hfun _ _ (by first|assumption|omega|(simp only [List.length_append, Wx, List.length_cons, List.length_nil];omega))) rfl rfl rfl rfl rfl rfl (fun _ => rfl) (fun _ _ => ?_)|refine s_pm 1 2 (hst0 _ _ (by first|assumption|omega|(simp only [List.length_append, Wx, List.length_cons, List.length_nil];omega))) rfl rfl rfl rfl rfl rfl (fun _ => rfl) (fun _ _ => ?_)|refine Qv rfl ?_))|(refine Q1 ?_;(first|refine ZO rfl rfl ?_|refine W9 rfl rfl ?_))|(refine g_box ?_;(first|refine s_box_bld rfl (fun _ _ _ _ => ?_)|refine ZC rfl rfl (fun _ _ => ?_)))|refine qh rfl rfl rfl rfl ?_|refine Qe rfl rfl ?_|refine QB rfl rfl ?_|refine Qj rfl rfl ?_|refine QU (fun _ _ => ?_)))|(refine We ?_;(first|refine Wb ?_|refine Zg rfl ?_|refine WI ?_|refine qd rfl rfl rfl rfl ?_|refine qw rfl rfl rfl rfl ?_|refine WN rfl rfl (by omega) ?_|refine WD rfl rfl (by omega) ?_))|(refine Wc ?_;(first|refine Q7 ?_|refine Qm ?_|refine QM ?_|(refine WC ?_;first|(refine Ql (pfx4 _ _) 100 [(0, true), (1, true), (2, true), (3, true), (4, true), (5, false), (6, false)] (by rfl) (by rfl) (by kernel_rfl) (by decide +kernel) (by decide +kernel) ⟨(_, _, _, _), rfl⟩ ?_)|refine Q9 (by rfl) (by kernel_rfl) (by kernel_rfl) ?_|refine Q8 (by kernel_rfl) (by kernel_rfl) ?_)|refine QV ?_|refine QD rfl ?_|refine QR rfl ?_|refine Qu rfl (by omega) ?_|refine Qn rfl (by omega) ?_|refine W8 rfl ?_|refine Wi ?_))|(refine ZG ?_;(first|refine qL ?_|refine i_st rfl rfl (fun _ => (by (repeat' first|(refine Qz ?_;(first|refine Ws rfl ?_|refine Z4 rfl rfl ?_|refine Qe rfl rfl ?_|refine Qj rfl rfl ?_))|exact ⟨rfl, rfl⟩))) ?_|refine i_ef rfl ?_))|refine And.intro (Exists.intro ((_, _, _, _)) rfl) ?_);(all_goals (repeat (rename_i x;(fail_if_success have : Unit := x);revert x)));(first|done|exact w0 ());(first|done|exact w1 ());(first|done|exact w2 ()))) (u : (W0 \/ True) /\ (W1 \/ True) /\ (W2 \/ True) := by (refine ⟨?_, ?_, ?_⟩ <;> first|exact Or.inl True.intro|exact Or.inr True.intro)) : X := s (fun _ => w0) (fun _ => w1) (fun _ => w2) ()
theorem print_c (hG : G 6 = pow10T) (hG1 : G 1 = spaceT) (t : Nd) (hok : okN t) (hsz : Qk t <= 1000000) : Go.Av.Pure Tryz.prog G 18 [.agg (Enc.enc t)] (Q2 (Zz t)) := fun B => by
 have htyp := fun (o : List UInt8) (b : Bool) => typed_c (G := G) (o := o) hG t hok hsz b
 have hex := fun (o : List UInt8) (b : Bool) => expr_c (G := G) (o := o) hG hG1 t hok hsz b
 have hstm := (stmts_c (G := G) hG hG1 t hok).1
 have hfun := fun (o : List UInt8) (b : Bool) (h : o.length + 7000000 * Qk t <= 140737470000000) => fun_c (G := G) (o := o) (bad := b) hG hG1 t hok hsz h
 have hpne := prT_ne t
 obtain ⟨k, n, m, ks⟩ := t
 unfold Zz
 have hse : Qk (.mk k n m ks) = 1 + Qs ks := by rw [Qk]
 have hok2 := hok
 rw [okN] at hok2
 have hl1 := Wk ks
 have hl : ks.length <= 1048576 := by omega
 have hn : -9223372036854775808 <= n /\ n <= 9223372036854775807 := hok2.1.2.1
 have hnl := WP hok2.1.2.1
 rw [prOk, prT] at *
 rw [Qr] at htyp hex hfun ⊢
 by_cases k27 : k = 27
 ·subst k27
  have hfs : ∀ x ∈ ks, ∀ (o : List UInt8) (b : Bool), o.length + 7000000 * Qk x <= 140737470000000 -> PM Tryz.prog G 45 (fun p g => [.ptr p g 0, .agg (Enc.enc x)]) o b (.tup []) (o ++ funT x) (b || !ZF x) := fun x hx o b h => fun_c (G := G) (o := o) (bad := b) hG hG1 x (Wa hok2.2 hx) (by have := QG hx;omega) h
  have hfl := funs_len ks hok2.2 (by omega)
  clear htyp hex hstm hfun
  refine Qa Tryz.func18 rfl Tryz.ntmps18 rfl (t := [(0, .agg [.i _, .i n, .i m, Qo ks])]) rfl fun E hE => ?_
  (refine wkTC ?_;intros)
  rename_i gn hgn gp gb hgp hgb gb2 hgb2
  generalize hhd : [] ++ ZQ 0 ([112, 114, 111, 103, 114, 97, 109, 32] ++ Lib.itoa n) = hd at *
  have hhl : hd.length <= 1000 := by rw [<- hhd];simp only [List.length_append, List.length_nil, List.length_cons, Wx];omega
  have hhd2 : ZQ 0 ([112, 114, 111, 103, 114, 97, 109, 32] ++ Lib.itoa n) = hd := by rw [<- hhd];simp
  generalize hb0 : (false || !QI m ks.length (-1) || !WF n) = b0 at *
  refine r_loop2 (fun (j : Nat) (g : Nat) => ⟨[(1, .ptr 0 gn 0), (2, Q2 []), (3, .ptr 1 gp 0), (26, Qo ks), (27, .i ks.length), (28, .i j)], [.row gn [.i 27, .i n, .i m, Qo ks], pRow 1 2 gp g (hd ++ ((ks.take j).map funT).flatten).length (b0 || !(ks.take j).all ZF), .row g (Wf (hd ++ ((ks.take j).map funT).flatten))]⟩) (fun j g => j <= ks.length /\ (g = gb2 \/ E.N < g)) (fun j _ => ks.length - j) 0 gb2 ?_ (by omega) ?_
  ·rw [show (b0 || !(ks.take 0).all ZF) = b0 by simp, show hd ++ ((ks.take 0).map funT).flatten = hd by simp]
   exact zal rfl
  intro j g hj
  have hsl := Wp ks j
  have hfl2 := funs_len (ks.take j) (okL_take hok2.2 j) (by omega)
  by_cases hjl : j < ks.length
  ·have hsm := QG (List.getElem_mem hjl)
   have hst1 := qr ks j hjl
   have hst2 := Wp ks (j + 1)
   have hsx := hfs _ (List.getElem_mem hjl) (hd ++ ((ks.take j).map funT).flatten) (b0 || !(ks.take j).all ZF) (by rw [List.length_append];omega)
   have e1 : hd ++ ((ks.take (j + 1)).map funT).flatten = (hd ++ ((ks.take j).map funT).flatten) ++ funT ks[j] := by rw [flatten_take _ hjl, List.append_assoc]
   have e2 : (b0 || !(ks.take (j + 1)).all ZF) = ((b0 || !(ks.take j).all ZF) || !ZF ks[j]) := by rw [List.take_succ_eq_append_getElem hjl, List.all_append];cases b0 <;> simp
   clear hfs
   (refine wkTC ?_;intros)
   rename_i g' hg'
   refine ⟨j + 1, g', ⟨by omega, by omega⟩, by omega, ?_⟩
   rw [e1, e2]
   exact zal rfl
  ·have hje : j = ks.length := by omega
   subst hje
   rw [List.take_length] at *
   (refine wkTC ?_;intros)
   refine r_cond rfl (fun hb => ?_) (fun hb => ?_)
   ·have hb2 : (QI m ks.length (-1) && WF n && ks.all ZF) = false := by rw [<- hb0] at hb;revert hb;cases QI m ks.length (-1) <;> cases WF n <;> simp
    (refine wkTC ?_;intros)
    refine e_1 Tryz.results18 (Qb rfl) (Qd ?_)
    rw [if_pos rfl, hb2];rfl
   ·have hb2 : (QI m ks.length (-1) && WF n && ks.all ZF) = true := by rw [<- hb0] at hb;revert hb;cases QI m ks.length (-1) <;> cases WF n <;> simp
    have hne : hd ++ (ks.map funT).flatten ≠ [] := by rw [<- hhd];simp [ZQ]
    have hlim : (hd ++ (ks.map funT).flatten).length <= 9223372036854775807 := by rw [List.length_append];omega
    (refine wkTC ?_;intros)
    refine e_1 Tryz.results18 (Qb rfl) (Qd ?_)
    rw [if_pos rfl, if_pos rfl, hhd2, if_pos hb2]
 by_cases k26 : k = 26
 ·subst k26
  have hlx := funT_len _ hok hsz
  refine Qa Tryz.func18 rfl Tryz.ntmps18 rfl (t := [(0, .agg [.i _, .i n, .i m, Qo ks])]) rfl fun E hE => ?_
  (refine wkTC ?_;intros)
  refine r_cond rfl (fun hb => ?_) (fun hb => ?_)
  ·have hb2 : ZF (.mk 26 n m ks) = false := by simpa using hb
   (refine wkTC ?_;intros)
   refine e_1 Tryz.results18 (Qb rfl) (Qd ?_)
   simp [hb2, *]
  ·have hb2 : ZF (.mk 26 n m ks) = true := by simpa using hb
   have hne : ([] ++ funT (.mk 26 n m ks)) ≠ [] := by have := hpne (by simp [hb2, *]);simpa [*] using this
   have hlim : (([] ++ funT (.mk 26 n m ks))).length <= 9223372036854775807 := by have hll := hlx;simp only [List.length_append, List.length_nil, List.length_cons, Wx];omega
   (refine wkTC ?_;intros)
   refine e_1 Tryz.results18 (Qb rfl) (Qd ?_)
   simp [hb2, *]
 by_cases kt : 0 <= k /\ k <= 3
 ·obtain ⟨kt0, kt3⟩ := kt
  have hlx := qT _ hok
  refine Qa Tryz.func18 rfl Tryz.ntmps18 rfl (t := [(0, .agg [.i k, .i n, .i m, Qo ks])]) rfl fun E hE => ?_
  (refine wkTC ?_;intros)
  refine r_cond rfl (fun hb => ?_) (fun hb => ?_)
  ·have hb2 : ZH (.mk k n m ks) = false := by simpa using hb
   (refine wkTC ?_;intros)
   refine e_1 Tryz.results18 (Qb rfl) (Qd ?_)
   simp [hb2, *]
  ·have hb2 : ZH (.mk k n m ks) = true := by simpa using hb
   have hne : ([] ++ qz (.mk k n m ks)) ≠ [] := by have := hpne (by simp [hb2, *]);simpa [*] using this
   have hlim : (([] ++ qz (.mk k n m ks))).length <= 9223372036854775807 := by have hll := hlx;simp only [List.length_append, List.length_nil, List.length_cons, Wx];omega
   (refine wkTC ?_;intros)
   refine e_1 Tryz.results18 (Qb rfl) (Qd ?_)
   simp [hb2, *]
 by_cases ke : 4 <= k /\ k <= 12
 ·obtain ⟨ke0, ke3⟩ := ke
  have hlx := qS _ hok
  refine Qa Tryz.func18 rfl Tryz.ntmps18 rfl (t := [(0, .agg [.i k, .i n, .i m, Qo ks])]) rfl fun E hE => ?_
  (refine wkTC ?_;intros)
  refine r_cond rfl (fun hb => ?_) (fun hb => ?_)
  ·have hb2 : Zn (.mk k n m ks) = false := by simpa using hb
   (refine wkTC ?_;intros)
   refine e_1 Tryz.results18 (Qb rfl) (Qd ?_)
   simp [hb2, *]
  ·have hb2 : Zn (.mk k n m ks) = true := by simpa using hb
   have hne : ([] ++ exT (.mk k n m ks)) ≠ [] := by have := hpne (by simp [hb2, *]);simpa [*] using this
   have hlim : (([] ++ exT (.mk k n m ks))).length <= 9223372036854775807 := by have hll := hlx;simp only [List.length_append, List.length_nil, List.length_cons, Wx];omega
   (refine wkTC ?_;intros)
   refine e_1 Tryz.results18 (Qb rfl) (Qd ?_)
   simp [hb2, *]
 ·have hlx := (st_lenX hok (i := 0) (by omega)).1
  have hst0 : ∀ (o : List UInt8) (b : Bool), o.length + 7000000 * Qk (.mk k n m ks) <= 140737470000000 -> PM Tryz.prog G 49 (fun p g => [.ptr p g 0, .i 0, .agg [.i k, .i n, .i m, Qo ks]]) o b (.tup []) (o ++ stT (.mk k n m ks) 0) (b || !qj (.mk k n m ks)) := fun o b h => by
   have := hstm 0 o b (by omega) h
   rwa [Qr] at this
  clear hstm
  by_cases kn : 0 <= k
  ·have k13 : 13 <= k := by omega
   have k3n : ¬ k <= 3 := by omega
   have k12n : ¬ k <= 12 := by omega
   refine Qa Tryz.func18 rfl Tryz.ntmps18 rfl (t := [(0, .agg [.i k, .i n, .i m, Qo ks])]) rfl fun E hE => ?_
   (refine wkTC ?_;intros)
   refine r_cond rfl (fun hb => ?_) (fun hb => ?_)
   ·have hb2 : qj (.mk k n m ks) = false := by simpa using hb
    (refine wkTC ?_;intros)
    refine e_1 Tryz.results18 (Qb rfl) (Qd ?_)
    simp [hb2, *]
   ·have hb2 : qj (.mk k n m ks) = true := by simpa using hb
    have hne : ([] ++ stT (.mk k n m ks) 0) ≠ [] := by have := hpne (by simp [hb2, *]);simpa [*] using this
    have hlim : (([] ++ stT (.mk k n m ks) 0)).length <= 9223372036854775807 := by have hll := hlx;simp only [List.length_append, List.length_nil, List.length_cons, Wx];omega
    (refine wkTC ?_;intros)
    refine e_1 Tryz.results18 (Qb rfl) (Qd ?_)
    simp [hb2, *]
  ·refine Qa Tryz.func18 rfl Tryz.ntmps18 rfl (t := [(0, .agg [.i k, .i n, .i m, Qo ks])]) rfl fun E hE => ?_
   (refine wkTC ?_;intros)
   refine r_cond rfl (fun hb => ?_) (fun hb => ?_)
   ·have hb2 : qj (.mk k n m ks) = false := by simpa using hb
    (refine wkTC ?_;intros)
    refine e_1 Tryz.results18 (Qb rfl) (Qd ?_)
    simp [hb2, *]
   ·have hb2 : qj (.mk k n m ks) = true := by simpa using hb
    have hne : ([] ++ stT (.mk k n m ks) 0) ≠ [] := by have := hpne (by simp [hb2, *]);simpa [*] using this
    have hlim : (([] ++ stT (.mk k n m ks) 0)).length <= 9223372036854775807 := by have hll := hlx;simp only [List.length_append, List.length_nil, List.length_cons, Wx];omega
    (refine wkTC ?_;intros)
    refine e_1 Tryz.results18 (Qb rfl) (Qd ?_)
    simp [hb2, *]
def befP (ks : List Nd) : Nat := (ks.map fun x => nlC (Zz x)).sum
theorem befP_take {ks : List Nd} {i : Nat} (h : i < ks.length) : befP (ks.take (i + 1)) = befP (ks.take i) + nlC (Zz ks[i]) := by
 unfold befP
 rw [List.take_succ_eq_append_getElem h, List.map_append, List.sum_append];simp
theorem befP_le : ∀ (ks : List Nd), okL ks -> Qs ks <= 1000000 -> befP ks <= 7000000 * Qs ks
 | [], _, _ => by simp [befP]
 | x :: r, h, hs => by
  rw [okL] at h
  rw [Qs] at hs ⊢
  have h1 := print_len x h.1 (by omega)
  have h2 := nl_le (Zz x)
  have h3 := befP_le r h.2 (by omega)
  have : befP (x :: r) = nlC (Zz x) + befP r := by unfold befP;rw [List.map_cons, List.sum_cons]
  rw [this, Nat.mul_add];omega
def stepL (k : Int) (ks : List Nd) (a : Int) : Int :=
 if k = 27 \/ k = 13 then 1 + (befP (ks.take a.toNat) : Nat) else if (k = 17 /\ a = 2) \/ (k = 21 /\ a = 1) then (nlC (Zz (ks.getD (a - 1).toNat (.mk 0 0 0 []))) : Nat) - 1 else 0
def lineGo : List Int -> Nd -> Int -> Int
 | [], _, at_ => at_
 | a :: p, .mk k n m ks, at_ => lineGo p (ks.getD a.toNat (.mk 0 0 0 [])) (at_ + stepL k ks a)
def kindN : Nd -> Int
 | .mk k _ _ _ => k
def lineM (t : Nd) (path : List Int) : Int := if atM path t = none \/ kindN t ≠ 27 \/ Zz t = [] then 0 else lineGo path t 1
theorem okL_at {ks : List Nd} (h : okL ks) {i : Nat} (hi : i < ks.length) : okN ks[i] := Wa h (List.getElem_mem hi)
theorem step_bound {k : Int} {n m : Int} {ks : List Nd} {a : Int} (hok : okN (.mk k n m ks)) (hs : Qk (.mk k n m ks) <= 1000000) (h0 : 0 <= a) (h1 : a.toNat < ks.length) :
  -1 <= stepL k ks a /\ stepL k ks a + 8000000 * (Qk ks[a.toNat] : Int) <= 8000000 * (Qk (.mk k n m ks) : Int) := by
 rw [okN] at hok
 rw [Qk] at hs ⊢
 have hsm := QG (List.getElem_mem h1)
 unfold stepL
 split
 ·have hb := befP_le (ks.take a.toNat) (okL_take hok.2 _) (by have := Wp ks a.toNat;omega)
  have ht := qr ks a.toNat h1
  have hl := Wp ks (a.toNat + 1)
  omega
 ·split
  ·rename_i hc
   have h3 : (a - 1).toNat < ks.length := by omega
   have e : ks.getD (a - 1).toNat (.mk 0 0 0 []) = ks[(a - 1).toNat] := by rw [List.getD_eq_getElem?_getD, List.getElem?_eq_getElem h3];rfl
   rw [e]
   have hp := print_len _ (okL_at hok.2 h3) (by have := QG (List.getElem_mem h3);omega)
   have hn := nl_le (Zz ks[(a - 1).toNat])
   have ht := qr ks (a - 1).toNat h3
   have e2 : a.toNat = (a - 1).toNat + 1 := by omega
   have h4 : (a - 1).toNat + 1 < ks.length := by omega
   have ht2 := qr ks ((a - 1).toNat + 1) h4
   have hl := Wp ks ((a - 1).toNat + 1 + 1)
   have hx : Qk ks[a.toNat] = Qk ks[(a - 1).toNat + 1] := by simp only [e2]
   omega
  ·omega
theorem wkLI {X W0 W1 W2 : Prop} (w0 : W0 := by exact True.intro) (w1 : W1 := by exact True.intro) (w2 : W2 := by exact True.intro) (s : (Unit -> W0) -> (Unit -> W1) -> (Unit -> W2) -> Unit -> X := by (intro w0 w1 w2 _;(repeat' first|(refine Qz ?_;(first|refine Ws rfl ?_|refine WM rfl ?_|(refine QN ?_;(first|refine Z4 rfl rfl ?_|refine QA rfl ?_|refine Q0 rfl ?_|refine Qc rfl rfl rfl ?_))|(refine qp ?_;(first|refine Qq rfl rfl (by first|assumption|omega|(simp;done)|(simp;omega)) ?_|refine s_idx_sl rfl rfl (by omega) (by first|assumption|omega|(simp;done)|(simp;omega)) ?_))|(refine Qw ?_;(first|refine Zw rfl rfl ?_|refine WX rfl rfl ?_|refine Zr rfl rfl ?_|refine s_neq rfl rfl ?_|refine ZU rfl rfl (by omega) ?_))|(refine QK ?_;(first|refine qk rfl rfl hat (W4 (Ww (WS (Enc.clo _)) (Ww Wj Zb))) ?_|refine s_callv_eq rfl rfl (hbef _ _ _ _) ?_|refine WA rfl rfl (hpt) ?_|refine Qv rfl ?_))|(refine Q1 ?_;(first|refine ZO rfl rfl ?_|refine W9 rfl rfl ?_))|(refine Wr ?_;(first|refine qh rfl rfl rfl rfl ?_|refine Wg rfl rfl rfl rfl (by rfl) (by rfl) (by rfl) ?_))|refine qK rfl ?_|refine Qe rfl rfl ?_|refine Zm rfl rfl rfl ?_|refine s_slice_h rfl rfl (by omega) (by omega) ?_|refine Zu rfl rfl ?_|refine QU (fun _ _ => ?_)|refine ZC rfl rfl (fun _ _ => ?_)))|(refine We ?_;(first|refine Wb ?_|refine Zg rfl ?_|refine WI ?_|refine qd rfl rfl rfl rfl ?_|refine qw rfl rfl rfl rfl ?_|refine WN rfl rfl (by omega) ?_|refine WD rfl rfl (by omega) ?_|refine za rfl rfl (fun _ => ?_) (fun _ => ?_)))|(refine Wc ?_;(first|refine Q7 ?_|refine Qm ?_|refine QM ?_|(refine WC ?_;first|refine Q9 (by rfl) (by kernel_rfl) (by kernel_rfl) ?_|refine Q8 (by kernel_rfl) (by kernel_rfl) ?_)|refine QV ?_|refine QD rfl ?_|refine QR rfl ?_|refine Qu rfl (by omega) ?_|refine Qn rfl (by omega) ?_|refine W8 rfl ?_|refine Wi ?_))|(refine qM ?_;(first|refine x_op rfl (by (repeat' first|(refine Qz ?_;(first|(refine QN ?_;(first|refine Z4 rfl rfl ?_|refine Q0 rfl ?_|refine Qc rfl rfl rfl ?_))|refine s_idx_sl rfl rfl (by omega) (by first|assumption|omega|(simp;done)|(simp;omega)) ?_|(refine Qw ?_;(first|refine ZU rfl rfl (by omega) ?_|refine qC rfl rfl (by omega) ?_))|(refine QK ?_;(first|refine WA rfl rfl (hp1) ?_|refine WA rfl rfl (hl1) ?_))|refine Qe rfl rfl ?_))|exact ⟨rfl, rfl⟩)) ?_|refine qJ ?_)));(all_goals (repeat (rename_i x;(fail_if_success have : Unit := x);revert x)));(first|done|exact w0 ());(first|done|exact w1 ());(first|done|exact w2 ()))) (u : (W0 \/ True) /\ (W1 \/ True) /\ (W2 \/ True) := by (refine ⟨?_, ?_, ?_⟩ <;> first|exact Or.inl True.intro|exact Or.inr True.intro)) : X := s (fun _ => w0) (fun _ => w1) (fun _ => w2) ()
theorem before_c (hG : G 6 = pow10T) (hG1 : G 1 = spaceT) (k n m : Int) (ks : List Nd) (hok : okL ks) (hs : Qs ks <= 1000000) (a : Int) (h0 : 0 <= a) (h1 : a.toNat < ks.length) (at_ : Int) (ha1 : -5000000000000000000 <= at_) (ha2 : at_ <= 9000000000000) (c5 : List DV) (g2 g5 g7 g9 B : Nat) :
  ACalls Tryz.prog G B 68 [.ptr 0 g2 0, .ptr 3 g9 0, .ptr 2 g7 0] [.row g2 [.i k, .i n, .i m, Qo ks], .row g5 c5, .row g7 [.i at_], .row g9 [.i a]] (fun d τ => d = .tup [] /\ τ = [.row g2 [.i k, .i n, .i m, Qo ks], .row g5 c5, .row g7 [.i (at_ + (befP (ks.take a.toNat) : Nat))], .row g9 [.i a]]) := by
 have hln := Wk ks
 refine Qa Tryz.func68 rfl Tryz.ntmps68 rfl (t := [(0, .ptr 0 g2 0), (1, .ptr 3 g9 0), (2, .ptr 2 g7 0)]) rfl fun E hE => ?_
 (refine wkLI ?_;intros)
 have hsub : ∀ (i : Nat) (h : i < (ks.take a.toNat).length), Go.Av.Pure Tryz.prog G 18 [.agg (Enc.enc (ks.take a.toNat)[i])] (Q2 (Zz (ks.take a.toNat)[i])) /\ Go.Av.Pure Tryz.prog G 69 [Q2 (Zz (ks.take a.toNat)[i])] (.i (nlC (Zz (ks.take a.toNat)[i]))) := fun i h => by
  have hm : (ks.take a.toNat)[i] ∈ ks := List.mem_of_mem_take (List.getElem_mem h)
  have hsz := QG hm
  have hle := print_len _ (Wa hok hm) (by omega)
  exact ⟨print_c hG hG1 _ (Wa hok hm) (by omega), lines_c _ (print_asc _) (by omega)⟩
 have hbl := befP_le (ks.take a.toNat) (okL_take hok _) (by have := Wp ks a.toNat;omega)
 have hsl := Wp ks a.toNat
 have hbm : ∀ i, befP ((ks.take a.toNat).take i) <= 7000000000000 := fun i => by
  have h2 := befP_le ((ks.take a.toNat).take i) (okL_take (okL_take hok _) _) (by have := Wp (ks.take a.toNat) i;omega)
  have := Wp (ks.take a.toNat) i;omega
 have hll2 : (ks.take a.toNat).length <= 1000000 := by rw [List.length_take];omega
 generalize hll : ks.take a.toNat = l at *
 refine WY (fun (i : Nat) => ⟨[(2, .ptr 2 g7 0), (8, Qo l), (9, .i l.length), (10, .i i)], [.row g2 [.i k, .i n, .i m, Qo ks], .row g5 c5, .row g7 [.i (at_ + (befP (l.take i) : Nat))], .row g9 [.i a]]⟩) (fun i => i <= l.length) (fun i => l.length - i) 0 ?_ (by omega) ?_
 ·rw [show at_ + ((befP (l.take 0) : Nat) : Int) = at_ by simp [befP]]
  exact zal rfl
 intro i hi
 have hb0 := hbm i
 by_cases hil : i < l.length
 ·obtain ⟨hp1, hl1⟩ := hsub i hil
  have hst := befP_take hil
  have hb1 := hbm (i + 1)
  have e : at_ + ((befP (l.take (i + 1)) : Nat) : Int) = at_ + ((befP (l.take i) : Nat) : Int) + ((nlC (Zz l[i]) : Nat) : Int) := by rw [hst];omega
  clear hsub hbm
  (refine wkLI ?_;intros)
  refine ⟨i + 1, by omega, by omega, ?_⟩
  rw [e]
  exact zal rfl
 ·have hie : i = l.length := by omega
  subst hie
  rw [List.take_length]
  clear hsub hbm
  (refine wkLI ?_;intros)
  exact e_0 (Tryz.results68) (WV (σ := [_, _, _, _]) ⟨rfl, rfl⟩)
theorem line_c1 (hG : G 6 = pow10T) (hG1 : G 1 = spaceT) (t : Nd) (hok : okN t) (hs : Qk t <= 1000000) (path : List Int) (hpl : path.length <= 4611686018427387904) : Go.Av.Pure Tryz.prog G 26 [.agg (Enc.enc t), Qo path] (.i (lineM t path)) := fun B => by
 have hat := trAt_c (G := G) t hs path hpl
 have hpt := print_c hG hG1 t hok hs
 unfold lineM
 cases ha : atM path t with
 | none =>
  rw [ha] at hat
  have hat : Go.Av.Pure Tryz.prog G 67 [.agg (Enc.enc t), Qo path] (.tup [.agg (Enc.enc (Nd.mk 0 0 0 [])), .b false]) := hat
  rw [if_pos (by simp)]
  refine Qa Tryz.func26 rfl Tryz.ntmps26 rfl (t := [(0, .agg (Enc.enc t)), (1, Qo path)]) rfl fun E hE => ?_
  (refine wkLI ?_;intros)
  all_goals exact e_1 (Tryz.results26) (Qb rfl) (Qd rfl)
 | some x =>
 rw [ha] at hat
 have hat : Go.Av.Pure Tryz.prog G 67 [.agg (Enc.enc t), Qo path] (.tup [.agg (Enc.enc x), .b true]) := hat
 obtain ⟨k, n, m, ks⟩ := t
 rw [Qr k n m ks] at hat hpt ⊢
 by_cases hk : k = 27
 case neg =>
  rw [if_pos (by simp [kindN, hk])]
  refine Qa Tryz.func26 rfl Tryz.ntmps26 rfl (t := [(0, .agg [.i k, .i n, .i m, Qo ks]), (1, Qo path)]) rfl fun E hE => ?_
  (refine wkLI ?_;intros)
  all_goals exact e_1 (Tryz.results26) (Qb rfl) (Qd rfl)
 by_cases hp0 : Zz (.mk k n m ks) = []
 ·have hd : decide (Zz (.mk k n m ks) = []) = true := decide_eq_true hp0
  rw [if_pos (by simp [hp0])]
  refine Qa Tryz.func26 rfl Tryz.ntmps26 rfl (t := [(0, .agg [.i k, .i n, .i m, Qo ks]), (1, Qo path)]) rfl fun E hE => ?_
  (refine wkLI ?_;intros)
  all_goals exact e_1 (Tryz.results26) (Qb rfl) (Qd rfl)
 have hd : decide (Zz (.mk k n m ks) = []) = false := decide_eq_false hp0
 subst hk
 rw [if_neg (by simp [kindN, hp0])]
 refine Qa Tryz.func26 rfl Tryz.ntmps26 rfl (t := [(0, .agg [.i 27, .i n, .i m, Qo ks]), (1, Qo path)]) rfl fun E hE => ?_
 (refine wkLI ?_;intros)
 rename_i g2 hg2 g5 hg5 g7 hg7
 clear hpt hat
 rw [<- Qr 27 n m ks]
 generalize hT : Nd.mk 27 n m ks = t at *
 generalize (Enc.enc x : List DV) = c5 at *
 refine r_loop3 (fun (j : Nat) (cur : Nd) (at_ : Int) => ⟨[(2, .ptr 0 g2 0), (7, .ptr 2 g7 0), (29, Qo path), (30, .i path.length), (31, .i j)], [.row g2 (Enc.enc cur), .row g5 c5, .row g7 [.i at_]]⟩) (fun j cur at_ => j <= path.length /\ atM path t = atM (path.drop j) cur /\ lineGo path t 1 = lineGo (path.drop j) cur at_ /\ okN cur /\ Qk cur <= 1000000 /\ -(j : Int) <= at_ /\ at_ + 8000000 * (Qk cur : Int) <= 1 + 8000000 * (Qk t : Int)) (fun j _ _ => path.length - j) 0 t 1 ?_ ⟨by omega, by simp, by simp, hok, hs, by omega, by omega⟩ ?_
 ·exact zal rfl
 intro j cur at_ ⟨hj, he, hgo, hco, hcs, hlo, hhi⟩
 clear hT hok n m ks
 obtain ⟨k, n, m, ks⟩ := cur
 have hpos := QZ (.mk k n m ks)
 have hse : Qk (.mk k n m ks) = 1 + Qs ks := by rw [Qk]
 have hln := Wk ks
 rw [Qr]
 by_cases hjl : j < path.length
 case neg =>
  have hje : j = path.length := by omega
  subst hje
  rw [List.drop_length, lineGo] at hgo
  rw [hgo]
  (refine wkLI ?_;intros)
  all_goals exact e_1 (Tryz.results26) (Qb rfl) (Qd rfl)
 rw [List.drop_eq_getElem_cons hjl] at he hgo
 have hc : 0 <= path[j] /\ path[j].toNat < ks.length := by
  rcases Classical.em (0 <= path[j] /\ path[j].toNat < ks.length) with h|h
  ·exact h
  ·rw [atM_none (by omega), ha] at he;cases he
 rw [atM_cons hc.1 hc.2] at he
 have hgd : ks.getD path[j].toNat (.mk 0 0 0 []) = ks[path[j].toNat] := by rw [List.getD_eq_getElem?_getD, List.getElem?_eq_getElem hc.2];rfl
 rw [lineGo, hgd] at hgo
 have hsb := step_bound hco hcs hc.1 hc.2
 have hco2 := hco
 rw [okN] at hco2
 have hsm := QG (List.getElem_mem hc.2)
 have hcN : okN ks[path[j].toNat] := okL_at hco2.2 hc.2
 obtain ⟨hc0, hc1⟩ := hc
 unfold stepL at hgo hsb
 by_cases hk1 : k = 27 \/ k = 13
 ·rw [if_pos hk1] at hgo hsb
  have hbef := fun (g2 g5 g9 g7 : Nat) => before_c (G := G) hG hG1 k n m ks hco2.2 (by omega) path[j] hc0 hc1 (at_ + 1) (by omega) (by omega) c5 g2 g5 g7 g9 E.N
  have e3 : at_ + (1 + ((befP (ks.take path[j].toNat) : Nat) : Int)) = at_ + 1 + ((befP (ks.take path[j].toNat) : Nat) : Int) := by omega
  rw [e3] at hgo
  rcases hk1 with hk1|hk1
  all_goals
   (refine wkLI ?_ ?_ <;> first|exact True.intro|intros)
   refine ⟨j + 1, ks[path[j].toNat], _, ⟨by omega, he, hgo, hcN, by omega, by omega, by omega⟩, by omega, ?_⟩
   exact zal rfl
 rw [if_neg hk1] at hgo hsb
 have hbef : True := trivial
 by_cases hk2 : (k = 17 /\ path[j] = 2) \/ (k = 21 /\ path[j] = 1)
 ·rw [if_pos hk2] at hgo hsb
  have h3 : (path[j] - 1).toNat < ks.length := by omega
  have h30 : 0 <= path[j] - 1 := by omega
  have e4 : ks.getD (path[j] - 1).toNat (.mk 0 0 0 []) = ks[(path[j] - 1).toNat] := by rw [List.getD_eq_getElem?_getD, List.getElem?_eq_getElem h3];rfl
  rw [e4] at hgo hsb
  have hsz3 := QG (List.getElem_mem h3)
  have hpl3 := print_len _ (okL_at hco2.2 h3) (by omega)
  have hnl3 := nl_le (Zz ks[(path[j] - 1).toNat])
  have hp1 := print_c (G := G) hG hG1 _ (okL_at hco2.2 h3) (by omega)
  have hl1 := lines_c (G := G) (Zz ks[(path[j] - 1).toNat]) (print_asc _) (by omega)
  rcases hk2 with hk2|hk2
  all_goals
   (refine wkLI ?_ ?_ <;> first|exact True.intro|intros)
   refine ⟨j + 1, ks[path[j].toNat], _, ⟨by omega, he, hgo, hcN, by omega, by omega, by omega⟩, by omega, ?_⟩
   exact zal rfl
 ·rw [if_neg hk2] at hgo hsb
  rw [Int.add_zero] at hgo
  (refine wkLI ?_ ?_ ?_ <;> first|exact True.intro|intros)
  all_goals
   refine ⟨j + 1, ks[path[j].toNat], _, ⟨by omega, he, hgo, hcN, by omega, by omega, by omega⟩, by omega, ?_⟩
   exact zal rfl
theorem wkCP {X W0 W1 W2 : Prop} (w0 : W0 := by exact True.intro) (w1 : W1 := by exact True.intro) (w2 : W2 := by exact True.intro) (s : (Unit -> W0) -> (Unit -> W1) -> (Unit -> W2) -> Unit -> X := by (intro w0 w1 w2 _;(repeat' first|(refine Qz ?_;(first|refine Ws rfl ?_|refine WM rfl ?_|(refine QN ?_;(first|refine Z4 rfl rfl ?_|refine QA rfl ?_|refine Q0 rfl ?_|refine Qc rfl rfl rfl ?_))|refine Qq rfl rfl (by first|assumption|omega|(simp;done)|(simp;omega)) ?_|(refine Qw ?_;(first|refine Zw rfl rfl ?_|refine s_gtr rfl rfl ?_|refine WG rfl rfl ?_|refine WX rfl rfl ?_|refine s_neq rfl rfl ?_|refine ZU rfl rfl (by omega) ?_))|(refine QK ?_;(first|refine Qv rfl ?_|refine WA rfl rfl (nan_c _) ?_|refine WA rfl rfl (sign_c _) ?_|refine WA rfl rfl (hcc) ?_|refine s_callv_q rfl (hfi) (by repeat' first|exact Wj|exact WB _|exact WH (Qy _)|exact Qy _|refine qi ?_ ?_|refine Z3 ?_|refine W4 ?_|refine WS ?_|exact Zb|refine Ww ?_ ?_|refine WH ?_) ?_))|(refine Q1 ?_;(first|refine ZO rfl rfl ?_|refine W9 rfl rfl ?_))|refine qh rfl rfl rfl rfl ?_|refine W5 (cs := Wf [(k : Int), n, m]) rfl rfl (by decide) rfl ?_|refine Qe rfl rfl ?_|refine QU (fun _ _ => ?_)|refine ZC rfl rfl (fun _ _ => ?_)))|(refine We ?_;(first|refine Wb ?_|refine Zg rfl ?_|refine WI ?_|refine qd rfl rfl rfl rfl ?_|refine qw rfl rfl rfl rfl ?_|refine WN rfl rfl (by omega) ?_|refine WD rfl rfl (by omega) ?_))|(refine Wc ?_;(first|refine Q7 ?_|refine Qm ?_|refine QM ?_|(refine WC ?_;first|refine Q9 (by rfl) (by kernel_rfl) (by kernel_rfl) ?_|refine Q8 (by kernel_rfl) (by kernel_rfl) ?_)|refine QV ?_|refine QR rfl ?_|refine Qu rfl (by omega) ?_|refine Qn rfl (by omega) ?_|refine W8 rfl ?_|refine Wi ?_))|(refine qM ?_;(first|refine x_op rfl (by (repeat' first|(refine Qz ?_;(first|refine Ws rfl ?_|refine WM rfl ?_|(refine QN ?_;(first|refine QA rfl ?_|refine Q0 rfl ?_|refine Qc rfl rfl rfl ?_))|refine Qq rfl rfl (by first|assumption|omega|(simp;done)|(simp;omega)) ?_|refine s_neq rfl rfl ?_|(refine QK ?_;(first|refine WA rfl rfl (cmpI_c _) ?_|refine WA rfl rfl (or_c _ (by decide) h4) ?_|refine WA rfl rfl (hcf) ?_|refine WA rfl rfl (hi1) ?_))|refine W5 (cs := Wf [(0 : Int), 0, 0, 0]) rfl rfl (by decide) rfl ?_|refine Qe rfl rfl ?_))|exact ⟨rfl, rfl⟩)) ?_|refine qJ ?_)));(all_goals (repeat (rename_i x;(fail_if_success have : Unit := x);revert x)));(first|done|exact w0 ());(first|done|exact w1 ());(first|done|exact w2 ()))) (u : (W0 \/ True) /\ (W1 \/ True) /\ (W2 \/ True) := by (refine ⟨?_, ?_, ?_⟩ <;> first|exact Or.inl True.intro|exact Or.inr True.intro)) : X := s (fun _ => w0) (fun _ => w1) (fun _ => w2) ()
theorem nan_c (a : Int) : Go.Av.Pure Tryz.prog G 124 [.i a] (.b false) := fun B => by
 refine Qa Tryz.func124 rfl Tryz.ntmps124 rfl (t := [(0, .i a)]) rfl fun E hE => ?_
 (refine wkCP ?_;intros)
 refine e_1 Tryz.results124 (Qb rfl) (Qd ?_)
 simp
theorem cmpI_c (a : Int) : Go.Av.Pure Tryz.prog G 77 [.i a, .i a] (.i 0) := fun B => by
 refine Qa Tryz.func77 rfl Tryz.ntmps77 rfl (t := [(0, .i a), (1, .i a)]) rfl fun E hE => ?_
 (refine wkCP ?_;intros)
 refine e_1 Tryz.results77 (Qb rfl) (Qd ?_)
 rfl
theorem or_c (l : List Int) (hl : l.length <= 4) (h : ∀ x ∈ l, x = 0) : Go.Av.Pure Tryz.prog G 76 [Qo l] (.i 0) := fun B => by
 refine Qa Tryz.func76 rfl Tryz.ntmps76 rfl (t := [(0, Qo l)]) rfl fun E hE => ?_
 (refine wkCP ?_;intros)
 refine WY (fun (i : Nat) => ⟨[(3, .i 0), (6, Qo l), (7, .i l.length), (8, .i i)], []⟩) (fun i => i <= l.length) (fun i => l.length - i) 0 ?_ (by omega) ?_
 ·exact zal rfl
 intro i hi
 by_cases hil : i < l.length
 ·have h0 := h _ (List.getElem_mem hil)
  (refine wkCP ?_;intros)
  refine ⟨i + 1, by omega, by omega, ?_⟩
  exact zal rfl
 ·(refine wkCP ?_;intros)
  refine e_1 Tryz.results76 (Qb rfl) (Qd ?_)
  rfl
theorem cmpF_c (l : List Nd) (hl : l.length <= 1000000) (h : ∀ x ∈ l, Go.Av.Pure Tryz.prog G 32 [.agg (Enc.enc x), .agg (Enc.enc x)] (.i 0)) : Go.Av.Pure Tryz.prog G 78 [Qo l, Qo l, .fn (.func 32) [] []] (.i 0) := fun B => by
 refine Qa Tryz.func78 rfl Tryz.ntmps78 rfl (t := [(0, Qo l), (1, Qo l), (2, .fn (.func 32) [] [])]) rfl fun E hE => ?_
 (refine wkCP ?_;intros)
 refine WY (fun (i : Nat) => ⟨[(0, Qo l), (1, Qo l), (2, .fn (.func 32) [] []), (11, Qo l), (12, .i l.length), (13, .i i)], []⟩) (fun i => i <= l.length) (fun i => l.length - i) 0 ?_ (by omega) ?_
 ·exact zal rfl
 intro i hi
 by_cases hil : i < l.length
 ·have hfi := h _ (List.getElem_mem hil)
  clear h
  (refine wkCP ?_;intros)
  refine ⟨i + 1, by omega, by omega, ?_⟩
  exact zal rfl
 ·clear h
  (refine wkCP ?_;intros)
  refine e_1 Tryz.results78 (Qb rfl) (Qd ?_)
  rfl
theorem trCompare_c (t : Nd) : Qk t <= 1000000 -> Go.Av.Pure Tryz.prog G 32 [.agg (Enc.enc t), .agg (Enc.enc t)] (.i 0) := by
 induction t using Nd.ind with
 | h k n m ks ih =>
 intro hsz B
 have hse : Qk (.mk k n m ks) = 1 + Qs ks := by rw [Qk]
 rw [hse] at hsz
 have hln := Wk ks
 have hcf := cmpF_c (G := G) ks (by omega) fun x hx => ih x hx (by have := QG hx;omega)
 have h4 : ∀ x ∈ [(0 : Int), 0, 0, 0], x = 0 := by decide
 clear ih
 rw [Qr]
 refine Qa Tryz.func32 rfl Tryz.ntmps32 rfl (t := [(0, .agg [.i k, .i n, .i m, Qo ks]), (1, .agg [.i k, .i n, .i m, Qo ks])]) rfl fun E hE => ?_
 (refine wkCP ?_;intros)
 all_goals exact e_1 (Tryz.results32) (Qb rfl) (Qd rfl)
theorem sign_c (a : Int) : Go.Av.Pure Tryz.prog G 120 [.i a, .i a] (.i 0) := fun B => by
 refine Qa Tryz.func120 rfl Tryz.ntmps120 rfl (t := [(0, .i a), (1, .i a)]) rfl fun E hE => ?_
 (refine wkCP ?_;intros)
 refine e_1 Tryz.results120 (Qb rfl) (Qd ?_)
 rfl
theorem r05Compare_c (t : Nd) : Qk t <= 1000000 -> Go.Av.Pure Tryz.prog G 66 [.agg (Enc.enc t), .agg (Enc.enc t)] (.i 0) := by
 induction t using Nd.ind with
 | h k n m ks ih =>
 intro hsz B
 have hse : Qk (.mk k n m ks) = 1 + Qs ks := by rw [Qk]
 rw [hse] at hsz
 have hln := Wk ks
 have hx : ∀ x ∈ ks, Go.Av.Pure Tryz.prog G 66 [.agg (Enc.enc x), .agg (Enc.enc x)] (.i 0) := fun x hx => ih x hx (by have := QG hx;omega)
 clear ih
 rw [Qr]
 refine Qa Tryz.func66 rfl Tryz.ntmps66 rfl (t := [(0, .agg [.i k, .i n, .i m, Qo ks]), (1, .agg [.i k, .i n, .i m, Qo ks])]) rfl fun E hE => ?_
 (refine wkCP ?_;intros)
 rename_i g2 hg2 g3 hg3
 generalize hxs : [k, n, m] = xs at *
 have hxl : xs.length = 3 := by rw [<- hxs];rfl
 refine WY (fun (i : Nat) => ⟨[(2, .ptr 0 g2 0), (3, .ptr 1 g3 0), (5, Qo xs), (6, Qo xs), (7, .i i)], [.row g2 [.i k, .i n, .i m, Qo ks], .row g3 [.i k, .i n, .i m, Qo ks]]⟩) (fun i => i <= 3) (fun i => 3 - i) 0 ?_ (by omega) ?_
 ·exact zal rfl
 intro i hi
 by_cases hil : i < 3
 ·have hil2 : i < xs.length := by omega
  (refine wkCP ?_;intros)
  all_goals
   refine ⟨i + 1, by omega, by omega, ?_⟩
   exact zal rfl
 ·(refine wkCP ?_;intros)
  refine WY (fun (i : Nat) => ⟨[(2, .ptr 0 g2 0), (3, .ptr 1 g3 0), (8, .i i)], [.row g2 [.i k, .i n, .i m, Qo ks], .row g3 [.i k, .i n, .i m, Qo ks]]⟩) (fun i => i <= ks.length) (fun i => ks.length - i) 0 ?_ (by omega) ?_
  ·exact zal rfl
  intro i hi
  by_cases hil : i < ks.length
  ·have hi1 := hx _ (List.getElem_mem hil)
   clear hx
   (refine wkCP ?_;intros)
   all_goals
    refine ⟨i + 1, by omega, by omega, ?_⟩
    exact zal rfl
  ·clear hx
   (refine wkCP ?_;intros)
   all_goals exact e_1 (Tryz.results66) (Qb rfl) (Qd rfl)
theorem r05Same_c (t : Nd) (hsz : Qk t <= 1000000) : Go.Av.Pure Tryz.prog G 25 [.agg (Enc.enc t), .agg (Enc.enc t)] (.b true) := fun B => by
 have hcc := r05Compare_c (G := G) t hsz
 refine Qa Tryz.func25 rfl Tryz.ntmps25 rfl (t := [(0, .agg (Enc.enc t)), (1, .agg (Enc.enc t))]) rfl fun E hE => ?_
 (refine wkCP ?_;intros)
 all_goals exact e_1 (Tryz.results25) (Qb rfl) (Qd rfl)
end Go.Proofs
end
section
namespace Go.Av
open Go.Bl
inductive DSub : DV -> DV -> Prop
 | refl (d : DV) : DSub d d
 | nil (es : Nat) : DSub (.sc (.slice none 0 0)) (.sl es [])
 | sl (es : Nat) (cs cs' : List DV) : cs.length = cs'.length -> (∀ (j : Nat) (d d' : DV), cs[j]? = some d -> cs'[j]? = some d' -> DSub d d') -> DSub (.sl es cs) (.sl es cs')
 | agg (cs cs' : List DV) : cs.length = cs'.length -> (∀ (j : Nat) (d d' : DV), cs[j]? = some d -> cs'[j]? = some d' -> DSub d d') -> DSub (.agg cs) (.agg cs')
 | tup (cs cs' : List DV) : cs.length = cs'.length -> (∀ (j : Nat) (d d' : DV), cs[j]? = some d -> cs'[j]? = some d' -> DSub d d') -> DSub (.tup cs) (.tup cs')
theorem DSub.one {d d' : DV} (h : DSub d d') : d.one = true -> d'.one = true := by
 cases h with
 | refl => exact id
 | nil => intro _;rfl
 | sl => intro _;rfl
 | agg => intro h;cases h
 | tup => intro h;cases h
theorem dsub_get {cs cs' : List DV} (hl : cs.length = cs'.length) (j : Nat) (d' : DV) (hj : cs'[j]? = some d') : ∃ d, cs[j]? = some d := ⟨cs[j]'(by rw [hl];exact (List.getElem?_eq_some_iff.1 hj).1), List.getElem?_eq_getElem _⟩
theorem DSub.rep {L : Lay} {d d' : DV} (h : DSub d d') : ∀ {v : Value}, VRep L d v -> VRep L d' v := by
 induction h with
 | refl => exact id
 | nil es => intro v hv;exact Zj hv
 | sl es cs cs' hl hs ih =>
  intro v hv
  obtain ⟨a, len, cap, f, rfl, h1, h2, h3, h4, h5⟩ := hv.sl_inv
  refine .sl _ _ _ _ _ f (by rw [h1, hl]) h2 (fun d' hd => ?_) ?_ (fun j d' hj => ?_)
  ·obtain ⟨j, hj⟩ := List.mem_iff_getElem?.1 hd
   obtain ⟨d, hd0⟩ := dsub_get hl j d' hj
   exact (hs j d d' hd0 hj).one (h3 d (List.mem_of_getElem? hd0))
  ·rcases h4 with h4|⟨b, o, h6, h7⟩
   ·left
    subst h4
    exact List.eq_nil_of_length_eq_zero hl.symm
   ·right
    exact ⟨b, o, h6, fun j hj => h7 j (by rw [hl];exact hj)⟩
  ·obtain ⟨d, hd0⟩ := dsub_get hl j d' hj
   exact ih j d d' hd0 hj (h5 j d hd0)
 | agg cs cs' hl hs ih =>
  intro v hv
  cases hv with|agg _ vs h1 h2 h3 =>
  refine .agg _ _ (by rw [h1, hl]) (fun d' hd => ?_) fun j d' hj => ?_
  ·obtain ⟨j, hj⟩ := List.mem_iff_getElem?.1 hd
   obtain ⟨d, hd0⟩ := dsub_get hl j d' hj
   exact (hs j d d' hd0 hj).one (h2 d (List.mem_of_getElem? hd0))
  ·obtain ⟨d, hd0⟩ := dsub_get hl j d' hj
   exact ih j d d' hd0 hj (h3 j d hd0)
 | tup cs cs' hl hs ih =>
  intro v hv
  cases hv with|tup _ vs h1 h3 =>
  refine .tup _ _ (by rw [h1, hl]) fun j d' hj => ?_
  obtain ⟨d, hd0⟩ := dsub_get hl j d' hj
  exact ih j d d' hd0 hj (h3 j d hd0)
theorem dsub_nil : ∀ (j : Nat) (e e' : DV), ([] : List DV)[j]? = some e -> ([] : List DV)[j]? = some e' -> DSub e e' := fun j e e' h => by simp at h
theorem qI {d d' : DV} {r r' : List DV} (h : DSub d d') (k : ∀ (j : Nat) (e e' : DV), r[j]? = some e -> r'[j]? = some e' -> DSub e e') : ∀ (j : Nat) (e e' : DV), (d :: r)[j]? = some e -> (d' :: r')[j]? = some e' -> DSub e e' := fun j e e' h1 h2 => by
 cases j with
 | zero => simp at h1 h2;subst h1 h2;exact h
 | succ j => exact k j e e' (by simpa using h1) (by simpa using h2)
section
variable {E : AX} {R : DV -> List ABlk -> Prop}
theorem c_sub {d d2 : DV} {σ : List ABlk} (h : DSub d d2) (k : AClose E R d2 σ) : AClose E R d σ := Ze (fun L v hv => h.rep hv) k
end
end Go.Av
end
section
namespace Go.Proofs
open Go.Av
variable {G : Nat -> DV}
attribute [local irreducible] OpSem WR Zc Zp ACalls ZS AClose RV
open Go.Bl
def exN : Nd := .mk 27 0 0 [.mk 26 1 0 [.mk 0 0 0 [], .mk 13 0 0 [.mk 14 0 0 [.mk 9 0 0 [.mk 6 0 0 [], .mk 4 1 0 []]], .mk 19 0 0 [.mk 6 0 0 []]]]]
def sEx1 : List UInt8 := [112, 114, 111, 103, 114, 97, 109, 32, 48, 10, 102, 117, 110, 32, 49, 32, 40, 105, 110, 116, 41, 32, 123, 10, 32, 32, 118, 48, 32, 61, 32, 40, 118, 48, 32, 43, 32, 49, 41, 10, 32, 32, 114, 101, 116, 117, 114, 110, 32, 118, 48, 10, 125, 10]
def sEx2 : List UInt8 := [112, 114, 111, 103, 114, 97, 109, 32, 48, 32, 102, 117, 110, 32, 49, 32, 40, 105, 110, 116, 41, 32, 123, 32, 114, 101, 116, 117, 114, 110, 32, 40, 118, 48, 41, 32, 125]
theorem ex_par1 : ZV zP sEx1 = (exN, -1) := by kernel_rfl
theorem ex_par2 : (ZV zP sEx2).2 = 34 := by decide +kernel
theorem ex_pr : Zz exN = sEx1 := by decide +kernel
theorem ex_l1 : lineM exN [0, 1, 0, 0] = 3 := by kernel_rfl
theorem ex_l2 : lineM exN [0, 1, 2] = 0 := by kernel_rfl
theorem wkLV {X W0 W1 W2 : Prop} (w0 : W0 := by exact True.intro) (w1 : W1 := by exact True.intro) (w2 : W2 := by exact True.intro) (s : (Unit -> W0) -> (Unit -> W1) -> (Unit -> W2) -> Unit -> X := by (intro w0 w1 w2 _;(repeat' first|(refine Qz ?_;(first|refine Ws rfl ?_|refine WM rfl ?_|refine Z4 rfl rfl ?_|(refine Qw ?_;(first|refine WX rfl rfl ?_|refine Zr rfl rfl ?_))|(refine QK ?_;(first|refine qk rfl rfl hex (WS (Enc.clo _)) ?_|refine qk rfl rfl hp1 (W4 (Ww (WS (Enc.clo _)) (Ww Wj Zb))) ?_|refine qk rfl rfl hp2 (W4 (Ww (WS (Enc.clo _)) (Ww Wj Zb))) ?_|refine WA rfl rfl (hpr) ?_|refine WA rfl rfl (hsm) ?_|refine WA rfl rfl (hl1) ?_|refine WA rfl rfl (hl2) ?_))|refine ZO rfl rfl ?_|refine qh rfl rfl rfl rfl ?_|(refine ZA ?_;(first|refine W5 (cs := Wf [(0 : Int), 1, 0, 0]) rfl rfl (by decide) rfl ?_|refine W5 (cs := Wf [(0 : Int), 1, 2]) rfl rfl (by decide) rfl ?_|refine W5 rfl rfl (by decide) rfl ?_))|refine Zm rfl rfl rfl ?_|refine QB rfl rfl ?_|refine QU (fun _ _ => ?_)))|(refine We ?_;(first|refine Wb ?_|refine Zg rfl ?_|refine WI ?_|refine qd rfl rfl rfl rfl ?_))|(refine Wc ?_;(first|refine Q7 ?_|refine Qm ?_|refine Wi ?_)));(all_goals (repeat (rename_i x;(fail_if_success have : Unit := x);revert x)));(first|done|exact w0 ());(first|done|exact w1 ());(first|done|exact w2 ()))) (u : (W0 \/ True) /\ (W1 \/ True) /\ (W2 \/ True) := by (refine ⟨?_, ?_, ?_⟩ <;> first|exact Or.inl True.intro|exact Or.inr True.intro)) : X := s (fun _ => w0) (fun _ => w1) (fun _ => w2) ()
theorem example_c : Go.Av.Pure Tryz.prog G 57 [] (.agg (Enc.enc exN)) := fun B => by
 refine Qa Tryz.func57 rfl Tryz.ntmps57 rfl (t := []) rfl fun E hE => ?_
 (refine wkLV ?_;intros)
 refine e_1 (Tryz.results57) (Qg (size := 4) rfl rfl rfl rfl) (c_sub ?_ (Qd rfl))
 unfold exN
 repeat' first|exact .refl _|exact .nil _|exact dsub_nil|refine qI ?_ ?_|refine .agg _ _ rfl ?_|refine .sl _ _ _ rfl ?_
theorem lives_c (hG0 : G 0 = shapesT) (hG1 : G 1 = spaceT) (hG : G 6 = pow10T) : Go.Av.Pure Tryz.prog G 20 [] (.b true) := fun B => by
 have hex := example_c (G := G)
 have hp1 := parse_c hG0 hG1 sEx1 (by decide)
 rw [ex_par1] at hp1
 have hp2 := parse_c hG0 hG1 sEx2 (by decide)
 rw [ex_par2] at hp2
 have hok : okN exN := by unfold exN;simp [okN, okL, i64]
 have hsz : Qk exN <= 1000000 := by decide +kernel
 have hpr := print_c hG hG1 exN hok hsz
 rw [ex_pr] at hpr
 have hsm := r05Same_c (G := G) exN hsz
 have hl1 := line_c1 hG hG1 exN hok hsz [0, 1, 0, 0] (by decide)
 rw [ex_l1] at hl1
 have hl2 := line_c1 hG hG1 exN hok hsz [0, 1, 2] (by decide)
 rw [ex_l2] at hl2
 have hd : decide (sEx1 = sEx1) = true := decide_eq_true rfl
 generalize (ZV zP sEx2).1 = x2 at *
 refine Qa Tryz.func20 rfl Tryz.ntmps20 rfl (t := []) rfl fun E hE => ?_
 (refine wkLV ?_;intros)
 all_goals exact e_1 (Tryz.results20) (Qb rfl) (Qd (by simp))
end Go.Proofs
end
section
namespace Go.Av
theorem r_loop5 {P : Program} {G : Nat -> DV} {E : AX} {n : Nat} {N : ASt -> Prop} {xs : List (Nat × (ASt -> Prop))} {R : ASt -> Prop} {st : ASt} {c : Code} {α β γ δ ε : Type} (I : α -> β -> γ -> δ -> ε -> ASt) (pre : α -> β -> γ -> δ -> ε -> Prop) (μ : α -> β -> γ -> δ -> ε -> Nat) (x0 : α) (y0 : β) (z0 : γ) (u0 : δ) (v0 : ε) (h0 : ALe st (I x0 y0 z0 u0 v0)) (hp0 : pre x0 y0 z0 u0 v0)
  (round : ∀ x y z u v, pre x y z u v -> WR P G E n c (fun st' => ∃ x' y' z' u' v', pre x' y' z' u' v' /\ μ x' y' z' u' v' < μ x y z u v /\ ALe st' (I x' y' z' u' v')) xs R (I x y z u v)) : WR P G E n (.loop c) N xs R st :=
 WY (fun s : α × β × γ × δ × ε => I s.1 s.2.1 s.2.2.1 s.2.2.2.1 s.2.2.2.2) (fun s => pre s.1 s.2.1 s.2.2.1 s.2.2.2.1 s.2.2.2.2) (fun s => μ s.1 s.2.1 s.2.2.1 s.2.2.2.1 s.2.2.2.2) (x0, y0, z0, u0, v0) h0 hp0 fun s hs a w hr => wp_mono (round s.1 s.2.1 s.2.2.1 s.2.2.2.1 s.2.2.2.2 hs a w hr) fun e a' w' ⟨st', hr', hq⟩ => ⟨st', hr', by
  cases e with
  | normal => obtain ⟨x', y', z', u', v', h1, h2, h3⟩ := hq;exact ⟨(x', y', z', u', v'), h1, h2, h3⟩
  | exit id => exact hq
  | ret => exact hq
  | goto l => exact hq
  | _ => exact hq⟩
end Go.Av
end
