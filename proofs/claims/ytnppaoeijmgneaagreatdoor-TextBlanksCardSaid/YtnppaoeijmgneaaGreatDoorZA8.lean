/-
  TextBlanks: for every input the call returns true, and each argument reads behind the call as it read before.
  (The last part of the proof: S3 S4 BW RT YA.)
-/
import Derived.Test.YtnppaoeijmgneaaGreatDoorRows
import Derived.ProofKit
import Derived.LaidMore
import Derived.LaidHandle
import Derived.LaidSub
import Derived.MakeChecks
import Derived.OpenShut
import Derived.Deep.Strs
import Derived.Stop.Joined
import Derived.Test.YtnppaoeijmgneaaGreatDoorCards
import Derived.Test.YtnppaoeijmgneaaGreatDoorTie
import Derived.SizedLaws
import Derived.SevenTiedAt
import Derived.Lay
import Derived.Test.YtnppaoeijmgneaaGreatDoorZA1
import Derived.Test.YtnppaoeijmgneaaGreatDoorZA2
import Derived.Test.YtnppaoeijmgneaaGreatDoorZA4
import Derived.Test.YtnppaoeijmgneaaGreatDoorZA5
import Derived.Test.YtnppaoeijmgneaaGreatDoorZA6
import Derived.Test.YtnppaoeijmgneaaGreatDoorZA7
set_option linter.unusedSimpArgs false
set_option linter.unusedVariables false
set_option maxRecDepth 100000
set_option maxHeartbeats 4000000
section
namespace Go.Proofs
open Go.Av
variable {G : Nat -> DV}
attribute [local irreducible] OpSem ZA ZV Z8 ACalls AEnd AClose RV
open Go.Bl
section
variable {P : Program} {G : Nat -> DV} {B : Nat} {f : Operand -> DV} {σ : List ABlk} {K : DV -> List ABlk -> Prop} {dst : Option Tmp} {type : TypeId} {pos : String} {after : Array Edge} {gd : Option (Nat × Bool)}
theorem s_min_as {ts : Array TypeId} {x y : Operand} {k1 : IntKind} {a b c : Int} (hx : f x = .sc (.int k1 a)) (hy : f y = .sc (.int k1 b)) (hc : min a b = c) (k : K (.sc (.int k1 c)) σ) : OpSem P G B ⟨dst, .call ⟨.builtin .min, #[x, y], ts⟩, type, pos, after, gd⟩ f σ K := s_min hx hy (by rw [hc]; exact k)
end
structure Tr where
 t : List UInt8
 a : Nat
 k : Int
deriving DecidableEq
instance : Enc Tr where
 enc x := [W6 x.t, .i x.a, .i x.k]
 es := 3
 len _ := rfl
 one _ d hd := by
  simp only [List.mem_cons, List.not_mem_nil, or_false] at hd
  rcases hd with rfl | rfl | rfl <;> rfl
 clo r d hd := by
  simp only [List.mem_cons, List.not_mem_nil, or_false] at hd
  rcases hd with rfl | rfl | rfl <;> exact Wy
 pos := by decide
def kindM (t : List UInt8) : Int := if t = [] \/ letB (t.getD 0 0) = true then 0 else if digB (t.getD 0 0) = true then 1 else 2
theorem getD_drop (s : List UInt8) (a n : Nat) : (s.drop a).getD n 0 = s.getD (a + n) 0 := by
 rw [List.getD_eq_getElem?_getD, List.getD_eq_getElem?_getD, List.getElem?_drop]
theorem drop_take' (s : List UInt8) (a n : Nat) : (s.take (a + n)).drop a = (s.drop a).take n := by
 rw [List.drop_take]; congr 1; omega
theorem prefix_iff (s t : List UInt8) : Lib.hasPrefix s t = true ↔ t.length <= s.length /\ s.take t.length = t := by
 unfold Lib.hasPrefix
 rw [List.isPrefixOf_iff_prefix, List.prefix_iff_eq_take]
 constructor
 ·intro h
  refine ⟨?_, h.symm⟩
  have := congrArg List.length h
  rw [List.length_take] at this; omega
 ·intro h; exact h.2.symm
theorem signs_hit {s : List UInt8} : ∀ (L : List (List UInt8)) (i : Nat) (hi : i < L.length), (∀ j (h : j < L.length), j < i -> Lib.hasPrefix s L[j] = false) -> Lib.hasPrefix s L[i] = true -> (L.find? (fun t => Lib.hasPrefix s t)).getD [] = L[i]
 | x :: r, 0, hi, _, h => by rw [List.find?_cons]; simp at h; simp [h]
 | x :: r, i + 1, hi, hno, h => by
  have h0 := hno 0 (by simp) (by omega)
  simp at h0
  rw [List.find?_cons, h0]
  exact signs_hit r i (by simpa using hi) (fun j hj hji => hno (j + 1) (by simpa using hj) (by omega)) h
theorem signs_miss {s : List UInt8} : ∀ (L : List (List UInt8)), (∀ j (h : j < L.length), Lib.hasPrefix s L[j] = false) -> (L.find? (fun t => Lib.hasPrefix s t)).getD [] = []
 | [], _ => rfl
 | x :: r, hno => by
  have h0 := hno 0 (by simp)
  simp at h0
  rw [List.find?_cons, h0]
  exact signs_miss r fun j hj => hno (j + 1) (by simpa using hj)
theorem r_signs_c : Go.Av.Pure Tryz.prog G 30 [] (Wi (signsT.map Str.mk)) := fun B => by
 refine Qa Tryz.func30 rfl Tryz.ntmps30 rfl (t := []) rfl fun E hE => ?_
 (repeat' first | (refine Qo ?_; (first | (refine Qd ?_; refine Q5 rfl ?_) | (refine QK ?_; refine Z3 rfl rfl (by decide) rfl ?_))) | (refine Qv ?_; (first | refine Qu ?_ | refine QY rfl ?_)) | (refine Qs ?_; (first | refine Qw ?_ | refine Qc ?_ | refine QM ?_)))
 refine e_1 Tryz.results30 (QQ rfl) (Q2 ?_)
 rfl
theorem r_next_c (s : List UInt8) (a : Nat) (ha : a < s.length) (hs : s.length <= 100000000) : Go.Av.Pure Tryz.prog G 29 [W6 s, .i a] (.agg [W6 (WA (s.drop a)), .i a, .i (kindM (WA (s.drop a)))]) := fun B => by
 have hl0 := r_letter_c (G := G) (s.getD a 0)
 have hd0 := r_digit_c (G := G) (s.getD a 0)
 have e0 : (s.drop a).getD 0 0 = s.getD a 0 := getD_drop s a 0
 have hpl : (ZG (s.drop a)).length <= (s.drop a).length := (List.takeWhile_sublist _).length_le
 have hdl : (s.drop a).length = s.length - a := List.length_drop
 have htk : (s.take (a + (ZG (s.drop a)).length)).drop a = ZG (s.drop a) := by rw [drop_take']; exact take_pre _ _
 have htk2 : (s.drop a).take (ZG (s.drop a)).length = ZG (s.drop a) := take_pre _ _
 by_cases hL : letB (s.getD a 0) = true
 ·rw [hL] at hl0
  have hr : ∀ b, runB ((s.drop a).getD 0 0) b = (digB b || letB b) := fun b => by rw [e0]; unfold runB; rw [hL]; simp
  have hpos : 0 < (ZG (s.drop a)).length := by
   rcases Nat.eq_zero_or_pos (ZG (s.drop a)).length with h | h
   ·have := run_end (p := runB ((s.drop a).getD 0 0)) (s := s.drop a) (n := 0) h.symm (by omega)
    rw [hr, e0, hL] at this; simp at this
   ·exact h
  have hfm : WA (s.drop a) = ZG (s.drop a) := by
   unfold WA
   rw [if_pos hpos, if_pos (by rw [e0, hL]; rfl)]
  have hk0 : kindM (ZG (s.drop a)) = 0 := by
   unfold kindM
   rw [if_pos]
   right
   have h2 : (ZG (s.drop a)).getD 0 0 = s.getD a 0 := by
    rw [<- htk2, List.getD_eq_getElem?_getD, List.getElem?_take, if_pos hpos, <- List.getD_eq_getElem?_getD, e0]
   rw [h2]; exact hL
  rw [hfm, hk0]
  refine Qa Tryz.func29 rfl Tryz.ntmps29 rfl (t := [(0, W6 s), (1, .i a)]) rfl fun E hE => ?_
  (repeat' first | (refine Qo ?_; (first | (refine Qj ?_; refine QU rfl ?_) | (refine Qd ?_; refine Q5 rfl ?_) | (refine Qk ?_; refine W5 rfl rfl (hl0) ?_) | (refine Zg ?_; refine Wp rfl rfl (by first | assumption | omega | (simp only [List.length_take, List.length_drop]; omega)) ?_) | (refine QG ?_; refine QD (fun _ _ => ?_)))) | (refine Qv ?_; (first | refine Qu ?_ | refine QY rfl ?_)) | (refine Qs ?_; (first | refine Qw ?_ | refine Qc ?_ | refine Qm ?_ | refine QB rfl ?_)))
  rename_i gb hgb
  refine Z5 (fun k : Nat => ⟨[(0, W6 s), (1, .i a), (4, .ptr 0 gb 0), (5, .i k)], [.row gb [W6 [], .i 0, .i 0]]⟩) (fun k => a <= k /\ k <= a + (ZG (s.drop a)).length) (fun k => s.length - k) a ?_ (by omega) ?_
  ·exact zal rfl
  intro k ⟨hk1, hk2⟩
  have hlk := r_letter_c (G := G) (s.getD k 0)
  have hdk := r_digit_c (G := G) (s.getD k 0)
  have ek : (s.drop a).getD (k - a) 0 = s.getD k 0 := by rw [getD_drop]; congr 1; omega
  by_cases hkl : k < a + (ZG (s.drop a)).length
  ·have hks : k < s.length := by omega
   have hrun := run_in (p := runB ((s.drop a).getD 0 0)) (s := s.drop a) (n := k - a) (show k - a < (ZG (s.drop a)).length by omega)
   rw [hr, ek] at hrun
   by_cases hkL : letB (s.getD k 0) = true
   ·rw [hkL] at hlk
    (repeat' first | (refine Qo ?_; (first | (refine Qj ?_; refine QU rfl ?_) | (refine Qd ?_; refine Q5 rfl ?_) | (refine Qh ?_; (first | refine Zr rfl rfl (by omega) ?_ | refine Wh rfl rfl ?_)) | (refine Qk ?_; (first | refine Wa rfl ?_ | refine W5 rfl rfl (hlk) ?_)) | (refine QJ ?_; refine Ze rfl rfl ?_) | (refine Zg ?_; refine Wp rfl rfl (by first | assumption | omega | (simp only [List.length_take, List.length_drop]; omega)) ?_))) | (refine Qv ?_; (first | refine Qu ?_ | refine QY rfl ?_ | refine WX rfl rfl rfl rfl ?_ | refine Zl rfl rfl rfl rfl ?_ | refine Wv rfl rfl (by omega) ?_)) | (refine Qs ?_; (first | refine Qw ?_ | refine Qc ?_ | refine Qm ?_ | refine QR ?_ | refine QB rfl ?_)))
    refine ⟨k + 1, by omega, by omega, ?_⟩
    exact zal rfl
   ·have hkL2 : letB (s.getD k 0) = false := by simpa using hkL
    rw [hkL2] at hlk hrun
    rw [show digB (s.getD k 0) = true by simpa using hrun] at hdk
    (repeat' first | (refine Qo ?_; (first | (refine Qj ?_; refine QU rfl ?_) | (refine Qd ?_; refine Q5 rfl ?_) | (refine Qh ?_; (first | refine Zr rfl rfl (by omega) ?_ | refine Wh rfl rfl ?_)) | (refine Qk ?_; (first | refine Wa rfl ?_ | refine W5 rfl rfl (hlk) ?_ | refine W5 rfl rfl (hdk) ?_)) | (refine QJ ?_; (first | refine Ze rfl rfl ?_ | refine WZ rfl rfl ?_)) | (refine Zg ?_; refine Wp rfl rfl (by first | assumption | omega | (simp only [List.length_take, List.length_drop]; omega)) ?_))) | (refine Qv ?_; (first | refine Qu ?_ | refine QY rfl ?_ | refine WX rfl rfl rfl rfl ?_ | refine Wv rfl rfl (by omega) ?_)) | (refine Qs ?_; (first | refine Qw ?_ | refine Qc ?_ | refine Qm ?_ | refine QR ?_ | refine QB rfl ?_)))
    refine ⟨k + 1, by omega, by omega, ?_⟩
    exact zal rfl
  ·have hke : k = a + (ZG (s.drop a)).length := by omega
   by_cases hks : k < s.length
   ·have hrun := run_end (p := runB ((s.drop a).getD 0 0)) (s := s.drop a) (n := k - a) (show k - a = (ZG (s.drop a)).length by omega) (by omega)
    rw [hr, ek] at hrun
    simp at hrun
    rw [show letB (s.getD k 0) = false by simpa using hrun.2] at hlk
    rw [show digB (s.getD k 0) = false by simpa using hrun.1] at hdk
    (repeat' first | (refine Qo ?_; (first | (refine Qj ?_; refine QU rfl ?_) | (refine Qh ?_; refine Wh rfl rfl ?_) | (refine Qk ?_; (first | refine Wa rfl ?_ | refine W5 rfl rfl (hlk) ?_ | refine W5 rfl rfl (hdk) ?_)) | (refine QJ ?_; (first | refine Ze rfl rfl ?_ | refine WZ rfl rfl ?_)) | (refine Qx ?_; refine Qe rfl rfl rfl (by first | assumption | exact Enc.len _ | rfl) (by first | assumption | exact Enc.len _ | rfl) rfl ?_) | (refine Zg ?_; refine Wp rfl rfl (by first | assumption | omega | (simp only [List.length_take, List.length_drop]; omega)) ?_) | (refine QS ?_; refine QC rfl rfl ?_) | (refine Zx ?_; refine Zy rfl rfl rfl (by first | assumption | omega | (simp only [List.length_take, List.length_drop]; omega)) (by first | assumption | omega | (simp only [List.length_take, List.length_drop]; omega)) ?_))) | (refine Qv ?_; (first | refine Qu ?_ | refine QY rfl ?_ | refine Q1 ?_ | refine WX rfl rfl rfl rfl ?_ | refine Wv rfl rfl (by omega) ?_)) | (refine Qs ?_; (first | refine Qw ?_ | refine Qc ?_ | refine QH rfl ?_ | refine WI rfl ?_ | refine QM ?_)))
    exact e_1 (Tryz.results29) (QA (size := 3) rfl rfl rfl rfl) (Q2 (by rw [hke, htk]))
   ·(repeat' first | (refine Qo ?_; (first | (refine Qj ?_; refine QU rfl ?_) | (refine Qh ?_; refine Wh rfl rfl ?_) | (refine Qk ?_; refine Wa rfl ?_) | (refine QJ ?_; refine WZ rfl rfl ?_) | (refine Qx ?_; refine Qe rfl rfl rfl (by first | assumption | exact Enc.len _ | rfl) (by first | assumption | exact Enc.len _ | rfl) rfl ?_) | (refine QS ?_; refine QC rfl rfl ?_) | (refine Zx ?_; refine Zy rfl rfl rfl (by first | assumption | omega | (simp only [List.length_take, List.length_drop]; omega)) (by first | assumption | omega | (simp only [List.length_take, List.length_drop]; omega)) ?_))) | (refine Qv ?_; (first | refine Qu ?_ | refine QY rfl ?_ | refine Q1 ?_ | refine Zl rfl rfl rfl rfl ?_ | refine o_gu rfl rfl rfl rfl rfl ?_ | refine We rfl rfl (by omega) ?_)) | (refine Qs ?_; (first | refine Qw ?_ | refine Qc ?_ | refine QH rfl ?_ | refine WI rfl ?_ | refine QM ?_)))
    exact e_1 (Tryz.results29) (QA (size := 3) rfl rfl rfl rfl) (Q2 (by rw [hke, htk]))
 have hL2 : letB (s.getD a 0) = false := by simpa using hL
 rw [hL2] at hl0
 have hr : ∀ b, runB ((s.drop a).getD 0 0) b = digB b := fun b => by rw [e0]; unfold runB; rw [hL2]; simp
 by_cases hD : digB (s.getD a 0) = true
 ·rw [hD] at hd0
  have hpos : 0 < (ZG (s.drop a)).length := by
   rcases Nat.eq_zero_or_pos (ZG (s.drop a)).length with h | h
   ·have := run_end (p := runB ((s.drop a).getD 0 0)) (s := s.drop a) (n := 0) h.symm (by omega)
    rw [hr, e0, hD] at this; simp at this
   ·exact h
  have h2 : (ZG (s.drop a)).getD 0 0 = s.getD a 0 := by
   rw [<- htk2, List.getD_eq_getElem?_getD, List.getElem?_take, if_pos hpos, <- List.getD_eq_getElem?_getD, e0]
  have hall : (ZG (s.drop a)).all digB = true := by
   rw [List.all_eq_true]
   intro b hb
   obtain ⟨j, hj, rfl⟩ := List.getElem_of_mem hb
   have h3 := run_in (p := runB ((s.drop a).getD 0 0)) (s := s.drop a) (n := j) hj
   rw [hr] at h3
   have h4 : (s.drop a).getD j 0 = (ZG (s.drop a))[j] := by
    have : (ZG (s.drop a)).getD j 0 = (s.drop a).getD j 0 := by
     rw [<- htk2, List.getD_eq_getElem?_getD, List.getElem?_take, if_pos hj, <- List.getD_eq_getElem?_getD]
    rw [<- this, List.getD_eq_getElem?_getD, List.getElem?_eq_getElem hj]; rfl
   rwa [h4] at h3
  have hfm : WA (s.drop a) = if qC (ZG (s.drop a)) = true then ZG (s.drop a) else [] := by
   unfold WA
   rw [if_pos hpos, e0, hL2, Bool.false_or]
  have hk1 : kindM (ZG (s.drop a)) = 1 := by
   unfold kindM
   rw [if_neg, if_pos (by rw [h2]; exact hD)]
   rintro (h | h)
   ·rw [h] at hpos; simp at hpos
   ·rw [h2, hL2] at h; cases h
  have hnb : qC (ZG (s.drop a)) = (decide ((ZG (s.drop a)).length <= 3) && (decide (s.getD a 0 ≠ 48) || decide ((ZG (s.drop a)).length = 1))) := by
   unfold qC
   rw [hall, h2, decide_eq_true (show 1 <= (ZG (s.drop a)).length from hpos)]; simp
  refine Qa Tryz.func29 rfl Tryz.ntmps29 rfl (t := [(0, W6 s), (1, .i a)]) rfl fun E hE => ?_
  (repeat' first | (refine Qo ?_; (first | (refine Qj ?_; refine QU rfl ?_) | (refine Qd ?_; refine Q5 rfl ?_) | (refine Qk ?_; (first | refine W5 rfl rfl (hl0) ?_ | refine W5 rfl rfl (hd0) ?_)) | (refine Zg ?_; refine Wp rfl rfl (by first | assumption | omega | (simp only [List.length_take, List.length_drop]; omega)) ?_) | (refine QG ?_; refine QD (fun _ _ => ?_)))) | (refine Qv ?_; (first | refine Qu ?_ | refine QY rfl ?_)) | (refine Qs ?_; (first | refine Qw ?_ | refine Qc ?_ | refine Qm ?_ | refine QR ?_ | refine QB rfl ?_ | refine QH rfl ?_)))
  rename_i gb hgb
  refine Z5 (fun k : Nat => ⟨[(0, W6 s), (1, .i a), (4, .ptr 0 gb 0), (5, .i k)], [.row gb [W6 [], .i 0, .i 0]]⟩) (fun k => a <= k /\ k <= a + (ZG (s.drop a)).length) (fun k => s.length - k) a ?_ (by omega) ?_
  ·exact zal rfl
  intro k ⟨hk1', hk2⟩
  have hdk := r_digit_c (G := G) (s.getD k 0)
  have ek : (s.drop a).getD (k - a) 0 = s.getD k 0 := by rw [getD_drop]; congr 1; omega
  by_cases hkl : k < a + (ZG (s.drop a)).length
  ·have hks : k < s.length := by omega
   have hrun := run_in (p := runB ((s.drop a).getD 0 0)) (s := s.drop a) (n := k - a) (show k - a < (ZG (s.drop a)).length by omega)
   rw [hr, ek] at hrun
   rw [hrun] at hdk
   (repeat' first | (refine Qo ?_; (first | (refine Qj ?_; refine QU rfl ?_) | (refine Qd ?_; refine Q5 rfl ?_) | (refine Qh ?_; (first | refine Zr rfl rfl (by omega) ?_ | refine Wh rfl rfl ?_)) | (refine Qk ?_; (first | refine Wa rfl ?_ | refine W5 rfl rfl (hdk) ?_)) | (refine QJ ?_; refine Ze rfl rfl ?_) | (refine Zg ?_; refine Wp rfl rfl (by first | assumption | omega | (simp only [List.length_take, List.length_drop]; omega)) ?_))) | (refine Qv ?_; (first | refine Qu ?_ | refine QY rfl ?_ | refine WX rfl rfl rfl rfl ?_ | refine Wv rfl rfl (by omega) ?_)) | (refine Qs ?_; (first | refine Qw ?_ | refine Qc ?_ | refine Qm ?_ | refine QR ?_ | refine QB rfl ?_)))
   refine ⟨k + 1, by omega, by omega, ?_⟩
   exact zal rfl
  ·have hke : k = a + (ZG (s.drop a)).length := by omega
   have htk3 : (s.take k).drop a = ZG (s.drop a) := by rw [hke]; exact htk
   have hkn : k - a = (ZG (s.drop a)).length := by omega
   have hkn : (k : Int) - (a : Int) = ((ZG (s.drop a)).length : Nat) := by omega
   have hfin : k < s.length -> digB (s.getD k 0) = false := fun hks => by
    have hrun := run_end (p := runB ((s.drop a).getD 0 0)) (s := s.drop a) (n := k - a) (show k - a = (ZG (s.drop a)).length by omega) (by omega)
    rwa [hr, ek] at hrun
   have hkS : k <= s.length := by omega
   clear hpl hdl htk htk2 hk2 hkl hke ek hr
   by_cases h3 : 3 < (ZG (s.drop a)).length
   ·have hf : WA (s.drop a) = [] := by rw [hfm, hnb, decide_eq_false (show ¬ (ZG (s.drop a)).length <= 3 by omega)]; rfl
    generalize ZG (s.drop a) = pre at *
    by_cases hks : k < s.length
    ·rw [hfin hks] at hdk
     (repeat' first | (refine Qo ?_; (first | (refine Qj ?_; refine QU rfl ?_) | (refine Qh ?_; (first | refine Wh rfl rfl ?_ | refine ZM rfl rfl ?_ | refine W1 rfl rfl (by omega) ?_)) | (refine Qk ?_; (first | refine Wa rfl ?_ | refine W5 rfl rfl (hdk) ?_)) | (refine QJ ?_; refine Ze rfl rfl ?_) | (refine Qx ?_; refine Qe rfl rfl rfl (by first | assumption | exact Enc.len _ | rfl) (by first | assumption | exact Enc.len _ | rfl) rfl ?_) | (refine Zg ?_; refine Wp rfl rfl (by first | assumption | omega | (simp only [List.length_take, List.length_drop]; omega)) ?_) | (refine QS ?_; refine QC rfl rfl ?_))) | (refine Qv ?_; (first | refine Qu ?_ | refine QY rfl ?_ | refine Q1 ?_ | refine WX rfl rfl rfl rfl ?_ | refine Zl rfl rfl rfl rfl ?_ | refine o_gu rfl rfl rfl rfl rfl ?_ | refine Wv rfl rfl (by omega) ?_)) | (refine Qs ?_; (first | refine Qw ?_ | refine Qc ?_ | refine QB rfl ?_ | refine QH rfl ?_ | refine WI rfl ?_ | refine QM ?_)))
     all_goals first | (exfalso; omega) | exact e_1 (Tryz.results29) (QA (size := 3) rfl rfl rfl rfl) (Q2 (by rw [hf]; rfl)) | exact e_1 (Tryz.results29) (QA (size := 3) rfl rfl rfl rfl) (Q2 (by rw [hf, hk1, htk3])) | exact absurd h8 (by assumption) | exact absurd (by assumption) h8 | skip
    ·(repeat' first | (refine Qo ?_; (first | (refine Qj ?_; refine QU rfl ?_) | (refine Qh ?_; (first | refine Wh rfl rfl ?_ | refine ZM rfl rfl ?_ | refine W1 rfl rfl (by omega) ?_)) | (refine Qk ?_; refine Wa rfl ?_) | (refine QJ ?_; (first | refine Ze rfl rfl ?_ | refine WZ rfl rfl ?_)) | (refine Qx ?_; refine Qe rfl rfl rfl (by first | assumption | exact Enc.len _ | rfl) (by first | assumption | exact Enc.len _ | rfl) rfl ?_) | (refine QS ?_; refine QC rfl rfl ?_))) | (refine Qv ?_; (first | refine Qu ?_ | refine QY rfl ?_ | refine Q1 ?_ | refine Zl rfl rfl rfl rfl ?_ | refine o_gu rfl rfl rfl rfl rfl ?_ | refine Wv rfl rfl (by omega) ?_ | refine We rfl rfl (by omega) ?_)) | (refine Qs ?_; (first | refine Qw ?_ | refine Qc ?_ | refine QB rfl ?_ | refine QH rfl ?_ | refine WI rfl ?_ | refine QM ?_)))
     all_goals first | (exfalso; omega) | exact e_1 (Tryz.results29) (QA (size := 3) rfl rfl rfl rfl) (Q2 (by rw [hf]; rfl)) | exact e_1 (Tryz.results29) (QA (size := 3) rfl rfl rfl rfl) (Q2 (by rw [hf, hk1, htk3])) | exact absurd h8 (by assumption) | exact absurd (by assumption) h8 | skip
   by_cases h1 : (ZG (s.drop a)).length = 1
   ·have hf : WA (s.drop a) = ZG (s.drop a) := by rw [hfm, hnb, decide_eq_true h1, decide_eq_true (show (ZG (s.drop a)).length <= 3 by omega)]; simp
    generalize ZG (s.drop a) = pre at *
    by_cases hks : k < s.length
    ·rw [hfin hks] at hdk
     (repeat' first | (refine Qo ?_; (first | (refine Qj ?_; refine QU rfl ?_) | (refine Qh ?_; (first | refine Wh rfl rfl ?_ | refine ZM rfl rfl ?_ | refine W1 rfl rfl (by omega) ?_)) | (refine Qk ?_; (first | refine Wa rfl ?_ | refine W5 rfl rfl (hdk) ?_)) | (refine QJ ?_; (first | refine Ze rfl rfl ?_ | refine WZ rfl rfl ?_)) | (refine Qx ?_; refine Qe rfl rfl rfl (by first | assumption | exact Enc.len _ | rfl) (by first | assumption | exact Enc.len _ | rfl) rfl ?_) | (refine Zg ?_; refine Wp rfl rfl (by first | assumption | omega | (simp only [List.length_take, List.length_drop]; omega)) ?_) | (refine QS ?_; refine QC rfl rfl ?_) | (refine Zx ?_; refine Zy rfl rfl rfl (by first | assumption | omega | (simp only [List.length_take, List.length_drop]; omega)) (by first | assumption | omega | (simp only [List.length_take, List.length_drop]; omega)) ?_))) | (refine Qv ?_; (first | refine Qu ?_ | refine QY rfl ?_ | refine Q1 ?_ | refine WX rfl rfl rfl rfl ?_ | refine Zl rfl rfl rfl rfl ?_ | refine Wv rfl rfl (by omega) ?_ | refine We rfl rfl (by omega) ?_)) | (refine Qs ?_; (first | refine Qw ?_ | refine Qc ?_ | refine QR ?_ | refine QH rfl ?_ | refine WI rfl ?_ | refine QM ?_)))
     all_goals first | (exfalso; omega) | exact e_1 (Tryz.results29) (QA (size := 3) rfl rfl rfl rfl) (Q2 (by rw [hf]; rfl)) | exact e_1 (Tryz.results29) (QA (size := 3) rfl rfl rfl rfl) (Q2 (by rw [hf, hk1, htk3])) | exact absurd h8 (by assumption) | exact absurd (by assumption) h8 | skip
    ·(repeat' first | (refine Qo ?_; (first | (refine Qj ?_; refine QU rfl ?_) | (refine Qh ?_; (first | refine Wh rfl rfl ?_ | refine ZM rfl rfl ?_ | refine W1 rfl rfl (by omega) ?_)) | (refine Qk ?_; refine Wa rfl ?_) | (refine QJ ?_; refine WZ rfl rfl ?_) | (refine Qx ?_; refine Qe rfl rfl rfl (by first | assumption | exact Enc.len _ | rfl) (by first | assumption | exact Enc.len _ | rfl) rfl ?_) | (refine QS ?_; refine QC rfl rfl ?_) | (refine Zx ?_; refine Zy rfl rfl rfl (by first | assumption | omega | (simp only [List.length_take, List.length_drop]; omega)) (by first | assumption | omega | (simp only [List.length_take, List.length_drop]; omega)) ?_))) | (refine Qv ?_; (first | refine Qu ?_ | refine QY rfl ?_ | refine Q1 ?_ | refine WX rfl rfl rfl rfl ?_ | refine Zl rfl rfl rfl rfl ?_ | refine We rfl rfl (by omega) ?_)) | (refine Qs ?_; (first | refine Qw ?_ | refine Qc ?_ | refine QR ?_ | refine QH rfl ?_ | refine WI rfl ?_ | refine QM ?_)))
     all_goals first | (exfalso; omega) | exact e_1 (Tryz.results29) (QA (size := 3) rfl rfl rfl rfl) (Q2 (by rw [hf]; rfl)) | exact e_1 (Tryz.results29) (QA (size := 3) rfl rfl rfl rfl) (Q2 (by rw [hf, hk1, htk3])) | exact absurd h8 (by assumption) | exact absurd (by assumption) h8 | skip
   by_cases h8 : ((s.getD a 0).toNat : Int) = 48
   ·have h88 : s.getD a 0 = 48 := UInt8.toNat_inj.1 (by rw [show (48 : UInt8).toNat = 48 from rfl]; omega)
    have hf : WA (s.drop a) = [] := by rw [hfm, hnb, h88, decide_eq_false h1]; simp
    generalize ZG (s.drop a) = pre at *
    by_cases hks : k < s.length
    ·rw [hfin hks] at hdk
     (repeat' first | (refine Qo ?_; (first | (refine Qj ?_; refine QU rfl ?_) | (refine Qh ?_; (first | refine Wh rfl rfl ?_ | refine ZM rfl rfl ?_ | refine Wc rfl rfl ?_ | refine W1 rfl rfl (by omega) ?_)) | (refine Qk ?_; (first | refine Wa rfl ?_ | refine W5 rfl rfl (hdk) ?_)) | (refine QJ ?_; (first | refine Ze rfl rfl ?_ | refine WZ rfl rfl ?_)) | (refine Qx ?_; refine Qe rfl rfl rfl (by first | assumption | exact Enc.len _ | rfl) (by first | assumption | exact Enc.len _ | rfl) rfl ?_) | (refine Zg ?_; refine Wp rfl rfl (by first | assumption | omega | (simp only [List.length_take, List.length_drop]; omega)) ?_) | (refine QS ?_; refine QC rfl rfl ?_))) | (refine Qv ?_; (first | refine Qu ?_ | refine QY rfl ?_ | refine Q1 ?_ | refine WX rfl rfl rfl rfl ?_ | refine Wv rfl rfl (by omega) ?_ | refine We rfl rfl (by omega) ?_)) | (refine Qs ?_; (first | refine Qw ?_ | refine Qc ?_ | refine QH rfl ?_ | refine Qr rfl (by omega) ?_ | refine WI rfl ?_ | refine QM ?_)))
     all_goals first | (exfalso; omega) | exact e_1 (Tryz.results29) (QA (size := 3) rfl rfl rfl rfl) (Q2 (by rw [hf]; rfl)) | exact e_1 (Tryz.results29) (QA (size := 3) rfl rfl rfl rfl) (Q2 (by rw [hf, hk1, htk3])) | exact absurd h8 (by assumption) | exact absurd (by assumption) h8 | skip
    ·(repeat' first | (refine Qo ?_; (first | (refine Qj ?_; refine QU rfl ?_) | (refine Qh ?_; (first | refine Wh rfl rfl ?_ | refine ZM rfl rfl ?_ | refine Wc rfl rfl ?_ | refine W1 rfl rfl (by omega) ?_)) | (refine Qk ?_; refine Wa rfl ?_) | (refine QJ ?_; (first | refine Ze rfl rfl ?_ | refine WZ rfl rfl ?_)) | (refine Qx ?_; refine Qe rfl rfl rfl (by first | assumption | exact Enc.len _ | rfl) (by first | assumption | exact Enc.len _ | rfl) rfl ?_) | (refine Zg ?_; refine Wp rfl rfl (by first | assumption | omega | (simp only [List.length_take, List.length_drop]; omega)) ?_) | (refine QS ?_; refine QC rfl rfl ?_))) | (refine Qv ?_; (first | refine Qu ?_ | refine QY rfl ?_ | refine Q1 ?_ | refine WX rfl rfl rfl rfl ?_ | refine Zl rfl rfl rfl rfl ?_ | refine Wv rfl rfl (by omega) ?_ | refine We rfl rfl (by omega) ?_)) | (refine Qs ?_; (first | refine Qw ?_ | refine Qc ?_ | refine QH rfl ?_ | refine Qr rfl (by omega) ?_ | refine WI rfl ?_ | refine QM ?_)))
     all_goals first | (exfalso; omega) | exact e_1 (Tryz.results29) (QA (size := 3) rfl rfl rfl rfl) (Q2 (by rw [hf]; rfl)) | exact e_1 (Tryz.results29) (QA (size := 3) rfl rfl rfl rfl) (Q2 (by rw [hf, hk1, htk3])) | exact absurd h8 (by assumption) | exact absurd (by assumption) h8 | skip
   ·have h88 : ¬ s.getD a 0 = 48 := fun h => h8 (by rw [h]; rfl)
    have hf : WA (s.drop a) = ZG (s.drop a) := by rw [hfm, hnb, decide_eq_true h88, decide_eq_true (show (ZG (s.drop a)).length <= 3 by omega)]; simp
    generalize ZG (s.drop a) = pre at *
    by_cases hks : k < s.length
    ·rw [hfin hks] at hdk
     (repeat' first | (refine Qo ?_; (first | (refine Qj ?_; refine QU rfl ?_) | (refine Qh ?_; (first | refine Wh rfl rfl ?_ | refine ZM rfl rfl ?_ | refine Wc rfl rfl ?_ | refine W1 rfl rfl (by omega) ?_)) | (refine Qk ?_; (first | refine Wa rfl ?_ | refine W5 rfl rfl (hdk) ?_)) | (refine QJ ?_; (first | refine Ze rfl rfl ?_ | refine WZ rfl rfl ?_)) | (refine Qx ?_; refine Qe rfl rfl rfl (by first | assumption | exact Enc.len _ | rfl) (by first | assumption | exact Enc.len _ | rfl) rfl ?_) | (refine Zg ?_; refine Wp rfl rfl (by first | assumption | omega | (simp only [List.length_take, List.length_drop]; omega)) ?_) | (refine QS ?_; refine QC rfl rfl ?_) | (refine Zx ?_; refine Zy rfl rfl rfl (by first | assumption | omega | (simp only [List.length_take, List.length_drop]; omega)) (by first | assumption | omega | (simp only [List.length_take, List.length_drop]; omega)) ?_))) | (refine Qv ?_; (first | refine Qu ?_ | refine QY rfl ?_ | refine Q1 ?_ | refine WX rfl rfl rfl rfl ?_ | refine Wv rfl rfl (by omega) ?_ | refine We rfl rfl (by omega) ?_)) | (refine Qs ?_; (first | refine Qw ?_ | refine Qc ?_ | refine QR ?_ | refine QH rfl ?_ | refine Qn rfl (by omega) ?_ | refine WI rfl ?_ | refine QM ?_)))
     all_goals first | (exfalso; omega) | exact e_1 (Tryz.results29) (QA (size := 3) rfl rfl rfl rfl) (Q2 (by rw [hf]; rfl)) | exact e_1 (Tryz.results29) (QA (size := 3) rfl rfl rfl rfl) (Q2 (by rw [hf, hk1, htk3])) | exact absurd h8 (by assumption) | exact absurd (by assumption) h8 | skip
    ·(repeat' first | (refine Qo ?_; (first | (refine Qj ?_; refine QU rfl ?_) | (refine Qh ?_; (first | refine Wh rfl rfl ?_ | refine ZM rfl rfl ?_ | refine Wc rfl rfl ?_ | refine W1 rfl rfl (by omega) ?_)) | (refine Qk ?_; refine Wa rfl ?_) | (refine QJ ?_; (first | refine Ze rfl rfl ?_ | refine WZ rfl rfl ?_)) | (refine Qx ?_; refine Qe rfl rfl rfl (by first | assumption | exact Enc.len _ | rfl) (by first | assumption | exact Enc.len _ | rfl) rfl ?_) | (refine Zg ?_; refine Wp rfl rfl (by first | assumption | omega | (simp only [List.length_take, List.length_drop]; omega)) ?_) | (refine QS ?_; refine QC rfl rfl ?_) | (refine Zx ?_; refine Zy rfl rfl rfl (by first | assumption | omega | (simp only [List.length_take, List.length_drop]; omega)) (by first | assumption | omega | (simp only [List.length_take, List.length_drop]; omega)) ?_))) | (refine Qv ?_; (first | refine Qu ?_ | refine QY rfl ?_ | refine Q1 ?_ | refine WX rfl rfl rfl rfl ?_ | refine Zl rfl rfl rfl rfl ?_ | refine Wv rfl rfl (by omega) ?_ | refine We rfl rfl (by omega) ?_)) | (refine Qs ?_; (first | refine Qw ?_ | refine Qc ?_ | refine QR ?_ | refine QH rfl ?_ | refine Qn rfl (by omega) ?_ | refine WI rfl ?_ | refine QM ?_)))
     all_goals first | (exfalso; omega) | exact e_1 (Tryz.results29) (QA (size := 3) rfl rfl rfl rfl) (Q2 (by rw [hf]; rfl)) | exact e_1 (Tryz.results29) (QA (size := 3) rfl rfl rfl rfl) (Q2 (by rw [hf, hk1, htk3])) | exact absurd h8 (by assumption) | exact absurd (by assumption) h8 | skip
 have hD2 : digB (s.getD a 0) = false := by simpa using hD
 rw [hD2] at hd0
 have hpz : (ZG (s.drop a)).length = 0 := by
  rcases Nat.eq_zero_or_pos (ZG (s.drop a)).length with h | h
  ·exact h
  ·have := run_in (p := runB ((s.drop a).getD 0 0)) (s := s.drop a) (n := 0) h
   rw [hr, e0, hD2] at this; cases this
 have hfm : WA (s.drop a) = signM (s.drop a) := by unfold WA; rw [if_neg (by omega)]
 have hsg := r_signs_c (G := G)
 obtain ⟨ls, hls⟩ : ∃ ls, ls = signsT.map Str.mk := ⟨_, rfl⟩
 rw [<- hls] at hsg
 have hsl : ls.length = 24 := by rw [hls]; rfl
 have hel : ∀ (i : Nat) (h : i < ls.length), (ls[i]).l = signsT[i]'(by rw [hls] at h; simpa using h) := fun i h => by subst hls; rw [List.getElem_map]
 have hno : ∀ t ∈ signsT, 1 <= t.length /\ t.length <= 2 /\ kindM t = 2 := by decide
 clear hpl htk htk2 hpz hr
 refine Qa Tryz.func29 rfl Tryz.ntmps29 rfl (t := [(0, W6 s), (1, .i a)]) rfl fun E hE => ?_
 (repeat' first | (refine Qo ?_; (first | (refine Qj ?_; refine QU rfl ?_) | (refine Qd ?_; refine Q5 rfl ?_) | (refine Qk ?_; (first | refine W5 rfl rfl (hl0) ?_ | refine W5 rfl rfl (hd0) ?_ | refine W5 rfl rfl (hsg) ?_)) | (refine Zg ?_; refine Wp rfl rfl (by first | assumption | omega | (simp only [List.length_take, List.length_drop]; omega)) ?_) | (refine QG ?_; refine QD (fun _ _ => ?_)))) | (refine Qv ?_; (first | refine Qu ?_ | refine QY rfl ?_)) | (refine Qs ?_; (first | refine Qw ?_ | refine Qc ?_ | refine Qm ?_ | refine QR ?_ | refine QH rfl ?_)))
 rename_i gb hgb
 refine Z5 (fun i : Nat => ⟨[(0, W6 s), (1, .i a), (4, .ptr 0 gb 0), (6, Wi ls), (7, .i i)], [.row gb [W6 [], .i 0, .i 0]]⟩) (fun i => i <= 24 /\ ∀ j (h : j < signsT.length), j < i -> Lib.hasPrefix (s.drop a) signsT[j] = false) (fun i => 24 - i) 0 ?_ ⟨by omega, fun j h hj => by omega⟩ ?_
 ·exact zal rfl
 intro i ⟨hi, hmiss⟩
 by_cases hil : i < 24
 ·have hil2 : i < ls.length := by omega
  have hi3 : i < signsT.length := hil
  obtain ⟨n1, n2, n3⟩ := hno _ (List.getElem_mem hi3)
  have he := hel i hil2
  have hlen : ls[i].l.length = signsT[i].length := by rw [he]
  by_cases hfit : a + ls[i].l.length <= s.length
  ·have hat : (a : Int) + (ls[i].l.length : Int) = (a + ls[i].l.length : Nat) := by omega
   have hmin : min ((a + ls[i].l.length : Nat) : Int) (s.length : Int) = (a + ls[i].l.length : Nat) := by omega
   have hpx : Lib.hasPrefix (s.drop a) signsT[i] = decide ((s.take (a + ls[i].l.length)).drop a = ls[i].l) := by
    rw [Bool.eq_iff_iff, prefix_iff, decide_eq_true_eq, drop_take', he]
    constructor
    ·intro h; exact h.2
    ·intro h; exact ⟨by omega, h⟩
   by_cases hx : (s.take (a + ls[i].l.length)).drop a = ls[i].l
   ·have hd : decide ((s.take (a + ls[i].l.length)).drop a = ls[i].l) = true := decide_eq_true hx
    have hsm : signM (s.drop a) = ls[i].l := by rw [he]; exact signs_hit signsT i hi3 hmiss (by rw [hpx]; exact hd)
    have hk2 : kindM ls[i].l = 2 := by rw [he]; exact n3
    (repeat' first | (refine Qo ?_; (first | (refine Qj ?_; refine QU rfl ?_) | (refine Qd ?_; refine Q5 rfl ?_) | (refine Ql ?_; refine Wl rfl ?_) | (refine QN ?_; refine Q9 rfl rfl (by first | assumption | omega | (simp; done) | (simp; omega)) ?_) | (refine Qh ?_; refine Wh rfl rfl ?_) | (refine Qk ?_; (first | refine Q6 rfl ?_ | refine Wa rfl ?_)) | (refine Qx ?_; refine Qe rfl rfl rfl (by first | assumption | exact Enc.len _ | rfl) (by first | assumption | exact Enc.len _ | rfl) rfl ?_) | (refine QS ?_; refine QC rfl rfl ?_))) | (refine Qv ?_; (first | refine Qu ?_ | refine QY rfl ?_ | refine Q1 ?_)) | (refine Qs ?_; (first | refine Qw ?_ | refine Qc ?_ | refine Qm ?_ | (refine WJ ?_; first | refine Ws (by rfl) (by kernel_rfl) (by kernel_rfl) ?_ | refine Wr (by kernel_rfl) (by kernel_rfl) ?_) | refine QR ?_ | refine Qr rfl (by omega) ?_ | refine QM ?_)) | (refine g_lex ?_; (first | refine x_op rfl (by (repeat' first | (refine Qo ?_; (first | (refine Qj ?_; refine QU rfl ?_) | (refine Ql ?_; refine Wl rfl ?_) | (refine QN ?_; refine Q9 rfl rfl (by first | assumption | omega | (simp; done) | (simp; omega)) ?_) | (refine Qh ?_; (first | refine qL rfl rfl hat ⟨by omega, by omega⟩ ?_ | refine W3 rfl rfl ?_ | refine WC rfl rfl ?_)) | (refine Qk ?_; (first | refine s_min_as rfl rfl hmin ?_ | refine Wa rfl ?_)) | (refine QJ ?_; refine Ze rfl rfl ?_) | (refine Zx ?_; refine Zy rfl rfl rfl (by first | assumption | omega | (simp only [List.length_take, List.length_drop]; omega)) (by first | assumption | omega | (simp only [List.length_take, List.length_drop]; omega)) ?_))) | exact ⟨rfl, rfl⟩)) ?_ | refine x_gy rfl rfl rfl rfl (by (repeat' first | (refine Qo ?_; (first | (refine Qj ?_; refine QU rfl ?_) | (refine Ql ?_; refine Wl rfl ?_) | (refine QN ?_; refine Q9 rfl rfl (by first | assumption | omega | (simp; done) | (simp; omega)) ?_) | (refine Qh ?_; (first | refine qL rfl rfl hat ⟨by omega, by omega⟩ ?_ | refine W3 rfl rfl ?_ | refine WC rfl rfl ?_)) | (refine Qk ?_; (first | refine s_min_as rfl rfl hmin ?_ | refine Wa rfl ?_)) | (refine QJ ?_; refine Ze rfl rfl ?_) | (refine Zx ?_; refine Zy rfl rfl rfl (by first | assumption | omega | (simp only [List.length_take, List.length_drop]; omega)) (by first | assumption | omega | (simp only [List.length_take, List.length_drop]; omega)) ?_))) | exact ⟨rfl, rfl⟩)) ?_ | refine x_nil ?_ | refine x_sp_t rfl rfl (by omega) ?_)))
    exact e_1 (Tryz.results29) (QA (size := 3) rfl rfl rfl rfl) (Q2 (by rw [hfm, hsm, hk2]; try rfl))
   ·have hd : decide ((s.take (a + ls[i].l.length)).drop a = ls[i].l) = false := decide_eq_false hx
    have hms : Lib.hasPrefix (s.drop a) signsT[i] = false := by rw [hpx]; exact hd
    (repeat' first | (refine Qo ?_; (first | (refine Qj ?_; refine QU rfl ?_) | (refine Qd ?_; refine Q5 rfl ?_) | (refine Ql ?_; refine Wl rfl ?_) | (refine QN ?_; refine Q9 rfl rfl (by first | assumption | omega | (simp; done) | (simp; omega)) ?_) | (refine Qh ?_; (first | refine Zr rfl rfl (by omega) ?_ | refine Wh rfl rfl ?_)) | (refine Qk ?_; (first | refine Q6 rfl ?_ | refine Wa rfl ?_)))) | (refine Qv ?_; (first | refine Qu ?_ | refine QY rfl ?_)) | (refine Qs ?_; (first | refine Qw ?_ | refine Qc ?_ | refine Qm ?_ | (refine WJ ?_; first | refine Ws (by rfl) (by kernel_rfl) (by kernel_rfl) ?_ | refine Wr (by kernel_rfl) (by kernel_rfl) ?_) | refine QR ?_ | refine Qr rfl (by omega) ?_ | refine Qn rfl (by omega) ?_)) | (refine g_lex ?_; (first | refine x_op rfl (by (repeat' first | (refine Qo ?_; (first | (refine Qj ?_; refine QU rfl ?_) | (refine Ql ?_; refine Wl rfl ?_) | (refine QN ?_; refine Q9 rfl rfl (by first | assumption | omega | (simp; done) | (simp; omega)) ?_) | (refine Qh ?_; (first | refine qL rfl rfl hat ⟨by omega, by omega⟩ ?_ | refine W3 rfl rfl ?_ | refine WC rfl rfl ?_)) | (refine Qk ?_; (first | refine s_min_as rfl rfl hmin ?_ | refine Wa rfl ?_)) | (refine QJ ?_; refine Ze rfl rfl ?_) | (refine Zx ?_; refine Zy rfl rfl rfl (by first | assumption | omega | (simp only [List.length_take, List.length_drop]; omega)) (by first | assumption | omega | (simp only [List.length_take, List.length_drop]; omega)) ?_))) | exact ⟨rfl, rfl⟩)) ?_ | refine x_gy rfl rfl rfl rfl (by (repeat' first | (refine Qo ?_; (first | (refine Qj ?_; refine QU rfl ?_) | (refine Ql ?_; refine Wl rfl ?_) | (refine QN ?_; refine Q9 rfl rfl (by first | assumption | omega | (simp; done) | (simp; omega)) ?_) | (refine Qh ?_; (first | refine qL rfl rfl hat ⟨by omega, by omega⟩ ?_ | refine W3 rfl rfl ?_ | refine WC rfl rfl ?_)) | (refine Qk ?_; (first | refine s_min_as rfl rfl hmin ?_ | refine Wa rfl ?_)) | (refine QJ ?_; refine Ze rfl rfl ?_) | (refine Zx ?_; refine Zy rfl rfl rfl (by first | assumption | omega | (simp only [List.length_take, List.length_drop]; omega)) (by first | assumption | omega | (simp only [List.length_take, List.length_drop]; omega)) ?_))) | exact ⟨rfl, rfl⟩)) ?_ | refine x_nil ?_ | refine x_sp_t rfl rfl (by omega) ?_)))
    refine ⟨i + 1, ⟨by omega, fun j h hj => ?_⟩, by omega, ?_⟩
    ·rcases Nat.lt_or_ge j i with h' | h'
     ·exact hmiss j h h'
     ·have hji : j = i := by omega
      subst hji; exact hms
    ·exact zal rfl
  ·have hat : (a : Int) + (ls[i].l.length : Int) = (a + ls[i].l.length : Nat) := by omega
   have hms : Lib.hasPrefix (s.drop a) signsT[i] = false := by
    rw [<- Bool.not_eq_true, prefix_iff]
    intro h; omega
   (repeat' first | (refine Qo ?_; (first | (refine Qj ?_; refine QU rfl ?_) | (refine Qd ?_; refine Q5 rfl ?_) | (refine Ql ?_; refine Wl rfl ?_) | (refine QN ?_; refine Q9 rfl rfl (by first | assumption | omega | (simp; done) | (simp; omega)) ?_) | (refine Qh ?_; (first | refine Zr rfl rfl (by omega) ?_ | refine Wh rfl rfl ?_)) | (refine Qk ?_; (first | refine Q6 rfl ?_ | refine Wa rfl ?_)))) | (refine Qv ?_; (first | refine Qu ?_ | refine QY rfl ?_)) | (refine Qs ?_; (first | refine Qw ?_ | refine Qc ?_ | refine Qm ?_ | (refine WJ ?_; first | refine Ws (by rfl) (by kernel_rfl) (by kernel_rfl) ?_ | refine Wr (by kernel_rfl) (by kernel_rfl) ?_) | refine QR ?_ | refine QH rfl ?_ | refine Qr rfl (by omega) ?_)) | (refine g_lex ?_; (first | refine x_gn rfl rfl rfl rfl ?_ | refine x_op rfl (by (repeat' first | (refine Qo ?_; (first | (refine Qj ?_; refine QU rfl ?_) | (refine Qh ?_; (first | refine qL rfl rfl hat ⟨by omega, by omega⟩ ?_ | refine W3 rfl rfl ?_)) | (refine Qk ?_; refine Wa rfl ?_) | (refine QJ ?_; refine WZ rfl rfl ?_))) | exact ⟨rfl, rfl⟩)) ?_ | refine x_nil ?_ | refine x_sp_f rfl rfl (by omega) ?_)))
   refine ⟨i + 1, ⟨by omega, fun j h hj => ?_⟩, by omega, ?_⟩
   ·rcases Nat.lt_or_ge j i with h' | h'
    ·exact hmiss j h h'
    ·have hji : j = i := by omega
     subst hji; exact hms
   ·exact zal rfl
 ·have hie : i = 24 := by omega
  have hsm : signM (s.drop a) = [] := signs_miss signsT fun j h => hmiss j h (by have : signsT.length = 24 := rfl; omega)
  (repeat' first | (refine Qo ?_; (first | (refine Qj ?_; refine QU rfl ?_) | (refine Qh ?_; refine Wh rfl rfl ?_) | (refine Qk ?_; refine Q6 rfl ?_) | (refine Qx ?_; refine Qe rfl rfl rfl (by first | assumption | exact Enc.len _ | rfl) (by first | assumption | exact Enc.len _ | rfl) rfl ?_) | (refine QS ?_; refine QC rfl rfl ?_))) | (refine Qv ?_; (first | refine Qu ?_ | refine QY rfl ?_ | refine Q1 ?_)) | (refine Qs ?_; (first | refine Qw ?_ | refine Qc ?_ | refine Qn rfl (by omega) ?_ | refine WI rfl ?_ | refine QM ?_)))
  exact e_1 (Tryz.results29) (QA (size := 3) rfl rfl rfl rfl) (Q2 (by rw [hfm, hsm]; try rfl))
def trs (l : List (List UInt8 × Nat)) : List Tr := l.map fun x => ⟨x.1, x.2, kindM x.1⟩
theorem spB_iff (b : UInt8) : spB b = (decide ((b.toNat : Int) = 32) || decide ((b.toNat : Int) = 10)) := by
 have : ∀ n : Fin 256, spB (UInt8.ofNat n.val) = (decide (((UInt8.ofNat n.val).toNat : Int) = 32) || decide (((UInt8.ofNat n.val).toNat : Int) = 10)) := by decide +kernel
 have h := this ⟨b.toNat, b.toNat_lt⟩
 simpa using h
theorem drop_get {s : List UInt8} {a : Nat} (h : a < s.length) : s.drop a = s.getD a 0 :: s.drop (a + 1) := by
 rw [List.drop_eq_getElem_cons h, List.getD_eq_getElem?_getD, List.getElem?_eq_getElem h]; rfl
theorem skip_space {s : List UInt8} {a : Nat} (h : a < s.length) (hb : spB (s.getD a 0) = true) : ZT s a = ZT s (a + 1) := by
 unfold ZT
 rw [drop_get h, List.dropWhile_cons, if_pos hb, List.length_cons]
 have := (List.dropWhile_sublist (l := s.drop (a + 1)) spB).length_le
 omega
theorem skip_here {s : List UInt8} {a : Nat} (h : a < s.length) (hb : spB (s.getD a 0) = false) : ZT s a = a := by
 unfold ZT
 rw [drop_get h, List.dropWhile_cons, if_neg (by rw [hb]; simp), List.length_cons]; omega
theorem scan_space {s : List UInt8} {a : Nat} (h : a < s.length) (hb : spB (s.getD a 0) = true) : Zc (s.drop a) a = Zc (s.drop (a + 1)) (a + 1) := by
 have e := skip_space h hb
 by_cases ht : WA (s.drop (ZT s a)) = []
 ·rw [scan_none ht, scan_none (a := a + 1) (by rw [<- e]; exact ht), e]
 ·rw [scan_some ht, scan_some (a := a + 1) (by rw [<- e]; exact ht), e]
theorem scan_end {s : List UInt8} {a : Nat} (h : s.length <= a) (h2 : a <= s.length) : Zc (s.drop a) a = ([], a) := by
 have e : ZT s a = a := by obtain ⟨k1, k2⟩ := skip_le s a h2; omega
 have e2 : s.drop a = [] := List.drop_eq_nil_of_le h
 have := scan_none (s := s) (a := a) (by rw [e, e2]; decide +kernel)
 rw [this, e]
theorem r_scan_c (s : List UInt8) (hs : s.length <= 1000000) : Go.Av.Pure Tryz.prog G 33 [W6 s] (.tup [Wi (trs (Zc s 0).1), .i (Zc s 0).2]) := fun B => by
 refine Qa Tryz.func33 rfl Tryz.ntmps33 rfl (t := [(0, W6 s)]) rfl fun E hE => ?_
 (repeat' first | (refine Qo ?_; (refine Qd ?_; refine Q5 rfl ?_)) | (refine Qv ?_; (first | refine Qu ?_ | refine QY rfl ?_)) | (refine Qs ?_; (first | refine Qw ?_ | refine Qc ?_ | refine Qm ?_)))
 refine r_own 4 3 rfl fun gO hgO => ?_
 refine r_loop3 (fun (o : List Tr) (a : Nat) (g : Nat) => ⟨[(0, W6 s), (4, .ref 0 g 0 o.length 3), (5, .i a)], [.row g (WH o)]⟩) (fun o a g => a <= s.length /\ o.length <= a /\ E.N < g /\ trs (Zc s 0).1 = o ++ trs (Zc (s.drop a) a).1 /\ (Zc s 0).2 = (Zc (s.drop a) a).2) (fun o a g => s.length - a) [] 0 gO ?_ ⟨by omega, by simp, hgO, by simp, by simp⟩ ?_
 ·exact zal rfl
 intro o a g ⟨ha, hoa, hg, h1, h2⟩
 by_cases hal : a < s.length
 case neg =>
  rw [scan_end (by omega) ha] at h1 h2
  (repeat' first | (refine Qo ?_; (first | (refine Qj ?_; refine QU rfl ?_) | (refine Qd ?_; refine Q5 rfl ?_) | (refine Qh ?_; refine Wh rfl rfl ?_) | (refine Qk ?_; refine Wa rfl ?_))) | (refine Qv ?_; (first | refine Qu ?_ | refine QY rfl ?_)) | (refine Qs ?_; (first | refine Qw ?_ | refine Qc ?_ | refine Qn rfl (by omega) ?_ | refine WI rfl ?_ | refine QM ?_)))
  exact e_2 (Tryz.results33) (QQ rfl) (QQ rfl) (c_pub_fst rfl (by rw [Wu]; try rfl) (Q2 (by rw [h1, h2]; simp [trs]; try rfl)))
 have hsp := spB_iff (s.getD a 0)
 by_cases h32 : ((s.getD a 0).toNat : Int) = 32
 ·rw [decide_eq_true h32, Bool.true_or] at hsp
  rw [scan_space hal hsp] at h1 h2
  (repeat' first | (refine Qo ?_; (first | (refine Qj ?_; refine QU rfl ?_) | (refine Qd ?_; refine Q5 rfl ?_) | (refine Qh ?_; (first | refine Zr rfl rfl (by omega) ?_ | refine Wh rfl rfl ?_ | refine Wc rfl rfl ?_)) | (refine Qk ?_; refine Wa rfl ?_) | (refine QJ ?_; refine Ze rfl rfl ?_) | (refine Zg ?_; refine Wp rfl rfl (by first | assumption | omega | (simp only [List.length_take, List.length_drop]; omega)) ?_))) | (refine Qv ?_; (first | refine Qu ?_ | refine QY rfl ?_ | refine Zl rfl rfl rfl rfl ?_ | refine Wv rfl rfl (by omega) ?_)) | (refine Qs ?_; (first | refine Qw ?_ | refine Qc ?_ | refine Qm ?_ | refine QR ?_ | refine QB rfl ?_ | refine Qr rfl (by omega) ?_ | refine WI rfl ?_)))
  refine ⟨o, a + 1, g, ⟨by omega, by omega, hg, h1, h2⟩, by omega, ?_⟩
  exact zal rfl
 by_cases h10 : ((s.getD a 0).toNat : Int) = 10
 ·rw [decide_eq_true h10, Bool.or_true] at hsp
  rw [scan_space hal hsp] at h1 h2
  (repeat' first | (refine Qo ?_; (first | (refine Qj ?_; refine QU rfl ?_) | (refine Qd ?_; refine Q5 rfl ?_) | (refine Qh ?_; (first | refine Zr rfl rfl (by omega) ?_ | refine Wh rfl rfl ?_ | refine Wc rfl rfl ?_)) | (refine Qk ?_; refine Wa rfl ?_) | (refine QJ ?_; refine WZ rfl rfl ?_) | (refine Zg ?_; refine Wp rfl rfl (by first | assumption | omega | (simp only [List.length_take, List.length_drop]; omega)) ?_))) | (refine Qv ?_; (first | refine Qu ?_ | refine QY rfl ?_ | refine WX rfl rfl rfl rfl ?_ | refine We rfl rfl (by omega) ?_)) | (refine Qs ?_; (first | refine Qw ?_ | refine Qc ?_ | refine Qm ?_ | refine QR ?_ | refine Qr rfl (by omega) ?_ | refine WI rfl ?_)))
  refine ⟨o, a + 1, g, ⟨by omega, by omega, hg, h1, h2⟩, by omega, ?_⟩
  exact zal rfl
 rw [decide_eq_false h32, decide_eq_false h10, Bool.false_or] at hsp
 have e := skip_here hal hsp
 have hnx := r_next_c (G := G) s a hal (by omega)
 have hfl := firstM_le (s.drop a)
 have hdl : (s.drop a).length = s.length - a := List.length_drop
 by_cases ht : WA (s.drop a) = []
 ·rw [scan_none (by rw [e]; exact ht), e] at h1 h2
  rw [ht] at hnx
  (repeat' first | (refine Qo ?_; (first | (refine Qj ?_; refine QU rfl ?_) | (refine Qd ?_; refine Q5 rfl ?_) | (refine Ql ?_; refine Qf rfl rfl rfl ?_) | (refine Qh ?_; (first | refine Wh rfl rfl ?_ | refine Wc rfl rfl ?_ | refine WC rfl rfl ?_)) | (refine Qk ?_; (first | refine Wa rfl ?_ | refine W5 rfl rfl (hnx) ?_)) | (refine QJ ?_; refine WZ rfl rfl ?_) | (refine Qx ?_; refine Qe rfl rfl rfl (by first | assumption | exact Enc.len _ | rfl) (by first | assumption | exact Enc.len _ | rfl) rfl ?_) | (refine Qb ?_; refine Qg rfl rfl ?_) | (refine Zg ?_; refine Wp rfl rfl (by first | assumption | omega | (simp only [List.length_take, List.length_drop]; omega)) ?_) | (refine QG ?_; refine QD (fun _ _ => ?_)))) | (refine Qv ?_; (first | refine Qu ?_ | refine QY rfl ?_ | refine Q1 ?_ | refine WX rfl rfl rfl rfl ?_ | refine We rfl rfl (by omega) ?_)) | (refine Qs ?_; (first | refine Qw ?_ | refine Qc ?_ | refine Qm ?_ | refine QR ?_ | refine QB rfl ?_ | refine Qr rfl (by omega) ?_ | refine Qn rfl (by omega) ?_ | refine QM ?_)))
  exact e_2 (Tryz.results33) (QQ rfl) (QQ rfl) (c_pub_fst rfl (by rw [Wu]; try rfl) (Q2 (by rw [h1, h2]; simp [trs]; try rfl)))
 ·rw [scan_some (by rw [e]; exact ht), e] at h1 h2
  generalize htk : WA (s.drop a) = t at *
  have htp : 0 < t.length := by cases t with | nil => exact absurd rfl ht | cons b r => simp
  have hat : (a : Int) + (t.length : Int) = (a + t.length : Nat) := by omega
  (repeat' first | (refine Qo ?_; (first | (refine Qj ?_; refine QU rfl ?_) | (refine Qd ?_; refine Q5 rfl ?_) | (refine Ql ?_; (first | refine Qi rfl rfl (by first | assumption | exact Enc.len _ | rfl) ?_ | refine Qf rfl rfl rfl ?_)) | (refine Qh ?_; (first | refine qL rfl rfl hat ⟨by omega, by omega⟩ ?_ | refine Wh rfl rfl ?_ | refine Wc rfl rfl ?_ | refine WC rfl rfl ?_)) | (refine Qk ?_; (first | refine qk (z := Tr.mk _ _ _) rfl rfl rfl rfl rfl rfl rfl (by first | omega | (simp; omega)) (by first | omega | (simp; omega)) (fun _ => rfl) (fun _ _ => ?_) | refine Wa rfl ?_ | refine W5 rfl rfl (hnx) ?_)) | (refine QJ ?_; refine WZ rfl rfl ?_) | (refine Qx ?_; refine Qe rfl rfl rfl (by first | assumption | exact Enc.len _ | rfl) (by first | assumption | exact Enc.len _ | rfl) rfl ?_) | (refine Qb ?_; refine Qg rfl rfl ?_) | (refine Zg ?_; refine Wp rfl rfl (by first | assumption | omega | (simp only [List.length_take, List.length_drop]; omega)) ?_) | (refine QK ?_; refine Z3 rfl rfl (by decide) rfl ?_) | (refine QG ?_; refine QD (fun _ _ => ?_)))) | (refine Qv ?_; (first | refine Qu ?_ | refine QY rfl ?_ | refine Q1 ?_ | refine WX rfl rfl rfl rfl ?_ | refine We rfl rfl (by omega) ?_)) | (refine Qs ?_; (first | refine Qw ?_ | refine Qc ?_ | refine Qm ?_ | refine QR ?_ | refine Qr rfl (by omega) ?_ | refine Qn rfl (by omega) ?_)))
  refine ⟨o ++ [Tr.mk t a (kindM t)], a + t.length, _, ⟨by omega, by simp; omega, by assumption, by rw [h1]; simp [trs], h2⟩, by omega, ?_⟩
  exact zal rfl
section
variable {P : Program} {G : Nat -> DV} {B : Nat} {f : Operand -> DV} {σ : List ABlk} {K : DV -> List ABlk -> Prop} {dst : Option Tmp} {type : TypeId} {pos : String} {after : Array Edge} {gd : Option (Nat × Bool)}
theorem s_gtr_as {t t' : TypeId} {x y : Operand} {a b : Int} {k1 : IntKind} {v : Bool} (hx : f x = .sc (.int k1 a)) (hy : f y = .sc (.int k1 b)) (hc : decide (b < a) = v)
  (k : K (.sc (.bool v)) σ) : OpSem P G B ⟨dst, .binOp .gtr t x y t', type, pos, after, gd⟩ f σ K := ZM hx hy (by rw [hc]; exact k)
theorem s_eql_as {t t' : TypeId} {x y : Operand} {a b : Int} {k1 : IntKind} {v : Bool} (hx : f x = .sc (.int k1 a)) (hy : f y = .sc (.int k1 b)) (hc : decide (a = b) = v)
  (k : K (.sc (.bool v)) σ) : OpSem P G B ⟨dst, .binOp .eql t x y t', type, pos, after, gd⟩ f σ K := Wc hx hy (by rw [hc]; exact k)
theorem s_idx_as {α : Type} [Enc α] {t e : TypeId} {d : TypeDesc} {g1 g2 : Bool} {z1 : Nat} {x y : Operand} {l : List α} {kd : IntKind} {i : Nat} {cs : List DV} [ht : TyI P t (.slice e) g1 z1] [he : TyI P e d g2 (Enc.es α)]
  (hx : f x = Wi l) (hy : f y = .sc (.int kd (i : Nat))) (h1 : i < l.length) (hc : Enc.enc l[i] = cs) (k : K (.ep cs) σ) : OpSem P G B ⟨dst, .indexAddr t x y, type, pos, after, gd⟩ f σ K := Q9 hx hy h1 (by rw [hc]; exact k)
end
theorem blanks_c (hG0 : G 0 = shapesT) (hG1 : G 1 = spaceT) (hG : G 6 = pow10T) (l gaps : List Int) (hl : OkI l) (hgl : OkI gaps) : Go.Av.Pure Tryz.prog G 9 [Wi l, Wi gaps] (.b true) := fun B => by
 obtain ⟨v, hv, ⟨n, ks, hvk⟩, hsm⟩ := sample_c (G := G) l hl
 obtain ⟨hok, hsz, hpk⟩ := valid_ok hv
 have hpr := print_c hG hG1 v hok (by omega)
 have hpl := print_len2 v hok hsz
 have hsc := r_scan_c (G := G) (Zo v) (by omega)
 have hcm := trCompare_c (G := G) v (by omega)
 have hlv := lives_c (G := G) hG0 hG1 hG
 obtain ⟨ht1, ht2⟩ := scan_toks (Zo v) 0
 have hkk : (Zc (Zo v) 0).1.map (·.1) = progK v := by subst hvk; exact (lex_prog hpk 0).1
 have hlaw := blank_parse (z := zP) (n := n) (m := 0) (ks := ks) (by rw [<- hvk]; exact hv) (g := gapM gaps) (fun i => ⟨(gap_ok gaps i).1, (gap_ok gaps i).2.1⟩) (by rw [<- hvk, <- hkk]; exact ht1)
 have hne := prog_ne n 0 ks
 rw [<- hvk] at hlaw hne
 rw [<- hkk] at hlaw hne
 have hts : (Zc (Zo v) 0).1.map (·.1) = (trs (Zc (Zo v) 0).1).map (·.t) := by simp [trs]
 have hle := len_le_lenS fun t ht => (ht1 t ht).1
 generalize trs (Zc (Zo v) 0).1 = T at *
 generalize (Zc (Zo v) 0).1.map (·.1) = ts at *
 subst hts
 generalize (Zc (Zo v) 0).2 = e2 at *
 have htl := blank_len (g := gapM gaps) (fun i => (gap_ok gaps i).2.2) (T.map (·.t)) 0
 have hpos : 0 < T.length := List.length_pos_iff.2 fun h => hne (by rw [h]; rfl)
 rw [List.length_map] at htl hle
 have hpa := trivial
 have hat := trivial
 have hjl := trivial
 have hg1 := trivial
 have hg2 := trivial
 have he1 := trivial
 have he2 := trivial
 have hen := trivial
 refine Qa Tryz.func9 rfl Tryz.ntmps9 rfl (t := [(0, Wi l), (1, Wi gaps)]) rfl fun E0 hE0 => ?_
 (repeat' first | (refine Qo ?_; (first | (refine Qj ?_; refine QU rfl ?_) | (refine Qd ?_; refine Q5 rfl ?_) | (refine Ql ?_; refine Qi rfl rfl (by first | assumption | exact Enc.len _ | rfl) ?_) | (refine Qk ?_; (first | refine ZY rfl rfl hsm (W0 (Enc.clo _)) ?_ | refine W5 rfl rfl (hpr) ?_ | refine W5 rfl rfl (hsc) ?_)) | (refine Qx ?_; refine Qe rfl rfl rfl (by first | assumption | exact Enc.len _ | rfl) (by first | assumption | exact Enc.len _ | rfl) rfl ?_) | (refine ZK ?_; refine ZI rfl rfl rfl ?_) | (refine QG ?_; refine QD (fun _ _ => ?_)))) | (refine Qv ?_; (first | refine Qu ?_ | refine QY rfl ?_ | refine Q1 ?_)) | (refine Qs ?_; (first | refine Qw ?_ | refine Qc ?_ | refine Qm ?_)))
 rename_i g5 hg5
 refine Z5 (I := fun (x : Nat × List UInt8) => ⟨[(1, Wi gaps), (5, .ptr 0 g5 0), (6, Wi T), (8, W6 x.2), (9, .i x.1)], [.row g5 (Enc.enc v)]⟩) (pre := fun x => x.1 <= T.length /\ x.2 ++ qX (gapM gaps) x.1 ((T.map (·.t)).drop x.1) = qX (gapM gaps) 0 (T.map (·.t))) (μ := fun x => T.length - x.1) (0, []) ?_ ⟨Nat.zero_le _, rfl⟩ ?_
 ·exact zal rfl
 intro ⟨i, o⟩ ⟨hi, h1⟩
 dsimp only at hi h1
 dsimp only
 by_cases hiN : i < T.length
 ·have hd : (T.map (·.t)).drop i = T[i].t :: (T.map (·.t)).drop (i + 1) := by
   rw [List.drop_eq_getElem_cons (by simpa using hiN), List.getElem_map]
  rw [hd, qX] at h1
  have hol : o.length + (gapM gaps i).length + T[i].t.length <= 4000000 := by
   have := congrArg List.length h1
   simp only [List.length_append] at this
   omega
  have hgo := gap_ok gaps i
  have hab := QX gaps (((i % 50 : Nat)) : Int) (most := 5) (by decide)
  have hat := r01At_c (G := G) gaps hgl ((i : Int) % 50) 5 (by decide)
  rw [show ((i : Int) % 50) = ((i % 50 : Nat) : Int) by omega] at hat
  have hgd : ∀ j : Nat, atI gaps (((i % 50 : Nat)) : Int) 5 = (j : Int) -> ∀ h : j < (gapS.map Str.mk).length, (gapS.map Str.mk)[j].l = gapM gaps i := fun j hj h => by
   unfold gapM
   rw [hj, Int.toNat_natCast, List.getD_eq_getElem?_getD, List.getElem?_eq_getElem (by simpa using h), List.getElem_map]; rfl
  obtain ⟨j, hj⟩ : ∃ j : Nat, atI gaps (((i % 50 : Nat)) : Int) 5 = (j : Int) := ⟨(atI gaps (((i % 50 : Nat)) : Int) 5).toNat, by omega⟩
  have hgd := hgd j hj
  rw [hj] at hat hab
  have hjl : j < (gapS.map Str.mk).length := by show j < 5; omega
  have hgd := hgd hjl
  have hen : Enc.enc (gapS.map Str.mk)[j] = [W6 (gapM gaps i)] := by rw [<- hgd]; rfl
  (repeat' first | (refine Qo ?_; (first | (refine Qj ?_; refine QU rfl ?_) | (refine Qd ?_; refine Q5 rfl ?_) | (refine Qh ?_; (first | refine Wh rfl rfl ?_ | refine Zr rfl rfl (by omega) ?_)) | (refine Qk ?_; refine Q6 rfl ?_))) | (refine Qv ?_; (first | refine Qu ?_ | refine QY rfl ?_)) | (refine Qs ?_; (first | refine Qw ?_ | refine Qc ?_ | refine Qm ?_ | (refine WJ ?_; first | refine Ws (by rfl) (by kernel_rfl) (by kernel_rfl) ?_ | refine Wr (by kernel_rfl) (by kernel_rfl) ?_) | refine QR ?_ | refine Qr rfl (by omega) ?_)) | (refine g_lex ?_; (first | refine x_op rfl (by (repeat' first | (refine Qo ?_; (first | (refine Qj ?_; refine QU rfl ?_) | (refine Qd ?_; refine Q5 rfl ?_) | (refine Ql ?_; refine Wl rfl ?_) | (refine QN ?_; (first | refine s_idx_as (l := gapS.map Str.mk) rfl rfl hjl hen ?_ | refine Q9 rfl rfl (by first | assumption | omega | (simp; done) | (simp; omega)) ?_)) | (refine Qh ?_; (first | refine Zw rfl rfl (by first | omega | (simp only [List.length_append, List.length_cons, List.length_nil]; omega)) ?_ | refine qe rfl rfl (by first | omega | exact nn_shr (by omega)) (by omega) ?_)) | (refine Qk ?_; refine W5 rfl rfl (hat) ?_) | (refine QK ?_; refine Z3 (cs := WH (gapS.map Str.mk)) rfl rfl (by decide) rfl ?_) | (refine Qb ?_; refine s_fld_ep rfl rfl ?_))) | exact ⟨rfl, rfl⟩)) ?_ | refine x_nil ?_)))
  refine ⟨(i + 1, (o ++ gapM gaps i) ++ T[i].t), ⟨by omega, by rw [List.append_assoc, List.append_assoc]; exact h1⟩, by dsimp only; omega, ?_⟩
  exact zal rfl
 ·have hie : i = T.length := by omega
  subst hie
  rw [List.drop_eq_nil_of_le (by simp), qX, List.append_nil] at h1
  rw [<- h1] at hlaw htl
  clear h1
  have hpa := parse_c (G := G) hG0 hG1 o (by omega)
  have hen := trivial
  have hg1 : decide (0 < (T.length : Int)) = true := decide_eq_true (by omega)
  rcases hlaw with h8 | h8
  ·have hg2 : decide (8192 < (o.length : Int)) = true := decide_eq_true (by omega)
   generalize parseM zP o = q at *
   (repeat' first | (refine Qo ?_; (first | (refine Qj ?_; refine QU rfl ?_) | (refine Qd ?_; refine Q5 rfl ?_) | (refine Qh ?_; (first | refine s_gtr_as rfl rfl hg1 ?_ | refine s_gtr_as rfl rfl hg2 ?_ | refine Wh rfl rfl ?_)) | (refine Qk ?_; (first | refine ZY rfl rfl hpa (Zd (WB (W0 (Enc.clo _)) (WB Wy Zh))) ?_ | refine W5 rfl rfl (hlv) ?_ | refine Q6 rfl ?_ | refine Wa rfl ?_)) | (refine QJ ?_; refine Ze rfl rfl ?_) | (refine Qx ?_; refine Qe rfl rfl rfl (by first | assumption | exact Enc.len _ | rfl) (by first | assumption | exact Enc.len _ | rfl) rfl ?_) | (refine ZK ?_; refine ZI rfl rfl rfl ?_) | (refine QG ?_; refine QD (fun _ _ => ?_)))) | (refine Qv ?_; (first | refine Qu ?_ | refine QY rfl ?_ | refine Q1 ?_ | refine WX rfl rfl rfl rfl ?_ | refine Zl rfl rfl rfl rfl ?_ | refine o_gu rfl rfl rfl rfl rfl ?_)) | (refine Qs ?_; (first | refine Qw ?_ | refine Qc ?_ | refine Qn rfl (by omega) ?_ | refine WI rfl ?_ | refine QM ?_)))
   exact e_1 (Tryz.results9) (QQ rfl) (Q2 rfl)
  ·by_cases h9 : 8192 < o.length
   ·have hg2 : decide (8192 < (o.length : Int)) = true := decide_eq_true (by omega)
    generalize parseM zP o = q at *
    (repeat' first | (refine Qo ?_; (first | (refine Qj ?_; refine QU rfl ?_) | (refine Qd ?_; refine Q5 rfl ?_) | (refine Qh ?_; (first | refine s_gtr_as rfl rfl hg1 ?_ | refine s_gtr_as rfl rfl hg2 ?_ | refine Wh rfl rfl ?_)) | (refine Qk ?_; (first | refine ZY rfl rfl hpa (Zd (WB (W0 (Enc.clo _)) (WB Wy Zh))) ?_ | refine W5 rfl rfl (hlv) ?_ | refine Q6 rfl ?_ | refine Wa rfl ?_)) | (refine QJ ?_; refine Ze rfl rfl ?_) | (refine Qx ?_; refine Qe rfl rfl rfl (by first | assumption | exact Enc.len _ | rfl) (by first | assumption | exact Enc.len _ | rfl) rfl ?_) | (refine ZK ?_; refine ZI rfl rfl rfl ?_) | (refine QG ?_; refine QD (fun _ _ => ?_)))) | (refine Qv ?_; (first | refine Qu ?_ | refine QY rfl ?_ | refine Q1 ?_ | refine WX rfl rfl rfl rfl ?_ | refine Zl rfl rfl rfl rfl ?_ | refine o_gu rfl rfl rfl rfl rfl ?_)) | (refine Qs ?_; (first | refine Qw ?_ | refine Qc ?_ | refine Qn rfl (by omega) ?_ | refine WI rfl ?_ | refine QM ?_)))
    exact e_1 (Tryz.results9) (QQ rfl) (Q2 rfl)
   ·have hg2 : decide (8192 < (o.length : Int)) = false := decide_eq_false (by omega)
    rw [h8] at hpa
    have he1 : decide ((-1 : Int) = -1) = true := rfl
    have he2 : decide ((0 : Int) = 0) = true := rfl
    (repeat' first | (refine Qo ?_; (first | (refine Qj ?_; refine QU rfl ?_) | (refine Qd ?_; refine Q5 rfl ?_) | (refine Ql ?_; refine Qi rfl rfl (by first | assumption | exact Enc.len _ | rfl) ?_) | (refine Qh ?_; (first | refine s_gtr_as rfl rfl hg1 ?_ | refine s_gtr_as rfl rfl hg2 ?_ | refine s_eql_as rfl rfl he1 ?_ | refine Wh rfl rfl ?_)) | (refine Qk ?_; (first | refine ZY rfl rfl hpa (Zd (WB (W0 (Enc.clo _)) (WB Wy Zh))) ?_ | refine W5 rfl rfl (hcm) ?_ | refine W5 rfl rfl (hlv) ?_ | refine Q6 rfl ?_ | refine Wa rfl ?_)) | (refine QJ ?_; (first | refine Ze rfl rfl ?_ | refine WZ rfl rfl ?_)) | (refine Qx ?_; refine Qe rfl rfl rfl (by first | assumption | exact Enc.len _ | rfl) (by first | assumption | exact Enc.len _ | rfl) rfl ?_) | (refine ZK ?_; refine ZI rfl rfl rfl ?_) | (refine QG ?_; refine QD (fun _ _ => ?_)))) | (refine Qv ?_; (first | refine Qu ?_ | refine QY rfl ?_ | refine Q1 ?_ | refine WX rfl rfl rfl rfl ?_)) | (refine Qs ?_; (first | refine Qw ?_ | refine Qc ?_ | refine Qn rfl (by omega) ?_ | refine WI rfl ?_ | refine QM ?_)))
    exact e_1 (Tryz.results9) (QQ rfl) (Q2 rfl)
end Go.Proofs
end
section
namespace Go.Av
open Classical Go.ChangeShapes Go.WideShapes Go.ChangeAt Go.RowKit
theorem law_callsG {P : Program} {G : Nat -> DV} {f : FuncId} {args : List DV} (h : Pure P G f args (.b true)) {W : World} {vs : Array Value} (hv : ∀ L, Sees W L -> VReps L args vs)
  (hG : ∀ L, Sees W L -> ∀ g, (G g).clo = true /\ VRep L (G g) (.pointer (some ⟨g, 0, none⟩))) (hT : ∀ g cs, G g = .ep cs -> ∃ T, W.shape? g = some (T, cs.length)) :
  Calls P f vs W fun e W' => e = .returned (.bool true) /\ Below W.heap.size W W' := by
 let X : AX := { w := W, ρ := fun _ => none, σ := [], N := 0, hid := fun _ => False }
 have hm : ∀ b, ¬ X.mut b := fun b ⟨k, g, n, hl, _⟩ => by simp [AX.live, X] at hl
 have hS : Sto X := {
  inj := fun k k' g g' b n n' hl => by simp [AX.live, X] at hl
  gen := fun k g hl => by simp [AX.live, X] at hl
  hid := fun b hb => absurd hb (hm b)
  hidlt := fun b hb => hb.elim
  holds := fun k B hB => by simp [X] at hB }
 have hL : Sees W X.lay := fun b o v hc => AX.imm_mk (hm b) (fun h => h) hc
 refine (h 0 X vs hS rfl (Nat.le_refl _) (fun g => ⟨⟨(hG X.lay hL g).1, fun cs hc => hT g cs hc⟩, (hG X.lay hL g).2⟩) (hv X.lay hL)).mono ?_
 rintro e w' ⟨v, rfl, Y, hw, hY, hE, d, hr, rfl, _⟩
 subst hw
 rw [VRep.sc_eq hr]
 exact ⟨rfl, hE.os, hE.tape, hE.output, hE.size, fun k hk => (hE.old k hk (hm k)).1⟩
theorem slice_rep {β : Type} [Enc β] {w : World} {a : Addr} {len cap : Nat} (hlc : len <= cap) (y : Fin len -> β)
  (hy : ∀ i, ∃ ci : List Value, ci.length = Enc.es β /\ (∀ r, r < Enc.es β -> w.cell? ((a.add (i.1 * Enc.es β)).add r) = ci[r]?) /\ ∀ L, Sees w L -> ∀ (j : Nat) d, (Enc.enc (y i) : List DV)[j]? = some d -> VRep L d (ci.getD j undef))
  (L : Lay) (hL : Sees w L) : VRep L (Wi (List.ofFn y)) (.slice (some a) len cap) := by
 have hp := Enc.pos (α := β)
 have hlen : (WH (List.ofFn y)).length = len * Enc.es β := by rw [Wu, List.length_ofFn]
 let f : Nat -> Value := fun k => if h : k / Enc.es β < len then (Classical.choose (hy ⟨k / Enc.es β, h⟩)).getD (k % Enc.es β) undef else undef
 refine .sl _ _ _ _ _ f hlen.symm hlc (encs_one _) ?_ (fun k d hk => ?_)
 ·by_cases h0 : len = 0
  ·left
   exact List.eq_nil_of_length_eq_zero (by rw [hlen, h0, Nat.zero_mul])
  ·right
   obtain ⟨b, o, sp⟩ := a
   obtain ⟨c0, hc0, hc1, _⟩ := hy ⟨0, by omega⟩
   have hs := hc1 0 hp
   rw [List.getElem?_eq_getElem (by omega)] at hs
   have hsp : sp = none := by simpa [Addr.add] using spot_of hs
   subst hsp
   refine ⟨b, o, rfl, fun k hk => ?_⟩
   rw [hlen] at hk
   have hkd : k / Enc.es β < len := Nat.div_lt_of_lt_mul (by rw [Nat.mul_comm]; exact hk)
   have hfk : f k = (Classical.choose (hy ⟨k / Enc.es β, hkd⟩)).getD (k % Enc.es β) undef := dif_pos hkd
   obtain ⟨h4, h5, _⟩ := Classical.choose_spec (hy ⟨k / Enc.es β, hkd⟩)
   have hm := Nat.mod_lt k hp
   have h6 := h5 (k % Enc.es β) hm
   rw [List.getElem?_eq_getElem (by omega)] at h6
   refine hL b (o + k) (f k) ?_
   rw [hfk, List.getD_eq_getElem?_getD, List.getElem?_eq_getElem (by omega)]
   have hadd : ((⟨b, o, none⟩ : Addr).add (k / Enc.es β * Enc.es β)).add (k % Enc.es β) = ⟨b, o + k, none⟩ := by
    rw [Z4, Z4, Nat.add_assoc, Nat.mul_comm, Nat.div_add_mod]
   rw [hadd] at h6
   exact h6
 ·have hk' := (List.getElem?_eq_some_iff.1 hk).1
  rw [hlen] at hk'
  have hkd : k / Enc.es β < len := Nat.div_lt_of_lt_mul (by rw [Nat.mul_comm]; exact hk')
  have hfk : f k = (Classical.choose (hy ⟨k / Enc.es β, hkd⟩)).getD (k % Enc.es β) undef := dif_pos hkd
  obtain ⟨_, _, h7⟩ := Classical.choose_spec (hy ⟨k / Enc.es β, hkd⟩)
  have hm := Nat.mod_lt k hp
  have := encs_at (List.ofFn y) (k / Enc.es β) (by rw [List.length_ofFn]; exact hkd) (k % Enc.es β) hm
  rw [Nat.mul_comm, Nat.div_add_mod, hk, List.getElem_ofFn] at this
  rw [hfk]
  exact h7 L hL _ d this.symm
theorem ones {A B : Type} (g : B -> A) : ∀ (l : List B) (L : List A), L.length = l.length -> (∀ i b, l[i]? = some b -> (L.drop i).take 1 = [g b]) -> L = l.map g
 | [], L, hl, _ => List.eq_nil_of_length_eq_zero (by simpa using hl)
 | b :: l, L, hl, h => by
  have h0 := h 0 b rfl
  have hr := ones g l (L.drop 1) (by rw [List.length_drop, hl, List.length_cons]; omega) fun i b' hb => by
   have := h (i + 1) b' (by simpa using hb)
   rw [List.drop_drop]
   rwa [show 1 + i = i + 1 by omega]
  rw [List.map_cons, <- hr]
  have : L = L.take 1 ++ L.drop 1 := (List.take_append_drop 1 L).symm
  rw [List.drop_zero] at h0
  rw [h0] at this
  exact this
theorem shape_of_var {P : Program} {W : World} {name : String} {g : Nat} {cs : Array Value} (hg : P.globalNamed name = some g) (hv : W.var? P name = some cs) : ∃ T, W.shape? g = some (T, cs.size) := by
 unfold World.var? at hv
 rw [hg] at hv
 simp only [Option.bind_some] at hv
 split at hv
 ·rename_i h
  cases hv
  exact ⟨_, by unfold World.shape?; rw [h]⟩
 ·cases hv
end Go.Av
namespace Go.Proofs.YtnppaoeijmgneaaGreatDoor
open Go.ChangeShapes Go.WideShapes Go.ChangeAt Go.RowKit Go.Av Go.Proofs
def listD (l : List Int) : DataW Unit := match l with | [] => .nil | _ => .slice (l.map fun z => .lit (.int .i64 z)) []
def shD (s : Sh) : DataW Unit := .agg [.lit (.int .i64 s.is), .lit (.int .i64 s.low), .lit (.int .i64 s.high), .lit (.int .i64 s.last), listD s.kids, .lit (.int .i64 s.more), .lit (.int .i64 s.least), .lit (.int .i64 s.som)]
abbrev tok : TypeId × Value -> Unit := fun _ => ()
theorem cells3 : Tryz.prog.cellsOf 3 = 1 := by kernel_rfl
theorem cells111 : Tryz.prog.cellsOf 111 = 1 := by kernel_rfl
theorem cells128 : Tryz.prog.cellsOf 128 = 1 := by kernel_rfl
theorem cells130 : Tryz.prog.cellsOf 130 = 8 := by kernel_rfl
theorem cells131 : Tryz.prog.cellsOf 131 = 224 := by kernel_rfl
theorem cells5 : Tryz.prog.cellsOf 5 = 1 := by kernel_rfl
theorem cells154 : Tryz.prog.cellsOf 154 = 1 := by kernel_rfl
theorem cells158 : Tryz.prog.cellsOf 158 = 256 := by kernel_rfl
theorem cells194 : Tryz.prog.cellsOf 194 = 20 := by kernel_rfl
theorem gShapes : Tryz.prog.globalNamed "scoria/tree.shapes" = some 0 := by kernel_rfl
theorem tShapes : (Tryz.prog.globals[0]?).map (·.type) = some 131 := by kernel_rfl
theorem gSpace : Tryz.prog.globalNamed "strings.asciiSpace" = some 1 := by kernel_rfl
theorem tSpace : (Tryz.prog.globals[1]?).map (·.type) = some 158 := by kernel_rfl
theorem gPow : Tryz.prog.globalNamed "internal/strconv.uint64pow10" = some 6 := by kernel_rfl
theorem tPow : (Tryz.prog.globals[6]?).map (·.type) = some 194 := by kernel_rfl
theorem shapes_datum : (Rows.laid_scoria_tree_shapes : DataW Unit) = .agg (shapesL.map shD) := rfl
theorem space_datum : (Rows.laid_strings_asciiSpace : DataW Unit) = .agg (Lib.asciiSpaceTab.map fun z => .lit (.int .u8 z)) := rfl
theorem pow_datum : (Rows.laid_internal_strconv_uint64pow10 : DataW Unit) = .agg (Lib.pow10Tab.map fun z => .lit (.int .u64 z)) := rfl
variable {W : World} {l : List (String × DataW Unit)}
theorem kids_of {sp : Nat -> Bool} {b : Nat} {held : Bool} {fuel : Nat} {v : Value} {ks : List Int} {q : List MemPlace} (h : DataW.trod tok Tryz.prog W b sp held fuel 128 [v] = some (listD ks, q)) : ∀ L, Sees W L -> VRep L (Wi ks) v := by
 rcases DataW.trod_slice (inferInstance : TyI Tryz.prog 128 (.slice 111) false 1).u h with ⟨e3, ex⟩ | ⟨a, len, cap, elems, rest, n, hn, e3, ex, _, hlc, hcap, hel, hget, _⟩
 ·have e3 : v = _ := List.head_eq_of_cons_eq e3
  have : ks = [] := by
   cases ks with
   | nil => rfl
   | cons x r => simp [listD] at ex
  subst this
  intro L hL
  rw [e3]
  exact .sl _ _ _ _ _ (fun _ => undef) (by simp [WH]) (Nat.le_refl _) (fun d hd => by simp [WH] at hd) (.inl rfl) (fun j d hj => by simp [WH] at hj)
 ·have e3 : v = _ := List.head_eq_of_cons_eq e3
  have ex1 : listD ks = .slice (elems.map (·.1)) (rest.map (·.1)) := (Prod.mk.inj ex).1
  have hks : (elems.map (·.1)) = ks.map fun z => DataW.lit (.int .i64 z) := by
   cases ks with
   | nil => simp [listD] at ex1
   | cons x r => simp only [listD, DataW.slice.injEq] at ex1; exact ex1.1.symm
  have hlen : len = ks.length := by
   have := congrArg List.length hks
   rw [List.length_map, List.length_map] at this
   omega
  subst hlen
  intro L hL
  rw [e3]
  have key := slice_rep (w := W) (a := a) (len := ks.length) (cap := cap) hlc (fun i : Fin ks.length => ks[i]) (fun i => by
   have h1 := hget i.1 i.2
   rw [List.getElem?_eq_getElem (by omega), cells111] at h1
   obtain ⟨ci, h2, h3⟩ := Option.bind_eq_some_iff.1 h1
   obtain ⟨_, h4, h5⟩ := World.cells?_some h2
   obtain ⟨k, e1, e2, _⟩ := DataW.trod_int (inferInstance : TyI Tryz.prog 111 (.int .i64) false 1).u h3
   have hk : (elems.map (·.1))[i.1]? = (ks.map fun z => DataW.lit (.int .i64 z))[i.1]? := by rw [hks]
   rw [List.getElem?_map, List.getElem?_map, List.getElem?_eq_getElem (by omega), List.getElem?_eq_getElem i.2, e2] at hk
   have hk : k = ks[i.1] := by simpa using hk
   subst hk
   refine ⟨ci, h4, h5, fun L hL j d hj => ?_⟩
   rw [e1]
   cases j with
   | zero => cases hj; exact .sc _
   | succ j => simp [Enc.enc] at hj) L hL
  have hof : List.ofFn (fun i : Fin ks.length => ks[i]) = ks := List.ofFn_getElem
  rw [hof] at key
  exact key
theorem int_of {t : TypeId} {z : Nat} [ht : TyI Tryz.prog t (.int .i64) false z] {sp : Nat -> Bool} {b : Nat} {held : Bool} {fuel : Nat} {v : Value} {k : Int} {q : List MemPlace} (h : DataW.trod tok Tryz.prog W b sp held fuel t [v] = some (.lit (.int .i64 k), q)) : v = .int .i64 k := by
 obtain ⟨k', e1, e2, _⟩ := DataW.trod_int ht.u h
 have : k = k' := by simpa using (Prod.mk.inj e2).1
 rw [this]
 exact List.head_eq_of_cons_eq e1
theorem sh_of {sp : Nat -> Bool} {b : Nat} {held : Bool} {fuel : Nat} {c : List Value} {s : Sh} {q : List MemPlace} (h : DataW.trod tok Tryz.prog W b sp held fuel 130 c = some (shD s, q)) : c.length = 8 /\ ∀ L, Sees W L -> ∀ (j : Nat) d, (Enc.enc s : List DV)[j]? = some d -> VRep L d (c.getD j undef) := by
 obtain ⟨xs, n, hn, ex, hl, hxl, hf⟩ := DataW.trod_struct Tryz.underlying130 h
 rw [cells130] at hl
 match xs, hxl, c, hl with
 | [y0, y1, y2, y3, y4, y5, y6, y7], _, [v0, v1, v2, v3, v4, v5, v6, v7], _ =>
 have t0 := hf 0 _ rfl
 have t1 := hf 1 _ rfl
 have t2 := hf 2 _ rfl
 have t3 := hf 3 _ rfl
 have t4 := hf 4 _ rfl
 have t5 := hf 5 _ rfl
 have t6 := hf 6 _ rfl
 have t7 := hf 7 _ rfl
 clear hf h
 have t0 : DataW.trod tok Tryz.prog W b sp held n 111 [v0] = some y0 := by
  have e : (([v0, v1, v2, v3, v4, v5, v6, v7] : List Value).drop 0).take (Tryz.prog.cellsOf 111) = [v0] := by rw [cells111]; rfl
  rw [<- e]; exact t0
 have t1 : DataW.trod tok Tryz.prog W b sp held n 3 [v1] = some y1 := by
  have e : (([v0, v1, v2, v3, v4, v5, v6, v7] : List Value).drop 1).take (Tryz.prog.cellsOf 3) = [v1] := by rw [cells3]; rfl
  rw [<- e]; exact t1
 have t2 : DataW.trod tok Tryz.prog W b sp held n 3 [v2] = some y2 := by
  have e : (([v0, v1, v2, v3, v4, v5, v6, v7] : List Value).drop 2).take (Tryz.prog.cellsOf 3) = [v2] := by rw [cells3]; rfl
  rw [<- e]; exact t2
 have t3 : DataW.trod tok Tryz.prog W b sp held n 3 [v3] = some y3 := by
  have e : (([v0, v1, v2, v3, v4, v5, v6, v7] : List Value).drop 3).take (Tryz.prog.cellsOf 3) = [v3] := by rw [cells3]; rfl
  rw [<- e]; exact t3
 have t4 : DataW.trod tok Tryz.prog W b sp held n 128 [v4] = some y4 := by
  have e : (([v0, v1, v2, v3, v4, v5, v6, v7] : List Value).drop 4).take (Tryz.prog.cellsOf 128) = [v4] := by rw [cells128]; rfl
  rw [<- e]; exact t4
 have t5 : DataW.trod tok Tryz.prog W b sp held n 3 [v5] = some y5 := by
  have e : (([v0, v1, v2, v3, v4, v5, v6, v7] : List Value).drop 5).take (Tryz.prog.cellsOf 3) = [v5] := by rw [cells3]; rfl
  rw [<- e]; exact t5
 have t6 : DataW.trod tok Tryz.prog W b sp held n 3 [v6] = some y6 := by
  have e : (([v0, v1, v2, v3, v4, v5, v6, v7] : List Value).drop 6).take (Tryz.prog.cellsOf 3) = [v6] := by rw [cells3]; rfl
  rw [<- e]; exact t6
 have t7 : DataW.trod tok Tryz.prog W b sp held n 111 [v7] = some y7 := by
  have e : (([v0, v1, v2, v3, v4, v5, v6, v7] : List Value).drop 7).take (Tryz.prog.cellsOf 111) = [v7] := by rw [cells111]; rfl
  rw [<- e]; exact t7
 have ex1 := (Prod.mk.inj ex).1
 simp only [shD, List.map_cons, List.map_nil, DataW.agg.injEq, List.cons.injEq, and_true] at ex1
 obtain ⟨x0, x1, x2, x3, x4, x5, x6, x7⟩ := ex1
 obtain ⟨y0, p0⟩ := y0
 obtain ⟨y1, p1⟩ := y1
 obtain ⟨y2, p2⟩ := y2
 obtain ⟨y3, p3⟩ := y3
 obtain ⟨y4, p4⟩ := y4
 obtain ⟨y5, p5⟩ := y5
 obtain ⟨y6, p6⟩ := y6
 obtain ⟨y7, p7⟩ := y7
 dsimp only at x0 x1 x2 x3 x4 x5 x6 x7
 subst x0 x1 x2 x3 x4 x5 x6 x7
 have e0 := int_of (t := 111) (v := v0) t0
 have e1 := int_of (t := 3) (v := v1) t1
 have e2 := int_of (t := 3) (v := v2) t2
 have e3 := int_of (t := 3) (v := v3) t3
 have e4 := kids_of (v := v4) t4
 have e5 := int_of (t := 3) (v := v5) t5
 have e6 := int_of (t := 3) (v := v6) t6
 have e7 := int_of (t := 111) (v := v7) t7
 subst e0 e1 e2 e3 e5 e6 e7
 refine ⟨rfl, fun L hL j d hj => ?_⟩
 match j, hj with
 | 0, hj => cases hj; exact .sc _
 | 1, hj => cases hj; exact .sc _
 | 2, hj => cases hj; exact .sc _
 | 3, hj => cases hj; exact .sc _
 | 4, hj => cases hj; exact e4 L hL
 | 5, hj => cases hj; exact .sc _
 | 6, hj => cases hj; exact .sc _
 | 7, hj => cases hj; exact .sc _
 | j + 8, hj => simp [Enc.enc] at hj
theorem one_laid {name : String} {d : DataW Unit} {g t : Nat} (hf : l.filter (fun x => x.1 == name) = [(name, d)]) (hh : d.handleName? = none) (hg : Tryz.prog.globalNamed name = some g) (ht : (Tryz.prog.globals[g]?).map (·.type) = some t) (h : laidMetH Tryz.prog l W) :
  ∃ cs f p, W.var? Tryz.prog name = some cs /\ DataW.trod tok Tryz.prog W 0 (fun _ => true) false f t cs.toList = some (d, p) := by
 have h1 := h.filter fun x => x.1 == name
 rw [hf, MakeChecks.laidMetH_plain _ _ _ (by simp [hh])] at h1
 obtain ⟨ps, ⟨g', t', cs, f, p, q, hg', ht', hv, hd, _⟩, _, _⟩ := h1
 obtain rfl := Option.some.inj (hg.symm.trans hg')
 obtain rfl := Option.some.inj (ht.symm.trans ht')
 exact ⟨cs, f, p, hv, hd⟩
theorem shapes_laid (hf : l.filter (fun x => x.1 == "scoria/tree.shapes") = [("scoria/tree.shapes", Rows.laid_scoria_tree_shapes)]) (h : laidMetH Tryz.prog l W) :
  ∃ cs, W.var? Tryz.prog "scoria/tree.shapes" = some cs /\ cs.toList.length = 224 /\ ∀ L, Sees W L -> ∀ (j : Nat) d, (WH shapesL)[j]? = some d -> VRep L d (cs.toList.getD j undef) := by
 obtain ⟨cs, f, p, hv, hd⟩ := one_laid hf rfl gShapes tShapes h
 rw [shapes_datum] at hd
 obtain ⟨xs, m, _, hx, hl, hn, hel⟩ := DataW.trod_array (inferInstance : TyI Tryz.prog 131 (.array 28 130) true 224).u hd
 rw [cells131] at hl
 have hx2 : (shapesL.map shD) = xs.map (·.1) := by simpa only [DataW.agg.injEq] using (Prod.mk.inj hx).1
 refine ⟨cs, hv, hl, fun L hL j d hj => ?_⟩
 have hj' : j < 224 := by
  have := (List.getElem?_eq_some_iff.1 hj).1
  rw [Wu] at this
  exact this
 have hi : j / 8 < 28 := by omega
 have hm : j % 8 < 8 := Nat.mod_lt _ (by decide)
 have h1 := hel (j / 8) hi
 rw [cells130] at h1
 have hxi : (xs.map (·.1))[j / 8]? = (shapesL.map shD)[j / 8]? := by rw [hx2]
 have hsl : shapesL.length = 28 := rfl
 rw [List.getElem?_map, List.getElem?_map, List.getElem?_eq_getElem (show j / 8 < xs.length by omega), List.getElem?_eq_getElem (show j / 8 < shapesL.length by omega)] at hxi
 rw [List.getElem?_eq_getElem (show j / 8 < xs.length by omega)] at h1
 have hxi : (xs[j / 8]'(by omega)).1 = shD (shapesL[j / 8]'(by omega)) := by simpa using hxi
 generalize xs[j / 8]'(by omega) = y at h1 hxi
 obtain ⟨y1, y2⟩ := y
 dsimp only at hxi
 subst hxi
 obtain ⟨hc, hrep⟩ := sh_of h1
 have he := encs_at shapesL (j / 8) (by omega) (j % 8) hm
 have hes : Enc.es Sh = 8 := rfl
 rw [hes, show j / 8 * 8 + j % 8 = j by omega, hj] at he
 have := hrep L hL (j % 8) d he.symm
 rw [List.getD_eq_getElem?_getD, List.getElem?_take, if_pos hm, List.getElem?_drop, show j / 8 * 8 + j % 8 = j by omega, <- List.getD_eq_getElem?_getD] at this
 exact this
theorem ints_laid {name : String} {k : IntKind} {zs : List Int} {g t e : Nat} {N : Nat} [hat : TyI Tryz.prog t (.array N e) true N] [hie : TyI Tryz.prog e (.int k) false 1] (hN : zs.length = N) (hc : Tryz.prog.cellsOf t = N) (hce : Tryz.prog.cellsOf e = 1) (hf : l.filter (fun x => x.1 == name) = [(name, .agg (zs.map fun z => .lit (.int k z)))]) (hg : Tryz.prog.globalNamed name = some g) (ht : (Tryz.prog.globals[g]?).map (·.type) = some t) (h : laidMetH Tryz.prog l W) :
  ∃ cs, W.var? Tryz.prog name = some cs /\ cs.toList = zs.map fun z => .int k z := by
 obtain ⟨cs, f, p, hv, hd⟩ := one_laid hf rfl hg ht h
 obtain ⟨xs, m, _, hx, hl, hn, hel⟩ := DataW.trod_array hat.u hd
 rw [hc] at hl
 have hx2 : (zs.map fun z => DataW.lit (H := Unit) (.int k z)) = xs.map (·.1) := by simpa only [DataW.agg.injEq] using (Prod.mk.inj hx).1
 refine ⟨cs, hv, ones (fun z => .int k z) zs cs.toList (by omega) fun i z hi => ?_⟩
 have hi20 : i < N := by rw [<- hN]; exact (List.getElem?_eq_some_iff.1 hi).1
 have h1 := hel i hi20
 rw [hce, Nat.mul_one] at h1
 have hxi : (xs.map (·.1))[i]? = some (.lit (.int k z)) := by rw [<- hx2, List.getElem?_map, hi]; rfl
 rw [List.getElem?_map] at hxi
 cases hxs : xs[i]? with
 | none => rw [hxs] at hxi; cases hxi
 | some y =>
  rw [hxs] at hxi h1
  obtain ⟨k', e1, e2, _⟩ := DataW.trod_int hie.u h1
  have hy := Option.some.inj hxi
  rw [e2] at hy
  have hk : k' = z := by simpa using hy
  rw [e1, hk]
def G016 : Nat -> DV := fun g => match g with | 0 => shapesT | 1 => spaceT | 6 => pow10T | _ => .any
theorem ints_rep {name : String} {k : IntKind} {zs : List Int} {g : Nat} {cs : Array Value} (hg : Tryz.prog.globalNamed name = some g) (hv : W.var? Tryz.prog name = some cs) (hcs : cs.toList = zs.map fun z => .int k z) (L : Lay) (hL : Sees W L) : VRep L (.ep (zs.map fun z => .sc (.int k z))) (.pointer (some ⟨g, 0, none⟩)) := by
 refine .ep _ g 0 (fun j => (zs.map fun z => Value.int k z).getD j undef) (fun d hd => ?_) (fun j hj => ?_) (fun j d hd => ?_)
 ·obtain ⟨z, _, rfl⟩ := List.mem_map.1 hd; rfl
 ·refine hL _ _ _ ?_
  rw [World.var?_cell hg hv, Nat.zero_add, <- hcs]
  have hj' : j < cs.toList.length := by rw [hcs]; simpa using hj
  rw [List.getD_eq_getElem?_getD, List.getElem?_eq_getElem hj']
  simp
 ·rw [List.getElem?_map] at hd
  cases hz : zs[j]? with
  | none => rw [hz] at hd; cases hd
  | some z =>
   rw [hz] at hd
   cases hd
   rw [List.getD_eq_getElem?_getD, List.getElem?_map, hz]
   exact .sc _
theorem of_laid (hf0 : l.filter (fun x => x.1 == "scoria/tree.shapes") = [("scoria/tree.shapes", Rows.laid_scoria_tree_shapes)]) (hf1 : l.filter (fun x => x.1 == "strings.asciiSpace") = [("strings.asciiSpace", Rows.laid_strings_asciiSpace)])
  (hf6 : l.filter (fun x => x.1 == "internal/strconv.uint64pow10") = [("internal/strconv.uint64pow10", Rows.laid_internal_strconv_uint64pow10)]) (h : laidMetH Tryz.prog l W) :
  (∀ L, Sees W L -> ∀ g, (G016 g).clo = true /\ VRep L (G016 g) (.pointer (some ⟨g, 0, none⟩))) /\ ∀ g cs, G016 g = .ep cs -> ∃ T, W.shape? g = some (T, cs.length) := by
 obtain ⟨c0, v0, n0, r0⟩ := shapes_laid hf0 h
 rw [space_datum] at hf1
 rw [pow_datum] at hf6
 obtain ⟨c1, v1, r1⟩ := ints_laid (t := 158) (e := 5) (N := 256) (by kernel_rfl) cells158 cells5 hf1 gSpace tSpace h
 obtain ⟨c6, v6, r6⟩ := ints_laid (t := 194) (e := 154) (N := 20) (by kernel_rfl) cells194 cells154 hf6 gPow tPow h
 refine ⟨fun L hL g => ?_, fun g cs hg => ?_⟩
 ·match g with
  | 0 =>
   refine ⟨ZQ (Q7 _), ?_⟩
   show VRep L shapesT _
   unfold shapesT
   refine .ep _ 0 0 (fun j => c0.toList.getD j undef) (encs_one _) (fun j hj => ?_) (r0 L hL)
   refine hL _ _ _ ?_
   rw [World.var?_cell gShapes v0, Nat.zero_add]
   have hj' : j < c0.toList.length := by rw [n0]; exact hj
   rw [List.getD_eq_getElem?_getD, List.getElem?_eq_getElem hj']
   simp
  | 1 =>
   refine ⟨?_, ints_rep gSpace v1 r1 L hL⟩
   show spaceT.clo = true
   unfold spaceT
   refine ZQ fun d hd => ?_
   obtain ⟨z, _, rfl⟩ := List.mem_map.1 hd
   exact Wy
  | 6 =>
   refine ⟨?_, ints_rep gPow v6 r6 L hL⟩
   show pow10T.clo = true
   unfold pow10T
   refine ZQ fun d hd => ?_
   obtain ⟨z, _, rfl⟩ := List.mem_map.1 hd
   exact Wy
  | 2 => exact ⟨by simp [G016, DV.clo], .any _⟩
  | 3 => exact ⟨by simp [G016, DV.clo], .any _⟩
  | 4 => exact ⟨by simp [G016, DV.clo], .any _⟩
  | 5 => exact ⟨by simp [G016, DV.clo], .any _⟩
  | g + 7 => exact ⟨by simp [G016, DV.clo], .any _⟩
 ·match g, hg with
  | 0, hg =>
   obtain ⟨T, hT⟩ := shape_of_var gShapes v0
   refine ⟨T, ?_⟩
   have : WH shapesL = cs := by simpa [G016, shapesT] using hg
   rw [hT, <- Array.length_toList, n0, <- this]; rfl
  | 1, hg =>
   obtain ⟨T, hT⟩ := shape_of_var gSpace v1
   refine ⟨T, ?_⟩
   have : (Lib.asciiSpaceTab.map fun z => DV.sc (.int .u8 z)) = cs := by simpa [G016, spaceT] using hg
   rw [hT, <- Array.length_toList, r1, <- this, List.length_map, List.length_map]
  | 6, hg =>
   obtain ⟨T, hT⟩ := shape_of_var gPow v6
   refine ⟨T, ?_⟩
   have : (Lib.pow10Tab.map fun z => DV.sc (.int .u64 z)) = cs := by simpa [G016, pow10T] using hg
   rw [hT, <- Array.length_toList, r6, <- this, List.length_map, List.length_map]
  | 2, hg => simp [G016] at hg
  | 3, hg => simp [G016] at hg
  | 4, hg => simp [G016] at hg
  | 5, hg => simp [G016] at hg
  | g + 7, hg => simp [G016] at hg
end Go.Proofs.YtnppaoeijmgneaaGreatDoor
end
section
namespace Go.Proofs.YtnppaoeijmgneaaGreatDoor
open Go.ChangeShapes Go.WideShapes Go.ChangeAt Go.RowKit Go.Av Go.Proofs
theorem rd22 : Rd Tryz.prog 22 (List Int) (fun l => l.length <= 9223372036854775807 /\ ∀ x ∈ l, I64 x) := rd_slice (e := 3) (ht := inferInstance) (he := (inferInstance : TyI Tryz.prog 3 (.int .i64) false 1)) (hr := rd_int)
theorem own : ownKnob Tryz.prog.godebug = none := by kernel_rfl
theorem laidOut : laidOutB Tryz.prog = true := by kernel_rfl
abbrev laid10 : List (String × DataW Unit) := [("math/bits.deBruijn32tab", Rows.laid_math_bits_deBruijn32tab), ("math/bits.deBruijn64tab", Rows.laid_math_bits_deBruijn64tab), ("internal/strconv.uint64pow10", Rows.laid_internal_strconv_uint64pow10), ("unicode/utf8.acceptRanges", Rows.laid_unicode_utf8_acceptRanges), ("scoria/tree.shapes", Rows.laid_scoria_tree_shapes), ("strconv.ErrRange", Rows.laid_strconv_ErrRange), ("strconv.ErrSyntax", Rows.laid_strconv_ErrSyntax), ("unicode.White_Space", Rows.laid_unicode_White_Space), ("strings.asciiSpace", Rows.laid_strings_asciiSpace), ("unicode/utf8.first", Rows.laid_unicode_utf8_first)]
theorem textBlanks_lifted (os : Os) (started : os.Started) (H : Type) (enc : TypeId × Value -> H) :
  ReturnsInHanded {} Tryz.checked os 9 .any (fun w args => (Rows.textBlanksSpec.pre enc Tryz.prog Tryz.f9 [] false w args /\ laidMetH Tryz.prog laid10 w) /\ sizedMet enc Tryz.prog Tryz.f9 (OpenSpec.ofChange Rows.textBlanksSpec) false w args)
   (Rows.textBlanksSpec.post enc Tryz.prog Tryz.f9 false true false false) := by
 refine returnsInHanded_of_change_and (C := Tryz.checked) (X := fun w _ => laidMetH Tryz.prog laid10 w) (fun _ _ _ hh h => h.of_heap hh) own started (by kernel_rfl) Tryz.func9
  (ChangeSpec.witness_shaped (enc := enc) (C := Tryz.checked) (os := os) (X := fun w _ => laidMetH Tryz.prog laid10 w) false (World.laidAll Tryz.prog os laid10) #[.slice none 0 0, .slice none 0 0] 8 (World.laidAll_os _ _ _)
   (World.shaped_of_ZipB (by kernel_rfl) (by kernel_rfl)) (by kernel_rfl) (by kernel_rfl) (by kernel_rfl)
   (by rw [MakeChecks.laidMetH_plain _ _ _ (by kernel_rfl)]; exact laidMet_laidAll _ (by kernel_rfl) (by kernel_rfl))) ?_
 intro W base args ds gs before hval0 hW _ hsz0 hL _
 have hval : ∀ (j : Nat) t v, Tryz.f9.params[j]? = some t -> args[j]? = some v -> Value.okWide Tryz.prog W .any base t v := hval0
 have hW' := hW
 obtain ⟨p, q, hA0, hV, rfl, _, _⟩ := hW
 have hA : DataW.TrodAll enc Tryz.prog W 0 (fun _ => true) true [22, 22] args.toList ds p := hA0
 obtain ⟨v0, v1, d0, d1, p0, p1, rfl, rfl, rfl, h0, h1⟩ := trodAll_two hA
 obtain ⟨rfl, rfl⟩ := trodVars_none hV
 simp only [List.append_nil] at hW'
 obtain ⟨y0, k0, r0⟩ := rd_one (h := rd22) rfl (hval 0 22 v0 rfl rfl) h0
 obtain ⟨y1, k1, r1⟩ := rd_one (h := rd22) rfl (hval 1 22 v1 rfl rfl) h1
 have hlt : ∀ x ∈ p0 ++ p1, x.block < W.heap.size := fun x hx => by simpa using hW'.lt x (by simpa using hx)
 have hargs : ∀ {t : TypeId} {v : Value} {d : DataW H} {ps : List MemPlace} (W' : World), Below W.heap.size W W' -> Tryz.prog.readableRec t = true -> t < Tryz.prog.types.size -> DataW.Trod enc Tryz.prog W 0 (fun _ => true) true t v d ps -> (∀ x ∈ ps, x.block < W.heap.size) -> DataW.Trod enc Tryz.prog W' 0 (fun b => decide (b < W.heap.size)) true t v d ps :=
  fun W' hn h1 h2 h3 h4 => Below.trod laidOut h1 h2 h3 hn h4
 have hvs : ∀ L, Sees W L -> VReps L [Wi y0, Wi y1] #[v0, v1] := fun L hL => ⟨rfl, fun j d hj => by
  cases j with
  | zero => cases hj; exact r0 L hL _ rfl
  | succ j =>
  cases j with
  | zero => cases hj; exact r1 L hL _ rfl
  | succ j =>
  simp at hj⟩
 have hof := of_laid (l := laid10) (by kernel_rfl) (by kernel_rfl) (by kernel_rfl) hL
 refine (law_callsG (blanks_c (G := G016) rfl rfl rfl y0 y1 k0 k1) hvs hof.1 hof.2).mono ?_
 rintro e W' ⟨rfl, hb⟩
 refine ⟨_, rfl, _, _, _, [], (p0 ++ p1), [], hW', ?_, ?_, rfl, hb.frame _, fun h => by cases h⟩
 ·exact trodAll_mk1 (shut_bool (by kernel_rfl) true)
 ·exact trodAll_mk2 (hargs W' hb (by kernel_rfl) (of_decide_eq_true (by kernel_rfl)) h0 (fun x hx => hlt x (by simp [hx]))) (hargs W' hb (by kernel_rfl) (of_decide_eq_true (by kernel_rfl)) h1 (fun x hx => hlt x (by simp [hx])))
theorem textBlanks_said : Rows.TextBlanksSaid :=
 OpenClaim.holds_of_wide 9 Tryz.f9 rfl rfl rfl rfl rfl rfl rfl ⟨rfl, rfl, rfl, rfl, rfl⟩ rfl rfl rfl rfl rfl (by kernel_rfl) Tryz.func9 (by kernel_rfl)
  (of_decide_eq_true (by kernel_rfl)) (by unfold Func.isWrapper; first | (rw [if_pos (by decide +kernel)]; kernel_rfl) | (rw [if_neg (by decide +kernel)]; exact ⟨rfl, rfl⟩))
  (fun os started H enc _ => textBlanks_lifted os started H enc)
theorem textBlanks_holds : Rows.TextBlanksCardSaid :=
 Claim7.holds_tied_plain_at .later [] [.data, .data, .data, .data, .widerDeep, .sentinel, .sentinel, .listed, .data, .pinned] true (true, "ce8f576b92702dfdfea5aee54a13d26dab5ed9bfe3a7ea8535f1d48bb08681b6") true
  textBlanks_said (fun _ h => by cases h) (by kernel_rfl) (fun _ h => by cases h) textBlanks_row_tie rfl ⟨rfl, rfl⟩ (by kernel_rfl) rfl
  (fun f fn hf hfn => by
   obtain rfl : f = 9 := Option.some.inj ((show Tryz.prog.funcNamed "scoria/scorialaw06.TextBlanks" = some 9 by kernel_rfl).symm.trans hf) |>.symm
   obtain rfl : fn = Tryz.f9 := (Option.some.inj (Tryz.func9.symm.trans hfn)).symm
   exact ⟨by kernel_rfl, fun j t ht => by
    rw [Tryz.params9] at ht
    have hm : t ∈ [22, 22] := by simpa using Array.mem_of_getElem? ht
    have hall : ([22, 22].all fun u => !Tryz.prog.wantsStandIn u) = true := by kernel_rfl
    exact (show Tryz.prog.wantsStandIn t = false by simpa using List.all_eq_true.1 hall t hm)⟩)
  (by kernel_rfl)
#print axioms textBlanks_holds
end Go.Proofs.YtnppaoeijmgneaaGreatDoor
end
