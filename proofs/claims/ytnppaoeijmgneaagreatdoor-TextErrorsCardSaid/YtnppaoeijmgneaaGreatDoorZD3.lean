/-
  Part 3 of the proof: R2 R3 R4 AvB2 R5 PX R7 R8 R6 RE R9 PZ RA VM V0.
-/
import Derived.Test.YtnppaoeijmgneaaGreatDoorZD1
import Derived.Test.YtnppaoeijmgneaaGreatDoorZD2
set_option linter.unusedSimpArgs false
set_option linter.unusedVariables false
set_option maxRecDepth 10000
set_option maxHeartbeats 4000000
section
namespace Go.Proofs
open Go.Av
variable {G : Nat -> DV}
attribute [local irreducible] OpSem Zh ZB ZP ACalls qu AClose RV
open Go.Bl
section
variable {P : Program} {G : Nat -> DV} {B : Nat} {f : Operand -> DV} {σ : List ABlk} {K : DV -> List ABlk -> Prop} {dst : Option Tmp} {type : TypeId} {pos : String} {after : Array Edge} {gd : Option (Nat × Bool)}
theorem s_bslice_own1 {α : Type} [Enc α] {z : α} {t e : Nat} {g1 g2 : Bool} {z1 : Nat} {td : TypeDesc} {zs : List Value} {ps : List (Nat × Operand)} [ht : TyI P t (.slice e) g1 z1] [he : TyI P e td g2 (Enc.es α)] [hz : TyZ P e zs] (hzl : zs.length = Enc.es α) (hp : partsD f ps = some [(0, .agg (Enc.enc z))]) (hn : Nat.ble (Enc.es α) 16777216 = true) (hl : Nat.blt 0 (Enc.es α) = true)
  (k : ∀ g, B < g -> K (.ref σ.length g 0 1 (Enc.es α)) (σ ++ [.row g (WE [z])])) : OpSem P G B ⟨dst, .buildSlice t 1 ps.toArray, type, pos, after, gd⟩ f σ K := by
 have e1 : WE [z] = Enc.enc z := by simp [WE]
 refine qP (cs := Enc.enc z) hzl hp (by simpa using hn) (fill_one hzl (Enc.len z) (by simpa using hl)) (by rw [Enc.len];omega) fun g hg => ?_
 have := k g hg
 rwa [e1] at this
end
def rM (L : ZI) (S : RS) : Nat := if S.bad = true then 0 else L.length - S.p
theorem W0 {L : ZI} {S : RS} {s : List UInt8} (h : Wb L S = s) (hs : s ≠ []) : rM L (Qw S) + 1 = rM L S /\ S.bad = false := by
 obtain ⟨h1, h2, h3⟩ := now_at (L := L) (S := S) (by rw [h];exact hs)
 unfold rM Qw
 simp only [h1]
 constructor
 ·simp;omega
 ·trivial
theorem qz {L : ZI} {S : RS} : rM L (Zb S) = 0 := by unfold rM Zb;simp
theorem rM_take {L : ZI} {S : RS} (s : List UInt8) (hs : s ≠ []) : rM L (Q8 L s S) <= rM L S := by
 unfold Q8
 split
 ·have := (W0 (by assumption) hs).1;omega
 ·rw [qz];omega
def ElC (G : Nat -> DV) (F : FuncId) (L : ZI) (E : Rd1) (r0 : Nat) : Prop := ∀ S, rM L S <= r0 -> CE Tryz.prog G F (fun p g => [.ptr p g 0]) (rdC L S) (.agg (Enc.enc (E S).1)) (rdC L (E S).2) /\ rM L (E S).2 <= rM L S
theorem list_rc (F : FuncId) [FnOk Tryz.prog F] (L : ZI) (E : Rd1) (r0 k : Nat) (hL : OkL L) (hE : ElC G F L E r0) (S : RS) (hr : rM L S <= r0) (hk : rM L S + 1 <= k) :
  CO Tryz.prog G 151 (fun p g => [.ptr p g 0, .fn (.func F) [.ptr p g 0] []]) (rdC L S) (fun d => d) (ZW L E k S).1.length 4 (WE (ZW L E k S).1) (rdC L (ZW L E k S).2) := fun g B hg => by
 obtain ⟨hE0, hrE⟩ := hE S hr
 unfold ZW
 generalize hx0 : (E S).1 = hd1 at *
 generalize hS1 : (E S).2 = S1 at *
 refine Qa Tryz.func151 rfl Tryz.ntmps151 rfl (t := [(0, .ptr 0 g 0), (1, .fn (.func F) [.ptr 0 g 0] [])]) rfl fun E0 hE1 => ?_
 (repeat' first|(refine Qe ?_;(first|refine QI rfl ?_|refine QJ rfl ?_|refine s_callv_ce (k := 0) (hE0) rfl rfl rfl rfl (by repeat' first|exact WZ|refine Wl ?_ ?_|exact Wm|exact WD _|exact WH (QN _)) (by repeat' first|exact WZ|refine Wl ?_ ?_|exact Wm|exact WD _|exact WH (QN _)) (by repeat' first|exact .nil|refine .cons ?_ ?_|exact .s (.mp rfl)|exact .s (.ptr rfl)|exact .s (.ref rfl)|exact .fn (by repeat' first|exact .nil|refine .cons ?_ ?_|exact .ptr rfl|exact .mp rfl|exact .clo Wm) (by repeat' first|exact .nil|refine .cons ?_ ?_|exact .ptr rfl|exact .mp rfl|exact .clo Wm)|exact .s (.clo (by (repeat' first|exact Enc.clo _|exact Wm|exact WD _|exact WH (QN _)|exact QN _|refine ZG ?_ ?_|refine Zy ?_|refine WS ?_|refine WF ?_|exact WZ|refine Wl ?_ ?_|refine WH ?_);done))) (by (repeat' first|exact Enc.clo _|exact Wm|exact WD _|exact WH (QN _)|exact QN _|refine ZG ?_ ?_|refine Zy ?_|refine WS ?_|refine WF ?_|exact WZ|refine Wl ?_ ?_|refine WH ?_);done) (by rfl) ?_|refine s_bslice_own1 (z := hd1) rfl rfl rfl rfl (fun _ _ => ?_)))|(refine Qk ?_;(first|refine Qi ?_|refine QK rfl ?_))|(refine Qj ?_;(first|refine Ql ?_|refine Qc ?_|refine Qf ?_)))
 rename_i g1 hg1
 have hr1000 : rM L S <= 1000000 := by unfold rM;split <;> have := hL.1 <;> omega
 refine r_loop3 (fun (o : List Nd) (Q : RS) (gg : Nat) => ⟨[(0, .ptr 0 g 0), (1, .fn (.func F) [.ptr 0 g 0] []), (5, .ref 1 gg 0 o.length 4)], [.row g (rdC L Q), .row gg (WE o)]⟩) (fun o Q gg => E0.N < gg /\ rM L Q <= rM L S /\ o.length + rM L Q <= rM L S + 1 /\ ∃ k', Wt L E k [hd1] S1 = Wt L E k' o Q /\ rM L Q + 1 <= k') (fun o Q gg => rM L Q) [hd1] S1 g1 ?_ ⟨hg1, hrE, by simp;omega, k, rfl, by omega⟩ ?_
 ·exact zal rfl
 intro o Q gg ⟨hgg, hq1, hq2, k', hk1, hk2⟩
 rw [hk1]
 have hhv := have_c (G := G) L Q hL [44] (by decide)
 unfold haveM at hhv
 by_cases hc : Wb L Q = [44]
 ·rw [if_pos hc] at hhv
  obtain ⟨hn1, hn2⟩ := W0 hc (by decide)
  obtain ⟨hE2, hrE2⟩ := hE (Qw Q) (by omega)
  match k', hk1, hk2 with
  | k2 + 1, hk1, hk2 =>
  have hrec : Wt L E (k2 + 1) o Q = Wt L E k2 (o ++ [(E (Qw Q)).1]) (E (Qw Q)).2 := by rw [Wt, if_pos hc]
  generalize hx2 : (E (Qw Q)).1 = x2 at *
  generalize hS2 : (E (Qw Q)).2 = S2 at *
  (repeat' first|(refine Qe ?_;(first|refine QI rfl ?_|refine QJ rfl ?_|(refine Qp ?_;(first|refine ZL (z := x2) rfl rfl rfl rfl rfl rfl rfl (by first|omega|(simp;omega)) (by first|omega|(simp;omega)) (fun _ => rfl) (fun _ _ => ?_)|refine s_callv_ce (k := 0) (hE2) rfl rfl rfl rfl (by repeat' first|exact WZ|refine Wl ?_ ?_|exact Wm|exact WD _|exact WH (QN _)) (by repeat' first|exact WZ|refine Wl ?_ ?_|exact Wm|exact WD _|exact WH (QN _)) (by repeat' first|exact .nil|refine .cons ?_ ?_|exact .s (.mp rfl)|exact .s (.ptr rfl)|exact .s (.ref rfl)|exact .fn (by repeat' first|exact .nil|refine .cons ?_ ?_|exact .ptr rfl|exact .mp rfl|exact .clo Wm) (by repeat' first|exact .nil|refine .cons ?_ ?_|exact .ptr rfl|exact .mp rfl|exact .clo Wm)|exact .s (.clo (by (repeat' first|exact Enc.clo _|exact Wm|exact WD _|exact WH (QN _)|exact QN _|refine ZG ?_ ?_|refine Zy ?_|refine WS ?_|refine WF ?_|exact WZ|refine Wl ?_ ?_|refine WH ?_);done))) (by (repeat' first|exact Enc.clo _|exact Wm|exact WD _|exact WH (QN _)|exact QN _|refine ZG ?_ ?_|refine Zy ?_|refine WS ?_|refine WF ?_|exact WZ|refine Wl ?_ ?_|refine WH ?_);done) (by rfl) ?_|refine Wg 0 (hhv) rfl rfl rfl rfl ?_))|refine Wf (z := x2) rfl rfl (by decide) ?_))|(refine Qk ?_;(first|refine Qi ?_|refine QK rfl ?_))|(refine Qj ?_;(first|refine Ql ?_|refine Qc ?_|refine Qf ?_|refine Qu ?_|refine Qh rfl ?_)))
  refine ⟨o ++ [x2], S2, _, ⟨by assumption, by omega, by simp;omega, k2, hrec, by omega⟩, by omega, ?_⟩
  exact zal rfl
 ·rw [if_neg hc] at hhv
  have htk := take_c (G := G) L Q hL [41] (by decide)
  have hend : Wt L E k' o Q = (o, Q) := by
   cases k' with
   | zero => rfl
   | succ k2 => rw [Wt, if_neg hc]
  rw [hend]
  (repeat' first|(refine Qe ?_;(first|refine QI rfl ?_|refine QJ rfl ?_|(refine Qp ?_;(first|refine Wg 0 (hhv) rfl rfl rfl rfl ?_|refine Wg 0 (htk) rfl rfl rfl rfl ?_))))|(refine Qk ?_;(first|refine Qi ?_|refine QK rfl ?_))|(refine Qj ?_;(first|refine Ql ?_|refine Qc ?_|refine Qm rfl ?_|refine Wp rfl ?_|refine Qt ?_)))
  exact e_1 (Tryz.results151) (Qg rfl) (c_co (k := 1) .id hE1 (by omega) rfl rfl rfl rfl rfl rfl)
theorem Z4 (L : ZI) (S : RS) (hL : OkL L) (s : List UInt8) (hs0 : s ≠ []) (h : Wb L S = s) : CE Tryz.prog G 104 (fun p g => [.ptr p g 0, WA s]) (rdC L S) (.b true) (rdC L (Qw S)) := (have_c L S hL s hs0).conv (by unfold haveM;rw [if_pos h]) (by unfold haveM;rw [if_pos h])
theorem Z7 (L : ZI) (S : RS) (hL : OkL L) (s : List UInt8) (hs0 : s ≠ []) (h : ¬ Wb L S = s) : CE Tryz.prog G 104 (fun p g => [.ptr p g 0, WA s]) (rdC L S) (.b false) (rdC L S) := (have_c L S hL s hs0).conv (by unfold haveM;rw [if_neg h]) (by unfold haveM;rw [if_neg h])
theorem Zz {E : AX} {D : DV -> DV} {k g gk len es : Nat} {res : DV} {cs' c2 ks : List DV} {r : List ABlk} (hD : FrmD D) (hk : r[k]? = some (.row gk ks)) (hl : len * es = ks.length) (hd : D (.sl es ks) = res) (hc : c2 = cs') :
  AClose E (fun d' τ' => d' = res /\ τ' = [.row g cs']) (D (.ref (k + 1) gk 0 len es)) (.row g c2 :: r) := by
 subst hd hc
 refine (hD.close (c_pub (R := fun d' τ' => d' = .sl es ks /\ τ' = [.row g c2]) (by rw [List.getElem?_cons_succ];exact hk) hl ?_) ?_).mono ?_
 ·rw [List.set_cons_succ]
  exact Ze (σ := [_]) ⟨rfl, rfl⟩
 ·rintro d0 σ' ⟨rfl, _⟩;rfl
 ·rintro d' σ' ⟨d0, ⟨rfl, h3⟩, rfl⟩
  exact ⟨rfl, h3⟩
theorem Za {E : AX} {D : DV -> DV} {g es : Nat} {res : DV} {cs' c2 : List DV} {r : List ABlk} (hD : FrmD D) (hd : D (.sl es []) = res) (hc : c2 = cs') :
  AClose E (fun d' τ' => d' = res /\ τ' = [.row g cs']) (D (.sc (.slice none 0 0))) (.row g c2 :: r) := by
 subst hd hc
 refine (hD.close (Zm (d2 := .sl es []) (R := fun d' τ' => d' = .sl es [] /\ τ' = [.row g c2]) (fun L v h => Zq h) (Ze (σ := [_]) ⟨rfl, rfl⟩)) ?_).mono ?_
 ·rintro d0 σ' ⟨rfl, _⟩;rfl
 ·rintro d' σ' ⟨d0, ⟨rfl, h3⟩, rfl⟩
  exact ⟨rfl, h3⟩
theorem rM_numeral (L : ZI) (S : RS) : rM L (Qy L S).2 <= rM L S := by
 unfold Qy
 split
 ·rename_i h
  have := (W0 (L := L) (S := S) rfl (numB_ne h)).1
  simp only;omega
 ·simp only;rw [qz];omega
theorem rM_numbered (L : ZI) (c : UInt8) (S : RS) : rM L (Qr L c S).2 <= rM L S := by
 unfold Qr
 split
 ·rename_i h
  have := (W0 (L := L) (S := S) rfl (is_now h).1).1
  simp only;omega
 ·simp only;rw [qz];omega
theorem listLoop_le {F : FuncId} {L : ZI} {E : Rd1} {r0 : Nat} (hE : ElC G F L E r0) : ∀ (k : Nat) (o : List Nd) (S : RS), rM L S <= r0 -> rM L (Wt L E k o S).2 <= rM L S
 | 0, o, S, _ => Nat.le_refl _
 | k + 1, o, S, h => by
  rw [Wt]
  split
  ·rename_i hc
   have h1 := (W0 hc (by decide)).1
   have h2 := (hE (Qw S) (by omega)).2
   have h3 := listLoop_le hE k (o ++ [(E (Qw S)).1]) (E (Qw S)).2 (by omega)
   omega
  ·exact Nat.le_refl _
theorem list_le {F : FuncId} {L : ZI} {E : Rd1} {r0 : Nat} (hE : ElC G F L E r0) (k : Nat) (S : RS) (h : rM L S <= r0) : rM L (ZW L E k S).2 <= rM L S := by
 unfold ZW
 have h1 := (hE S h).2
 have h2 := listLoop_le hE k [(E S).1] (E S).2 (by omega)
 have h3 := rM_take (L := L) (S := (Wt L E k [(E S).1] (E S).2).2) [41] (by decide)
 show rM L (Q8 L [41] (Wt L E k [(E S).1] (E S).2).2) <= _
 omega
theorem args_rc (F : FuncId) [FnOk Tryz.prog F] (L : ZI) (E : Rd1) (r0 k : Nat) (hL : OkL L) (hE : ElC G F L E r0) (S : RS) (hr : rM L S <= r0) (hk : rM L S + 1 <= k) :
  CO Tryz.prog G 109 (fun p g => [.ptr p g 0, .fn (.func F) [.ptr p g 0] []]) (rdC L S) (fun d => d) (WT L E k S).1.length 4 (WE (WT L E k S).1) (rdC L (WT L E k S).2) := fun g B hg => by
 have htk := take_c (G := G) L S hL [40] (by decide)
 have hle := rM_take (L := L) (S := S) [40] (by decide)
 unfold WT
 generalize Q8 L [40] S = S1 at *
 by_cases hc : Wb L S1 = [41]
 ·rw [if_pos hc]
  have hv1 := Z4 (G := G) L S1 hL [41] (by decide) hc
  refine Qa Tryz.func109 rfl Tryz.ntmps109 rfl (t := [(0, .ptr 0 g 0), (1, .fn (.func F) [.ptr 0 g 0] [])]) rfl fun E0 hE1 => ?_
  (repeat' first|(refine Qe ?_;(first|refine QI rfl ?_|refine QJ rfl ?_|(refine Qp ?_;(first|refine Wg 0 (htk) rfl rfl rfl rfl ?_|refine Wg 0 (hv1) rfl rfl rfl rfl ?_))))|(refine Qk ?_;(first|refine Qi ?_|refine QK rfl ?_))|(refine Qj ?_;(first|refine Ql ?_|refine Qc ?_|refine Qh rfl ?_|refine Qt ?_)))
  exact e_1 (Tryz.results109) (Qg rfl) (c_co_nil .id hE1 rfl rfl rfl rfl)
 ·rw [if_neg hc]
  have hv1 := Z7 (G := G) L S1 hL [41] (by decide) hc
  have hlist := list_rc (G := G) F L E r0 k hL hE S1 (by omega) (by omega)
  refine Qa Tryz.func109 rfl Tryz.ntmps109 rfl (t := [(0, .ptr 0 g 0), (1, .fn (.func F) [.ptr 0 g 0] [])]) rfl fun E0 hE1 => ?_
  (repeat' first|(refine Qe ?_;(first|refine QI rfl ?_|refine QJ rfl ?_|(refine Qp ?_;(first|refine Wg 0 (htk) rfl rfl rfl rfl ?_|refine Wg 0 (hv1) rfl rfl rfl rfl ?_|refine s_co 0 (hlist) (by first|exact .id|exact .node rfl rfl rfl) rfl rfl rfl rfl (QN _) (fun _ _ => ?_)))))|(refine Qk ?_;(first|refine Qi ?_|refine QK rfl ?_))|(refine Qj ?_;(first|refine Ql ?_|refine Qc ?_|refine Qu ?_|refine Qm rfl ?_|refine Qt ?_)))
  exact e_1 (Tryz.results109) (Qg rfl) (c_co (k := 1) .id hE1 (by omega) rfl rfl rfl rfl rfl rfl)
theorem typed_rc (L : ZI) (hL : OkL L) : ∀ (n : Nat) (S : RS), rM L S + 2 <= n -> CE Tryz.prog G 110 (fun p g => [.ptr p g 0]) (rdC L S) (.agg (Enc.enc (WY L n S).1)) (rdC L (WY L n S).2) /\ rM L (WY L n S).2 <= rM L S := by
 intro n
 induction n with
 | zero => intro S h;omega
 | succ n ih =>
 intro S hn
 rw [WY]
 by_cases h1 : Wb L S = wInt
 ·have := (W0 h1 (by decide)).1
  rw [if_pos h1]
  refine ⟨fun g B hg => ?_, by simp only;omega⟩
  refine Qa Tryz.func110 rfl Tryz.ntmps110 rfl (t := [(0, .ptr 0 g 0)]) rfl fun E0 hE1 => ?_
  (repeat' first|(refine Qe ?_;(first|refine QI rfl ?_|refine QJ rfl ?_|refine Wg 0 (Z4 L S hL _ (by decide) (by assumption)) rfl rfl rfl rfl ?_|refine WR rfl rfl rfl rfl ?_|refine QH rfl rfl ?_|refine QD (fun _ _ => ?_)))|(refine Qk ?_;(first|refine Qi ?_|refine QK rfl ?_|refine Q1 ?_))|(refine Qj ?_;(first|refine Ql ?_|refine Qc ?_|refine Qf ?_|refine Qh rfl ?_|refine Qt ?_)))
  exact e_1 (Tryz.results110) (QA (size := 4) rfl rfl rfl rfl) (Za (es := 4) (.node rfl rfl rfl) (by rw [Q0];rfl) rfl)
 rw [if_neg h1]
 by_cases h2 : Wb L S = wBool
 ·have := (W0 h2 (by decide)).1
  rw [if_pos h2]
  refine ⟨fun g B hg => ?_, by simp only;omega⟩
  refine Qa Tryz.func110 rfl Tryz.ntmps110 rfl (t := [(0, .ptr 0 g 0)]) rfl fun E0 hE1 => ?_
  (repeat' first|(refine Qe ?_;(first|refine QI rfl ?_|refine QJ rfl ?_|(refine Qp ?_;(first|refine Wg 0 (Z7 L S hL _ (by decide) (by assumption)) rfl rfl rfl rfl ?_|refine Wg 0 (Z4 L S hL _ (by decide) (by assumption)) rfl rfl rfl rfl ?_))|refine WR rfl rfl rfl rfl ?_|refine QH rfl rfl ?_|refine QD (fun _ _ => ?_)))|(refine Qk ?_;(first|refine Qi ?_|refine QK rfl ?_|refine Q1 ?_))|(refine Qj ?_;(first|refine Ql ?_|refine Qc ?_|refine Qf ?_|refine Qh rfl ?_|refine Qm rfl ?_|refine Qt ?_)))
  exact e_1 (Tryz.results110) (QA (size := 4) rfl rfl rfl rfl) (Za (es := 4) (.node rfl rfl rfl) (by rw [Q0];rfl) rfl)
 rw [if_neg h2]
 by_cases h3 : Wb L S = wArr
 ·have := (W0 h3 (by decide)).1
  rw [if_pos h3]
  have hnm := qr (G := G) L (Qw S) hL
  have hnl := rM_numeral L (Qw S)
  refine ⟨fun g B hg => ?_, by simp only;omega⟩
  refine Qa Tryz.func110 rfl Tryz.ntmps110 rfl (t := [(0, .ptr 0 g 0)]) rfl fun E0 hE1 => ?_
  (repeat' first|(refine Qe ?_;(first|refine QI rfl ?_|refine QJ rfl ?_|(refine Qp ?_;(first|refine Wg 0 (Z7 L S hL _ (by decide) (by assumption)) rfl rfl rfl rfl ?_|refine Wg 0 (Z4 L S hL _ (by decide) (by assumption)) rfl rfl rfl rfl ?_|refine Wg 0 (hnm) rfl rfl rfl rfl ?_))|refine WR rfl rfl rfl rfl ?_|refine QH rfl rfl ?_|refine QD (fun _ _ => ?_)))|(refine Qk ?_;(first|refine Qi ?_|refine QK rfl ?_|refine Q1 ?_))|(refine Qj ?_;(first|refine Ql ?_|refine Qc ?_|refine Qf ?_|refine Qh rfl ?_|refine Qm rfl ?_|refine Qt ?_)))
  exact e_1 (Tryz.results110) (QA (size := 4) rfl rfl rfl rfl) (Za (es := 4) (.node rfl rfl rfl) (by rw [Q0];rfl) rfl)
 rw [if_neg h3]
 by_cases h4 : Wb L S = wRec
 ·have hrn := (W0 h4 (by decide)).1
  rw [if_pos h4]
  have htk := take_c (G := G) L (Qw S) hL [40] (by decide)
  have hle := rM_take (L := L) (S := Qw S) [40] (by decide)
  have hel : ElC G 110 L (WY L n) (rM L (Qw S)) := fun Q hQ => ih Q (by omega)
  have hlist := list_rc (G := G) 110 L (WY L n) _ n hL hel (Q8 L [40] (Qw S)) hle (by omega)
  have hll := list_le hel n (Q8 L [40] (Qw S)) hle
  refine ⟨fun g B hg => ?_, by simp only;omega⟩
  refine Qa Tryz.func110 rfl Tryz.ntmps110 rfl (t := [(0, .ptr 0 g 0)]) rfl fun E0 hE1 => ?_
  (repeat' first|(refine Qe ?_;(first|refine QI rfl ?_|refine QJ rfl ?_|(refine Qp ?_;(first|refine Wg 0 (Z7 L S hL _ (by decide) (by assumption)) rfl rfl rfl rfl ?_|refine Wg 0 (Z4 L S hL _ (by decide) (by assumption)) rfl rfl rfl rfl ?_|refine Wg 0 (htk) rfl rfl rfl rfl ?_|refine s_co 0 (hlist) (by first|exact .id|exact .node rfl rfl rfl) rfl rfl rfl rfl (QN _) (fun _ _ => ?_)))|refine WR rfl rfl rfl rfl ?_|refine QH rfl rfl ?_|refine QU rfl rfl ?_|refine QD (fun _ _ => ?_)))|(refine Qk ?_;(first|refine Qi ?_|refine QK rfl ?_|refine Q1 ?_))|(refine Qj ?_;(first|refine Ql ?_|refine Qc ?_|refine Qf ?_|refine Qh rfl ?_|refine Qm rfl ?_|refine Qt ?_)))
  exact e_1 (Tryz.results110) (QA (size := 4) rfl rfl rfl rfl) (Zz (D := fun d => .agg [.i 3, .i 0, .i 0, d]) (k := 1) (.node rfl rfl rfl) rfl (by rw [Q4];rfl) (by rw [Q0];rfl) rfl)
 ·rw [if_neg h4]
  refine ⟨fun g B hg => ?_, by simp only;rw [qz];omega⟩
  refine Qa Tryz.func110 rfl Tryz.ntmps110 rfl (t := [(0, .ptr 0 g 0)]) rfl fun E0 hE1 => ?_
  (repeat' first|(refine Qe ?_;(first|refine QI rfl ?_|refine QJ rfl ?_|(refine Qp ?_;(first|refine Wg 0 (Z7 L S hL _ (by decide) (by assumption)) rfl rfl rfl rfl ?_|refine Wg 0 (fail_c L S) rfl rfl rfl rfl ?_))|refine WR rfl rfl rfl rfl ?_|refine QH rfl rfl ?_|refine QD (fun _ _ => ?_)))|(refine Qk ?_;(first|refine Qi ?_|refine QK rfl ?_|refine Q1 ?_))|(refine Qj ?_;(first|refine Ql ?_|refine Qc ?_|refine Qf ?_|refine Qu ?_|refine Qm rfl ?_|refine Qt ?_)))
  exact e_1 (Tryz.results110) (QA (size := 4) rfl rfl rfl rfl) (Za (es := 4) (.node rfl rfl rfl) (by show _ = DV.agg (Enc.enc (Nd.mk 0 0 0 []));rw [Q0];rfl) rfl)
def frmN (v : Nd) (d : DV) : DV := match v with|.mk k n m _ => .agg [.i k, .i n, .i m, d]
def kidsN (v : Nd) : List Nd := match v with|.mk _ _ _ ks => ks
theorem frmN_ok (v : Nd) : FrmD (frmN v) := by cases v;exact .node rfl rfl rfl
theorem frmN_enc (v : Nd) : frmN v (.sl 4 (WE (kidsN v))) = .agg (Enc.enc v) := by cases v;rw [Q0];rfl
theorem variable_rc (L : ZI) (hL : OkL L) (E : Rd1) (r0 : Nat) (hE : ElC G 176 L E r0) (S : RS) (hr : rM L S <= r0 + 1) :
  CO Tryz.prog G 199 (fun p g => [.ptr p g 0]) (rdC L S) (frmN (WM L E S).1) (kidsN (WM L E S).1).length 4 (WE (kidsN (WM L E S).1)) (rdC L (WM L E S).2) /\ rM L (WM L E S).2 <= rM L S := by
 have hnb := numbered_c (G := G) L S hL 118
 have hnl := rM_numbered L 118 S
 unfold WM
 generalize (Qr L 118 S).1 = v at *
 generalize (Qr L 118 S).2 = S1 at *
 unfold varTail
 by_cases h1 : Wb L S1 = [91]
 ·have hv1 := Z4 (G := G) L S1 hL [91] (by decide) h1
  have hrn := (W0 h1 (by decide)).1
  obtain ⟨hE2, hle2⟩ := hE (Qw S1) (by omega)
  rw [if_pos h1]
  generalize (E (Qw S1)).1 = xE at *
  generalize (E (Qw S1)).2 = S2 at *
  have htk := take_c (G := G) L S2 hL [93] (by decide)
  have htl := rM_take (L := L) (S := S2) [93] (by decide)
  refine ⟨fun g B hg => ?_, by first|omega|(simp only;omega)⟩
  refine Qa Tryz.func199 rfl Tryz.ntmps199 rfl (t := [(0, .ptr 0 g 0)]) rfl fun E0 hE1 => ?_
  (repeat' first|(refine Qe ?_;(first|refine QI rfl ?_|refine QJ rfl ?_|refine WQ rfl rfl ?_|(refine Qp ?_;(first|refine Wg 0 (hnb) rfl rfl rfl rfl ?_|refine Wg 0 (hv1) rfl rfl rfl rfl ?_|refine Wg 0 (htk) rfl rfl rfl rfl ?_|refine Wg 0 (hE2) rfl rfl rfl rfl ?_))|(refine Wv ?_;(first|refine WR rfl rfl rfl rfl ?_|refine We rfl rfl rfl rfl (by rfl) (by rfl) (by rfl) ?_))|refine s_bslice_own1 (z := xE) rfl rfl rfl rfl (fun _ _ => ?_)|refine Qd rfl rfl ?_|refine QH rfl rfl ?_|refine QD (fun _ _ => ?_)))|(refine Qk ?_;(first|refine Qi ?_|refine QK rfl ?_|refine Q1 ?_))|(refine Qj ?_;(first|refine Ql ?_|refine Qc ?_|refine Qf ?_|refine Qh rfl ?_|refine Qt ?_)))
  exact e_1 (Tryz.results199) (QA (size := 4) rfl rfl rfl rfl) (c_co (k := 3) (D2 := frmN (.mk 7 v 0 [xE])) (frmN_ok _) hE1 (by omega) rfl rfl rfl rfl rfl rfl)
 rw [if_neg h1]
 have hv1 := Z7 (G := G) L S1 hL [91] (by decide) h1
 by_cases h2 : Wb L S1 = [46]
 ·have hv2 := Z4 (G := G) L S1 hL [46] (by decide) h2
  have hrn := (W0 h2 (by decide)).1
  rw [if_pos h2]
  have hnm := qr (G := G) L (Qw S1) hL
  have hnl2 := rM_numeral L (Qw S1)
  generalize (Qy L (Qw S1)).1 = m at *
  generalize (Qy L (Qw S1)).2 = S2 at *
  refine ⟨fun g B hg => ?_, by first|omega|(simp only;omega)⟩
  refine Qa Tryz.func199 rfl Tryz.ntmps199 rfl (t := [(0, .ptr 0 g 0)]) rfl fun E0 hE1 => ?_
  (repeat' first|(refine Qe ?_;(first|refine QI rfl ?_|refine QJ rfl ?_|refine WQ rfl rfl ?_|(refine Qp ?_;(first|refine Wg 0 (hnb) rfl rfl rfl rfl ?_|refine Wg 0 (hv1) rfl rfl rfl rfl ?_|refine Wg 0 (hv2) rfl rfl rfl rfl ?_|refine Wg 0 (hnm) rfl rfl rfl rfl ?_))|(refine Wv ?_;(first|refine WR rfl rfl rfl rfl ?_|refine We rfl rfl rfl rfl (by rfl) (by rfl) (by rfl) ?_))|refine Qd rfl rfl ?_|refine QH rfl rfl ?_|refine QD (fun _ _ => ?_)))|(refine Qk ?_;(first|refine Qi ?_|refine QK rfl ?_|refine Q1 ?_))|(refine Qj ?_;(first|refine Ql ?_|refine Qc ?_|refine Qf ?_|refine Qh rfl ?_|refine Qm rfl ?_|refine Qt ?_)))
  exact e_1 (Tryz.results199) (QA (size := 4) rfl rfl rfl rfl) (c_co_nil (D2 := frmN (.mk 8 v m [])) (frmN_ok _) hE1 rfl rfl rfl rfl)
 ·rw [if_neg h2]
  have hv2 := Z7 (G := G) L S1 hL [46] (by decide) h2
  refine ⟨fun g B hg => ?_, by first|omega|(simp only;omega)⟩
  refine Qa Tryz.func199 rfl Tryz.ntmps199 rfl (t := [(0, .ptr 0 g 0)]) rfl fun E0 hE1 => ?_
  (repeat' first|(refine Qe ?_;(first|refine QI rfl ?_|refine QJ rfl ?_|refine WQ rfl rfl ?_|(refine Qp ?_;(first|refine Wg 0 (hnb) rfl rfl rfl rfl ?_|refine Wg 0 (hv1) rfl rfl rfl rfl ?_|refine Wg 0 (hv2) rfl rfl rfl rfl ?_))|refine WR rfl rfl rfl rfl ?_|refine QH rfl rfl ?_|refine QD (fun _ _ => ?_)))|(refine Qk ?_;(first|refine Qi ?_|refine QK rfl ?_|refine Q1 ?_))|(refine Qj ?_;(first|refine Ql ?_|refine Qc ?_|refine Qf ?_|refine Qu ?_|refine Qm rfl ?_|refine Qt ?_)))
  exact e_1 (Tryz.results199) (QA (size := 4) rfl rfl rfl rfl) (c_co_nil (D2 := frmN (.mk 6 v 0 [])) (frmN_ok _) hE1 rfl rfl rfl rfl)
end Go.Proofs
end
section
namespace Go.Av
open Classical
theorem spliceD_pre : ∀ (l ds rest : List DV), l.length = ds.length -> Zu (l ++ rest) 0 ds = some (ds ++ rest)
 | [], [], rest, _ => by
  cases rest <;> exact forceD_same _
 | x :: r, d :: ds, rest, h => by
  have ih := spliceD_pre r ds rest (by simpa using h)
  show (match Zu (r ++ rest) 0 ds with|some r' => some (d :: r')|none => none) = _
  rw [ih];rfl
theorem spliceD_at : ∀ (l1 l2 : List DV) (d : DV) (ds : List DV), l2.length = (d :: ds).length -> Zu (l1 ++ l2) l1.length (d :: ds) = some (l1 ++ (d :: ds))
 | [], l2, d, ds, h => spliceD_all l2 (d :: ds) h
 | x :: r, l2, d, ds, h => by
  have ih := spliceD_at r l2 d ds h
  show (match Zu (r ++ l2) r.length (d :: ds) with|some r' => some (x :: r')|none => none) = _
  rw [ih];rfl
theorem fill_two {zs : List Value} {cs ds : List DV} {n : Nat} (h1 : zs.length = n) (h2 : cs.length = n) (h3 : ds.length = n) (h0 : 0 < n) : fillD (fun i => some (i * n, n)) (W3 zs 2) [(0, .agg cs), (1, .agg ds)] = some (cs ++ ds) := by
 have hz : W3 zs 2 = W3 zs 1 ++ W3 zs 1 := by simp [W3, List.replicate]
 have hz1 : (W3 zs 1).length = n := by rw [qF, h1];omega
 cases cs with
 | nil => simp at h2;omega
 | cons e r =>
 cases ds with
 | nil => simp at h3;omega
 | cons e2 r2 =>
  have hb : Nat.beq (e :: r).length n = true := by rw [h2];exact Nat.beq_refl n
  have hb2 : Nat.beq (e2 :: r2).length n = true := by rw [h3];exact Nat.beq_refl n
  have s1 : Zu (W3 zs 1 ++ W3 zs 1) 0 (e :: r) = some ((e :: r) ++ W3 zs 1)  := spliceD_pre (W3 zs 1) (e :: r) (W3 zs 1) (by rw [hz1, h2])
  have s2 : Zu ((e :: r) ++ W3 zs 1) n (e2 :: r2) = some ((e :: r) ++ (e2 :: r2)) := by
   have := spliceD_at (e :: r) (W3 zs 1) e2 r2 (by rw [hz1, h3])
   rwa [h2] at this
  rw [hz]
  simp only [fillD, dcells, hb, hb2, Nat.zero_mul, Nat.one_mul, s1, s2]
  exact forceD_same _
theorem Z5 {P : Program} {G : Nat -> DV} {B : Nat} {f : Operand -> DV} {σ : List ABlk} {K : DV -> List ABlk -> Prop} {dst : Option Tmp} {type : TypeId} {pos : String} {after : Array Edge} {gd : Option (Nat × Bool)} {α : Type} [Enc α] {y z : α} {t e : Nat} {g1 g2 : Bool} {z1 : Nat} {td : TypeDesc} {zs : List Value} {ps : List (Nat × Operand)} [ht : TyI P t (.slice e) g1 z1] [he : TyI P e td g2 (Enc.es α)] [hz : TyZ P e zs] (hzl : zs.length = Enc.es α) (hp : partsD f ps = some [(0, .agg (Enc.enc y)), (1, .agg (Enc.enc z))]) (hn : 2 * Enc.es α <= 16777216)
  (k : K (QT [y, z]) σ) : OpSem P G B ⟨dst, .buildSlice t 2 ps.toArray, type, pos, after, gd⟩ f σ K := by
 refine W4 hzl hp hn (fill_two hzl (Enc.len y) (Enc.len z) Enc.pos) ?_
 have e1 : QT [y, z] = .sl (Enc.es α) (Enc.enc y ++ Enc.enc z) := by simp [QT, WE]
 rwa [<- e1]
end Go.Av
end
section
namespace Go.Proofs
open Go.Av
variable {G : Nat -> DV}
attribute [local irreducible] OpSem Zh ZB ZP ACalls qu AClose RV
open Go.Bl
theorem idxS_c (l : List Str) (s : List UInt8) (hl : l.length <= 4611686018427387904) : Go.Av.Pure Tryz.prog G 221 [QT l, WA s] (.i (findP (fun x : Str => decide (s = x.l)) l)) := fun B => by
 refine Qa Tryz.func221 rfl Tryz.ntmps221 rfl (t := [(0, QT l), (1, WA s)]) rfl fun E hE => ?_
 (repeat' first|(refine Qe ?_;(first|refine QI rfl ?_|refine QJ rfl ?_|refine Qz rfl ?_))|(refine Qk ?_;(first|refine Qi ?_|refine QK rfl ?_))|(refine Qj ?_;(first|refine Ql ?_|refine Qc ?_|refine Qf ?_)))
 refine ZQ (fun k : Nat => ⟨[(0, QT l), (1, WA s), (7, .i l.length), (8, .i k)], []⟩) (fun k => k <= l.length /\ ∀ j (h : j < l.length), j < k -> decide (s = l[j].l) = false) (fun k => l.length - k) 0 ?_ ⟨by omega, fun j h hj => by omega⟩ ?_
 ·exact zal rfl
 intro k ⟨hk, hno⟩
 by_cases hkl : k < l.length
 ·by_cases hx : s = l[k].l
  ·have hd : decide (s = l[k].l) = true := decide_eq_true hx
   (repeat' first|(refine Qe ?_;(first|refine QI rfl ?_|refine QJ rfl ?_|refine QS rfl ?_|refine QC rfl rfl (by first|assumption|omega|(simp;done)|(simp;omega)) ?_|(refine Qo ?_;(first|refine QY rfl rfl ?_|refine Wu rfl rfl ?_))))|(refine Qk ?_;(first|refine Qi ?_|refine QK rfl ?_))|(refine Qj ?_;(first|refine Ql ?_|refine Qc ?_|refine Qf ?_|refine Qu ?_|refine Qq rfl (by omega) ?_|refine Qt ?_)))
   refine e_1 Tryz.results221 (Qg rfl) (Qs ?_)
   rw [findP_some (p := fun x : Str => decide (s = x.l)) hkl hd hno]
  ·have hd : decide (s = l[k].l) = false := decide_eq_false hx
   (repeat' first|(refine Qe ?_;(first|refine QI rfl ?_|refine QJ rfl ?_|refine QS rfl ?_|refine QC rfl rfl (by first|assumption|omega|(simp;done)|(simp;omega)) ?_|(refine Qo ?_;(first|refine W7 rfl rfl (by omega) ?_|refine QY rfl rfl ?_|refine Wu rfl rfl ?_))))|(refine Qk ?_;(first|refine Qi ?_|refine QK rfl ?_))|(refine Qj ?_;(first|refine Ql ?_|refine Qc ?_|refine Qf ?_|refine Qu ?_|refine Qq rfl (by omega) ?_|refine Qn rfl (by omega) ?_)))
   refine ⟨k + 1, ⟨hkl, fun j hj hjk => ?_⟩, by omega, ?_⟩
   ·rcases Nat.lt_or_ge j k with h'|h'
    ·exact hno j hj h'
    ·have : j = k := by omega
     subst this;exact hd
   ·exact zal rfl
 ·have hk' : k = l.length := by omega
  (repeat' first|(refine Qe ?_;(first|refine QJ rfl ?_|refine QY rfl rfl ?_))|(refine Qk ?_;(first|refine Qi ?_|refine QK rfl ?_))|(refine Qj ?_;(first|refine Ql ?_|refine Qc ?_|refine Qn rfl (by omega) ?_|refine Wp rfl ?_|refine Qt ?_)))
  refine e_1 Tryz.results221 (Qg rfl) (Qs ?_)
  rw [findP_none (p := fun x : Str => decide (s = x.l)) fun j hj => hno j hj (by omega)]
theorem opIdx_eq (s : List UInt8) : findP (fun x : Str => decide (s = x.l)) (opTexts.map Str.mk) = qU s := by
 unfold findP qU
 rw [List.findIdx?_map]
 have : ((fun x : Str => decide (s = x.l)) ∘ Str.mk) = fun t => decide (t = s) := by
  funext t
  show decide (s = t) = decide (t = s)
  rw [Bool.eq_iff_iff];simp [eq_comm]
 rw [this]
 try (cases List.findIdx? (fun t => decide (t = s)) opTexts <;> rfl)
theorem opIdx_ne {s : List UInt8} (h : 0 <= qU s) : s ≠ [] /\ qU s < 14 := by
 constructor
 ·rintro rfl;revert h;decide
 ·unfold qU at h ⊢
  cases hf : opTexts.findIdx? (fun t => decide (t = s)) with
  | none => rw [hf] at h;simp at h
  | some i =>
   obtain ⟨hi, _⟩ := List.findIdx?_eq_some_iff_getElem.1 hf
   have : opTexts.length = 14 := rfl
   simp only;omega
theorem binary_rc (hG1 : G 1 = spaceT) (L : ZI) (hL : OkL L) (E : Rd1) (r0 : Nat) (hE : ElC G 176 L E r0) (S : RS) (hr : rM L S <= r0) :
  CE Tryz.prog G 200 (fun p g => [.ptr p g 0]) (rdC L S) (.agg (Enc.enc (qC L E S).1)) (rdC L (qC L E S).2) /\ rM L (qC L E S).2 <= rM L S := by
 obtain ⟨hEa, hla⟩ := hE S hr
 have hops := ops_c (G := G) hG1
 unfold qC
 generalize (E S).1 = a at *
 generalize (E S).2 = S1 at *
 have hnw := qg (G := G) L S1 hL
 have hix := idxS_c (G := G) (opTexts.map Str.mk) (Wb L S1) (by decide)
 rw [opIdx_eq] at hix
 have hfl := fail_c (G := G) L S1
 have hne := opIdx_ne (s := Wb L S1)
 by_cases ho : qU (Wb L S1) < 0
 ·rw [if_pos ho]
  refine ⟨fun g B hg => ?_, by simp only;rw [qz];omega⟩
  refine Qa Tryz.func200 rfl Tryz.ntmps200 rfl (t := [(0, .ptr 0 g 0)]) rfl fun E0 hE1 => ?_
  (repeat' first|(refine Qe ?_;(first|refine QI rfl ?_|refine QJ rfl ?_|refine QY rfl rfl ?_|(refine Qp ?_;(first|refine QZ rfl rfl (hops) ?_|refine QZ rfl rfl (hix) ?_|refine Wg 0 (hEa) rfl rfl rfl rfl ?_|refine Wg 0 (hnw) rfl rfl rfl rfl ?_|refine Wg 0 (hfl) rfl rfl rfl rfl ?_))|refine WR rfl rfl rfl rfl ?_|refine QH rfl rfl ?_|refine QD (fun _ _ => ?_)))|(refine Qk ?_;(first|refine Qi ?_|refine QK rfl ?_|refine Q1 ?_))|(refine Qj ?_;(first|refine Ql ?_|refine Qc ?_|refine Qq rfl (by omega) ?_|refine Qt ?_)))
  exact e_1 (Tryz.results200) (QA (size := 4) rfl rfl rfl rfl) (Za (es := 4) (.node rfl rfl rfl) (by show _ = DV.agg (Enc.enc (Nd.mk 0 0 0 []));rw [Q0];rfl) rfl)
 ·rw [if_neg ho]
  obtain ⟨hn0, hn14⟩ := hne (by omega)
  obtain ⟨q1, q2, q3⟩ := now_at hn0
  have hrn := (W0 (L := L) (S := S1) rfl hn0).1
  obtain ⟨hEb, hlb⟩ := hE (Qw S1) (by omega)
  generalize (E (Qw S1)).1 = b at *
  generalize (E (Qw S1)).2 = S2 at *
  have htk := take_c (G := G) L S2 hL [41] (by decide)
  have htl := rM_take (L := L) (S := S2) [41] (by decide)
  have hll := hL.1
  obtain ⟨p, bd⟩ := S1
  simp only at q1 q2
  subst q1
  have hat : (p : Int) + 1 = (p + 1 : Nat) := by omega
  generalize qU (Wb L ⟨p, false⟩) = io at *
  refine ⟨fun g B hg => ?_, by first|omega|(simp only;omega)⟩
  refine Qa Tryz.func200 rfl Tryz.ntmps200 rfl (t := [(0, .ptr 0 g 0)]) rfl fun E0 hE1 => ?_
  (repeat' first|(refine Qe ?_;(first|refine QI rfl ?_|refine QJ rfl ?_|(refine QB ?_;(first|refine WQ rfl rfl ?_|refine Qb rfl rfl rfl ?_))|(refine Qo ?_;(first|refine qj (a := (p : Int)) (b := 1) rfl rfl hat ⟨by omega, by omega⟩ ?_|refine QY rfl rfl ?_))|(refine Qp ?_;(first|refine QZ rfl rfl (hops) ?_|refine QZ rfl rfl (hix) ?_|refine Wg 0 (hEa) rfl rfl rfl rfl ?_|refine Wg 0 (hnw) rfl rfl rfl rfl ?_|refine Wg 0 (hEb) rfl rfl rfl rfl ?_|refine Wg 0 (htk) rfl rfl rfl rfl ?_))|(refine Wv ?_;(first|refine WR rfl rfl rfl rfl ?_|refine We rfl rfl rfl rfl (by rfl) (by rfl) (by rfl) ?_))|refine Z5 (y := a) (z := b) rfl rfl (by decide) ?_|refine Qd rfl rfl ?_|refine QH rfl rfl ?_|refine Qv rfl rfl ?_|refine QD (fun _ _ => ?_)))|(refine Qk ?_;(first|refine Qi ?_|refine QK rfl ?_|refine Q1 ?_))|(refine Qj ?_;(first|refine Ql ?_|refine Qc ?_|refine Qu ?_|refine Qn rfl (by omega) ?_|refine Qt ?_)))
  refine e_1 (Tryz.results200) (QA (size := 4) rfl rfl rfl rfl) ?_
  rw [Q0]
  exact c_ce rfl rfl
end Go.Proofs
end
section
namespace Go.Proofs
open Go.Av Go.Bl
section
variable {α β : Type} {i : Nat} {c : Prop}
def JT (i : Nat) (T T' : RS -> RS) : Prop := ∀ S, S.p <= (T S).p /\ (S.bad = true -> (T S).bad = true) /\ ((T S).p <= i -> T' S = T S)
def J (i : Nat) (c : Prop) (F F' : RS -> α × RS) : Prop := ∀ S, S.p <= (F S).2.p /\ (S.bad = true -> (F S).2.bad = true) /\ ((F S).2.p <= i -> (F' S).2 = (F S).2 /\ (c -> (F S).2.bad = false -> (F' S).1 = (F S).1))
theorem J.pre {T T' : RS -> RS} {F F' : RS -> α × RS} (hT : JT i T T') (h : J i c F F') : J i c (fun S => F (T S)) (fun S => F' (T' S)) := fun S => by
 obtain ⟨a1, a2, a3⟩ := hT S
 obtain ⟨b1, b2, b3⟩ := h (T S)
 refine ⟨Nat.le_trans a1 b1, fun hb => b2 (a2 hb), fun hp => ?_⟩
 show (F' (T' S)).2 = (F (T S)).2 /\ (c -> (F (T S)).2.bad = false -> (F' (T' S)).1 = (F (T S)).1)
 rw [a3 (Nat.le_trans b1 hp)]
 exact b3 hp
theorem J.bind {F F' : RS -> α × RS} {K K' : α -> RS -> β × RS} (h : J i c F F') (hk : ∀ a a', J i (c /\ a' = a) (K a) (K' a')) : J i c (fun S => K (F S).1 (F S).2) (fun S => K' (F' S).1 (F' S).2) := fun S => by
 obtain ⟨a1, a2, a3⟩ := h S
 obtain ⟨b1, b2, b3⟩ := hk (F S).1 (F' S).1 (F S).2
 refine ⟨Nat.le_trans a1 b1, fun hb => b2 (a2 hb), fun hp => ?_⟩
 obtain ⟨e1, e2⟩ := a3 (Nat.le_trans b1 hp)
 obtain ⟨f1, f2⟩ := b3 hp
 show (K' (F' S).1 (F' S).2).2 = (K (F S).1 (F S).2).2 /\ (c -> (K (F S).1 (F S).2).2.bad = false -> (K' (F' S).1 (F' S).2).1 = (K (F S).1 (F S).2).1)
 rw [e1]
 refine ⟨f1, fun hc hb => f2 ⟨hc, e2 hc ?_⟩ hb⟩
 cases hbb : (F S).2.bad with
 | false => rfl
 | true => rw [b2 hbb] at hb;cases hb
theorem J.ite {P P' : RS -> Prop} [DecidablePred P] [DecidablePred P'] {F F' H H' : RS -> α × RS} (hP : ∀ S, S.p <= i -> (P' S ↔ P S)) (h1 : J i c F F') (h2 : J i c H H') : J i c (fun S => if P S then F S else H S) (fun S => if P' S then F' S else H' S) := fun S => by
 obtain ⟨a1, a2, a3⟩ := h1 S
 obtain ⟨b1, b2, b3⟩ := h2 S
 by_cases hp : P S
 ·simp only [if_pos hp]
  refine ⟨a1, a2, fun h => ?_⟩
  rw [if_pos ((hP S (Nat.le_trans a1 h)).2 hp)]
  exact a3 h
 ·simp only [if_neg hp]
  refine ⟨b1, b2, fun h => ?_⟩
  rw [if_neg fun h' => hp ((hP S (Nat.le_trans b1 h)).1 h')]
  exact b3 h
theorem J.val {T T' : RS -> RS} {a a' : α} (hT : JT i T T') (h : c -> a' = a) : J i c (fun S => (a, T S)) (fun S => (a', T' S)) := fun S => by
 obtain ⟨a1, a2, a3⟩ := hT S
 exact ⟨a1, a2, fun hp => ⟨a3 hp, fun hc _ => h hc⟩⟩
theorem JT.id : JT i (fun S => S) (fun S => S) := fun S => ⟨Nat.le_refl _, fun h => h, fun _ => rfl⟩
theorem J.fail {F F' : RS -> α × RS} (h : ∀ S, S.p <= (F S).2.p /\ (F S).2.bad = true /\ ((F S).2.p <= i -> (F' S).2 = (F S).2)) : J i c F F' := fun S => by
 obtain ⟨a1, a2, a3⟩ := h S
 exact ⟨a1, fun _ => a2, fun hp => ⟨a3 hp, fun _ hb => by rw [a2] at hb;cases hb⟩⟩
theorem J.post {T T' : RS -> RS} {F F' : RS -> α × RS} (hT : JT i T T') (h : J i c F F') : J i c (fun S => ((F S).1, T (F S).2)) (fun S => ((F' S).1, T' (F' S).2)) :=
 h.bind (K := fun a S => (a, T S)) (K' := fun a S => (a, T' S)) fun a a' => J.val hT fun hc => hc.2
theorem J.map {F F' : RS -> α × RS} {u u' : α -> β} (h : J i c F F') (hu : ∀ a, c -> u' a = u a) : J i c (fun S => (u (F S).1, (F S).2)) (fun S => (u' (F' S).1, (F' S).2)) :=
 h.bind (K := fun a S => (u a, S)) (K' := fun a S => (u' a, S)) fun a a' => J.val JT.id fun hc => by rw [hc.2];exact hu a hc.1
theorem J.weak {c' : Prop} {F F' : RS -> α × RS} (h : J i c F F') (hc : c' -> c) : J i c' F F' := fun S => by
 obtain ⟨a1, a2, a3⟩ := h S
 exact ⟨a1, a2, fun hp => ⟨(a3 hp).1, fun h' => (a3 hp).2 (hc h')⟩⟩
end
structure Ag (L L' : ZI) (i : Nat) : Prop where
 tok : ∀ j, j <= i -> (L'.getD j ([], 0)).1 = (L.getD j ([], 0)).1
 len : ∀ j, j <= i -> (j < L'.length ↔ j < L.length)
theorem Ag.refl (L : ZI) (i : Nat) : Ag L L i := ⟨fun _ _ => rfl, fun _ _ => Iff.rfl⟩
section
variable {L L' : ZI} {i : Nat} {c : Prop} {z z' : Nd}
theorem Ag.now (h : Ag L L' i) {S : RS} (hp : S.p <= i) : Wb L' S = Wb L S := by unfold Wb;rw [h.tok _ hp]
theorem JT.next : JT i Qw Qw := fun S => ⟨Nat.le_succ _, fun h => h, fun _ => rfl⟩
theorem JT.fail : JT i Zb Zb := fun S => ⟨Nat.le_refl _, fun h => rfl, fun _ => rfl⟩
theorem JT.take (h : Ag L L' i) (s : List UInt8) : JT i (Q8 L s) (Q8 L' s) := fun S => by
 unfold Q8
 by_cases hn : Wb L S = s
 ·simp only [if_pos hn]
  refine ⟨Nat.le_succ _, fun h => h, fun hp => ?_⟩
  rw [h.now (Nat.le_trans (Nat.le_succ _) hp), if_pos hn]
 ·simp only [if_neg hn]
  refine ⟨Nat.le_refl _, fun h => rfl, fun hp => ?_⟩
  rw [h.now (S := S) hp, if_neg hn]
theorem J.numeral (h : Ag L L' i) : J i c (Qy L) (Qy L') := by
 refine J.ite (P := fun S => numB (Wb L S) = true) (P' := fun S => numB (Wb L' S) = true) (F := fun S => (valM (Wb L S), Qw S)) (F' := fun S => (valM (Wb L' S), Qw S)) (H := fun S => (0, Zb S)) (H' := fun S => (0, Zb S)) (fun S hp => by rw [h.now hp]) (fun S => ?_) (J.val JT.fail fun _ => rfl)
 refine ⟨Nat.le_succ _, fun h => h, fun hp => ⟨rfl, fun _ _ => ?_⟩⟩
 show valM (Wb L' S) = valM (Wb L S)
 rw [h.now (Nat.le_trans (Nat.le_succ _) hp)]
theorem Ag.is (h : Ag L L' i) {S : RS} (hp : S.p <= i) (x : UInt8) : isM L' x S = isM L x S := by unfold isM;rw [h.now hp]
theorem J.numbered (h : Ag L L' i) (x : UInt8) : J i c (Qr L x) (Qr L' x) := by
 refine J.ite (P := fun S => isM L x S = true) (P' := fun S => isM L' x S = true) (F := fun S => (valM ((Wb L S).drop 1), Qw S)) (F' := fun S => (valM ((Wb L' S).drop 1), Qw S)) (H := fun S => (0, Zb S)) (H' := fun S => (0, Zb S)) (fun S hp => by rw [h.is hp]) (fun S => ?_) (J.val JT.fail fun _ => rfl)
 refine ⟨Nat.le_succ _, fun h => h, fun hp => ⟨rfl, fun _ _ => ?_⟩⟩
 show valM ((Wb L' S).drop 1) = valM ((Wb L S).drop 1)
 rw [h.now (Nat.le_trans (Nat.le_succ _) hp)]
theorem Ag.nowIff (h : Ag L L' i) (s : List UInt8) : ∀ S : RS, S.p <= i -> (Wb L' S = s ↔ Wb L S = s) := fun S hp => by rw [h.now hp]
theorem J.loop (h : Ag L L' i) {E E' : Rd1} (hE : ∀ c, J i c E E') : ∀ (k : Nat) (c : Prop) (o o' : List Nd), (c -> o' = o) -> J i c (Wt L E k o) (Wt L' E' k o')
 | 0, c, o, o', ho => J.val (a := o) (a' := o') JT.id ho
 | k + 1, c, o, o', ho => by
  refine J.ite (P := fun S => Wb L S = [44]) (P' := fun S => Wb L' S = [44]) (F := fun S => Wt L E k (o ++ [(E (Qw S)).1]) (E (Qw S)).2) (F' := fun S => Wt L' E' k (o' ++ [(E' (Qw S)).1]) (E' (Qw S)).2) (H := fun S => (o, S)) (H' := fun S => (o', S)) (h.nowIff _) ?_ (J.val JT.id ho)
  refine J.pre (F := fun S => Wt L E k (o ++ [(E S).1]) (E S).2) (F' := fun S => Wt L' E' k (o' ++ [(E' S).1]) (E' S).2) JT.next ?_
  exact (hE c).bind (K := fun a S => Wt L E k (o ++ [a]) S) (K' := fun a S => Wt L' E' k (o' ++ [a]) S) fun a a' => J.loop h hE k _ _ _ fun hc => by rw [ho hc.1, hc.2]
theorem J.lst (h : Ag L L' i) {E E' : Rd1} (hE : ∀ c, J i c E E') (k : Nat) : J i c (ZW L E k) (ZW L' E' k) :=
 (hE c).bind (K := fun a S => ((Wt L E k [a] S).1, Q8 L [41] (Wt L E k [a] S).2)) (K' := fun a S => ((Wt L' E' k [a] S).1, Q8 L' [41] (Wt L' E' k [a] S).2)) fun a a' => J.post (JT.take h _) (J.loop h hE k _ _ _ fun hc => by rw [hc.2])
theorem J.arg (h : Ag L L' i) {E E' : Rd1} (hE : ∀ c, J i c E E') (k : Nat) : J i c (WT L E k) (WT L' E' k) := by
 refine J.pre (F := fun S => if Wb L S = [41] then ([], Qw S) else ZW L E k S) (F' := fun S => if Wb L' S = [41] then ([], Qw S) else ZW L' E' k S) (JT.take h [40]) ?_
 exact J.ite (P := fun S => Wb L S = [41]) (P' := fun S => Wb L' S = [41]) (F := fun S => ([], Qw S)) (F' := fun S => ([], Qw S)) (h.nowIff _) (J.val JT.next fun _ => rfl) (J.lst h hE k)
theorem J.vtail (h : Ag L L' i) {E E' : Rd1} (hE : ∀ c, J i c E E') (a a' : Int) : J i (c /\ a' = a) (varTail L E a) (varTail L' E' a') := by
 refine J.ite (P := fun S => Wb L S = [91]) (P' := fun S => Wb L' S = [91]) (F := fun S => (Nd.mk 7 a 0 [(E (Qw S)).1], Q8 L [93] (E (Qw S)).2)) (F' := fun S => (Nd.mk 7 a' 0 [(E' (Qw S)).1], Q8 L' [93] (E' (Qw S)).2)) (h.nowIff _) ?_ ?_
 ·refine J.pre (F := fun S => (Nd.mk 7 a 0 [(E S).1], Q8 L [93] (E S).2)) (F' := fun S => (Nd.mk 7 a' 0 [(E' S).1], Q8 L' [93] (E' S).2)) JT.next ?_
  exact (hE _).bind (K := fun x S => (Nd.mk 7 a 0 [x], Q8 L [93] S)) (K' := fun x S => (Nd.mk 7 a' 0 [x], Q8 L' [93] S)) fun x x' => J.val (JT.take h _) fun hc => by rw [hc.2, hc.1.2]
 ·refine J.ite (P := fun S => Wb L S = [46]) (P' := fun S => Wb L' S = [46]) (F := fun S => (Nd.mk 8 a (Qy L (Qw S)).1 [], (Qy L (Qw S)).2)) (F' := fun S => (Nd.mk 8 a' (Qy L' (Qw S)).1 [], (Qy L' (Qw S)).2)) (H := fun S => (Nd.mk 6 a 0 [], S)) (H' := fun S => (Nd.mk 6 a' 0 [], S)) (h.nowIff _) ?_ (J.val JT.id fun hc => by rw [hc.2])
  refine J.pre (F := fun S => (Nd.mk 8 a (Qy L S).1 [], (Qy L S).2)) (F' := fun S => (Nd.mk 8 a' (Qy L' S).1 [], (Qy L' S).2)) JT.next ?_
  exact (J.numeral h).map (u := fun x => Nd.mk 8 a x []) (u' := fun x => Nd.mk 8 a' x []) fun x hc => by rw [hc.2]
theorem J.variable (h : Ag L L' i) {E E' : Rd1} (hE : ∀ c, J i c E E') : J i c (WM L E) (WM L' E') :=
 (J.numbered h 118).bind (K := fun a S => varTail L E a S) (K' := fun a S => varTail L' E' a S) fun a a' => J.vtail h hE a a'
theorem J.binary (h : Ag L L' i) {E E' : Rd1} (hE : ∀ c, J i c E E') : J i c (qC L E) (qC L' E') := by
 refine (hE c).bind (K := fun a S => if qU (Wb L S) < 0 then (zNd, Zb S) else (Nd.mk 9 (qU (Wb L S)) 0 [a, (E (Qw S)).1], Q8 L [41] (E (Qw S)).2)) (K' := fun a S => if qU (Wb L' S) < 0 then (zNd, Zb S) else (Nd.mk 9 (qU (Wb L' S)) 0 [a, (E' (Qw S)).1], Q8 L' [41] (E' (Qw S)).2)) fun a a' => ?_
 refine J.ite (P := fun S => qU (Wb L S) < 0) (P' := fun S => qU (Wb L' S) < 0) (F := fun S => (zNd, Zb S)) (F' := fun S => (zNd, Zb S)) (fun S hp => by rw [h.now hp]) (J.val JT.fail fun _ => rfl) fun S => ?_
 have hb : ∀ c x x', (c -> x' = x) -> J i c (fun S => (Nd.mk 9 x 0 [a, (E S).1], Q8 L [41] (E S).2)) (fun S => (Nd.mk 9 x' 0 [a', (E' S).1], Q8 L' [41] (E' S).2)) -> True := fun _ _ _ _ _ => trivial
 have key : ∀ x, J i (c /\ a' = a) (fun S => (Nd.mk 9 x 0 [a, (E S).1], Q8 L [41] (E S).2)) (fun S => (Nd.mk 9 x 0 [a', (E' S).1], Q8 L' [41] (E' S).2)) := fun x =>
  (hE _).bind (K := fun y S => (Nd.mk 9 x 0 [a, y], Q8 L [41] S)) (K' := fun y S => (Nd.mk 9 x 0 [a', y], Q8 L' [41] S)) fun y y' => J.val (JT.take h _) fun hc => by rw [hc.2, hc.1.2]
 obtain ⟨a1, a2, a3⟩ := key (qU (Wb L S)) (Qw S)
 refine ⟨Nat.le_trans (Nat.le_succ _) a1, a2, fun hp => ?_⟩
 have := a3 hp
 show (Nd.mk 9 (qU (Wb L' S)) 0 [a', (E' (Qw S)).1], Q8 L' [41] (E' (Qw S)).2).2 = _ /\ (_ -> _ -> (Nd.mk 9 (qU (Wb L' S)) 0 [a', (E' (Qw S)).1], Q8 L' [41] (E' (Qw S)).2).1 = _)
 rw [h.now (Nat.le_trans (Nat.le_trans (Nat.le_succ _) a1) hp)]
 exact this
theorem J.node1 {E E' : Rd1} (k : Int) (hE : ∀ c, J i c E E') : J i c (fun S => (Nd.mk k 0 0 [(E S).1], (E S).2)) (fun S => (Nd.mk k 0 0 [(E' S).1], (E' S).2)) := (hE c).map (u := fun x => Nd.mk k 0 0 [x]) (u' := fun x => Nd.mk k 0 0 [x]) fun _ _ => rfl
theorem J.expr (h : Ag L L' i) : ∀ (n : Nat) (c : Prop), J i c (WU L z n) (WU L' z' n)
 | 0, c => J.val (a := zNd) (a' := zNd) JT.fail fun _ => rfl
 | n + 1, c => by
  have hE := J.expr h n
  refine J.ite (P := fun S => numB (Wb L S) = true) (P' := fun S => numB (Wb L' S) = true) (F := fun S => (Nd.mk 4 (Qy L S).1 0 [], (Qy L S).2)) (F' := fun S => (Nd.mk 4 (Qy L' S).1 0 [], (Qy L' S).2)) (fun S hp => by rw [h.now hp]) ((J.numeral h).map (u := fun x => Nd.mk 4 x 0 []) (u' := fun x => Nd.mk 4 x 0 []) fun _ _ => rfl) ?_
  refine J.ite (P := fun S => isM L 118 S = true) (P' := fun S => isM L' 118 S = true) (F := WM L (WU L z n)) (F' := WM L' (WU L' z' n)) (fun S hp => by rw [h.is hp]) (J.variable h hE) ?_
  refine J.ite (P := fun S => isM L 102 S = true) (P' := fun S => isM L' 102 S = true) (F := fun S => (Nd.mk 11 (Qr L 102 S).1 0 (WT L (WU L z n) n (Qr L 102 S).2).1, (WT L (WU L z n) n (Qr L 102 S).2).2)) (F' := fun S => (Nd.mk 11 (Qr L' 102 S).1 0 (WT L' (WU L' z' n) n (Qr L' 102 S).2).1, (WT L' (WU L' z' n) n (Qr L' 102 S).2).2)) (fun S hp => by rw [h.is hp]) ?_ ?_
  ·refine (J.numbered h 102).bind (K := fun a S => (Nd.mk 11 a 0 (WT L (WU L z n) n S).1, (WT L (WU L z n) n S).2)) (K' := fun a S => (Nd.mk 11 a 0 (WT L' (WU L' z' n) n S).1, (WT L' (WU L' z' n) n S).2)) fun a a' => ?_
   exact (J.arg h hE n).map (u := fun x => Nd.mk 11 a 0 x) (u' := fun x => Nd.mk 11 a' 0 x) fun x hc => by rw [hc.2]
  refine J.ite (P := fun S => Wb L S = [45]) (P' := fun S => Wb L' S = [45]) (F := fun S => if Wb L (Qw S) = [48] then (z, Zb (Qw S)) else (Nd.mk 4 (-(Qy L (Qw S)).1) 0 [], (Qy L (Qw S)).2)) (F' := fun S => if Wb L' (Qw S) = [48] then (z', Zb (Qw S)) else (Nd.mk 4 (-(Qy L' (Qw S)).1) 0 [], (Qy L' (Qw S)).2)) (h.nowIff _) ?_ ?_
  ·refine J.pre (F := fun S => if Wb L S = [48] then (z, Zb S) else (Nd.mk 4 (-(Qy L S).1) 0 [], (Qy L S).2)) (F' := fun S => if Wb L' S = [48] then (z', Zb S) else (Nd.mk 4 (-(Qy L' S).1) 0 [], (Qy L' S).2)) JT.next ?_
   refine J.ite (P := fun S => Wb L S = [48]) (P' := fun S => Wb L' S = [48]) (F := fun S => (z, Zb S)) (F' := fun S => (z', Zb S)) (h.nowIff _) (J.fail fun S => ⟨Nat.le_refl _, rfl, fun _ => rfl⟩) ?_
   exact (J.numeral h).map (u := fun x => Nd.mk 4 (-x) 0 []) (u' := fun x => Nd.mk 4 (-x) 0 []) fun _ _ => rfl
  refine J.ite (P := fun S => Wb L S = wTrue) (P' := fun S => Wb L' S = wTrue) (F := fun S => (Nd.mk 5 1 0 [], Qw S)) (F' := fun S => (Nd.mk 5 1 0 [], Qw S)) (h.nowIff _) (J.val JT.next fun _ => rfl) ?_
  refine J.ite (P := fun S => Wb L S = wFalse) (P' := fun S => Wb L' S = wFalse) (F := fun S => (Nd.mk 5 0 0 [], Qw S)) (F' := fun S => (Nd.mk 5 0 0 [], Qw S)) (h.nowIff _) (J.val JT.next fun _ => rfl) ?_
  refine J.ite (P := fun S => Wb L S = [40]) (P' := fun S => Wb L' S = [40]) (F := fun S => qC L (WU L z n) (Qw S)) (F' := fun S => qC L' (WU L' z' n) (Qw S)) (h.nowIff _) (J.pre JT.next (J.binary h hE)) ?_
  refine J.ite (P := fun S => Wb L S = [33]) (P' := fun S => Wb L' S = [33]) (F := fun S => (Nd.mk 10 0 0 [(WU L z n (Qw S)).1], (WU L z n (Qw S)).2)) (F' := fun S => (Nd.mk 10 0 0 [(WU L' z' n (Qw S)).1], (WU L' z' n (Qw S)).2)) (h.nowIff _) (J.pre (F := fun S => (Nd.mk 10 0 0 [(WU L z n S).1], (WU L z n S).2)) (F' := fun S => (Nd.mk 10 0 0 [(WU L' z' n S).1], (WU L' z' n S).2)) JT.next (J.node1 10 hE)) ?_
  refine J.ite (P := fun S => Wb L S = wRecv) (P' := fun S => Wb L' S = wRecv) (F := fun S => (Nd.mk 12 (Qr L 99 (Qw S)).1 0 [], (Qr L 99 (Qw S)).2)) (F' := fun S => (Nd.mk 12 (Qr L' 99 (Qw S)).1 0 [], (Qr L' 99 (Qw S)).2)) (H := fun S => (zNd, Zb S)) (H' := fun S => (zNd, Zb S)) (h.nowIff _) ?_ (J.val JT.fail fun _ => rfl)
  exact J.pre (F := fun S => (Nd.mk 12 (Qr L 99 S).1 0 [], (Qr L 99 S).2)) (F' := fun S => (Nd.mk 12 (Qr L' 99 S).1 0 [], (Qr L' 99 S).2)) JT.next ((J.numbered h 99).map (u := fun x => Nd.mk 12 x 0 []) (u' := fun x => Nd.mk 12 x 0 []) fun _ _ => rfl)
theorem J.typed (h : Ag L L' i) : ∀ (n : Nat) (c : Prop), J i c (WY L n) (WY L' n)
 | 0, c => J.val (a := zNd) (a' := zNd) JT.fail fun _ => rfl
 | n + 1, c => by
  have hE := J.typed h n
  refine J.ite (P := fun S => Wb L S = wInt) (P' := fun S => Wb L' S = wInt) (F := fun S => (Nd.mk 0 0 0 [], Qw S)) (F' := fun S => (Nd.mk 0 0 0 [], Qw S)) (h.nowIff _) (J.val JT.next fun _ => rfl) ?_
  refine J.ite (P := fun S => Wb L S = wBool) (P' := fun S => Wb L' S = wBool) (F := fun S => (Nd.mk 1 0 0 [], Qw S)) (F' := fun S => (Nd.mk 1 0 0 [], Qw S)) (h.nowIff _) (J.val JT.next fun _ => rfl) ?_
  refine J.ite (P := fun S => Wb L S = wArr) (P' := fun S => Wb L' S = wArr) (F := fun S => (Nd.mk 2 (Qy L (Qw S)).1 0 [], (Qy L (Qw S)).2)) (F' := fun S => (Nd.mk 2 (Qy L' (Qw S)).1 0 [], (Qy L' (Qw S)).2)) (h.nowIff _) ?_ ?_
  ·exact J.pre (F := fun S => (Nd.mk 2 (Qy L S).1 0 [], (Qy L S).2)) (F' := fun S => (Nd.mk 2 (Qy L' S).1 0 [], (Qy L' S).2)) JT.next ((J.numeral h).map (u := fun x => Nd.mk 2 x 0 []) (u' := fun x => Nd.mk 2 x 0 []) fun _ _ => rfl)
  refine J.ite (P := fun S => Wb L S = wRec) (P' := fun S => Wb L' S = wRec) (F := fun S => (Nd.mk 3 0 0 (ZW L (WY L n) n (Q8 L [40] (Qw S))).1, (ZW L (WY L n) n (Q8 L [40] (Qw S))).2)) (F' := fun S => (Nd.mk 3 0 0 (ZW L' (WY L' n) n (Q8 L' [40] (Qw S))).1, (ZW L' (WY L' n) n (Q8 L' [40] (Qw S))).2)) (H := fun S => (zNd, Zb S)) (H' := fun S => (zNd, Zb S)) (h.nowIff _) ?_ (J.val JT.fail fun _ => rfl)
  refine J.pre (F := fun S => (Nd.mk 3 0 0 (ZW L (WY L n) n (Q8 L [40] S)).1, (ZW L (WY L n) n (Q8 L [40] S)).2)) (F' := fun S => (Nd.mk 3 0 0 (ZW L' (WY L' n) n (Q8 L' [40] S)).1, (ZW L' (WY L' n) n (Q8 L' [40] S)).2)) JT.next ?_
  refine J.pre (F := fun S => (Nd.mk 3 0 0 (ZW L (WY L n) n S).1, (ZW L (WY L n) n S).2)) (F' := fun S => (Nd.mk 3 0 0 (ZW L' (WY L' n) n S).1, (ZW L' (WY L' n) n S).2)) (JT.take h [40]) ?_
  exact (J.lst h hE n).map (u := fun x => Nd.mk 3 0 0 x) (u' := fun x => Nd.mk 3 0 0 x) fun _ _ => rfl
theorem J.bloop (h : Ag L L' i) {E E' : Rd1} (hE : ∀ c, J i c E E') : ∀ (k : Nat) (c : Prop) (o o' : List Nd), (c -> o' = o) -> J i c (WN L E k o) (WN L' E' k o')
 | 0, c, o, o', ho => J.val (a := o) (a' := o') JT.id ho
 | k + 1, c, o, o', ho => by
  refine J.ite (P := fun S => S.bad = true) (P' := fun S => S.bad = true) (F := fun S => (o, S)) (F' := fun S => (o', S)) (fun _ _ => Iff.rfl) (J.val JT.id ho) ?_
  refine J.ite (P := fun S => Wb L S = [125]) (P' := fun S => Wb L' S = [125]) (F := fun S => (o, Qw S)) (F' := fun S => (o', Qw S)) (h.nowIff _) (J.val JT.next ho) ?_
  exact (hE c).bind (K := fun a S => WN L E k (o ++ [a]) S) (K' := fun a S => WN L' E' k (o' ++ [a]) S) fun a a' => J.bloop h hE k _ _ _ fun hc => by rw [ho hc.1, hc.2]
theorem J.block (h : Ag L L' i) {E E' : Rd1} (hE : ∀ c, J i c E E') (k : Nat) (c : Prop) : J i c (Ww L E k) (Ww L' E' k) := by
 refine J.pre (F := fun S => (Nd.mk 13 0 0 (WN L E k [] S).1, (WN L E k [] S).2)) (F' := fun S => (Nd.mk 13 0 0 (WN L' E' k [] S).1, (WN L' E' k [] S).2)) (JT.take h [123]) ?_
 exact (J.bloop h hE k c [] [] fun _ => rfl).map (u := fun x => Nd.mk 13 0 0 x) (u' := fun x => Nd.mk 13 0 0 x) fun _ _ => rfl
theorem J.atail (h : Ag L L' i) {E E' : Rd1} (hE : ∀ c, J i c E E') (a a' : Nd) : J i (c /\ a' = a) (fun S => (setM a (E (Q8 L [61] S)).1, (E (Q8 L [61] S)).2)) (fun S => (setM a' (E' (Q8 L' [61] S)).1, (E' (Q8 L' [61] S)).2)) := by
 refine J.pre (F := fun S => (setM a (E S).1, (E S).2)) (F' := fun S => (setM a' (E' S).1, (E' S).2)) (JT.take h [61]) ?_
 exact (hE _).map (u := fun x => setM a x) (u' := fun x => setM a' x) fun x hc => by rw [hc.2]
theorem J.assign (h : Ag L L' i) {E E' : Rd1} (hE : ∀ c, J i c E E') : J i c (qW L E) (qW L' E') :=
 (J.variable h hE).bind (K := fun a S => (setM a (E (Q8 L [61] S)).1, (E (Q8 L [61] S)).2)) (K' := fun a S => (setM a (E' (Q8 L' [61] S)).1, (E' (Q8 L' [61] S)).2)) fun a a' => J.atail h hE a a'
theorem J.one {E E' : Rd1} (hE : ∀ c, J i c E E') (k n n' : Int) (hn : c -> n' = n) : J i c (oneM E k n) (oneM E' k n') :=
 (hE c).map (u := fun x => Nd.mk k n 0 [x]) (u' := fun x => Nd.mk k n' 0 [x]) fun x hc => by rw [hn hc]
theorem J.iff (h : Ag L L' i) {E E' B B' : Rd1} (hE : ∀ c, J i c E E') (hB : ∀ c, J i c B B') : J i c (ifM L E B) (ifM L' E' B') := by
 refine (hE c).bind (K := fun x S => (Nd.mk 17 0 0 [x, (B S).1, (B (Q8 L wElse (B S).2)).1], (B (Q8 L wElse (B S).2)).2)) (K' := fun x S => (Nd.mk 17 0 0 [x, (B' S).1, (B' (Q8 L' wElse (B' S).2)).1], (B' (Q8 L' wElse (B' S).2)).2)) fun x x' => ?_
 refine (hB _).bind (K := fun y S => (Nd.mk 17 0 0 [x, y, (B (Q8 L wElse S)).1], (B (Q8 L wElse S)).2)) (K' := fun y S => (Nd.mk 17 0 0 [x', y, (B' (Q8 L' wElse S)).1], (B' (Q8 L' wElse S)).2)) fun y y' => ?_
 refine J.pre (F := fun S => (Nd.mk 17 0 0 [x, y, (B S).1], (B S).2)) (F' := fun S => (Nd.mk 17 0 0 [x', y', (B' S).1], (B' S).2)) (JT.take h wElse) ?_
 exact (hB _).map (u := fun w => Nd.mk 17 0 0 [x, y, w]) (u' := fun w => Nd.mk 17 0 0 [x', y', w]) fun w hc => by rw [hc.2, hc.1.2]
theorem J.whil {E E' B B' : Rd1} (hE : ∀ c, J i c E E') (hB : ∀ c, J i c B B') : J i c (whileM E B) (whileM E' B') := by
 refine (hE c).bind (K := fun x S => (Nd.mk 18 0 0 [x, (B S).1], (B S).2)) (K' := fun x S => (Nd.mk 18 0 0 [x, (B' S).1], (B' S).2)) fun x x' => ?_
 exact (hB _).map (u := fun w => Nd.mk 18 0 0 [x, w]) (u' := fun w => Nd.mk 18 0 0 [x', w]) fun w hc => by rw [hc.2]
theorem J.tri (h : Ag L L' i) {B B' : Rd1} (hB : ∀ c, J i c B B') : J i c (tryM L B) (tryM L' B') := by
 refine (hB c).bind (K := fun x S => (Nd.mk 21 (Qr L 118 (Q8 L qX S)).1 0 [x, (B (Qr L 118 (Q8 L qX S)).2).1], (B (Qr L 118 (Q8 L qX S)).2).2)) (K' := fun x S => (Nd.mk 21 (Qr L' 118 (Q8 L' qX S)).1 0 [x, (B' (Qr L' 118 (Q8 L' qX S)).2).1], (B' (Qr L' 118 (Q8 L' qX S)).2).2)) fun x x' => ?_
 refine J.pre (F := fun S => (Nd.mk 21 (Qr L 118 S).1 0 [x, (B (Qr L 118 S).2).1], (B (Qr L 118 S).2).2)) (F' := fun S => (Nd.mk 21 (Qr L' 118 S).1 0 [x', (B' (Qr L' 118 S).2).1], (B' (Qr L' 118 S).2).2)) (JT.take h qX) ?_
 refine (J.numbered h 118).bind (K := fun v S => (Nd.mk 21 v 0 [x, (B S).1], (B S).2)) (K' := fun v S => (Nd.mk 21 v 0 [x', (B' S).1], (B' S).2)) fun v v' => ?_
 exact (hB _).map (u := fun w => Nd.mk 21 v 0 [x, w]) (u' := fun w => Nd.mk 21 v' 0 [x', w]) fun w hc => by rw [hc.2, hc.1.2]
theorem J.stmt (h : Ag L L' i) {E E' : Rd1} (hE : ∀ c, J i c E E') (q : Nat) : ∀ (n : Nat) (c : Prop), J i c (WW L E q n) (WW L' E' q n)
 | 0, c => J.val (a := zNd) (a' := zNd) JT.fail fun _ => rfl
 | n + 1, c => by
  have hB : ∀ c, J i c (Ww L (WW L E q n) n) (Ww L' (WW L' E' q n) n) := fun c => J.block h (J.stmt h hE q n) n c
  refine J.ite (P := fun S => Wb L S = [123]) (P' := fun S => Wb L' S = [123]) (F := Ww L (WW L E q n) n) (F' := Ww L' (WW L' E' q n) n) (h.nowIff _) (hB c) ?_
  refine J.ite (P := fun S => isM L 118 S = true) (P' := fun S => isM L' 118 S = true) (F := qW L E) (F' := qW L' E') (fun S hp => by rw [h.is hp]) (J.assign h hE) ?_
  refine J.ite (P := fun S => Wb L S = wIf) (P' := fun S => Wb L' S = wIf) (F := fun S => ifM L E (Ww L (WW L E q n) n) (Qw S)) (F' := fun S => ifM L' E' (Ww L' (WW L' E' q n) n) (Qw S)) (h.nowIff _) (J.pre JT.next (J.iff h hE hB)) ?_
  refine J.ite (P := fun S => Wb L S = wWhile) (P' := fun S => Wb L' S = wWhile) (F := fun S => whileM E (Ww L (WW L E q n) n) (Qw S)) (F' := fun S => whileM E' (Ww L' (WW L' E' q n) n) (Qw S)) (h.nowIff _) (J.pre JT.next (J.whil hE hB)) ?_
  refine J.ite (P := fun S => Wb L S = wReturn) (P' := fun S => Wb L' S = wReturn) (F := fun S => oneM E 19 0 (Qw S)) (F' := fun S => oneM E' 19 0 (Qw S)) (h.nowIff _) (J.pre JT.next (J.one hE 19 0 0 fun _ => rfl)) ?_
  refine J.ite (P := fun S => Wb L S = wThrow) (P' := fun S => Wb L' S = wThrow) (F := fun S => oneM E 20 0 (Qw S)) (F' := fun S => oneM E' 20 0 (Qw S)) (h.nowIff _) (J.pre JT.next (J.one hE 20 0 0 fun _ => rfl)) ?_
  refine J.ite (P := fun S => Wb L S = wOut) (P' := fun S => Wb L' S = wOut) (F := fun S => oneM E 24 0 (Qw S)) (F' := fun S => oneM E' 24 0 (Qw S)) (h.nowIff _) (J.pre JT.next (J.one hE 24 0 0 fun _ => rfl)) ?_
  refine J.ite (P := fun S => Wb L S = wSkip) (P' := fun S => Wb L' S = wSkip) (F := fun S => (Nd.mk 25 0 0 [], Qw S)) (F' := fun S => (Nd.mk 25 0 0 [], Qw S)) (h.nowIff _) (J.val JT.next fun _ => rfl) ?_
  refine J.ite (P := fun S => Wb L S = wTry) (P' := fun S => Wb L' S = wTry) (F := fun S => tryM L (Ww L (WW L E q n) n) (Qw S)) (F' := fun S => tryM L' (Ww L' (WW L' E' q n) n) (Qw S)) (h.nowIff _) (J.pre JT.next (J.tri h hB)) ?_
  refine J.ite (P := fun S => Wb L S = wSend) (P' := fun S => Wb L' S = wSend) (F := fun S => oneM E 22 (Qr L 99 (Qw S)).1 (Qr L 99 (Qw S)).2) (F' := fun S => oneM E' 22 (Qr L' 99 (Qw S)).1 (Qr L' 99 (Qw S)).2) (h.nowIff _) ?_ ?_
  ·exact J.pre (F := fun S => oneM E 22 (Qr L 99 S).1 (Qr L 99 S).2) (F' := fun S => oneM E' 22 (Qr L' 99 S).1 (Qr L' 99 S).2) JT.next ((J.numbered h 99).bind (K := fun a S => oneM E 22 a S) (K' := fun a S => oneM E' 22 a S) fun a a' => J.one hE 22 a a' fun hc => hc.2)
  refine J.ite (P := fun S => Wb L S = wSpawn) (P' := fun S => Wb L' S = wSpawn) (F := fun S => (Nd.mk 23 (Qr L 102 (Qw S)).1 0 (WT L E q (Qr L 102 (Qw S)).2).1, (WT L E q (Qr L 102 (Qw S)).2).2)) (F' := fun S => (Nd.mk 23 (Qr L' 102 (Qw S)).1 0 (WT L' E' q (Qr L' 102 (Qw S)).2).1, (WT L' E' q (Qr L' 102 (Qw S)).2).2)) (H := fun S => (zNd, Zb S)) (H' := fun S => (zNd, Zb S)) (h.nowIff _) ?_ (J.val JT.fail fun _ => rfl)
  refine J.pre (F := fun S => (Nd.mk 23 (Qr L 102 S).1 0 (WT L E q (Qr L 102 S).2).1, (WT L E q (Qr L 102 S).2).2)) (F' := fun S => (Nd.mk 23 (Qr L' 102 S).1 0 (WT L' E' q (Qr L' 102 S).2).1, (WT L' E' q (Qr L' 102 S).2).2)) JT.next ?_
  refine (J.numbered h 102).bind (K := fun a S => (Nd.mk 23 a 0 (WT L E q S).1, (WT L E q S).2)) (K' := fun a S => (Nd.mk 23 a 0 (WT L' E' q S).1, (WT L' E' q S).2)) fun a a' => ?_
  exact (J.arg h hE q).map (u := fun x => Nd.mk 23 a 0 x) (u' := fun x => Nd.mk 23 a' 0 x) fun x hc => by rw [hc.2]
theorem J.fn (h : Ag L L' i) {T T' B B' : Rd1} (hT : ∀ c, J i c T T') (hB : ∀ c, J i c B B') (q : Nat) : J i c (funM L T B q) (funM L' T' B' q) := by
 refine J.pre (F := fun S => (Nd.mk 26 (Qy L S).1 0 ((WT L T q (Qy L S).2).1 ++ [(B (WT L T q (Qy L S).2).2).1]), (B (WT L T q (Qy L S).2).2).2)) (F' := fun S => (Nd.mk 26 (Qy L' S).1 0 ((WT L' T' q (Qy L' S).2).1 ++ [(B' (WT L' T' q (Qy L' S).2).2).1]), (B' (WT L' T' q (Qy L' S).2).2).2)) (JT.take h wFun) ?_
 refine (J.numeral h).bind (K := fun v S => (Nd.mk 26 v 0 ((WT L T q S).1 ++ [(B (WT L T q S).2).1]), (B (WT L T q S).2).2)) (K' := fun v S => (Nd.mk 26 v 0 ((WT L' T' q S).1 ++ [(B' (WT L' T' q S).2).1]), (B' (WT L' T' q S).2).2)) fun v v' => ?_
 refine (J.arg h hT q).bind (K := fun a S => (Nd.mk 26 v 0 (a ++ [(B S).1]), (B S).2)) (K' := fun a S => (Nd.mk 26 v' 0 (a ++ [(B' S).1]), (B' S).2)) fun a a' => ?_
 exact (hB _).map (u := fun x => Nd.mk 26 v 0 (a ++ [x])) (u' := fun x => Nd.mk 26 v' 0 (a' ++ [x])) fun x hc => by rw [hc.2, hc.1.2]
theorem J.ploop (h : Ag L L' i) {F F' : Rd1} (hF : ∀ c, J i c F F') : ∀ (k : Nat) (c : Prop) (o o' : List Nd), (c -> o' = o) -> J i c (Wc L F k o) (Wc L' F' k o')
 | 0, c, o, o', ho => J.val (a := o) (a' := o') JT.id ho
 | k + 1, c, o, o', ho => by
  refine J.ite (P := fun S => S.bad = false /\ S.p < L.length) (P' := fun S => S.bad = false /\ S.p < L'.length) (F := fun S => Wc L F k (o ++ [(F S).1]) (F S).2) (F' := fun S => Wc L' F' k (o' ++ [(F' S).1]) (F' S).2) (H := fun S => (o, S)) (H' := fun S => (o', S)) (fun S hp => by rw [h.len _ hp]) ?_ (J.val JT.id ho)
  exact (hF c).bind (K := fun a S => Wc L F k (o ++ [a]) S) (K' := fun a S => Wc L' F' k (o' ++ [a]) S) fun a a' => J.ploop h hF k _ _ _ fun hc => by rw [ho hc.1, hc.2]
theorem J.prog (h : Ag L L' i) (q : Nat) : (Zj L z q).2.p <= i -> (Zj L' z' q).2 = (Zj L z q).2 /\ ((Zj L z q).2.bad = false -> (Zj L' z' q).1 = (Zj L z q).1) := by
 have hE : ∀ c, J i c (WU L z q) (WU L' z' q) := J.expr h q
 have hF : ∀ c, J i c (Zr L z q) (Zr L' z' q) := fun c => J.fn h (J.typed h q) (fun c => J.block h (J.stmt h hE q q) q c) q
 have key : J i True (fun S => (Nd.mk 27 (Qy L (Q8 L W9 S)).1 0 (Wc L (Zr L z q) q [] (Qy L (Q8 L W9 S)).2).1, (Wc L (Zr L z q) q [] (Qy L (Q8 L W9 S)).2).2)) (fun S => (Nd.mk 27 (Qy L' (Q8 L' W9 S)).1 0 (Wc L' (Zr L' z' q) q [] (Qy L' (Q8 L' W9 S)).2).1, (Wc L' (Zr L' z' q) q [] (Qy L' (Q8 L' W9 S)).2).2)) := by
  refine J.pre (F := fun S => (Nd.mk 27 (Qy L S).1 0 (Wc L (Zr L z q) q [] (Qy L S).2).1, (Wc L (Zr L z q) q [] (Qy L S).2).2)) (F' := fun S => (Nd.mk 27 (Qy L' S).1 0 (Wc L' (Zr L' z' q) q [] (Qy L' S).2).1, (Wc L' (Zr L' z' q) q [] (Qy L' S).2).2)) (JT.take h W9) ?_
  refine (J.numeral h).bind (K := fun v S => (Nd.mk 27 v 0 (Wc L (Zr L z q) q [] S).1, (Wc L (Zr L z q) q [] S).2)) (K' := fun v S => (Nd.mk 27 v 0 (Wc L' (Zr L' z' q) q [] S).1, (Wc L' (Zr L' z' q) q [] S).2)) fun v v' => ?_
  exact (J.ploop h hF q _ [] [] fun _ => rfl).map (u := fun x => Nd.mk 27 v 0 x) (u' := fun x => Nd.mk 27 v' 0 x) fun x hc => by rw [hc.2]
 intro hp
 obtain ⟨_, _, k3⟩ := key ⟨0, false⟩
 obtain ⟨e1, e2⟩ := k3 hp
 exact ⟨e1, e2 trivial⟩
end
end Go.Proofs
end
section
namespace Go.Proofs
open Go.Av
variable {G : Nat -> DV}
attribute [local irreducible] OpSem Zh ZB ZP ACalls qu AClose RV
open Go.Bl
abbrev Lp3 {α β γ : Type} (I : α -> β -> γ -> ASt) (pre : α -> β -> γ -> Prop) (μ : α -> β -> γ -> Nat) (x : α) (y : β) (z : γ) (st' : ASt) : Prop := ∃ x' y' z', pre x' y' z' /\ μ x' y' z' < μ x y z /\ ALe st' (I x' y' z')
theorem r_loop3n {P : Program} {G : Nat -> DV} {E : AX} {n : Nat} {N : ASt -> Prop} {xs : List (Nat × (ASt -> Prop))} {R : ASt -> Prop} {st : ASt} {c : Code} {α β γ : Type} (I : α -> β -> γ -> ASt) (pre : α -> β -> γ -> Prop) (μ : α -> β -> γ -> Nat) (x0 : α) (y0 : β) (z0 : γ) (h0 : ALe st (I x0 y0 z0)) (hp0 : pre x0 y0 z0)
  (round : ∀ x y z, pre x y z -> Zh P G E n c (Lp3 I pre μ x y z) xs R (I x y z)) : Zh P G E n (.loop c) N xs R st := r_loop3 I pre μ x0 y0 z0 h0 hp0 round
def mM (L : ZI) (S : RS) : Nat := if S.bad = true then 0 else L.length - S.p + 1
theorem rm_mM (L : ZI) (S : RS) : rM L S <= mM L S /\ mM L S <= rM L S + 1 := by
 unfold rM mM;split <;> omega
def Eats (L : ZI) (T : Rd1) : Prop := ∀ S, S.bad = false -> mM L (T S).2 < mM L S
theorem mm_next {L : ZI} {S : RS} {s : List UInt8} (h : Wb L S = s) (hs : s ≠ []) : mM L (Qw S) < mM L S := by
 obtain ⟨h1, h2, h3⟩ := now_at (L := L) (S := S) (by rw [h];exact hs)
 unfold mM Qw
 rw [h1]
 simp;omega
theorem mm_fail {L : ZI} {S : RS} (h : S.bad = false) : mM L (Zb S) < mM L S := by
 unfold mM Zb;rw [h];simp
theorem mm_take {L : ZI} {S : RS} (s : List UInt8) (hs : s ≠ []) : mM L (Q8 L s S) <= rM L S /\ rM L (Q8 L s S) <= rM L S - 1 := by
 unfold Q8
 split
 ·rename_i h
  obtain ⟨h1, h2, h3⟩ := now_at (L := L) (S := S) (by rw [h];exact hs)
  unfold mM rM Qw
  rw [h1]
  simp;omega
 ·unfold mM rM Zb;simp
theorem bad_neg {S : RS} (h : S.bad = false) : badI S < 0 := by unfold badI;rw [h];simp
theorem bad_pos {S : RS} (h : S.bad = true) : 0 <= badI S := by unfold badI;rw [if_pos h];omega
theorem bloop_bad {L : ZI} {T : Rd1} {o : List Nd} {S : RS} (h : S.bad = true) : ∀ k, WN L T k o S = (o, S)
 | 0 => rfl
 | k + 1 => by rw [WN, if_pos h]
theorem block_rc (L : ZI) (hL : OkL L) (T : Rd1) (r0 k : Nat) (hT : ElC G 152 L T r0) (he : Eats L T) (S : RS) (hr : rM L S <= r0 + 1) (hk : rM L S + 1 <= k) :
  CE Tryz.prog G 111 (fun p g => [.ptr p g 0]) (rdC L S) (.agg (Enc.enc (Ww L T k S).1)) (rdC L (Ww L T k S).2) := fun g B hg => by
 have htk := take_c (G := G) L S hL [123] (by decide)
 have hle := mm_take (L := L) (S := S) [123] (by decide)
 have hle0 : rM L (Q8 L [123] S) <= r0 := by omega
 unfold Ww
 generalize Q8 L [123] S = S1 at *
 have hr1000 : rM L S <= 1000000 := by unfold rM;split <;> have := hL.1 <;> omega
 refine Qa Tryz.func111 rfl Tryz.ntmps111 rfl (t := [(0, .ptr 0 g 0)]) rfl fun E0 hE1 => ?_
 (repeat' first|(refine Qe ?_;(first|refine QI rfl ?_|refine Wg 0 (htk) rfl rfl rfl rfl ?_|refine WR rfl rfl rfl rfl ?_|refine QH rfl rfl ?_|refine QD (fun _ _ => ?_)))|(refine Qk ?_;(first|refine Qi ?_|refine QK rfl ?_|refine Q1 ?_))|(refine Qj ?_;(first|refine Ql ?_|refine Qc ?_|refine Qf ?_)))
 rename_i g2 hg2 gn hgn
 refine r_ownin 2 3 4 rfl rfl (fun _ => rfl) (fun gk hgk => ?_)
 refine r_loop3n (fun (o : List Nd) (Q : RS) (gg : Nat) => ⟨[(0, .ptr 0 g 0), (2, .ptr 1 g2 0), (3, .ptr 2 gn 0)], [.row g (rdC L Q), .row g2 [.i 0, .i 0, .i 0, .nil], .row gn [.i 13, .i 0, .i 0, .ref 3 gg 0 o.length 4], .row gg (WE o)]⟩) (fun o Q gg => E0.N < gg /\ rM L Q <= r0 /\ o.length + mM L Q <= rM L S + 1 /\ ∃ k', WN L T k [] S1 = WN L T k' o Q /\ mM L Q + 1 <= k') (fun o Q gg => mM L Q) [] S1 gk ?_ ⟨hgk, hle0, by have := rm_mM L S1;simp;omega, k, rfl, by have := rm_mM L S1;omega⟩ ?_
 ·exact zal rfl
 intro o Q gg ⟨hgg, hq1, hq2, k', hk1, hk2⟩
 have hol : o.length <= 2000000 := by omega
 rw [hk1]
 cases hb : Q.bad with
 | true =>
  have hbi := bad_pos hb
  rw [bloop_bad hb]
  (repeat' first|(refine Qe ?_;(first|refine QI rfl ?_|(refine QB ?_;(first|refine WQ rfl rfl ?_|refine Qb rfl rfl rfl ?_))|refine QY rfl rfl ?_|refine Wr rfl rfl ?_|refine WR rfl rfl rfl rfl ?_|refine Qd rfl rfl ?_|refine Qv rfl rfl ?_))|(refine Qk ?_;(first|refine Qi ?_|refine QK rfl ?_|refine Q1 ?_|refine W1 rfl rfl rfl rfl ?_|refine Q2 rfl rfl (by omega) ?_))|(refine Qj ?_;(first|refine Ql ?_|refine Qc ?_|refine Qm rfl ?_|refine Wp rfl ?_|refine Qt ?_)))
  exact e_1 (Tryz.results111) (QA (size := 4) rfl rfl rfl rfl) (Zz (D := fun d => .agg [.i 13, .i 0, .i 0, d]) (k := 2) (.node rfl rfl rfl) rfl (by rw [Q4];rfl) (by rw [Q0];rfl) rfl)
 | false =>
  have hbi := bad_neg hb
  match k', hk1, hk2 with
  | k2 + 1, hk1, hk2 =>
  by_cases hc : Wb L Q = [125]
  ·have hv1 := Z4 (G := G) L Q hL [125] (by decide) hc
   have hend : WN L T (k2 + 1) o Q = (o, Qw Q) := by rw [WN, if_neg (by rw [hb];decide), if_pos hc]
   rw [hend]
   (repeat' first|(refine Qe ?_;(first|refine QI rfl ?_|(refine QB ?_;(first|refine WQ rfl rfl ?_|refine Qb rfl rfl rfl ?_))|refine QY rfl rfl ?_|refine Wg 0 (hv1) rfl rfl rfl rfl ?_|refine WK rfl rfl ?_|refine WR rfl rfl rfl rfl ?_|refine Wo rfl ?_|refine Qd rfl rfl ?_|refine Qv rfl rfl ?_))|(refine Qk ?_;(first|refine Qi ?_|refine QK rfl ?_|refine Q1 ?_|refine Wx rfl rfl rfl rfl ?_|refine Q7 rfl rfl (by omega) ?_))|(refine Qj ?_;(first|refine Ql ?_|refine Qc ?_|refine Qm rfl ?_|refine Wp rfl ?_|refine Qt ?_)))
   exact e_1 (Tryz.results111) (QA (size := 4) rfl rfl rfl rfl) (Zz (D := fun d => .agg [.i 13, .i 0, .i 0, d]) (k := 2) (.node rfl rfl rfl) rfl (by rw [Q4];rfl) (by rw [Q0];rfl) rfl)
  ·have hv1 := Z7 (G := G) L Q hL [125] (by decide) hc
   have hrec : WN L T (k2 + 1) o Q = WN L T k2 (o ++ [(T Q).1]) (T Q).2 := by rw [WN, if_neg (by rw [hb];decide), if_neg hc]
   have hlt := he Q hb
   obtain ⟨hT2, hrT⟩ := hT Q hq1
   generalize hx2 : (T Q).1 = x2 at *
   generalize hS2 : (T Q).2 = S2 at *
   (repeat' first|(refine Qe ?_;(first|refine QI rfl ?_|refine Qb rfl rfl rfl ?_|refine QY rfl rfl ?_|(refine Qp ?_;(first|refine ZL (z := x2) rfl rfl rfl rfl rfl rfl rfl (by first|omega|(simp;omega)) (by first|omega|(simp;omega)) (fun _ => rfl) (fun _ _ => ?_)|refine Wg 0 (hv1) rfl rfl rfl rfl ?_|refine Wg 0 (hT2) rfl rfl rfl rfl ?_))|refine WK rfl rfl ?_|refine We rfl rfl rfl rfl (by rfl) (by rfl) (by rfl) ?_|refine Wo rfl ?_|refine Qd rfl rfl ?_|refine Qv rfl rfl ?_))|(refine Qk ?_;(first|refine Qi ?_|refine QK rfl ?_|refine Wx rfl rfl rfl rfl ?_|refine Q7 rfl rfl (by omega) ?_))|(refine Qj ?_;(first|refine Ql ?_|refine Qc ?_|refine Qf ?_|(refine Wn ?_;first|(refine QG (fun p => p.1 :: .row g2 [.i 0, .i 0, .i 0, .nil] :: .row gn [.i 13, .i 0, .i 0, .ref 3 gg 0 o.length 4] :: p.2) 7 [(0, true), (1, true), (2, true), (3, false), (4, true), (5, false), (6, true), (7, false)] (by rfl) (by rfl) (by kernel_rfl) (by decide +kernel) (by decide +kernel) ⟨(_, _), rfl⟩ ?_)|refine Q6 (by rfl) (by kernel_rfl) (by kernel_rfl) ?_|refine Q5 (by kernel_rfl) (by kernel_rfl) ?_)|refine Qu ?_|refine Qh rfl ?_))|(refine Zf ?_;(first|refine ZY ?_|refine i_z0 ?_|refine i_st rfl rfl (fun _ => (by (repeat' first|(refine Qe ?_;(first|refine QI rfl ?_|refine Qb rfl rfl rfl ?_|refine Wf (z := x2) rfl rfl (by decide) ?_|refine Qd rfl rfl ?_))|exact ⟨rfl, rfl⟩))) ?_|refine i_ef rfl ?_))|refine And.intro (Exists.intro ((_, _)) rfl) ?_)
   refine ⟨o ++ [x2], S2, _, ⟨by assumption, by omega, by simp;omega, k2, hrec, by omega⟩, by omega, ?_⟩
   exact zal rfl
section
variable {P : Program} {G : Nat -> DV} {B : Nat} {f : Operand -> DV} {σ : List ABlk} {K : DV -> List ABlk -> Prop} {dst : Option Tmp} {type : TypeId} {pos : String} {after : Array Edge} {gd : Option (Nat × Bool)} {E : AX}
theorem s_callv_og {x : Operand} {args : Array Operand} {ts : Array TypeId} {fid : FuncId} {first cap es : List DV} {d0 : Nat -> DV} {σ1 : Nat -> List ABlk} [FnOk P fid] (hx : f x = .fn (.func fid) first cap) (hds : reL (first ++ args.toList.map f ++ cap) = some es) (h : ACalls P G B fid es σ (fun d τ => ∃ g', B < g' /\ d = d0 g' /\ τ = σ1 g')) (kk : ∀ g', B < g' -> K (d0 g') (σ1 g')) :
  OpSem P G B ⟨dst, .call ⟨.value x, args, ts⟩, type, pos, after, gd⟩ f σ K := s_callv hx hds (h.mono fun _ _ ⟨g', hg, e1, e2⟩ => by rw [e1, e2];exact kk g' hg)
theorem c_co3 {D D2 : DV -> DV} {B k gk len len2 es es2 : Nat} {ks k2 : List DV} {b0 b1 b2 : ABlk} {r : List ABlk} (hD : FrmD D) (hB : B <= E.N) (hk1 : 3 <= k) (hk : (b0 :: b1 :: b2 :: r)[k]? = some (.row gk k2)) (hDD : D2 = D) (hl : len2 = len) (he : es2 = es) (hks : k2 = ks) :
  AClose E (fun d' τ' => ∃ g', B < g' /\ d' = D (.ref 3 g' 0 len es) /\ τ' = [b0, b1, b2, .row g' ks]) (D2 (.ref k gk 0 len2 es2)) (b0 :: b1 :: b2 :: r) := by
 subst hDD hl he hks
 refine (hD.close (c_own (m := 3) (R := fun d' τ' => ∃ g', B < g' /\ d' = .ref 3 g' 0 len2 es2 /\ τ' = [b0, b1, b2, .row g' k2]) hk1 hk fun g' hg' => ⟨g', by omega, rfl, rfl⟩) ?_).mono ?_
 ·rintro d0 σ' ⟨g', _, rfl, _⟩;rfl
 ·rintro d' σ' ⟨d0, ⟨g', h1, rfl, h3⟩, rfl⟩
  exact ⟨g', h1, rfl, h3⟩
end
theorem stmt1_rc (L : ZI) (E : Rd1) (r0 : Nat) (hE : ElC G 176 L E r0) (S : RS) (hr : rM L S <= r0) (kk : Int) (g gb g2 B : Nat) (hg : g <= B) :
  ACalls Tryz.prog G B 175 [.i kk, .ptr 1 gb 0] [.row g (rdC L S), .row gb [.ptr 0 g 0], .row g2 [.i 0, .i 0, .i 0, .nil]] (fun d τ => ∃ g', B < g' /\ d = .agg [.i kk, .i 0, .i 0, .ref 3 g' 0 [(E S).1].length 4] /\ τ = [.row g (rdC L (E S).2), .row gb [.ptr 0 g 0], .row g2 [.i 0, .i 0, .i 0, .nil], .row g' (WE [(E S).1])]) := by
 obtain ⟨hE2, _⟩ := hE S hr
 generalize (E S).1 = xE at *
 generalize (E S).2 = S2 at *
 refine Qa Tryz.func175 rfl Tryz.ntmps175 rfl (t := [(0, .i kk), (1, .ptr 1 gb 0)]) rfl fun E0 hE1 => ?_
 (repeat' first|(refine Qe ?_;(first|refine QI rfl ?_|refine Qb rfl rfl rfl ?_|refine Wg 0 (hE2) rfl rfl rfl rfl ?_|refine WR rfl rfl rfl rfl ?_|refine s_bslice_own1 (z := xE) rfl rfl rfl rfl (fun _ _ => ?_)|refine QH rfl rfl ?_|refine QD (fun _ _ => ?_)))|(refine Qk ?_;(first|refine Qi ?_|refine QK rfl ?_|refine Q1 ?_))|(refine Qj ?_;(first|refine Ql ?_|refine Qc ?_|refine Qt ?_)))
 exact e_1 (Tryz.results175) (QA (size := 4) rfl rfl rfl rfl) (c_co3 (k := 4) (D := fun d => .agg [.i kk, .i 0, .i 0, d]) (.node rfl rfl rfl) hE1 (by omega) rfl rfl rfl rfl rfl)
theorem assign_rc (L : ZI) (hL : OkL L) (E : Rd1) (r0 : Nat) (hE : ElC G 176 L E r0) (S : RS) (hr : rM L S <= r0 + 1) (hw : isM L 118 S = true) :
  CE Tryz.prog G 178 (fun p g => [.ptr p g 0]) (rdC L S) (.agg (Enc.enc (qW L E S).1)) (rdC L (qW L E S).2) := fun g B hg => by
 obtain ⟨hv, hvl⟩ := variable_rc (G := G) L hL E r0 hE S hr
 have hlt : rM L (WM L E S).2 <= r0 := by
  have h1 := (W0 (L := L) (S := S) rfl (is_now hw).1).1
  have h2 : (Qr L 118 S).2 = Qw S := by unfold Qr;rw [if_pos hw]
  have hn : rM L (Qr L 118 S).2 <= r0 := by rw [h2];omega
  unfold WM varTail
  generalize (Qr L 118 S).2 = S1 at *
  split
  ·rename_i hc
   have h3 := (W0 hc (by decide)).1
   have h4 := (hE (Qw S1) (by omega)).2
   have h5 := rM_take (L := L) (S := (E (Qw S1)).2) [93] (by decide)
   show rM L (Q8 L [93] (E (Qw S1)).2) <= r0
   omega
  ·split
   ·rename_i hc
    have h3 := (W0 hc (by decide)).1
    have h4 := rM_numeral L (Qw S1)
    show rM L (Qy L (Qw S1)).2 <= r0
    omega
   ·exact hn
 have hkl : (kidsN (WM L E S).1).length <= 1 := by
  unfold WM varTail
  repeat' split
  all_goals simp [kidsN]
 unfold qW
 generalize (WM L E S).1 = v at *
 generalize (WM L E S).2 = S1 at *
 obtain ⟨k, n, m, ks⟩ := v
 have hvar : CO Tryz.prog G 199 (fun p g => [.ptr p g 0]) (rdC L S) (fun d => .agg [.i k, .i n, .i m, d]) ks.length 4 (WE ks) (rdC L S1) := hv
 have htk := take_c (G := G) L S1 hL [61] (by decide)
 have hle := rM_take (L := L) (S := S1) [61] (by decide)
 generalize Q8 L [61] S1 = S2 at *
 obtain ⟨hx2, _⟩ := hE S2 (by omega)
 generalize (E S2).1 = x2 at *
 generalize (E S2).2 = S3 at *
 unfold setM setKind
 dsimp only
 have hkl : ks.length <= 1 := hkl
 by_cases k7 : k = 7
 ·rw [if_pos k7]
  refine Qa Tryz.func178 rfl Tryz.ntmps178 rfl (t := [(0, .ptr 0 g 0)]) rfl fun E0 hE1 => ?_
  (repeat' first|(refine Qe ?_;(first|refine QI rfl ?_|refine QJ rfl ?_|(refine QB ?_;(first|refine WQ rfl rfl ?_|refine Qb rfl rfl rfl ?_))|refine QO rfl rfl ?_|(refine Qp ?_;(first|refine ZL (z := x2) rfl rfl rfl rfl rfl rfl rfl (by first|omega|(simp;omega)) (by first|omega|(simp;omega)) (fun _ => rfl) (fun _ _ => ?_)|refine Wg 0 (hx2) rfl rfl rfl rfl ?_|refine Wg 0 (htk) rfl rfl rfl rfl ?_|refine s_co 0 (hvar) (by first|exact .id|exact .node rfl rfl rfl) rfl rfl rfl rfl (QN _) (fun _ _ => ?_)))|(refine Wv ?_;(first|refine WR rfl rfl rfl rfl ?_|refine We rfl rfl rfl rfl (by rfl) (by rfl) (by rfl) ?_))|refine Qd rfl rfl ?_|refine QD (fun _ _ => ?_)))|(refine Qk ?_;(first|refine Qi ?_|refine QK rfl ?_|refine Q1 ?_))|(refine Qj ?_;(first|refine Ql ?_|refine Qc ?_|refine Qf ?_|(refine Wn ?_;first|(rename_i g2 hg2 gk hgk gn hgn;refine QG (fun p => p.1 :: .row g2 [.i 0, .i 0, .i 0, .nil] :: p.2 :: .row gn [.i k, .i n, .i m, .ref 2 gk 0 ks.length 4] :: []) 7 [(0, true), (1, true), (2, true), (3, false), (4, true), (5, false), (6, true), (7, false)] (by rfl) (by rfl) (by kernel_rfl) (by decide +kernel) (by decide +kernel) ⟨(_, _), rfl⟩ ?_)|(refine QG (fun p => p.1 :: p.2 :: []) 100 [(0, true)] (by rfl) (by rfl) (by kernel_rfl) (by decide +kernel) (by decide +kernel) ⟨(_, _), rfl⟩ ?_)|(refine QG (fun p => p) 100 [(0, true)] (by rfl) (by rfl) (by kernel_rfl) (by decide +kernel) (by decide +kernel) ⟨_, rfl⟩ ?_)|refine Q6 (by rfl) (by kernel_rfl) (by kernel_rfl) ?_|refine Q5 (by kernel_rfl) (by kernel_rfl) ?_)|refine Qq rfl (by omega) ?_|refine Qt ?_))|(refine Zf ?_;(first|refine ZY ?_|refine i_z0 ?_|refine i_st rfl rfl (fun _ => (by (repeat' first|(refine Qe ?_;(first|refine QI rfl ?_|refine Qb rfl rfl rfl ?_|refine Wf (z := x2) rfl rfl (by decide) ?_|refine Qd rfl rfl ?_))|exact ⟨rfl, rfl⟩))) ?_|refine i_ef rfl ?_))|refine And.intro (Exists.intro ((_, _)) rfl) ?_)
  exact e_1 (Tryz.results178) (QA (size := 4) rfl rfl rfl rfl) (Zz (D := fun d => .agg [.i 15, .i n, .i m, d]) (k := 1) (.node rfl rfl rfl) rfl (by rw [Q4];rfl) (by rw [Q0];rfl) rfl)
 rw [if_neg k7]
 by_cases k8 : k = 8
 ·rw [if_pos k8]
  refine Qa Tryz.func178 rfl Tryz.ntmps178 rfl (t := [(0, .ptr 0 g 0)]) rfl fun E0 hE1 => ?_
  (repeat' first|(refine Qe ?_;(first|refine QI rfl ?_|refine QJ rfl ?_|(refine QB ?_;(first|refine WQ rfl rfl ?_|refine Qb rfl rfl rfl ?_))|refine QO rfl rfl ?_|(refine Qp ?_;(first|refine ZL (z := x2) rfl rfl rfl rfl rfl rfl rfl (by first|omega|(simp;omega)) (by first|omega|(simp;omega)) (fun _ => rfl) (fun _ _ => ?_)|refine Wg 0 (hx2) rfl rfl rfl rfl ?_|refine Wg 0 (htk) rfl rfl rfl rfl ?_|refine s_co 0 (hvar) (by first|exact .id|exact .node rfl rfl rfl) rfl rfl rfl rfl (QN _) (fun _ _ => ?_)))|(refine Wv ?_;(first|refine WR rfl rfl rfl rfl ?_|refine We rfl rfl rfl rfl (by rfl) (by rfl) (by rfl) ?_))|refine Qd rfl rfl ?_|refine QD (fun _ _ => ?_)))|(refine Qk ?_;(first|refine Qi ?_|refine QK rfl ?_|refine Q1 ?_))|(refine Qj ?_;(first|refine Ql ?_|refine Qc ?_|refine Qf ?_|(refine Wn ?_;first|(rename_i g2 hg2 gk hgk gn hgn;refine QG (fun p => p.1 :: .row g2 [.i 0, .i 0, .i 0, .nil] :: p.2 :: .row gn [.i k, .i n, .i m, .ref 2 gk 0 ks.length 4] :: []) 7 [(0, true), (1, true), (2, true), (3, false), (4, true), (5, false), (6, true), (7, false)] (by rfl) (by rfl) (by kernel_rfl) (by decide +kernel) (by decide +kernel) ⟨(_, _), rfl⟩ ?_)|(refine QG (fun p => p.1 :: p.2 :: []) 100 [(0, true)] (by rfl) (by rfl) (by kernel_rfl) (by decide +kernel) (by decide +kernel) ⟨(_, _), rfl⟩ ?_)|(refine QG (fun p => p) 100 [(0, true)] (by rfl) (by rfl) (by kernel_rfl) (by decide +kernel) (by decide +kernel) ⟨_, rfl⟩ ?_)|refine Q6 (by rfl) (by kernel_rfl) (by kernel_rfl) ?_|refine Q5 (by kernel_rfl) (by kernel_rfl) ?_)|refine Qq rfl (by omega) ?_|refine Qn rfl (by omega) ?_|refine Qt ?_))|(refine Zf ?_;(first|refine ZY ?_|refine i_z0 ?_|refine i_st rfl rfl (fun _ => (by (repeat' first|(refine Qe ?_;(first|refine QI rfl ?_|refine Qb rfl rfl rfl ?_|refine Wf (z := x2) rfl rfl (by decide) ?_|refine Qd rfl rfl ?_))|exact ⟨rfl, rfl⟩))) ?_|refine i_ef rfl ?_))|refine And.intro (Exists.intro ((_, _)) rfl) ?_)
  exact e_1 (Tryz.results178) (QA (size := 4) rfl rfl rfl rfl) (Zz (D := fun d => .agg [.i 16, .i n, .i m, d]) (k := 1) (.node rfl rfl rfl) rfl (by rw [Q4];rfl) (by rw [Q0];rfl) rfl)
 ·rw [if_neg k8]
  refine Qa Tryz.func178 rfl Tryz.ntmps178 rfl (t := [(0, .ptr 0 g 0)]) rfl fun E0 hE1 => ?_
  (repeat' first|(refine Qe ?_;(first|refine QI rfl ?_|refine QJ rfl ?_|(refine QB ?_;(first|refine WQ rfl rfl ?_|refine Qb rfl rfl rfl ?_))|refine QO rfl rfl ?_|(refine Qp ?_;(first|refine ZL (z := x2) rfl rfl rfl rfl rfl rfl rfl (by first|omega|(simp;omega)) (by first|omega|(simp;omega)) (fun _ => rfl) (fun _ _ => ?_)|refine Wg 0 (hx2) rfl rfl rfl rfl ?_|refine Wg 0 (htk) rfl rfl rfl rfl ?_|refine s_co 0 (hvar) (by first|exact .id|exact .node rfl rfl rfl) rfl rfl rfl rfl (QN _) (fun _ _ => ?_)))|(refine Wv ?_;(first|refine WR rfl rfl rfl rfl ?_|refine We rfl rfl rfl rfl (by rfl) (by rfl) (by rfl) ?_))|refine Qd rfl rfl ?_|refine QD (fun _ _ => ?_)))|(refine Qk ?_;(first|refine Qi ?_|refine QK rfl ?_|refine Q1 ?_))|(refine Qj ?_;(first|refine Ql ?_|refine Qc ?_|refine Qf ?_|(refine Wn ?_;first|(rename_i g2 hg2 gk hgk gn hgn;refine QG (fun p => p.1 :: .row g2 [.i 0, .i 0, .i 0, .nil] :: p.2 :: .row gn [.i k, .i n, .i m, .ref 2 gk 0 ks.length 4] :: []) 7 [(0, true), (1, true), (2, true), (3, false), (4, true), (5, false), (6, true), (7, false)] (by rfl) (by rfl) (by kernel_rfl) (by decide +kernel) (by decide +kernel) ⟨(_, _), rfl⟩ ?_)|(refine QG (fun p => p.1 :: p.2 :: []) 100 [(0, true)] (by rfl) (by rfl) (by kernel_rfl) (by decide +kernel) (by decide +kernel) ⟨(_, _), rfl⟩ ?_)|(refine QG (fun p => p) 100 [(0, true)] (by rfl) (by rfl) (by kernel_rfl) (by decide +kernel) (by decide +kernel) ⟨_, rfl⟩ ?_)|refine Q6 (by rfl) (by kernel_rfl) (by kernel_rfl) ?_|refine Q5 (by kernel_rfl) (by kernel_rfl) ?_)|refine Qn rfl (by omega) ?_|refine Qt ?_))|(refine Zf ?_;(first|refine ZY ?_|refine i_z0 ?_|refine i_st rfl rfl (fun _ => (by (repeat' first|(refine Qe ?_;(first|refine QI rfl ?_|refine Qb rfl rfl rfl ?_|refine Wf (z := x2) rfl rfl (by decide) ?_|refine Qd rfl rfl ?_))|exact ⟨rfl, rfl⟩))) ?_|refine i_ef rfl ?_))|refine And.intro (Exists.intro ((_, _)) rfl) ?_)
  exact e_1 (Tryz.results178) (QA (size := 4) rfl rfl rfl rfl) (Zz (D := fun d => .agg [.i 14, .i n, .i m, d]) (k := 1) (.node rfl rfl rfl) rfl (by rw [Q4];rfl) (by rw [Q0];rfl) rfl)
theorem agg4_nil {L : Lay} {a b c : DV} {es : Nat} {v : Value} (h : VRep L (.agg [a, b, c, .sc (.slice none 0 0)]) v) : VRep L (.agg [a, b, c, .sl es []]) v := by
 cases h with|agg _ vs hl ho hg =>
 refine .agg _ _ hl (fun e he => ?_) fun j e hj => ?_
 ·simp only [List.mem_cons, List.not_mem_nil, or_false] at he
  rcases he with rfl|rfl|rfl|rfl
  ·exact ho _ (by simp)
  ·exact ho _ (by simp)
  ·exact ho _ (by simp)
  ·rfl
 ·match j with
  | 0 => exact hg 0 e hj
  | 1 => exact hg 1 e hj
  | 2 => exact hg 2 e hj
  | 3 => simp at hj;subst hj;exact Zq (hg 3 _ rfl)
  | j + 4 => simp at hj
theorem partD_node (v : Nd) : partD (Enc.enc v) 0 4 = some (Enc.enc v) := by cases v;rw [Q0];rfl
theorem numeralM_le (L : ZI) (S : RS) : 0 <= (Qy L S).1 /\ (Qy L S).1 <= 999 := by
 unfold Qy
 split
 ·rename_i h;exact ⟨(val_num h).2.1, (val_num h).2.2⟩
 ·simp
theorem args_le {F : FuncId} {L : ZI} {E : Rd1} {r0 : Nat} (hE : ElC G F L E r0) (k : Nat) (S : RS) (h : rM L S <= r0) : rM L (WT L E k S).2 <= rM L S := by
 have h1 := rM_take (L := L) (S := S) [40] (by decide)
 unfold WT
 split
 ·rename_i hc
  have := (W0 hc (by decide)).1
  show rM L (Qw (Q8 L [40] S)) <= _
  omega
 ·have := list_le hE k (Q8 L [40] S) (by omega)
  omega
theorem one_c (k n : Int) : Go.Av.Pure Tryz.prog G 198 [.i k, .i n] (.agg [.i k, .i n, .i 0, QT ([] : List Nd)]) := fun B => by
 refine Qa Tryz.func198 rfl Tryz.ntmps198 rfl (t := [(0, .i k), (1, .i n)]) rfl fun E hE => ?_
 (repeat' first|(refine Qe ?_;(first|refine QI rfl ?_|refine WR rfl rfl rfl rfl ?_|refine QH rfl rfl ?_|refine QD (fun _ _ => ?_)))|(refine Qk ?_;(first|refine Qi ?_|refine QK rfl ?_|refine Q1 ?_))|(refine Qj ?_;(first|refine Ql ?_|refine Qc ?_|refine Qt ?_)))
 exact e_1 (Tryz.results198) (QA (size := 4) rfl rfl rfl rfl) (Zm (d2 := .agg [.i k, .i n, .i 0, .sl 4 []]) (fun L v h => agg4_nil h) (Qs rfl))
theorem expr_rc (hG1 : G 1 = spaceT) (L : ZI) (hL : OkL L) : ∀ (n : Nat) (S : RS), rM L S + 2 <= n -> CE Tryz.prog G 176 (fun p g => [.ptr p g 0]) (rdC L S) (.agg (Enc.enc (WU L (.mk 4 0 0 []) n S).1)) (rdC L (WU L (.mk 4 0 0 []) n S).2) /\ rM L (WU L (.mk 4 0 0 []) n S).2 <= rM L S := by
 intro n
 induction n with
 | zero => intro S h;omega
 | succ n ih =>
 intro S hn
 rw [WU]
 have htn := tnum_c (G := G) (Wb L S) (now_len hL S)
 by_cases h1 : numB (Wb L S) = true
 ·rw [if_pos h1]
  rw [h1] at htn
  have hnm := qr (G := G) L S hL
  have hnl := rM_numeral L S
  refine ⟨fun g B hg => ?_, by first|omega|(simp only;omega)⟩
  refine Qa Tryz.func176 rfl Tryz.ntmps176 rfl (t := [(0, .ptr 0 g 0)]) rfl fun E0 hE1 => ?_
  (repeat' first|(refine Qe ?_;(first|refine QI rfl ?_|refine QJ rfl ?_|(refine Qp ?_;(first|refine QZ rfl rfl (htn) ?_|refine qy rfl (one_c _ _) (by repeat' first|exact Wm|exact WD _|exact WH (QN _)|exact QN _|refine ZG ?_ ?_|refine Zy ?_|refine WS ?_|refine WF ?_|exact WZ|refine Wl ?_ ?_|refine WH ?_) ?_|refine Wg 0 (qg L S hL) rfl rfl rfl rfl ?_|refine Wg 0 (hnm) rfl rfl rfl rfl ?_))|refine WR rfl rfl rfl rfl ?_|refine QD (fun _ _ => ?_)))|(refine Qk ?_;(first|refine Qi ?_|refine QK rfl ?_|refine Q1 ?_))|(refine Qj ?_;(first|refine Ql ?_|refine Qc ?_|refine Qf ?_|refine Qh rfl ?_|refine Qt ?_)))
  refine e_1 (Tryz.results176) (QA (size := 4) rfl rfl rfl rfl) ?_
  rw [Q0]
  exact c_ce rfl rfl
 rw [if_neg h1]
 rw [show numB (Wb L S) = false by simpa using h1] at htn
 have his1 := is_c (G := G) L S hL 118
 have hel : rM L S >= 1 -> ElC G 176 L (WU L (.mk 4 0 0 []) n) (rM L S - 1) := fun _ Q hQ => ih Q (by omega)
 by_cases h2 : isM L 118 S = true
 ·rw [if_pos h2]
  rw [h2] at his1
  have hrn := (W0 (L := L) (S := S) rfl (is_now h2).1).1
  obtain ⟨hv, hvl⟩ := variable_rc (G := G) L hL _ _ (hel (by omega)) S (by omega)
  have hvar := (hv.pub (frmN_ok _) (by rw [Q4];rfl)).conv (frmN_enc _) rfl
  refine ⟨fun g B hg => ?_, by first|exact hvl|omega|(simp only;omega)|(simp only;rw [qz];omega)⟩
  refine Qa Tryz.func176 rfl Tryz.ntmps176 rfl (t := [(0, .ptr 0 g 0)]) rfl fun E0 hE1 => ?_
  (repeat' first|(refine Qe ?_;(first|refine QI rfl ?_|refine QJ rfl ?_|(refine Qp ?_;(first|refine QZ rfl rfl (htn) ?_|refine Wg 0 (qg L S hL) rfl rfl rfl rfl ?_|refine Wg 0 (his1) rfl rfl rfl rfl ?_|refine Wg 0 (hvar) rfl rfl rfl rfl ?_))|refine WR rfl rfl rfl rfl ?_|refine QD (fun _ _ => ?_)))|(refine Qk ?_;(first|refine Qi ?_|refine QK rfl ?_|refine Q1 ?_))|(refine Qj ?_;(first|refine Ql ?_|refine Qc ?_|refine Qf ?_|refine Qh rfl ?_|refine Qm rfl ?_|refine Qt ?_)))
  exact e_1 (Tryz.results176) (QA (size := 4) rfl rfl (partD_node _) (Enc.len _)) (c_ce rfl rfl)
 rw [if_neg h2]
 rw [show isM L 118 S = false by simpa using h2] at his1
 have his2 := is_c (G := G) L S hL 102
 by_cases h3 : isM L 102 S = true
 ·rw [if_pos h3]
  rw [h3] at his2
  have hrn := (W0 (L := L) (S := S) rfl (is_now h3).1).1
  have hnb := numbered_c (G := G) L S hL 102
  have hr2 : rM L (Qr L 102 S).2 + 1 = rM L S := by unfold Qr;rw [if_pos h3];exact hrn
  generalize (Qr L 102 S).1 = v at *
  generalize (Qr L 102 S).2 = S1 at *
  have hargs := args_rc (G := G) 176 L _ _ n hL (hel (by omega)) S1 (by omega) (by omega)
  have hal := args_le (hel (by omega)) n S1 (by omega)
  refine ⟨fun g B hg => ?_, by first|omega|(simp only;omega)|(simp only;rw [qz];omega)⟩
  refine Qa Tryz.func176 rfl Tryz.ntmps176 rfl (t := [(0, .ptr 0 g 0)]) rfl fun E0 hE1 => ?_
  (repeat' first|(refine Qe ?_;(first|refine QI rfl ?_|refine QJ rfl ?_|refine WQ rfl rfl ?_|(refine Qp ?_;(first|refine QZ rfl rfl (htn) ?_|refine qy rfl (one_c _ _) (by repeat' first|exact Wm|exact WD _|exact WH (QN _)|exact QN _|refine ZG ?_ ?_|refine Zy ?_|refine WS ?_|refine WF ?_|exact WZ|refine Wl ?_ ?_|refine WH ?_) ?_|refine Wg 0 (qg L S hL) rfl rfl rfl rfl ?_|refine Wg 0 (his1) rfl rfl rfl rfl ?_|refine Wg 0 (his2) rfl rfl rfl rfl ?_|refine Wg 0 (hnb) rfl rfl rfl rfl ?_|refine s_co 0 (hargs) (by first|exact .id|exact .node rfl rfl rfl) rfl rfl rfl rfl (QN _) (fun _ _ => ?_)))|(refine Wv ?_;(first|refine WR rfl rfl rfl rfl ?_|refine We rfl rfl rfl rfl (by rfl) (by rfl) (by rfl) ?_))|refine Qd rfl rfl ?_|refine QU rfl rfl ?_|refine QD (fun _ _ => ?_)))|(refine Qk ?_;(first|refine Qi ?_|refine QK rfl ?_|refine Q1 ?_))|(refine Qj ?_;(first|refine Ql ?_|refine Qc ?_|refine Qf ?_|refine Qh rfl ?_|refine Qm rfl ?_|refine Qt ?_)))
  exact e_1 (Tryz.results176) (QA (size := 4) rfl rfl rfl rfl) (Zz (D := fun d => .agg [.i 11, .i v, .i 0, d]) (k := 2) (.node rfl rfl rfl) rfl (by rw [Q4];rfl) (by rw [Q0];rfl) rfl)
 rw [if_neg h3]
 rw [show isM L 102 S = false by simpa using h3] at his2
 by_cases h4 : Wb L S = [45]
 ·rw [if_pos h4]
  have hrn := (W0 h4 (by decide)).1
  have hnw2 := qg (G := G) L (Qw S) hL
  by_cases h5 : Wb L (Qw S) = [48]
  ·rw [if_pos h5]
   have hd : decide (Wb L (Qw S) = [48]) = true := decide_eq_true h5
   have hfl := fail_c (G := G) L (Qw S)
   have hnm := qr (G := G) L (Zb (Qw S)) hL
   rw [show Qy L (Zb (Qw S)) = (0, Zb (Qw S)) by unfold Qy Wb Zb;simp [numB]] at hnm
   refine ⟨fun g B hg => ?_, by first|omega|(simp only;omega)|(simp only;rw [qz];omega)⟩
   refine Qa Tryz.func176 rfl Tryz.ntmps176 rfl (t := [(0, .ptr 0 g 0)]) rfl fun E0 hE1 => ?_
   (repeat' first|(refine Qe ?_;(first|refine QI rfl ?_|refine QJ rfl ?_|refine Wu rfl rfl ?_|(refine Qp ?_;(first|refine QZ rfl rfl (htn) ?_|refine qy rfl (one_c _ _) (by repeat' first|exact Wm|exact WD _|exact WH (QN _)|exact QN _|refine ZG ?_ ?_|refine Zy ?_|refine WS ?_|refine WF ?_|exact WZ|refine Wl ?_ ?_|refine WH ?_) ?_|refine Wg 0 (qg L S hL) rfl rfl rfl rfl ?_|refine Wg 0 (his1) rfl rfl rfl rfl ?_|refine Wg 0 (his2) rfl rfl rfl rfl ?_|refine Wg 0 (hnw2) rfl rfl rfl rfl ?_|refine Wg 0 (Z4 L S hL _ (by decide) (by assumption)) rfl rfl rfl rfl ?_|refine Wg 0 (hnm) rfl rfl rfl rfl ?_|refine Wg 0 (hfl) rfl rfl rfl rfl ?_))|refine WR rfl rfl rfl rfl ?_|refine s_neg rfl (by omega) ?_|refine QD (fun _ _ => ?_)))|(refine Qk ?_;(first|refine Qi ?_|refine QK rfl ?_|refine Q1 ?_))|(refine Qj ?_;(first|refine Ql ?_|refine Qc ?_|refine Qf ?_|refine Qh rfl ?_|refine Qm rfl ?_|refine Qq rfl (by omega) ?_|refine Qt ?_)))
   refine e_1 (Tryz.results176) (QA (size := 4) rfl rfl rfl rfl) ?_
   rw [Q0]
   exact c_ce rfl rfl
  ·rw [if_neg h5]
   have hd : decide (Wb L (Qw S) = [48]) = false := decide_eq_false h5
   have hnm := qr (G := G) L (Qw S) hL
   have hnl := rM_numeral L (Qw S)
   have hnb := numeralM_le L (Qw S)
   generalize (Qy L (Qw S)).1 = v at *
   generalize (Qy L (Qw S)).2 = S2 at *
   refine ⟨fun g B hg => ?_, by first|omega|(simp only;omega)|(simp only;rw [qz];omega)⟩
   refine Qa Tryz.func176 rfl Tryz.ntmps176 rfl (t := [(0, .ptr 0 g 0)]) rfl fun E0 hE1 => ?_
   (repeat' first|(refine Qe ?_;(first|refine QI rfl ?_|refine QJ rfl ?_|refine Wu rfl rfl ?_|(refine Qp ?_;(first|refine QZ rfl rfl (htn) ?_|refine qy rfl (one_c _ _) (by repeat' first|exact Wm|exact WD _|exact WH (QN _)|exact QN _|refine ZG ?_ ?_|refine Zy ?_|refine WS ?_|refine WF ?_|exact WZ|refine Wl ?_ ?_|refine WH ?_) ?_|refine Wg 0 (qg L S hL) rfl rfl rfl rfl ?_|refine Wg 0 (his1) rfl rfl rfl rfl ?_|refine Wg 0 (his2) rfl rfl rfl rfl ?_|refine Wg 0 (hnw2) rfl rfl rfl rfl ?_|refine Wg 0 (Z4 L S hL _ (by decide) (by assumption)) rfl rfl rfl rfl ?_|refine Wg 0 (hnm) rfl rfl rfl rfl ?_))|refine WR rfl rfl rfl rfl ?_|refine s_neg rfl (by omega) ?_|refine QD (fun _ _ => ?_)))|(refine Qk ?_;(first|refine Qi ?_|refine QK rfl ?_|refine Q1 ?_))|(refine Qj ?_;(first|refine Ql ?_|refine Qc ?_|refine Qf ?_|refine Qu ?_|refine Qh rfl ?_|refine Qm rfl ?_|refine Qn rfl (by omega) ?_|refine Qt ?_)))
   refine e_1 (Tryz.results176) (QA (size := 4) rfl rfl rfl rfl) ?_
   rw [Q0]
   exact c_ce rfl rfl
 rw [if_neg h4]
 by_cases hwTrue : Wb L S = wTrue
 ·rw [if_pos hwTrue]
  have hrn := (W0 hwTrue (by decide)).1
  refine ⟨fun g B hg => ?_, by first|omega|(simp only;omega)|(simp only;rw [qz];omega)⟩
  refine Qa Tryz.func176 rfl Tryz.ntmps176 rfl (t := [(0, .ptr 0 g 0)]) rfl fun E0 hE1 => ?_
  (repeat' first|(refine Qe ?_;(first|refine QI rfl ?_|refine QJ rfl ?_|(refine Qp ?_;(first|refine QZ rfl rfl (htn) ?_|refine qy rfl (one_c _ _) (by repeat' first|exact Wm|exact WD _|exact WH (QN _)|exact QN _|refine ZG ?_ ?_|refine Zy ?_|refine WS ?_|refine WF ?_|exact WZ|refine Wl ?_ ?_|refine WH ?_) ?_|refine Wg 0 (qg L S hL) rfl rfl rfl rfl ?_|refine Wg 0 (his1) rfl rfl rfl rfl ?_|refine Wg 0 (his2) rfl rfl rfl rfl ?_|refine Wg 0 (Z7 L S hL _ (by decide) (by assumption)) rfl rfl rfl rfl ?_|refine Wg 0 (Z4 L S hL _ (by decide) (by assumption)) rfl rfl rfl rfl ?_))|refine WR rfl rfl rfl rfl ?_|refine QD (fun _ _ => ?_)))|(refine Qk ?_;(first|refine Qi ?_|refine QK rfl ?_|refine Q1 ?_))|(refine Qj ?_;(first|refine Ql ?_|refine Qc ?_|refine Qf ?_|refine Qh rfl ?_|refine Qm rfl ?_|refine Qt ?_)))
  refine e_1 (Tryz.results176) (QA (size := 4) rfl rfl rfl rfl) ?_
  rw [Q0]
  exact c_ce rfl rfl
 rw [if_neg hwTrue]
 by_cases hwFalse : Wb L S = wFalse
 ·rw [if_pos hwFalse]
  have hrn := (W0 hwFalse (by decide)).1
  refine ⟨fun g B hg => ?_, by first|omega|(simp only;omega)|(simp only;rw [qz];omega)⟩
  refine Qa Tryz.func176 rfl Tryz.ntmps176 rfl (t := [(0, .ptr 0 g 0)]) rfl fun E0 hE1 => ?_
  (repeat' first|(refine Qe ?_;(first|refine QI rfl ?_|refine QJ rfl ?_|(refine Qp ?_;(first|refine QZ rfl rfl (htn) ?_|refine qy rfl (one_c _ _) (by repeat' first|exact Wm|exact WD _|exact WH (QN _)|exact QN _|refine ZG ?_ ?_|refine Zy ?_|refine WS ?_|refine WF ?_|exact WZ|refine Wl ?_ ?_|refine WH ?_) ?_|refine Wg 0 (qg L S hL) rfl rfl rfl rfl ?_|refine Wg 0 (his1) rfl rfl rfl rfl ?_|refine Wg 0 (his2) rfl rfl rfl rfl ?_|refine Wg 0 (Z7 L S hL _ (by decide) (by assumption)) rfl rfl rfl rfl ?_|refine Wg 0 (Z4 L S hL _ (by decide) (by assumption)) rfl rfl rfl rfl ?_))|refine WR rfl rfl rfl rfl ?_|refine QD (fun _ _ => ?_)))|(refine Qk ?_;(first|refine Qi ?_|refine QK rfl ?_|refine Q1 ?_))|(refine Qj ?_;(first|refine Ql ?_|refine Qc ?_|refine Qf ?_|refine Qh rfl ?_|refine Qm rfl ?_|refine Qt ?_)))
  refine e_1 (Tryz.results176) (QA (size := 4) rfl rfl rfl rfl) ?_
  rw [Q0]
  exact c_ce rfl rfl
 rw [if_neg hwFalse]
 by_cases h6 : Wb L S = [40]
 ·rw [if_pos h6]
  have hrn := (W0 h6 (by decide)).1
  obtain ⟨hbin, hbl⟩ := binary_rc (G := G) hG1 L hL _ _ (hel (by omega)) (Qw S) (by omega)
  refine ⟨fun g B hg => ?_, by omega⟩
  refine Qa Tryz.func176 rfl Tryz.ntmps176 rfl (t := [(0, .ptr 0 g 0)]) rfl fun E0 hE1 => ?_
  (repeat' first|(refine Qe ?_;(first|refine QI rfl ?_|refine QJ rfl ?_|(refine Qp ?_;(first|refine QZ rfl rfl (htn) ?_|refine Wg 0 (qg L S hL) rfl rfl rfl rfl ?_|refine Wg 0 (his1) rfl rfl rfl rfl ?_|refine Wg 0 (his2) rfl rfl rfl rfl ?_|refine Wg 0 (Z7 L S hL _ (by decide) (by assumption)) rfl rfl rfl rfl ?_|refine Wg 0 (Z4 L S hL _ (by decide) (by assumption)) rfl rfl rfl rfl ?_|refine Wg 0 (hbin) rfl rfl rfl rfl ?_))|refine WR rfl rfl rfl rfl ?_|refine QD (fun _ _ => ?_)))|(refine Qk ?_;(first|refine Qi ?_|refine QK rfl ?_|refine Q1 ?_))|(refine Qj ?_;(first|refine Ql ?_|refine Qc ?_|refine Qf ?_|refine Qh rfl ?_|refine Qm rfl ?_|refine Qt ?_)))
  exact e_1 (Tryz.results176) (QA (size := 4) rfl rfl (partD_node _) (Enc.len _)) (c_ce rfl rfl)
 rw [if_neg h6]
 by_cases h7 : Wb L S = [33]
 ·rw [if_pos h7]
  have hrn := (W0 h7 (by decide)).1
  obtain ⟨hE2, hl2⟩ := hel (by omega) (Qw S) (by omega)
  generalize (WU L (.mk 4 0 0 []) n (Qw S)).1 = xE at *
  generalize (WU L (.mk 4 0 0 []) n (Qw S)).2 = S2 at *
  refine ⟨fun g B hg => ?_, by first|omega|(simp only;omega)|(simp only;rw [qz];omega)⟩
  refine Qa Tryz.func176 rfl Tryz.ntmps176 rfl (t := [(0, .ptr 0 g 0)]) rfl fun E0 hE1 => ?_
  (repeat' first|(refine Qe ?_;(first|refine QI rfl ?_|refine QJ rfl ?_|(refine Qp ?_;(first|refine QZ rfl rfl (htn) ?_|refine Wg 0 (qg L S hL) rfl rfl rfl rfl ?_|refine Wg 0 (his1) rfl rfl rfl rfl ?_|refine Wg 0 (his2) rfl rfl rfl rfl ?_|refine Wg 0 (Z7 L S hL _ (by decide) (by assumption)) rfl rfl rfl rfl ?_|refine Wg 0 (Z4 L S hL _ (by decide) (by assumption)) rfl rfl rfl rfl ?_|refine Wg 0 (hE2) rfl rfl rfl rfl ?_))|refine WR rfl rfl rfl rfl ?_|refine Wf (z := xE) rfl rfl (by decide) ?_|refine QH rfl rfl ?_|refine QD (fun _ _ => ?_)))|(refine Qk ?_;(first|refine Qi ?_|refine QK rfl ?_|refine Q1 ?_))|(refine Qj ?_;(first|refine Ql ?_|refine Qc ?_|refine Qf ?_|refine Qh rfl ?_|refine Qm rfl ?_|refine Qt ?_)))
  refine e_1 (Tryz.results176) (QA (size := 4) rfl rfl rfl rfl) ?_
  rw [Q0]
  exact c_ce (by simp [QT, WE];try rfl) rfl
 rw [if_neg h7]
 by_cases h8 : Wb L S = wRecv
 ·rw [if_pos h8]
  have hrn := (W0 h8 (by decide)).1
  have hnb := numbered_c (G := G) L (Qw S) hL 99
  have hnl := rM_numbered L 99 (Qw S)
  refine ⟨fun g B hg => ?_, by first|omega|(simp only;omega)|(simp only;rw [qz];omega)⟩
  refine Qa Tryz.func176 rfl Tryz.ntmps176 rfl (t := [(0, .ptr 0 g 0)]) rfl fun E0 hE1 => ?_
  (repeat' first|(refine Qe ?_;(first|refine QI rfl ?_|refine QJ rfl ?_|(refine Qp ?_;(first|refine QZ rfl rfl (htn) ?_|refine qy rfl (one_c _ _) (by repeat' first|exact Wm|exact WD _|exact WH (QN _)|exact QN _|refine ZG ?_ ?_|refine Zy ?_|refine WS ?_|refine WF ?_|exact WZ|refine Wl ?_ ?_|refine WH ?_) ?_|refine Wg 0 (qg L S hL) rfl rfl rfl rfl ?_|refine Wg 0 (his1) rfl rfl rfl rfl ?_|refine Wg 0 (his2) rfl rfl rfl rfl ?_|refine Wg 0 (Z7 L S hL _ (by decide) (by assumption)) rfl rfl rfl rfl ?_|refine Wg 0 (Z4 L S hL _ (by decide) (by assumption)) rfl rfl rfl rfl ?_|refine Wg 0 (hnb) rfl rfl rfl rfl ?_))|refine WR rfl rfl rfl rfl ?_|refine QD (fun _ _ => ?_)))|(refine Qk ?_;(first|refine Qi ?_|refine QK rfl ?_|refine Q1 ?_))|(refine Qj ?_;(first|refine Ql ?_|refine Qc ?_|refine Qf ?_|refine Qh rfl ?_|refine Qm rfl ?_|refine Qt ?_)))
  refine e_1 (Tryz.results176) (QA (size := 4) rfl rfl rfl rfl) ?_
  rw [Q0]
  exact c_ce rfl rfl
 rw [if_neg h8]
 refine ⟨fun g B hg => ?_, by first|omega|(simp only;omega)|(simp only;rw [qz];omega)⟩
 refine Qa Tryz.func176 rfl Tryz.ntmps176 rfl (t := [(0, .ptr 0 g 0)]) rfl fun E0 hE1 => ?_
 (repeat' first|(refine Qe ?_;(first|refine QI rfl ?_|refine QJ rfl ?_|(refine Qp ?_;(first|refine QZ rfl rfl (htn) ?_|refine Wg 0 (qg L S hL) rfl rfl rfl rfl ?_|refine Wg 0 (his1) rfl rfl rfl rfl ?_|refine Wg 0 (his2) rfl rfl rfl rfl ?_|refine Wg 0 (Z7 L S hL _ (by decide) (by assumption)) rfl rfl rfl rfl ?_|refine Wg 0 (fail_c L S) rfl rfl rfl rfl ?_))|refine WR rfl rfl rfl rfl ?_|refine QH rfl rfl ?_|refine QD (fun _ _ => ?_)))|(refine Qk ?_;(first|refine Qi ?_|refine QK rfl ?_|refine Q1 ?_))|(refine Qj ?_;(first|refine Ql ?_|refine Qc ?_|refine Qf ?_|refine Qu ?_|refine Qm rfl ?_|refine Qt ?_)))
 exact e_1 (Tryz.results176) (QA (size := 4) rfl rfl rfl rfl) (Za (es := 4) (.node rfl rfl rfl) (by show _ = DV.agg (Enc.enc (Nd.mk 0 0 0 []));rw [Q0];rfl) rfl)
end Go.Proofs
end
section
namespace Go.Proofs
open Go.Av Go.Bl
theorem jr {α : Type} {L : ZI} {F : RS -> α × RS} (h : ∀ i, J i True F F) (S : RS) : rM L (F S).2 <= rM L S /\ mM L (F S).2 <= mM L S := by
 obtain ⟨h1, h2, _⟩ := h 0 S
 unfold rM mM
 cases hb : S.bad with
 | true => rw [h2 hb];simp
 | false => constructor <;> split <;> simp <;> omega
theorem jB {L : ZI} {T : Rd1} (hT : ∀ i c, J i c T T) (k i : Nat) (c : Prop) : J i c (Ww L T k) (Ww L T k) := J.block (Ag.refl L i) (hT i) k c
theorem jS {L : ZI} {E : Rd1} (hE : ∀ i c, J i c E E) (q n i : Nat) (c : Prop) : J i c (WW L E q n) (WW L E q n) := J.stmt (Ag.refl L i) (hE i) q n c
theorem mm_is {L : ZI} {S : RS} {c : UInt8} (h : isM L c S = true) : mM L (Qr L c S).2 < mM L S := by
 have h1 := mm_next (L := L) (S := S) rfl (is_now h).1
 unfold Qr;rw [if_pos h];exact h1
theorem eats_st {L : ZI} {E : Rd1} (hE : ∀ i c, J i c E E) (q n : Nat) : Eats L (WW L E q (n + 1)) := by
 intro S hb
 rw [WW]
 have hB : ∀ i c, J i c (Ww L (WW L E q n) n) (Ww L (WW L E q n) n) := fun i c => jB (fun i c => jS hE q n i c) n i c
 have nx : ∀ {α : Type} {F : RS -> α × RS} {s : List UInt8}, (∀ i, J i True F F) -> Wb L S = s -> s ≠ [] -> mM L (F (Qw S)).2 < mM L S := fun hF h1 h2 => Nat.lt_of_le_of_lt (jr hF (Qw S)).2 (mm_next h1 h2)
 by_cases h : Wb L S = [123]
 ·rw [if_pos h]
  have h1 := (mm_take (L := L) (S := S) [123] (by decide)).1
  have h2 := rm_mM L S
  have h3 : rM L S < mM L S := by unfold rM mM;rw [hb];simp
  have h4 : mM L (WN L (WW L E q n) n [] (Q8 L [123] S)).2 <= mM L (Q8 L [123] S) := (jr (fun i => J.bloop (Ag.refl L i) (fun c => jS hE q n i c) n True [] [] fun _ => rfl) _).2
  show mM L (WN L (WW L E q n) n [] (Q8 L [123] S)).2 < _
  omega
 rw [if_neg h]
 clear h
 by_cases h : isM L 118 S = true
 ·rw [if_pos h]
  have h1 := mm_is h
  have h2 : mM L (WM L E S).2 <= mM L (Qr L 118 S).2 := (jr (fun i => (J.vtail (Ag.refl L i) (hE i) _ _ : J i (True /\ (Qr L 118 S).1 = (Qr L 118 S).1) _ _).weak fun _ => ⟨trivial, rfl⟩) _).2
  have h3 : mM L (qW L E S).2 <= mM L (WM L E S).2 := (jr (fun i => (J.atail (Ag.refl L i) (hE i) _ _ : J i (True /\ (WM L E S).1 = (WM L E S).1) _ _).weak fun _ => ⟨trivial, rfl⟩) _).2
  omega
 rw [if_neg h]
 clear h
 by_cases h : Wb L S = wIf
 ·rw [if_pos h]
  exact nx (F := ifM L E (Ww L (WW L E q n) n)) (fun i => J.iff (Ag.refl L i) (hE i) (hB i)) h (by decide)
 rw [if_neg h]
 clear h
 by_cases h : Wb L S = wWhile
 ·rw [if_pos h]
  exact nx (F := whileM E (Ww L (WW L E q n) n)) (fun i => J.whil (hE i) (hB i)) h (by decide)
 rw [if_neg h]
 clear h
 by_cases h : Wb L S = wReturn
 ·rw [if_pos h]
  exact nx (F := oneM E 19 0) (fun i => J.one (hE i) _ _ _ fun _ => rfl) h (by decide)
 rw [if_neg h]
 clear h
 by_cases h : Wb L S = wThrow
 ·rw [if_pos h]
  exact nx (F := oneM E 20 0) (fun i => J.one (hE i) _ _ _ fun _ => rfl) h (by decide)
 rw [if_neg h]
 clear h
 by_cases h : Wb L S = wOut
 ·rw [if_pos h]
  exact nx (F := oneM E 24 0) (fun i => J.one (hE i) _ _ _ fun _ => rfl) h (by decide)
 rw [if_neg h]
 clear h
 by_cases h : Wb L S = wSkip
 ·rw [if_pos h]
  exact mm_next h (by decide)
 rw [if_neg h]
 clear h
 by_cases h : Wb L S = wTry
 ·rw [if_pos h]
  exact nx (F := tryM L (Ww L (WW L E q n) n)) (fun i => J.tri (Ag.refl L i) (hB i)) h (by decide)
 rw [if_neg h]
 clear h
 by_cases h : Wb L S = wSend
 ·rw [if_pos h]
  have h1 := mm_next h (by decide)
  have h2 := (jr (L := L) (F := Qr L 99) (fun i => J.numbered (Ag.refl L i) 99) (Qw S)).2
  have h3 := (jr (L := L) (F := oneM E 22 (Qr L 99 (Qw S)).1) (fun i => J.one (hE i) _ _ _ fun _ => rfl) (Qr L 99 (Qw S)).2).2
  omega
 rw [if_neg h]
 clear h
 by_cases h : Wb L S = wSpawn
 ·rw [if_pos h]
  have h1 := mm_next h (by decide)
  have h2 := (jr (L := L) (F := Qr L 102) (fun i => J.numbered (Ag.refl L i) 102) (Qw S)).2
  have h3 := (jr (L := L) (F := WT L E q) (fun i => J.arg (Ag.refl L i) (hE i) q) (Qr L 102 (Qw S)).2).2
  show mM L (WT L E q (Qr L 102 (Qw S)).2).2 < _
  omega
 rw [if_neg h]
 exact mm_fail hb
end Go.Proofs
end
section
namespace Go.Proofs
open Go.Av
variable {G : Nat -> DV}
attribute [local irreducible] OpSem Zh ZB ZP ACalls qu AClose RV
open Go.Bl
theorem stmt_rc (L : ZI) (hL : OkL L) (E : Rd1) (hEj : ∀ i c, J i c E E) (q : Nat) (r1 : Nat) (hE : ElC G 176 L E r1) (hq : r1 + 1 <= q) : ∀ (n : Nat) (S : RS), rM L S + 2 <= n -> rM L S <= r1 + 1 -> CE Tryz.prog G 152 (fun p g => [.ptr p g 0]) (rdC L S) (.agg (Enc.enc (WW L E q n S).1)) (rdC L (WW L E q n S).2) := by
 intro n
 induction n with
 | zero => intro S h;omega
 | succ n ih =>
 intro S hn hr1
 have hjs := jS (L := L) hEj q n
 have hB := fun i c => jB (L := L) hjs n i c
 have hel : rM L S >= 1 -> ElC G 152 L (WW L E q n) (rM L S - 1) := fun h1 Q hQ => ⟨ih Q (by omega) (by omega), (jr (fun i => hjs i True) Q).1⟩
 have heat : rM L S >= 1 -> Eats L (WW L E q n) := fun h1 => by
  obtain ⟨n', rfl⟩ : ∃ n', n = n' + 1 := ⟨n - 1, by omega⟩
  exact eats_st hEj q n'
 have blk : rM L S >= 1 -> ∀ Q, rM L Q <= rM L S -> CE Tryz.prog G 111 (fun p g => [.ptr p g 0]) (rdC L Q) (.agg (Enc.enc (Ww L (WW L E q n) n Q).1)) (rdC L (Ww L (WW L E q n) n Q).2) := fun h1 Q hQ => block_rc L hL _ (rM L S - 1) n (hel h1) (heat h1) Q (by omega) (by omega)
 have bln : ∀ Q, rM L (Ww L (WW L E q n) n Q).2 <= rM L Q := fun Q => (jr (fun i => hB i True) Q).1
 clear ih hel heat
 rw [WW]
 by_cases h1 : Wb L S = [123]
 ·rw [if_pos h1]
  have hd : decide (Wb L S = [123]) = true := decide_eq_true h1
  have hrn := (W0 h1 (by decide)).1
  have hblk := blk (by omega) S (Nat.le_refl _)
  clear blk bln
  intro g B hg
  refine Qa Tryz.func152 rfl Tryz.ntmps152 rfl (t := [(0, .ptr 0 g 0)]) rfl fun E0 hE1 => ?_
  (repeat' first|(refine Qe ?_;(first|refine QJ rfl ?_|refine Qb rfl rfl rfl ?_|refine Wu rfl rfl ?_|(refine Qp ?_;(first|refine Wg 0 (qg L S hL) rfl rfl rfl rfl ?_|refine Wg 0 (hblk) rfl rfl rfl rfl ?_))|refine WR rfl rfl rfl rfl ?_|refine QU rfl rfl ?_|refine QD (fun _ _ => ?_)|refine QV rfl rfl (fun _ _ => ?_)))|(refine Qk ?_;(first|refine Qi ?_|refine QK rfl ?_|refine Q1 ?_))|(refine Qj ?_;(first|refine Ql ?_|refine Qc ?_|refine Qf ?_|refine Qq rfl (by omega) ?_|refine Qt ?_)))
  exact e_1 (Tryz.results152) (QA (size := 4) rfl rfl (partD_node _) (Enc.len _)) (c_ce rfl rfl)
 rw [if_neg h1]
 have hd : decide (Wb L S = [123]) = false := decide_eq_false h1
 have his1 := is_c (G := G) L S hL 118
 by_cases h2 : isM L 118 S = true
 ·rw [if_pos h2]
  rw [h2] at his1
  have hrn := (W0 (L := L) (S := S) rfl (is_now h2).1).1
  have hasg := assign_rc (G := G) L hL E r1 hE S (by omega) h2
  clear blk bln
  intro g B hg
  refine Qa Tryz.func152 rfl Tryz.ntmps152 rfl (t := [(0, .ptr 0 g 0)]) rfl fun E0 hE1 => ?_
  (repeat' first|(refine Qe ?_;(first|refine QJ rfl ?_|refine Qb rfl rfl rfl ?_|refine Wu rfl rfl ?_|(refine Qp ?_;(first|refine Wg 0 (qg L S hL) rfl rfl rfl rfl ?_|refine Wg 0 (his1) rfl rfl rfl rfl ?_|refine Wg 0 (hasg) rfl rfl rfl rfl ?_))|refine WR rfl rfl rfl rfl ?_|refine QU rfl rfl ?_|refine QD (fun _ _ => ?_)|refine QV rfl rfl (fun _ _ => ?_)))|(refine Qk ?_;(first|refine Qi ?_|refine QK rfl ?_|refine Q1 ?_))|(refine Qj ?_;(first|refine Ql ?_|refine Qc ?_|refine Qf ?_|refine Qh rfl ?_|refine Qn rfl (by omega) ?_|refine Qt ?_)))
  exact e_1 (Tryz.results152) (QA (size := 4) rfl rfl (partD_node _) (Enc.len _)) (c_ce rfl rfl)
 rw [if_neg h2]
 rw [show isM L 118 S = false by simpa using h2] at his1
 by_cases hwIf : Wb L S = wIf
 ·rw [if_pos hwIf]
  have hrn := (W0 hwIf (by decide)).1
  unfold ifM
  have hval := fun (gb g2 B' g : Nat) (h : g <= B') => stmt1_rc (G := G) L E r1 hE (Qw S) (by omega) 17 g gb g2 B' h
  have hel := (hE (Qw S) (by omega)).2
  simp only
  generalize (E (Qw S)).1 = xE at *
  generalize (E (Qw S)).2 = S1 at *
  have hbla := blk (by omega) S1 (by omega)
  have hbll := bln S1
  generalize (Ww L (WW L E q n) n S1).1 = xa at *
  generalize (Ww L (WW L E q n) n S1).2 = S2 at *
  have htk := take_c (G := G) L S2 hL wElse (by decide)
  have htl := rM_take (L := L) (S := S2) wElse (by decide)
  generalize Q8 L wElse S2 = S3 at *
  have hblb := blk (by omega) S3 (by omega)
  generalize (Ww L (WW L E q n) n S3).1 = xb at *
  generalize (Ww L (WW L E q n) n S3).2 = S4 at *
  clear blk bln
  intro g B hg
  refine Qa Tryz.func152 rfl Tryz.ntmps152 rfl (t := [(0, .ptr 0 g 0)]) rfl fun E0 hE1 => ?_
  (repeat' first|(refine Qe ?_;(first|refine QI rfl ?_|refine QJ rfl ?_|(refine QB ?_;(first|refine WQ rfl rfl ?_|refine Qb rfl rfl rfl ?_))|refine Wu rfl rfl ?_|(refine Qp ?_;(first|refine s_callv_og rfl rfl (hval _ _ _ _ (by omega)) (fun _ _ => ?_)|refine Wg 0 (qg L S hL) rfl rfl rfl rfl ?_|refine Wg 0 (his1) rfl rfl rfl rfl ?_|refine Wg 0 (hbla) rfl rfl rfl rfl ?_|refine Wg 0 (hblb) rfl rfl rfl rfl ?_|refine Wg 0 (htk) rfl rfl rfl rfl ?_|refine Wg 0 (Z4 L S hL _ (by decide) (by assumption)) rfl rfl rfl rfl ?_|refine ZL (z := xa) rfl rfl rfl rfl rfl rfl rfl (by first|omega|(simp;done)|(simp;omega)) (by first|omega|(simp;done)|(simp;omega)) (fun _ => rfl) (fun _ _ => ?_)|refine ZL (z := xb) rfl rfl rfl rfl rfl rfl rfl (by first|omega|(simp;done)|(simp;omega)) (by first|omega|(simp;done)|(simp;omega)) (fun _ => rfl) (fun _ _ => ?_)))|(refine Wv ?_;(first|refine WR rfl rfl rfl rfl ?_|refine We rfl rfl rfl rfl (by rfl) (by rfl) (by rfl) ?_))|refine QU rfl rfl ?_|refine QD (fun _ _ => ?_)|refine QV rfl rfl (fun _ _ => ?_)))|(refine Qk ?_;(first|refine Qi ?_|refine QK rfl ?_|refine Q1 ?_))|(refine Qj ?_;(first|refine Ql ?_|refine Qc ?_|refine Qf ?_|(refine Wn ?_;first|(rename_i gb hgb g2 hg2 gt hgt;refine QG (fun p => p :: .row gb [.ptr 0 g 0] :: .row g2 [.i 0, .i 0, .i 0, .nil] :: .row gt (Enc.enc xa) :: []) 6 [(0, true), (1, true), (2, true), (3, false), (4, true), (5, true), (6, false)] (by rfl) (by rfl) (by kernel_rfl) (by decide +kernel) (by decide +kernel) ⟨_, rfl⟩ ?_)|(rename_i gc2 hgc2;refine QG (fun p => p.1 :: .row gb [.ptr 0 g 0] :: .row g2 [.i 0, .i 0, .i 0, .nil] :: p.2 :: .row gn [.i 17, .i 0, .i 0, .ref 3 gc2 0 ([xE] ++ [xa]).length 4] :: []) 7 [(0, true), (1, true), (2, true), (3, false), (4, true), (5, false), (6, true), (7, false)] (by rfl) (by rfl) (by kernel_rfl) (by decide +kernel) (by decide +kernel) ⟨(_, _), rfl⟩ ?_)|(rename_i gb hgb g2 hg2 gc hgc gn hgn;refine QG (fun p => p.1 :: .row gb [.ptr 0 g 0] :: .row g2 [.i 0, .i 0, .i 0, .nil] :: p.2 :: .row gn [.i 18, .i 0, .i 0, .ref 3 gc 0 [xE].length 4] :: []) 7 [(0, true), (1, true), (2, true), (3, false), (4, true), (5, false), (6, true), (7, false)] (by rfl) (by rfl) (by kernel_rfl) (by decide +kernel) (by decide +kernel) ⟨(_, _), rfl⟩ ?_)|(rename_i gb hgb g2 hg2 gc hgc gn hgn;refine QG (fun p => p.1 :: .row gb [.ptr 0 g 0] :: .row g2 [.i 0, .i 0, .i 0, .nil] :: p.2 :: .row gn [.i 17, .i 0, .i 0, .ref 3 gc 0 [xE].length 4] :: []) 7 [(0, true), (1, true), (2, true), (3, false), (4, true), (5, false), (6, true), (7, false)] (by rfl) (by rfl) (by kernel_rfl) (by decide +kernel) (by decide +kernel) ⟨(_, _), rfl⟩ ?_)|(refine QG (fun p => p.1 :: p.2 :: []) 100 [(0, true)] (by rfl) (by rfl) (by kernel_rfl) (by decide +kernel) (by decide +kernel) ⟨(_, _), rfl⟩ ?_)|(refine QG (fun p => p) 100 [(0, true)] (by rfl) (by rfl) (by kernel_rfl) (by decide +kernel) (by decide +kernel) ⟨_, rfl⟩ ?_)|refine Q6 (by rfl) (by kernel_rfl) (by kernel_rfl) ?_|refine Q5 (by kernel_rfl) (by kernel_rfl) ?_)|refine Qh rfl ?_|refine Qm rfl ?_|refine Qn rfl (by omega) ?_|refine Qt ?_))|(refine Zf ?_;(first|refine ZY ?_|refine i_z0 ?_|refine i_st rfl rfl (fun _ => (by (repeat' first|(refine Qe ?_;(first|refine Qb rfl rfl rfl ?_|(refine g_buildSlice ?_;(first|refine Wf (z := xa) rfl rfl (by decide) ?_|refine Wf (z := xb) rfl rfl (by decide) ?_))|refine Qd rfl rfl ?_))|exact ⟨rfl, rfl⟩))) ?_|refine i_ef rfl ?_))|refine And.intro (Exists.intro ((_, _)) rfl) ?_)
  exact e_1 (Tryz.results152) (QA (size := 4) rfl rfl rfl rfl) (Zz (D := fun d => .agg [.i 17, .i 0, .i 0, d]) (k := 2) (.node rfl rfl rfl) rfl (by rw [Q4];rfl) (by rw [Q0];rfl) rfl)
 rw [if_neg hwIf]
 by_cases hwWhile : Wb L S = wWhile
 ·rw [if_pos hwWhile]
  have hrn := (W0 hwWhile (by decide)).1
  unfold whileM
  have hval := fun (gb g2 B' g : Nat) (h : g <= B') => stmt1_rc (G := G) L E r1 hE (Qw S) (by omega) 18 g gb g2 B' h
  have hel := (hE (Qw S) (by omega)).2
  simp only
  generalize (E (Qw S)).1 = xE at *
  generalize (E (Qw S)).2 = S1 at *
  have hbla := blk (by omega) S1 (by omega)
  have hbll := bln S1
  generalize (Ww L (WW L E q n) n S1).1 = xa at *
  generalize (Ww L (WW L E q n) n S1).2 = S2 at *
  clear blk bln
  intro g B hg
  refine Qa Tryz.func152 rfl Tryz.ntmps152 rfl (t := [(0, .ptr 0 g 0)]) rfl fun E0 hE1 => ?_
  (repeat' first|(refine Qe ?_;(first|refine QI rfl ?_|refine QJ rfl ?_|(refine QB ?_;(first|refine WQ rfl rfl ?_|refine Qb rfl rfl rfl ?_))|refine Wu rfl rfl ?_|(refine Qp ?_;(first|refine s_callv_og rfl rfl (hval _ _ _ _ (by omega)) (fun _ _ => ?_)|refine Wg 0 (qg L S hL) rfl rfl rfl rfl ?_|refine Wg 0 (his1) rfl rfl rfl rfl ?_|refine Wg 0 (hbla) rfl rfl rfl rfl ?_|refine Wg 0 (Z7 L S hL _ (by decide) (by assumption)) rfl rfl rfl rfl ?_|refine Wg 0 (Z4 L S hL _ (by decide) (by assumption)) rfl rfl rfl rfl ?_|refine ZL (z := xa) rfl rfl rfl rfl rfl rfl rfl (by first|omega|(simp;done)|(simp;omega)) (by first|omega|(simp;done)|(simp;omega)) (fun _ => rfl) (fun _ _ => ?_)))|(refine Wv ?_;(first|refine WR rfl rfl rfl rfl ?_|refine We rfl rfl rfl rfl (by rfl) (by rfl) (by rfl) ?_))|refine QU rfl rfl ?_|refine QD (fun _ _ => ?_)|refine QV rfl rfl (fun _ _ => ?_)))|(refine Qk ?_;(first|refine Qi ?_|refine QK rfl ?_|refine Q1 ?_))|(refine Qj ?_;(first|refine Ql ?_|refine Qc ?_|refine Qf ?_|(refine Wn ?_;first|(rename_i gb hgb g2 hg2 gt hgt;refine QG (fun p => p :: .row gb [.ptr 0 g 0] :: .row g2 [.i 0, .i 0, .i 0, .nil] :: .row gt (Enc.enc xa) :: []) 6 [(0, true), (1, true), (2, true), (3, false), (4, true), (5, true), (6, false)] (by rfl) (by rfl) (by kernel_rfl) (by decide +kernel) (by decide +kernel) ⟨_, rfl⟩ ?_)|(rename_i gc2 hgc2;refine QG (fun p => p.1 :: .row gb [.ptr 0 g 0] :: .row g2 [.i 0, .i 0, .i 0, .nil] :: p.2 :: .row gn [.i 17, .i 0, .i 0, .ref 3 gc2 0 ([xE] ++ [xa]).length 4] :: []) 7 [(0, true), (1, true), (2, true), (3, false), (4, true), (5, false), (6, true), (7, false)] (by rfl) (by rfl) (by kernel_rfl) (by decide +kernel) (by decide +kernel) ⟨(_, _), rfl⟩ ?_)|(rename_i gb hgb g2 hg2 gc hgc gn hgn;refine QG (fun p => p.1 :: .row gb [.ptr 0 g 0] :: .row g2 [.i 0, .i 0, .i 0, .nil] :: p.2 :: .row gn [.i 18, .i 0, .i 0, .ref 3 gc 0 [xE].length 4] :: []) 7 [(0, true), (1, true), (2, true), (3, false), (4, true), (5, false), (6, true), (7, false)] (by rfl) (by rfl) (by kernel_rfl) (by decide +kernel) (by decide +kernel) ⟨(_, _), rfl⟩ ?_)|(rename_i gb hgb g2 hg2 gc hgc gn hgn;refine QG (fun p => p.1 :: .row gb [.ptr 0 g 0] :: .row g2 [.i 0, .i 0, .i 0, .nil] :: p.2 :: .row gn [.i 17, .i 0, .i 0, .ref 3 gc 0 [xE].length 4] :: []) 7 [(0, true), (1, true), (2, true), (3, false), (4, true), (5, false), (6, true), (7, false)] (by rfl) (by rfl) (by kernel_rfl) (by decide +kernel) (by decide +kernel) ⟨(_, _), rfl⟩ ?_)|(refine QG (fun p => p.1 :: p.2 :: []) 100 [(0, true)] (by rfl) (by rfl) (by kernel_rfl) (by decide +kernel) (by decide +kernel) ⟨(_, _), rfl⟩ ?_)|(refine QG (fun p => p) 100 [(0, true)] (by rfl) (by rfl) (by kernel_rfl) (by decide +kernel) (by decide +kernel) ⟨_, rfl⟩ ?_)|refine Q6 (by rfl) (by kernel_rfl) (by kernel_rfl) ?_|refine Q5 (by kernel_rfl) (by kernel_rfl) ?_)|refine Qh rfl ?_|refine Qm rfl ?_|refine Qn rfl (by omega) ?_|refine Qt ?_))|(refine Zf ?_;(first|refine ZY ?_|refine i_z0 ?_|refine i_st rfl rfl (fun _ => (by (repeat' first|(refine Qe ?_;(first|refine Qb rfl rfl rfl ?_|refine Wf (z := xa) rfl rfl (by decide) ?_|refine Qd rfl rfl ?_))|exact ⟨rfl, rfl⟩))) ?_|refine i_ef rfl ?_))|refine And.intro (Exists.intro ((_, _)) rfl) ?_)
  exact e_1 (Tryz.results152) (QA (size := 4) rfl rfl rfl rfl) (Zz (D := fun d => .agg [.i 18, .i 0, .i 0, d]) (k := 2) (.node rfl rfl rfl) rfl (by rw [Q4];rfl) (by rw [Q0];rfl) rfl)
 rw [if_neg hwWhile]
 by_cases hwReturn : Wb L S = wReturn
 ·rw [if_pos hwReturn]
  have hrn := (W0 hwReturn (by decide)).1
  unfold oneM
  have hval := fun (gb g2 B' g : Nat) (h : g <= B') => stmt1_rc (G := G) L E r1 hE (Qw S) (by omega) 19 g gb g2 B' h
  generalize (E (Qw S)).1 = xE at *
  generalize (E (Qw S)).2 = S1 at *
  clear blk bln
  intro g B hg
  refine Qa Tryz.func152 rfl Tryz.ntmps152 rfl (t := [(0, .ptr 0 g 0)]) rfl fun E0 hE1 => ?_
  (repeat' first|(refine Qe ?_;(first|refine QI rfl ?_|refine QJ rfl ?_|refine Qb rfl rfl rfl ?_|refine Wu rfl rfl ?_|(refine Qp ?_;(first|refine s_callv_og rfl rfl (hval _ _ _ _ (by omega)) (fun _ _ => ?_)|refine Wg 0 (qg L S hL) rfl rfl rfl rfl ?_|refine Wg 0 (his1) rfl rfl rfl rfl ?_|refine Wg 0 (Z7 L S hL _ (by decide) (by assumption)) rfl rfl rfl rfl ?_|refine Wg 0 (Z4 L S hL _ (by decide) (by assumption)) rfl rfl rfl rfl ?_))|refine WR rfl rfl rfl rfl ?_|refine QU rfl rfl ?_|refine QD (fun _ _ => ?_)|refine QV rfl rfl (fun _ _ => ?_)))|(refine Qk ?_;(first|refine Qi ?_|refine QK rfl ?_|refine Q1 ?_))|(refine Qj ?_;(first|refine Ql ?_|refine Qc ?_|refine Qf ?_|refine Qh rfl ?_|refine Qm rfl ?_|refine Qn rfl (by omega) ?_|refine Qt ?_)))
  exact e_1 (Tryz.results152) (QA (size := 4) rfl rfl rfl rfl) (Zz (D := fun d => .agg [.i 19, .i 0, .i 0, d]) (k := 2) (.node rfl rfl rfl) rfl (by rw [Q4];rfl) (by rw [Q0];rfl) rfl)
 rw [if_neg hwReturn]
 by_cases hwThrow : Wb L S = wThrow
 ·rw [if_pos hwThrow]
  have hrn := (W0 hwThrow (by decide)).1
  unfold oneM
  have hval := fun (gb g2 B' g : Nat) (h : g <= B') => stmt1_rc (G := G) L E r1 hE (Qw S) (by omega) 20 g gb g2 B' h
  generalize (E (Qw S)).1 = xE at *
  generalize (E (Qw S)).2 = S1 at *
  clear blk bln
  intro g B hg
  refine Qa Tryz.func152 rfl Tryz.ntmps152 rfl (t := [(0, .ptr 0 g 0)]) rfl fun E0 hE1 => ?_
  (repeat' first|(refine Qe ?_;(first|refine QI rfl ?_|refine QJ rfl ?_|refine Qb rfl rfl rfl ?_|refine Wu rfl rfl ?_|(refine Qp ?_;(first|refine s_callv_og rfl rfl (hval _ _ _ _ (by omega)) (fun _ _ => ?_)|refine Wg 0 (qg L S hL) rfl rfl rfl rfl ?_|refine Wg 0 (his1) rfl rfl rfl rfl ?_|refine Wg 0 (Z7 L S hL _ (by decide) (by assumption)) rfl rfl rfl rfl ?_|refine Wg 0 (Z4 L S hL _ (by decide) (by assumption)) rfl rfl rfl rfl ?_))|refine WR rfl rfl rfl rfl ?_|refine QU rfl rfl ?_|refine QD (fun _ _ => ?_)|refine QV rfl rfl (fun _ _ => ?_)))|(refine Qk ?_;(first|refine Qi ?_|refine QK rfl ?_|refine Q1 ?_))|(refine Qj ?_;(first|refine Ql ?_|refine Qc ?_|refine Qf ?_|refine Qh rfl ?_|refine Qm rfl ?_|refine Qn rfl (by omega) ?_|refine Qt ?_)))
  exact e_1 (Tryz.results152) (QA (size := 4) rfl rfl rfl rfl) (Zz (D := fun d => .agg [.i 20, .i 0, .i 0, d]) (k := 2) (.node rfl rfl rfl) rfl (by rw [Q4];rfl) (by rw [Q0];rfl) rfl)
 rw [if_neg hwThrow]
 by_cases hwOut : Wb L S = wOut
 ·rw [if_pos hwOut]
  have hrn := (W0 hwOut (by decide)).1
  unfold oneM
  have hval := fun (gb g2 B' g : Nat) (h : g <= B') => stmt1_rc (G := G) L E r1 hE (Qw S) (by omega) 24 g gb g2 B' h
  generalize (E (Qw S)).1 = xE at *
  generalize (E (Qw S)).2 = S1 at *
  clear blk bln
  intro g B hg
  refine Qa Tryz.func152 rfl Tryz.ntmps152 rfl (t := [(0, .ptr 0 g 0)]) rfl fun E0 hE1 => ?_
  (repeat' first|(refine Qe ?_;(first|refine QI rfl ?_|refine QJ rfl ?_|refine Qb rfl rfl rfl ?_|refine Wu rfl rfl ?_|(refine Qp ?_;(first|refine s_callv_og rfl rfl (hval _ _ _ _ (by omega)) (fun _ _ => ?_)|refine Wg 0 (qg L S hL) rfl rfl rfl rfl ?_|refine Wg 0 (his1) rfl rfl rfl rfl ?_|refine Wg 0 (Z7 L S hL _ (by decide) (by assumption)) rfl rfl rfl rfl ?_|refine Wg 0 (Z4 L S hL _ (by decide) (by assumption)) rfl rfl rfl rfl ?_))|refine WR rfl rfl rfl rfl ?_|refine QU rfl rfl ?_|refine QD (fun _ _ => ?_)|refine QV rfl rfl (fun _ _ => ?_)))|(refine Qk ?_;(first|refine Qi ?_|refine QK rfl ?_|refine Q1 ?_))|(refine Qj ?_;(first|refine Ql ?_|refine Qc ?_|refine Qf ?_|refine Qh rfl ?_|refine Qm rfl ?_|refine Qn rfl (by omega) ?_|refine Qt ?_)))
  exact e_1 (Tryz.results152) (QA (size := 4) rfl rfl rfl rfl) (Zz (D := fun d => .agg [.i 24, .i 0, .i 0, d]) (k := 2) (.node rfl rfl rfl) rfl (by rw [Q4];rfl) (by rw [Q0];rfl) rfl)
 rw [if_neg hwOut]
 by_cases hwSkip : Wb L S = wSkip
 ·rw [if_pos hwSkip]
  have hrn := (W0 hwSkip (by decide)).1
  clear blk bln
  intro g B hg
  refine Qa Tryz.func152 rfl Tryz.ntmps152 rfl (t := [(0, .ptr 0 g 0)]) rfl fun E0 hE1 => ?_
  (repeat' first|(refine Qe ?_;(first|refine QJ rfl ?_|refine Qb rfl rfl rfl ?_|refine Wu rfl rfl ?_|(refine Qp ?_;(first|refine Wg 0 (qg L S hL) rfl rfl rfl rfl ?_|refine Wg 0 (his1) rfl rfl rfl rfl ?_|refine Wg 0 (Z7 L S hL _ (by decide) (by assumption)) rfl rfl rfl rfl ?_|refine Wg 0 (Z4 L S hL _ (by decide) (by assumption)) rfl rfl rfl rfl ?_))|refine WR rfl rfl rfl rfl ?_|refine QH rfl rfl ?_|refine QU rfl rfl ?_|refine QD (fun _ _ => ?_)|refine QV rfl rfl (fun _ _ => ?_)))|(refine Qk ?_;(first|refine Qi ?_|refine QK rfl ?_|refine Q1 ?_))|(refine Qj ?_;(first|refine Ql ?_|refine Qc ?_|refine Qf ?_|refine Qh rfl ?_|refine Qm rfl ?_|refine Qn rfl (by omega) ?_|refine Qt ?_)))
  exact e_1 (Tryz.results152) (QA (size := 4) rfl rfl rfl rfl) (Za (es := 4) (.node rfl rfl rfl) (by rw [Q0];rfl) rfl)
 rw [if_neg hwSkip]
 by_cases hwTry : Wb L S = wTry
 ·rw [if_pos hwTry]
  have hrn := (W0 hwTry (by decide)).1
  unfold tryM
  simp only
  have hbla := blk (by omega) (Qw S) (by omega)
  have hbll := bln (Qw S)
  generalize (Ww L (WW L E q n) n (Qw S)).1 = xa at *
  generalize (Ww L (WW L E q n) n (Qw S)).2 = S2 at *
  have htk := take_c (G := G) L S2 hL qX (by decide)
  have htl := rM_take (L := L) (S := S2) qX (by decide)
  generalize Q8 L qX S2 = S3 at *
  have hnb := numbered_c (G := G) L S3 hL 118
  have hnl := rM_numbered L 118 S3
  generalize (Qr L 118 S3).1 = v at *
  generalize (Qr L 118 S3).2 = S4 at *
  have hblb := blk (by omega) S4 (by omega)
  generalize (Ww L (WW L E q n) n S4).1 = xb at *
  generalize (Ww L (WW L E q n) n S4).2 = S5 at *
  clear blk bln
  intro g B hg
  refine Qa Tryz.func152 rfl Tryz.ntmps152 rfl (t := [(0, .ptr 0 g 0)]) rfl fun E0 hE1 => ?_
  (repeat' first|(refine Qe ?_;(first|refine QJ rfl ?_|refine Qb rfl rfl rfl ?_|refine Wu rfl rfl ?_|(refine Qp ?_;(first|refine Wg 0 (qg L S hL) rfl rfl rfl rfl ?_|refine Wg 0 (his1) rfl rfl rfl rfl ?_|refine Wg 0 (hbla) rfl rfl rfl rfl ?_|refine Wg 0 (hblb) rfl rfl rfl rfl ?_|refine Wg 0 (htk) rfl rfl rfl rfl ?_|refine Wg 0 (hnb) rfl rfl rfl rfl ?_|refine Wg 0 (Z7 L S hL _ (by decide) (by assumption)) rfl rfl rfl rfl ?_|refine Wg 0 (Z4 L S hL _ (by decide) (by assumption)) rfl rfl rfl rfl ?_))|refine WR rfl rfl rfl rfl ?_|refine QU rfl rfl ?_|refine QD (fun _ _ => ?_)|refine QV rfl rfl (fun _ _ => ?_)))|(refine Qk ?_;(first|refine Qi ?_|refine QK rfl ?_|refine Q1 ?_))|(refine Qj ?_;(first|refine Ql ?_|refine Qc ?_|refine Qf ?_|(refine Wn ?_;first|(rename_i gb hgb g2 hg2 gt hgt;refine QG (fun p => p :: .row gb [.ptr 0 g 0] :: .row g2 [.i 0, .i 0, .i 0, .nil] :: .row gt (Enc.enc xa) :: []) 6 [(0, true), (1, true), (2, true), (3, false), (4, true), (5, true), (6, false)] (by rfl) (by rfl) (by kernel_rfl) (by decide +kernel) (by decide +kernel) ⟨_, rfl⟩ ?_)|(rename_i gc2 hgc2;refine QG (fun p => p.1 :: .row gb [.ptr 0 g 0] :: .row g2 [.i 0, .i 0, .i 0, .nil] :: p.2 :: .row gn [.i 17, .i 0, .i 0, .ref 3 gc2 0 ([xE] ++ [xa]).length 4] :: []) 7 [(0, true), (1, true), (2, true), (3, false), (4, true), (5, false), (6, true), (7, false)] (by rfl) (by rfl) (by kernel_rfl) (by decide +kernel) (by decide +kernel) ⟨(_, _), rfl⟩ ?_)|(rename_i gb hgb g2 hg2 gc hgc gn hgn;refine QG (fun p => p.1 :: .row gb [.ptr 0 g 0] :: .row g2 [.i 0, .i 0, .i 0, .nil] :: p.2 :: .row gn [.i 18, .i 0, .i 0, .ref 3 gc 0 [xE].length 4] :: []) 7 [(0, true), (1, true), (2, true), (3, false), (4, true), (5, false), (6, true), (7, false)] (by rfl) (by rfl) (by kernel_rfl) (by decide +kernel) (by decide +kernel) ⟨(_, _), rfl⟩ ?_)|(rename_i gb hgb g2 hg2 gc hgc gn hgn;refine QG (fun p => p.1 :: .row gb [.ptr 0 g 0] :: .row g2 [.i 0, .i 0, .i 0, .nil] :: p.2 :: .row gn [.i 17, .i 0, .i 0, .ref 3 gc 0 [xE].length 4] :: []) 7 [(0, true), (1, true), (2, true), (3, false), (4, true), (5, false), (6, true), (7, false)] (by rfl) (by rfl) (by kernel_rfl) (by decide +kernel) (by decide +kernel) ⟨(_, _), rfl⟩ ?_)|(refine QG (fun p => p.1 :: p.2 :: []) 100 [(0, true)] (by rfl) (by rfl) (by kernel_rfl) (by decide +kernel) (by decide +kernel) ⟨(_, _), rfl⟩ ?_)|(refine QG (fun p => p) 100 [(0, true)] (by rfl) (by rfl) (by kernel_rfl) (by decide +kernel) (by decide +kernel) ⟨_, rfl⟩ ?_)|refine Q6 (by rfl) (by kernel_rfl) (by kernel_rfl) ?_|refine Q5 (by kernel_rfl) (by kernel_rfl) ?_)|refine Qh rfl ?_|refine Qm rfl ?_|refine Qn rfl (by omega) ?_|refine Qt ?_))|(refine Zf ?_;(first|refine ZY ?_|refine i_z0 ?_|refine i_st rfl rfl (fun _ => (by (repeat' first|(refine Qe ?_;(first|refine QI rfl ?_|(refine QB ?_;(first|refine WQ rfl rfl ?_|refine Qb rfl rfl rfl ?_))|refine Z5 (y := xa) (z := xb) rfl rfl (by decide) ?_|refine QH rfl rfl ?_))|exact ⟨rfl, rfl⟩))) ?_|refine i_ef rfl ?_))|refine And.intro (Exists.intro (_) rfl) ?_)
  refine e_1 (Tryz.results152) (QA (size := 4) rfl rfl rfl rfl) ?_
  rw [Q0]
  exact c_ce rfl rfl
 rw [if_neg hwTry]
 by_cases hwSend : Wb L S = wSend
 ·rw [if_pos hwSend]
  have hrn := (W0 hwSend (by decide)).1
  unfold oneM
  have hnb := numbered_c (G := G) L (Qw S) hL 99
  have hnl := rM_numbered L 99 (Qw S)
  generalize (Qr L 99 (Qw S)).1 = v at *
  generalize (Qr L 99 (Qw S)).2 = S1 at *
  have hval := fun (gb g2 B' g : Nat) (h : g <= B') => stmt1_rc (G := G) L E r1 hE S1 (by omega) 22 g gb g2 B' h
  generalize (E S1).1 = xE at *
  generalize (E S1).2 = S2 at *
  clear blk bln
  intro g B hg
  refine Qa Tryz.func152 rfl Tryz.ntmps152 rfl (t := [(0, .ptr 0 g 0)]) rfl fun E0 hE1 => ?_
  (repeat' first|(refine Qe ?_;(first|refine QI rfl ?_|refine QJ rfl ?_|(refine QB ?_;(first|refine WQ rfl rfl ?_|refine Qb rfl rfl rfl ?_))|refine Wu rfl rfl ?_|(refine Qp ?_;(first|refine s_callv_og rfl rfl (hval _ _ _ _ (by omega)) (fun _ _ => ?_)|refine Wg 0 (qg L S hL) rfl rfl rfl rfl ?_|refine Wg 0 (his1) rfl rfl rfl rfl ?_|refine Wg 0 (hnb) rfl rfl rfl rfl ?_|refine Wg 0 (Z7 L S hL _ (by decide) (by assumption)) rfl rfl rfl rfl ?_|refine Wg 0 (Z4 L S hL _ (by decide) (by assumption)) rfl rfl rfl rfl ?_))|(refine Wv ?_;(first|refine WR rfl rfl rfl rfl ?_|refine We rfl rfl rfl rfl (by rfl) (by rfl) (by rfl) ?_))|refine Qd rfl rfl ?_|refine QU rfl rfl ?_|refine QD (fun _ _ => ?_)|refine QV rfl rfl (fun _ _ => ?_)))|(refine Qk ?_;(first|refine Qi ?_|refine QK rfl ?_|refine Q1 ?_))|(refine Qj ?_;(first|refine Ql ?_|refine Qc ?_|refine Qf ?_|refine Qh rfl ?_|refine Qm rfl ?_|refine Qn rfl (by omega) ?_|refine Qt ?_)))
  exact e_1 (Tryz.results152) (QA (size := 4) rfl rfl rfl rfl) (Zz (D := fun d => .agg [.i 22, .i v, .i 0, d]) (k := 2) (.node rfl rfl rfl) rfl (by rw [Q4];rfl) (by rw [Q0];rfl) rfl)
 rw [if_neg hwSend]
 by_cases hwSpawn : Wb L S = wSpawn
 ·rw [if_pos hwSpawn]
  have hrn := (W0 hwSpawn (by decide)).1
  have hnb := numbered_c (G := G) L (Qw S) hL 102
  have hnl := rM_numbered L 102 (Qw S)
  generalize (Qr L 102 (Qw S)).1 = v at *
  generalize (Qr L 102 (Qw S)).2 = S1 at *
  have hargs := args_rc (G := G) 176 L E r1 q hL hE S1 (by omega) (by omega)
  clear blk bln
  intro g B hg
  refine Qa Tryz.func152 rfl Tryz.ntmps152 rfl (t := [(0, .ptr 0 g 0)]) rfl fun E0 hE1 => ?_
  (repeat' first|(refine Qe ?_;(first|refine QI rfl ?_|refine QJ rfl ?_|refine Qb rfl rfl rfl ?_|refine Wu rfl rfl ?_|(refine Qp ?_;(first|refine Wg 0 (qg L S hL) rfl rfl rfl rfl ?_|refine Wg 0 (his1) rfl rfl rfl rfl ?_|refine Wg 0 (hnb) rfl rfl rfl rfl ?_|refine Wg 0 (Z7 L S hL _ (by decide) (by assumption)) rfl rfl rfl rfl ?_|refine Wg 0 (Z4 L S hL _ (by decide) (by assumption)) rfl rfl rfl rfl ?_|refine s_co 0 (hargs) (by first|exact .id|exact .node rfl rfl rfl) rfl rfl rfl rfl (QN _) (fun _ _ => ?_)))|refine WR rfl rfl rfl rfl ?_|refine QH rfl rfl ?_|refine QU rfl rfl ?_|refine QD (fun _ _ => ?_)|refine QV rfl rfl (fun _ _ => ?_)))|(refine Qk ?_;(first|refine Qi ?_|refine QK rfl ?_|refine Q1 ?_))|(refine Qj ?_;(first|refine Ql ?_|refine Qc ?_|refine Qf ?_|refine Qh rfl ?_|refine Qm rfl ?_|refine Qn rfl (by omega) ?_|refine Qt ?_)))
  exact e_1 (Tryz.results152) (QA (size := 4) rfl rfl rfl rfl) (Zz (D := fun d => .agg [.i 23, .i v, .i 0, d]) (k := 2) (.node rfl rfl rfl) rfl (by rw [Q4];rfl) (by rw [Q0];rfl) rfl)
 rw [if_neg hwSpawn]
 clear blk bln
 intro g B hg
 refine Qa Tryz.func152 rfl Tryz.ntmps152 rfl (t := [(0, .ptr 0 g 0)]) rfl fun E0 hE1 => ?_
 (repeat' first|(refine Qe ?_;(first|refine QJ rfl ?_|refine Qb rfl rfl rfl ?_|refine Wu rfl rfl ?_|(refine Qp ?_;(first|refine Wg 0 (qg L S hL) rfl rfl rfl rfl ?_|refine Wg 0 (his1) rfl rfl rfl rfl ?_|refine Wg 0 (Z7 L S hL _ (by decide) (by assumption)) rfl rfl rfl rfl ?_|refine Wg 0 (fail_c L S) rfl rfl rfl rfl ?_))|refine WR rfl rfl rfl rfl ?_|refine QH rfl rfl ?_|refine QU rfl rfl ?_|refine QD (fun _ _ => ?_)|refine QV rfl rfl (fun _ _ => ?_)))|(refine Qk ?_;(first|refine Qi ?_|refine QK rfl ?_|refine Q1 ?_))|(refine Qj ?_;(first|refine Ql ?_|refine Qc ?_|refine Qf ?_|refine Qu ?_|refine Qm rfl ?_|refine Qn rfl (by omega) ?_|refine Qt ?_)))
 exact e_1 (Tryz.results152) (QA (size := 4) rfl rfl rfl rfl) (Za (es := 4) (.node rfl rfl rfl) (by show _ = DV.agg (Enc.enc (Nd.mk 0 0 0 []));rw [Q0];rfl) rfl)
end Go.Proofs
end
section
namespace Go.Proofs
open Go.Av Go.Bl
section
variable {α β : Type} {c d : Nat} {L : ZI} {z : Nd}
def KW (c : Nat) (ν : α -> Nat) (F : RS -> α × RS) : Prop := ∀ S, (F S).2.bad = false -> S.bad = false /\ S.p + ν (F S).1 <= (F S).2.p + c
theorem KW.bind {μ : α -> Nat} {ν : β -> Nat} {F : RS -> α × RS} {K : α -> RS -> β × RS} (h : KW c μ F) (hk : ∀ a, KW (d + μ a) ν (K a)) : KW (c + d) ν (fun S => K (F S).1 (F S).2) := fun S hb => by
 obtain ⟨h1, h2⟩ := hk _ _ hb
 obtain ⟨h3, h4⟩ := h S h1
 exact ⟨h3, by show S.p + ν (K (F S).1 (F S).2).1 <= (K (F S).1 (F S).2).2.p + (c + d);omega⟩
theorem KW.next {ν : α -> Nat} {F : RS -> α × RS} (h : KW (c + 1) ν F) : KW c ν (fun S => F (Qw S)) := fun S hb => by
 obtain ⟨h1, h2⟩ := h (Qw S) hb
 exact ⟨h1, by have : (Qw S).p = S.p + 1 := rfl;show S.p + ν (F (Qw S)).1 <= (F (Qw S)).2.p + c;omega⟩
theorem KW.take {ν : α -> Nat} {F : RS -> α × RS} (s : List UInt8) (h : KW (c + 1) ν F) : KW c ν (fun S => F (Q8 L s S)) := fun S hb => by
 obtain ⟨h1, h2⟩ := h (Q8 L s S) hb
 unfold Q8 at h1
 split at h1
 ·rename_i hn
  have e : Q8 L s S = Qw S := by unfold Q8;rw [if_pos hn]
  have : (Qw S).p = S.p + 1 := rfl
  rw [e] at h2
  refine ⟨h1, ?_⟩
  show S.p + ν (F (Q8 L s S)).1 <= (F (Q8 L s S)).2.p + c
  rw [e];omega
 ·cases h1
theorem KW.ite {ν : α -> Nat} {P : RS -> Prop} [DecidablePred P] {F H : RS -> α × RS} (h1 : KW c ν F) (h2 : KW c ν H) : KW c ν (fun S => if P S then F S else H S) := fun S hb => by
 by_cases hp : P S
 ·simp only [if_pos hp] at hb ⊢;exact h1 S hb
 ·simp only [if_neg hp] at hb ⊢;exact h2 S hb
theorem KW.val {ν : α -> Nat} {a : α} (h : ν a <= c) : KW c ν (fun S => (a, S)) := fun S hb => ⟨hb, by show S.p + ν a <= S.p + c;omega⟩
theorem KW.vnext {ν : α -> Nat} {a : α} (h : ν a <= c + 1) : KW c ν (fun S => (a, Qw S)) := KW.next (F := fun S => (a, S)) (KW.val h)
theorem KW.fail {ν : α -> Nat} {F : RS -> α} {G : RS -> RS} : KW c ν (fun S => (F S, Zb (G S))) := fun S hb => by cases hb
theorem KW.map {ν : α -> Nat} {ξ : β -> Nat} {F : RS -> α × RS} {u : α -> β} (h : KW c ν F) (hu : ∀ a, ξ (u a) <= ν a + d) : KW (c + d) ξ (fun S => (u (F S).1, (F S).2)) := h.bind (K := fun a S => (u a, S)) fun a => KW.val (by have := hu a;omega)
theorem KW.conv {ν : α -> Nat} {F : RS -> α × RS} (h : KW c ν F) (e : c = d) : KW d ν F := e ▸ h
abbrev one1 : Int -> Nat := fun _ => 1
theorem KW.numeral : KW 0 one1 (Qy L) := by
 refine KW.ite (P := fun S => numB (Wb L S) = true) (F := fun S => (valM (Wb L S), Qw S)) (H := fun S => (0, Zb S)) (fun S hb => ⟨hb, ?_⟩) KW.fail
 show S.p + 1 <= S.p + 1 + 0;omega
theorem KW.numbered (x : UInt8) : KW 0 one1 (Qr L x) := by
 refine KW.ite (P := fun S => isM L x S = true) (F := fun S => (valM ((Wb L S).drop 1), Qw S)) (H := fun S => (0, Zb S)) (fun S hb => ⟨hb, ?_⟩) KW.fail
 show S.p + 1 <= S.p + 1 + 0;omega
theorem ZJ (x : Nd) : QQ [x] = Qx x := by simp [QQ]
theorem KW.loop {E : Rd1} (hE : KW 0 Qx E) : ∀ (k : Nat) (o : List Nd), KW (QQ o) QQ (Wt L E k o)
 | 0, o => KW.val (Nat.le_refl _)
 | k + 1, o => by
  refine KW.ite (P := fun S => Wb L S = [44]) (F := fun S => Wt L E k (o ++ [(E (Qw S)).1]) (E (Qw S)).2) (H := fun S => (o, S)) ?_ (KW.val (Nat.le_refl _))
  refine KW.next (F := fun S => Wt L E k (o ++ [(E S).1]) (E S).2) ?_
  refine (hE.bind (d := QQ o + 1) (K := fun a S => Wt L E k (o ++ [a]) S) fun a => ?_).conv (by omega)
  have := KW.loop hE k (o ++ [a])
  intro S hb
  obtain ⟨h1, h2⟩ := this S hb
  rw [qw, ZJ] at h2
  exact ⟨h1, by show S.p + QQ (Wt L E k (o ++ [a]) S).1 <= (Wt L E k (o ++ [a]) S).2.p + (QQ o + 1 + Qx a);omega⟩
theorem KW.lst {E : Rd1} (hE : KW 0 Qx E) (k : Nat) : KW 0 QQ (ZW L E k) := by
 refine (hE.bind (d := 0) (K := fun a S => ((Wt L E k [a] S).1, Q8 L [41] (Wt L E k [a] S).2)) fun a => ?_).conv (by omega)
 refine ((KW.loop (L := L) hE k [a]).bind (d := 0) (K := fun b S => (b, Q8 L [41] S)) fun b => ?_).conv (by rw [ZJ];omega)
 exact KW.take (F := fun S => (b, S)) [41] (KW.val (by omega))
theorem KW.arg {E : Rd1} (hE : KW 0 Qx E) (k : Nat) : KW 0 QQ (WT L E k) := by
 refine KW.take (F := fun S => if Wb L S = [41] then ([], Qw S) else ZW L E k S) [40] ?_
 refine KW.ite (P := fun S => Wb L S = [41]) (F := fun S => ([], Qw S)) (KW.vnext (by simp [QQ])) fun S hb => ?_
 obtain ⟨h1, h2⟩ := KW.lst hE k S hb
 exact ⟨h1, by omega⟩
theorem KW.variable {E : Rd1} (hE : KW 0 Qx E) : KW 0 Qx (WM L E) := by
 refine ((KW.numbered (L := L) 118).bind (d := 0) (K := fun a S => varTail L E a S) fun a => ?_).conv (by omega)
 refine KW.ite (P := fun S => Wb L S = [91]) (F := fun S => (Nd.mk 7 a 0 [(E (Qw S)).1], Q8 L [93] (E (Qw S)).2)) ?_ ?_
 ·refine KW.next (F := fun S => (Nd.mk 7 a 0 [(E S).1], Q8 L [93] (E S).2)) ?_
  refine (hE.bind (d := 0 + one1 a + 1) (K := fun x S => (Nd.mk 7 a 0 [x], Q8 L [93] S)) fun x => ?_).conv (by omega)
  exact KW.take (F := fun S => (Nd.mk 7 a 0 [x], S)) [93] (KW.val (by rw [Qx, ZJ];show 1 + Qx x <= 0 + 1 + 1 + Qx x + 1;omega))
 ·refine KW.ite (P := fun S => Wb L S = [46]) (F := fun S => (Nd.mk 8 a (Qy L (Qw S)).1 [], (Qy L (Qw S)).2)) (H := fun S => (Nd.mk 6 a 0 [], S)) ?_ (KW.val (by rw [Qx, QQ];show 1 + 0 <= 0 + 1;omega))
  refine KW.next (F := fun S => (Nd.mk 8 a (Qy L S).1 [], (Qy L S).2)) ?_
  exact ((KW.numeral (L := L)).map (ξ := Qx) (d := 0 + one1 a + 1) (u := fun x => Nd.mk 8 a x []) fun x => by rw [Qx, QQ];show 1 + 0 <= 1 + (0 + 1 + 1);omega).conv (by omega)
theorem KW.binary {E : Rd1} (hE : KW 0 Qx E) : KW 0 Qx (qC L E) := by
 refine (hE.bind (d := 0) (K := fun a S => if qU (Wb L S) < 0 then (zNd, Zb S) else (.mk 9 (qU (Wb L S)) 0 [a, (E (Qw S)).1], Q8 L [41] (E (Qw S)).2)) fun a => ?_).conv (by omega)
 refine KW.ite (P := fun S => qU (Wb L S) < 0) (F := fun S => (zNd, Zb S)) KW.fail fun S hb => ?_
 have key : ∀ v, KW (0 + Qx a) Qx (fun S => (Nd.mk 9 v 0 [a, (E (Qw S)).1], Q8 L [41] (E (Qw S)).2)) := fun v => by
  refine KW.next (F := fun S => (Nd.mk 9 v 0 [a, (E S).1], Q8 L [41] (E S).2)) ?_
  refine (hE.bind (d := 0 + Qx a + 1) (K := fun x S => (Nd.mk 9 v 0 [a, x], Q8 L [41] S)) fun x => ?_).conv (by omega)
  exact KW.take (F := fun S => (Nd.mk 9 v 0 [a, x], S)) [41] (KW.val (by rw [Qx, QQ, ZJ];omega))
 exact key (qU (Wb L S)) S hb
theorem KW.expr : ∀ (n : Nat), KW 0 Qx (WU L z n)
 | 0 => KW.fail
 | n + 1 => by
  have hE : KW 0 Qx (WU L z n) := KW.expr n
  refine KW.ite (P := fun S => numB (Wb L S) = true) (F := fun S => (Nd.mk 4 (Qy L S).1 0 [], (Qy L S).2)) ?_ ?_
  ·exact ((KW.numeral (L := L)).map (ξ := Qx) (d := 0) (u := fun x => Nd.mk 4 x 0 []) fun x => by rw [Qx, QQ];show 1 + 0 <= 1 + 0;omega).conv (by omega)
  refine KW.ite (P := fun S => isM L 118 S = true) (F := WM L (WU L z n)) (KW.variable hE) ?_
  refine KW.ite (P := fun S => isM L 102 S = true) (F := fun S => (Nd.mk 11 (Qr L 102 S).1 0 (WT L (WU L z n) n (Qr L 102 S).2).1, (WT L (WU L z n) n (Qr L 102 S).2).2)) ?_ ?_
  ·refine ((KW.numbered (L := L) 102).bind (d := 0) (K := fun a S => (Nd.mk 11 a 0 (WT L (WU L z n) n S).1, (WT L (WU L z n) n S).2)) fun a => ?_).conv (by omega)
   exact ((KW.arg (L := L) hE n).map (ξ := Qx) (d := 0 + one1 a) (u := fun x => Nd.mk 11 a 0 x) fun x => by rw [Qx];show 1 + QQ x <= QQ x + (0 + 1);omega).conv (by omega)
  refine KW.ite (P := fun S => Wb L S = [45]) (F := fun S => if Wb L (Qw S) = [48] then (z, Zb (Qw S)) else (Nd.mk 4 (-(Qy L (Qw S)).1) 0 [], (Qy L (Qw S)).2)) ?_ ?_
  ·refine KW.next (F := fun S => if Wb L S = [48] then (z, Zb S) else (Nd.mk 4 (-(Qy L S).1) 0 [], (Qy L S).2)) ?_
   refine KW.ite (P := fun S => Wb L S = [48]) (F := fun S => (z, Zb S)) KW.fail ?_
   exact ((KW.numeral (L := L)).map (ξ := Qx) (d := 1) (u := fun x => Nd.mk 4 (-x) 0 []) fun x => by rw [Qx, QQ];show 1 + 0 <= 1 + 1;omega).conv (by omega)
  refine KW.ite (P := fun S => Wb L S = wTrue) (F := fun S => (Nd.mk 5 1 0 [], Qw S)) (KW.vnext (by rw [Qx, QQ];omega)) ?_
  refine KW.ite (P := fun S => Wb L S = wFalse) (F := fun S => (Nd.mk 5 0 0 [], Qw S)) (KW.vnext (by rw [Qx, QQ];omega)) ?_
  refine KW.ite (P := fun S => Wb L S = [40]) (F := fun S => qC L (WU L z n) (Qw S)) (KW.next (F := qC L (WU L z n)) fun S hb => ?_) ?_
  ·obtain ⟨h1, h2⟩ := KW.binary hE S hb
   exact ⟨h1, by omega⟩
  refine KW.ite (P := fun S => Wb L S = [33]) (F := fun S => (Nd.mk 10 0 0 [(WU L z n (Qw S)).1], (WU L z n (Qw S)).2)) ?_ ?_
  ·exact KW.next (F := fun S => (Nd.mk 10 0 0 [(WU L z n S).1], (WU L z n S).2)) ((hE.map (ξ := Qx) (d := 1) (u := fun x => Nd.mk 10 0 0 [x]) fun x => by rw [Qx, ZJ];omega).conv (by omega))
  refine KW.ite (P := fun S => Wb L S = wRecv) (F := fun S => (Nd.mk 12 (Qr L 99 (Qw S)).1 0 [], (Qr L 99 (Qw S)).2)) (H := fun S => (zNd, Zb S)) ?_ KW.fail
  exact KW.next (F := fun S => (Nd.mk 12 (Qr L 99 S).1 0 [], (Qr L 99 S).2)) (((KW.numbered (L := L) 99).map (ξ := Qx) (d := 1) (u := fun x => Nd.mk 12 x 0 []) fun x => by rw [Qx, QQ];show 1 + 0 <= 1 + 1;omega).conv (by omega))
theorem KW.typed : ∀ (n : Nat), KW 0 Qx (WY L n)
 | 0 => KW.fail
 | n + 1 => by
  have hE : KW 0 Qx (WY L n) := KW.typed n
  refine KW.ite (P := fun S => Wb L S = wInt) (F := fun S => (Nd.mk 0 0 0 [], Qw S)) (KW.vnext (by rw [Qx, QQ];omega)) ?_
  refine KW.ite (P := fun S => Wb L S = wBool) (F := fun S => (Nd.mk 1 0 0 [], Qw S)) (KW.vnext (by rw [Qx, QQ];omega)) ?_
  refine KW.ite (P := fun S => Wb L S = wArr) (F := fun S => (Nd.mk 2 (Qy L (Qw S)).1 0 [], (Qy L (Qw S)).2)) ?_ ?_
  ·exact KW.next (F := fun S => (Nd.mk 2 (Qy L S).1 0 [], (Qy L S).2)) (((KW.numeral (L := L)).map (ξ := Qx) (d := 1) (u := fun x => Nd.mk 2 x 0 []) fun x => by rw [Qx, QQ];show 1 + 0 <= 1 + 1;omega).conv (by omega))
  refine KW.ite (P := fun S => Wb L S = wRec) (F := fun S => (Nd.mk 3 0 0 (ZW L (WY L n) n (Q8 L [40] (Qw S))).1, (ZW L (WY L n) n (Q8 L [40] (Qw S))).2)) (H := fun S => (zNd, Zb S)) ?_ KW.fail
  refine KW.next (F := fun S => (Nd.mk 3 0 0 (ZW L (WY L n) n (Q8 L [40] S)).1, (ZW L (WY L n) n (Q8 L [40] S)).2)) ?_
  refine KW.take (F := fun S => (Nd.mk 3 0 0 (ZW L (WY L n) n S).1, (ZW L (WY L n) n S).2)) [40] ?_
  exact ((KW.lst (L := L) hE n).map (ξ := Qx) (d := 0 + 1 + 1) (u := fun x => Nd.mk 3 0 0 x) fun x => by rw [Qx];omega).conv (by omega)
theorem KW.bloop {T : Rd1} (hT : KW 0 Qx T) : ∀ (k : Nat) (o : List Nd), KW (QQ o) QQ (WN L T k o)
 | 0, o => KW.val (Nat.le_refl _)
 | k + 1, o => by
  refine KW.ite (P := fun S => S.bad = true) (F := fun S => (o, S)) (KW.val (Nat.le_refl _)) ?_
  refine KW.ite (P := fun S => Wb L S = [125]) (F := fun S => (o, Qw S)) (KW.vnext (by omega)) ?_
  refine (hT.bind (d := QQ o) (K := fun a S => WN L T k (o ++ [a]) S) fun a => ?_).conv (by omega)
  have := KW.bloop hT k (o ++ [a])
  rw [qw, ZJ] at this
  exact this
theorem KW.block {T : Rd1} (hT : KW 0 Qx T) (k : Nat) : KW 0 Qx (Ww L T k) := by
 refine KW.take (F := fun S => (Nd.mk 13 0 0 (WN L T k [] S).1, (WN L T k [] S).2)) [123] ?_
 exact ((KW.bloop (L := L) hT k []).map (ξ := Qx) (d := 1) (u := fun x => Nd.mk 13 0 0 x) fun x => by rw [Qx];omega).conv (by rw [QQ])
theorem size_set (v x : Nd) : Qx (setM v x) = Qx v + Qx x := by
 obtain ⟨k, n, m, ks⟩ := v
 show Qx (.mk (setKind k) n m (ks ++ [x])) = _
 rw [Qx, Qx, qw, ZJ];omega
theorem KW.assign {E : Rd1} (hE : KW 0 Qx E) : KW 0 Qx (qW L E) := by
 refine ((KW.variable (L := L) hE).bind (d := 0) (K := fun a S => (setM a (E (Q8 L [61] S)).1, (E (Q8 L [61] S)).2)) fun a => ?_).conv (by omega)
 refine KW.take (F := fun S => (setM a (E S).1, (E S).2)) [61] ?_
 exact (hE.map (ξ := Qx) (d := 0 + Qx a + 1) (u := fun x => setM a x) fun x => by rw [size_set];omega).conv (by omega)
theorem KW.one {E : Rd1} (hE : KW 0 Qx E) (k n : Int) : KW 1 Qx (oneM E k n) := (hE.map (ξ := Qx) (d := 1) (u := fun x => Nd.mk k n 0 [x]) fun x => by rw [Qx, ZJ];omega).conv (by omega)
theorem KW.iff {E B : Rd1} (hE : KW 0 Qx E) (hB : KW 0 Qx B) : KW 1 Qx (ifM L E B) := by
 refine (hE.bind (d := 1) (K := fun x S => (Nd.mk 17 0 0 [x, (B S).1, (B (Q8 L wElse (B S).2)).1], (B (Q8 L wElse (B S).2)).2)) fun x => ?_).conv (by omega)
 refine (hB.bind (d := 1 + Qx x) (K := fun y S => (Nd.mk 17 0 0 [x, y, (B (Q8 L wElse S)).1], (B (Q8 L wElse S)).2)) fun y => ?_).conv (by omega)
 refine KW.take (F := fun S => (Nd.mk 17 0 0 [x, y, (B S).1], (B S).2)) wElse ?_
 exact (hB.map (ξ := Qx) (d := 1 + Qx x + Qx y + 1) (u := fun w => Nd.mk 17 0 0 [x, y, w]) fun w => by rw [Qx, QQ, QQ, ZJ];omega).conv (by omega)
theorem KW.whil {E B : Rd1} (hE : KW 0 Qx E) (hB : KW 0 Qx B) : KW 1 Qx (whileM E B) := by
 refine (hE.bind (d := 1) (K := fun x S => (Nd.mk 18 0 0 [x, (B S).1], (B S).2)) fun x => ?_).conv (by omega)
 exact (hB.map (ξ := Qx) (d := 1 + Qx x) (u := fun w => Nd.mk 18 0 0 [x, w]) fun w => by rw [Qx, QQ, ZJ];omega).conv (by omega)
theorem KW.tri {B : Rd1} (hB : KW 0 Qx B) : KW 1 Qx (tryM L B) := by
 refine (hB.bind (d := 1) (K := fun x S => (Nd.mk 21 (Qr L 118 (Q8 L qX S)).1 0 [x, (B (Qr L 118 (Q8 L qX S)).2).1], (B (Qr L 118 (Q8 L qX S)).2).2)) fun x => ?_).conv (by omega)
 refine KW.take (F := fun S => (Nd.mk 21 (Qr L 118 S).1 0 [x, (B (Qr L 118 S).2).1], (B (Qr L 118 S).2).2)) qX ?_
 refine ((KW.numbered (L := L) 118).bind (d := 1 + Qx x + 1) (K := fun v S => (Nd.mk 21 v 0 [x, (B S).1], (B S).2)) fun v => ?_).conv (by omega)
 exact (hB.map (ξ := Qx) (d := 1 + Qx x + 1 + one1 v) (u := fun w => Nd.mk 21 v 0 [x, w]) fun w => by rw [Qx, QQ, ZJ];omega).conv (by omega)
theorem KW.stmt {E : Rd1} (hE : KW 0 Qx E) (q : Nat) : ∀ (n : Nat), KW 0 Qx (WW L E q n)
 | 0 => KW.fail
 | n + 1 => by
  have hB : KW 0 Qx (Ww L (WW L E q n) n) := KW.block (KW.stmt hE q n) n
  refine KW.ite (P := fun S => Wb L S = [123]) (F := Ww L (WW L E q n) n) hB ?_
  refine KW.ite (P := fun S => isM L 118 S = true) (F := qW L E) (KW.assign hE) ?_
  refine KW.ite (P := fun S => Wb L S = wIf) (F := fun S => ifM L E (Ww L (WW L E q n) n) (Qw S)) (KW.next (KW.iff hE hB)) ?_
  refine KW.ite (P := fun S => Wb L S = wWhile) (F := fun S => whileM E (Ww L (WW L E q n) n) (Qw S)) (KW.next (KW.whil hE hB)) ?_
  refine KW.ite (P := fun S => Wb L S = wReturn) (F := fun S => oneM E 19 0 (Qw S)) (KW.next (KW.one hE 19 0)) ?_
  refine KW.ite (P := fun S => Wb L S = wThrow) (F := fun S => oneM E 20 0 (Qw S)) (KW.next (KW.one hE 20 0)) ?_
  refine KW.ite (P := fun S => Wb L S = wOut) (F := fun S => oneM E 24 0 (Qw S)) (KW.next (KW.one hE 24 0)) ?_
  refine KW.ite (P := fun S => Wb L S = wSkip) (F := fun S => (Nd.mk 25 0 0 [], Qw S)) (KW.vnext (by rw [Qx, QQ];omega)) ?_
  refine KW.ite (P := fun S => Wb L S = wTry) (F := fun S => tryM L (Ww L (WW L E q n) n) (Qw S)) (KW.next (KW.tri hB)) ?_
  refine KW.ite (P := fun S => Wb L S = wSend) (F := fun S => oneM E 22 (Qr L 99 (Qw S)).1 (Qr L 99 (Qw S)).2) ?_ ?_
  ·refine KW.next (F := fun S => oneM E 22 (Qr L 99 S).1 (Qr L 99 S).2) ?_
   refine ((KW.numbered (L := L) 99).bind (d := 1) (K := fun a S => oneM E 22 a S) fun a S hb => ?_).conv (by omega)
   obtain ⟨h1, h2⟩ := KW.one hE 22 a S hb
   exact ⟨h1, by show S.p + Qx (oneM E 22 a S).1 <= (oneM E 22 a S).2.p + (1 + 1);omega⟩
  refine KW.ite (P := fun S => Wb L S = wSpawn) (F := fun S => (Nd.mk 23 (Qr L 102 (Qw S)).1 0 (WT L E q (Qr L 102 (Qw S)).2).1, (WT L E q (Qr L 102 (Qw S)).2).2)) (H := fun S => (zNd, Zb S)) ?_ KW.fail
  refine KW.next (F := fun S => (Nd.mk 23 (Qr L 102 S).1 0 (WT L E q (Qr L 102 S).2).1, (WT L E q (Qr L 102 S).2).2)) ?_
  refine ((KW.numbered (L := L) 102).bind (d := 1) (K := fun a S => (Nd.mk 23 a 0 (WT L E q S).1, (WT L E q S).2)) fun a => ?_).conv (by omega)
  exact ((KW.arg (L := L) hE q).map (ξ := Qx) (d := 1 + one1 a) (u := fun x => Nd.mk 23 a 0 x) fun x => by rw [Qx];omega).conv (by omega)
theorem KW.fn {T B : Rd1} (hT : KW 0 Qx T) (hB : KW 0 Qx B) (q : Nat) : KW 0 Qx (funM L T B q) := by
 refine KW.take (F := fun S => (Nd.mk 26 (Qy L S).1 0 ((WT L T q (Qy L S).2).1 ++ [(B (WT L T q (Qy L S).2).2).1]), (B (WT L T q (Qy L S).2).2).2)) wFun ?_
 refine ((KW.numeral (L := L)).bind (d := 1) (K := fun v S => (Nd.mk 26 v 0 ((WT L T q S).1 ++ [(B (WT L T q S).2).1]), (B (WT L T q S).2).2)) fun v => ?_).conv (by omega)
 refine ((KW.arg (L := L) hT q).bind (d := 1 + one1 v) (K := fun a S => (Nd.mk 26 v 0 (a ++ [(B S).1]), (B S).2)) fun a => ?_).conv (by omega)
 exact (hB.map (ξ := Qx) (d := 1 + one1 v + QQ a) (u := fun x => Nd.mk 26 v 0 (a ++ [x])) fun x => by rw [Qx, qw, ZJ];omega).conv (by omega)
theorem KW.ploop {F : Rd1} (hF : KW 0 Qx F) : ∀ (k : Nat) (o : List Nd), KW (QQ o) QQ (Wc L F k o)
 | 0, o => KW.val (Nat.le_refl _)
 | k + 1, o => by
  refine KW.ite (P := fun S => S.bad = false /\ S.p < L.length) (F := fun S => Wc L F k (o ++ [(F S).1]) (F S).2) (H := fun S => (o, S)) ?_ (KW.val (Nat.le_refl _))
  refine (hF.bind (d := QQ o) (K := fun a S => Wc L F k (o ++ [a]) S) fun a => ?_).conv (by omega)
  have := KW.ploop hF k (o ++ [a])
  rw [qw, ZJ] at this
  exact this
theorem kw_fun (q : Nat) : KW 0 Qx (Zr L z q) := KW.fn (KW.typed q) (KW.block (KW.stmt (KW.expr q) q q) q) q
theorem prog_size (q : Nat) (h : (Zj L z q).2.bad = false) : Qx (Zj L z q).1 <= (Zj L z q).2.p := by
 have key : KW 0 Qx (fun S => (Nd.mk 27 (Qy L (Q8 L W9 S)).1 0 (Wc L (Zr L z q) q [] (Qy L (Q8 L W9 S)).2).1, (Wc L (Zr L z q) q [] (Qy L (Q8 L W9 S)).2).2)) := by
  refine KW.take (F := fun S => (Nd.mk 27 (Qy L S).1 0 (Wc L (Zr L z q) q [] (Qy L S).2).1, (Wc L (Zr L z q) q [] (Qy L S).2).2)) W9 ?_
  refine ((KW.numeral (L := L)).bind (d := 1) (K := fun v S => (Nd.mk 27 v 0 (Wc L (Zr L z q) q [] S).1, (Wc L (Zr L z q) q [] S).2)) fun v => ?_).conv (by omega)
  exact ((KW.ploop (L := L) (kw_fun (z := z) q) q []).map (ξ := Qx) (d := 1 + one1 v) (u := fun x => Nd.mk 27 v 0 x) fun x => by rw [Qx];omega).conv (by rw [QQ];omega)
 obtain ⟨_, h2⟩ := key ⟨0, false⟩ h
 have : (0 : Nat) + Qx (Zj L z q).1 <= (Zj L z q).2.p + 0 := h2
 omega
def IB (L : ZI) (F : RS -> α × RS) : Prop := ∀ S, S.p <= L.length -> (F S).2.p <= L.length
theorem IB.bind {F : RS -> α × RS} {K : α -> RS -> β × RS} (h : IB L F) (hk : ∀ a, IB L (K a)) : IB L (fun S => K (F S).1 (F S).2) := fun S hs => hk _ _ (h S hs)
theorem IB.ite {P : RS -> Prop} [DecidablePred P] {F H : RS -> α × RS} (h1 : ∀ S, P S -> S.p <= L.length -> (F S).2.p <= L.length) (h2 : IB L H) : IB L (fun S => if P S then F S else H S) := fun S hs => by
 by_cases hp : P S
 ·simp only [if_pos hp];exact h1 S hp hs
 ·simp only [if_neg hp];exact h2 S hs
theorem Zg {S : RS} {w : List UInt8} (h : Wb L S = w) (hw : w ≠ []) : (Qw S).p <= L.length := by
 obtain ⟨_, h2, _⟩ := now_at (L := L) (S := S) (by rw [h];exact hw)
 exact h2
theorem ib_take (s : List UInt8) (hs : s ≠ []) {S : RS} (h : S.p <= L.length) : (Q8 L s S).p <= L.length := by
 unfold Q8
 split
 ·rename_i hn;exact Zg hn hs
 ·exact h
theorem IB.take {F : RS -> α × RS} (s : List UInt8) (hs : s ≠ []) (h : IB L F) : IB L (fun S => F (Q8 L s S)) := fun S hS => h _ (ib_take s hs hS)
theorem IB.fail {a : α} : IB L (fun S => (a, Zb S)) := fun S hS => hS
theorem IB.val {a : α} : IB L (fun S => (a, S)) := fun S hS => hS
theorem IB.numeral : IB L (Qy L) :=
 IB.ite (P := fun S => numB (Wb L S) = true) (F := fun S => (valM (Wb L S), Qw S)) (H := fun S => (0, Zb S)) (fun S hp _ => Zg rfl (numB_ne hp)) IB.fail
theorem isM_ne {S : RS} {c : UInt8} (h : isM L c S = true) : Wb L S ≠ [] := by
 rintro e
 unfold isM at h
 rw [e] at h
 simp [Lib.hasPrefix] at h
theorem IB.numbered (x : UInt8) : IB L (Qr L x) :=
 IB.ite (P := fun S => isM L x S = true) (F := fun S => (valM ((Wb L S).drop 1), Qw S)) (H := fun S => (0, Zb S)) (fun S hp _ => Zg rfl (isM_ne hp)) IB.fail
theorem IB.nx {F : RS -> α × RS} (h : IB L F) {w : List UInt8} (hw : w ≠ []) : ∀ S, Wb L S = w -> S.p <= L.length -> (F (Qw S)).2.p <= L.length := fun S hn _ => h _ (Zg hn hw)
theorem IB.loop {E : Rd1} (hE : IB L E) : ∀ (k : Nat) (o : List Nd), IB L (Wt L E k o)
 | 0, o => IB.val
 | k + 1, o => IB.ite (P := fun S => Wb L S = [44]) (F := fun S => Wt L E k (o ++ [(E (Qw S)).1]) (E (Qw S)).2) (H := fun S => (o, S)) (fun S hn _ => IB.loop hE k _ _ (hE _ (Zg hn (by decide)))) IB.val
theorem IB.lst {E : Rd1} (hE : IB L E) (k : Nat) : IB L (ZW L E k) := fun S hS => ib_take (L := L) [41] (by decide) (IB.loop hE k _ _ (hE S hS))
theorem IB.arg {E : Rd1} (hE : IB L E) (k : Nat) : IB L (WT L E k) :=
 IB.take (F := fun S => if Wb L S = [41] then ([], Qw S) else ZW L E k S) [40] (by decide) (IB.ite (P := fun S => Wb L S = [41]) (F := fun S => ([], Qw S)) (fun S hn _ => Zg hn (by decide)) (IB.lst hE k))
theorem IB.variable {E : Rd1} (hE : IB L E) : IB L (WM L E) := by
 refine (IB.numbered (L := L) 118).bind (K := fun a S => varTail L E a S) fun a => ?_
 refine IB.ite (P := fun S => Wb L S = [91]) (F := fun S => (Nd.mk 7 a 0 [(E (Qw S)).1], Q8 L [93] (E (Qw S)).2)) (fun S hn _ => ib_take (L := L) [93] (by decide) (hE _ (Zg hn (by decide)))) ?_
 exact IB.ite (P := fun S => Wb L S = [46]) (F := fun S => (Nd.mk 8 a (Qy L (Qw S)).1 [], (Qy L (Qw S)).2)) (H := fun S => (Nd.mk 6 a 0 [], S)) (fun S hn _ => IB.numeral (L := L) _ (Zg hn (by decide))) IB.val
theorem IB.binary {E : Rd1} (hE : IB L E) : IB L (qC L E) := by
 refine hE.bind (K := fun a S => if qU (Wb L S) < 0 then (zNd, Zb S) else (.mk 9 (qU (Wb L S)) 0 [a, (E (Qw S)).1], Q8 L [41] (E (Qw S)).2)) fun a S hS => ?_
 dsimp only
 by_cases ho : qU (Wb L S) < 0
 ·rw [if_pos ho];exact hS
 ·rw [if_neg ho]
  have hne : Wb L S ≠ [] := by
   intro e
   rw [e] at ho
   exact ho (by decide)
  exact ib_take (L := L) [41] (by decide) (hE _ (Zg rfl hne))
theorem IB.expr : ∀ (n : Nat), IB L (WU L z n)
 | 0 => IB.fail
 | n + 1 => by
  have hE : IB L (WU L z n) := IB.expr n
  refine IB.ite (P := fun S => numB (Wb L S) = true) (F := fun S => (Nd.mk 4 (Qy L S).1 0 [], (Qy L S).2)) (fun S _ hS => IB.numeral S hS) ?_
  refine IB.ite (P := fun S => isM L 118 S = true) (F := WM L (WU L z n)) (fun S _ hS => IB.variable hE S hS) ?_
  refine IB.ite (P := fun S => isM L 102 S = true) (F := fun S => (Nd.mk 11 (Qr L 102 S).1 0 (WT L (WU L z n) n (Qr L 102 S).2).1, (WT L (WU L z n) n (Qr L 102 S).2).2)) (fun S _ hS => IB.arg hE n _ (IB.numbered (L := L) 102 S hS)) ?_
  refine IB.ite (P := fun S => Wb L S = [45]) (F := fun S => if Wb L (Qw S) = [48] then (z, Zb (Qw S)) else (Nd.mk 4 (-(Qy L (Qw S)).1) 0 [], (Qy L (Qw S)).2)) (fun S hn _ => ?_) ?_
  ·have h1 := Zg (L := L) hn (by decide)
   split
   ·exact h1
   ·exact IB.numeral (L := L) _ h1
  refine IB.ite (P := fun S => Wb L S = wTrue) (F := fun S => (Nd.mk 5 1 0 [], Qw S)) (fun S hn _ => Zg hn (by decide)) ?_
  refine IB.ite (P := fun S => Wb L S = wFalse) (F := fun S => (Nd.mk 5 0 0 [], Qw S)) (fun S hn _ => Zg hn (by decide)) ?_
  refine IB.ite (P := fun S => Wb L S = [40]) (F := fun S => qC L (WU L z n) (Qw S)) ((IB.binary hE).nx (by decide)) ?_
  refine IB.ite (P := fun S => Wb L S = [33]) (F := fun S => (Nd.mk 10 0 0 [(WU L z n (Qw S)).1], (WU L z n (Qw S)).2)) (fun S hn _ => hE _ (Zg hn (by decide))) ?_
  exact IB.ite (P := fun S => Wb L S = wRecv) (F := fun S => (Nd.mk 12 (Qr L 99 (Qw S)).1 0 [], (Qr L 99 (Qw S)).2)) (H := fun S => (zNd, Zb S)) (fun S hn _ => IB.numbered (L := L) 99 _ (Zg hn (by decide))) IB.fail
theorem IB.typed : ∀ (n : Nat), IB L (WY L n)
 | 0 => IB.fail
 | n + 1 => by
  have hE : IB L (WY L n) := IB.typed n
  refine IB.ite (P := fun S => Wb L S = wInt) (F := fun S => (Nd.mk 0 0 0 [], Qw S)) (fun S hn _ => Zg hn (by decide)) ?_
  refine IB.ite (P := fun S => Wb L S = wBool) (F := fun S => (Nd.mk 1 0 0 [], Qw S)) (fun S hn _ => Zg hn (by decide)) ?_
  refine IB.ite (P := fun S => Wb L S = wArr) (F := fun S => (Nd.mk 2 (Qy L (Qw S)).1 0 [], (Qy L (Qw S)).2)) (fun S hn _ => IB.numeral (L := L) _ (Zg hn (by decide))) ?_
  exact IB.ite (P := fun S => Wb L S = wRec) (F := fun S => (Nd.mk 3 0 0 (ZW L (WY L n) n (Q8 L [40] (Qw S))).1, (ZW L (WY L n) n (Q8 L [40] (Qw S))).2)) (H := fun S => (zNd, Zb S)) (fun S hn _ => IB.lst hE n _ (ib_take [40] (by decide) (Zg hn (by decide)))) IB.fail
theorem IB.bloop {T : Rd1} (hT : IB L T) : ∀ (k : Nat) (o : List Nd), IB L (WN L T k o)
 | 0, o => IB.val
 | k + 1, o => by
  refine IB.ite (P := fun S => S.bad = true) (F := fun S => (o, S)) (fun S _ hS => hS) ?_
  refine IB.ite (P := fun S => Wb L S = [125]) (F := fun S => (o, Qw S)) (fun S hn _ => Zg hn (by decide)) ?_
  exact hT.bind (K := fun a S => WN L T k (o ++ [a]) S) fun a => IB.bloop hT k _
theorem IB.block {T : Rd1} (hT : IB L T) (k : Nat) : IB L (Ww L T k) := fun S hS => IB.bloop hT k [] _ (ib_take (L := L) [123] (by decide) hS)
theorem IB.stmt {E : Rd1} (hE : IB L E) (q : Nat) : ∀ (n : Nat), IB L (WW L E q n)
 | 0 => IB.fail
 | n + 1 => by
  have hB : IB L (Ww L (WW L E q n) n) := IB.block (IB.stmt hE q n) n
  refine IB.ite (P := fun S => Wb L S = [123]) (F := Ww L (WW L E q n) n) (fun S _ hS => hB S hS) ?_
  refine IB.ite (P := fun S => isM L 118 S = true) (F := qW L E) (fun S _ hS => hE _ (ib_take (L := L) [61] (by decide) (IB.variable hE S hS))) ?_
  refine IB.ite (P := fun S => Wb L S = wIf) (F := fun S => ifM L E (Ww L (WW L E q n) n) (Qw S)) (fun S hn _ => hB _ (ib_take (L := L) wElse (by decide) (hB _ (hE _ (Zg hn (by decide)))))) ?_
  refine IB.ite (P := fun S => Wb L S = wWhile) (F := fun S => whileM E (Ww L (WW L E q n) n) (Qw S)) (fun S hn _ => hB _ (hE _ (Zg hn (by decide)))) ?_
  refine IB.ite (P := fun S => Wb L S = wReturn) (F := fun S => oneM E 19 0 (Qw S)) (fun S hn _ => hE _ (Zg hn (by decide))) ?_
  refine IB.ite (P := fun S => Wb L S = wThrow) (F := fun S => oneM E 20 0 (Qw S)) (fun S hn _ => hE _ (Zg hn (by decide))) ?_
  refine IB.ite (P := fun S => Wb L S = wOut) (F := fun S => oneM E 24 0 (Qw S)) (fun S hn _ => hE _ (Zg hn (by decide))) ?_
  refine IB.ite (P := fun S => Wb L S = wSkip) (F := fun S => (Nd.mk 25 0 0 [], Qw S)) (fun S hn _ => Zg hn (by decide)) ?_
  refine IB.ite (P := fun S => Wb L S = wTry) (F := fun S => tryM L (Ww L (WW L E q n) n) (Qw S)) (fun S hn _ => hB _ (IB.numbered (L := L) 118 _ (ib_take (L := L) qX (by decide) (hB _ (Zg hn (by decide)))))) ?_
  refine IB.ite (P := fun S => Wb L S = wSend) (F := fun S => oneM E 22 (Qr L 99 (Qw S)).1 (Qr L 99 (Qw S)).2) (fun S hn _ => hE _ (IB.numbered (L := L) 99 _ (Zg hn (by decide)))) ?_
  exact IB.ite (P := fun S => Wb L S = wSpawn) (F := fun S => (Nd.mk 23 (Qr L 102 (Qw S)).1 0 (WT L E q (Qr L 102 (Qw S)).2).1, (WT L E q (Qr L 102 (Qw S)).2).2)) (H := fun S => (zNd, Zb S)) (fun S hn _ => IB.arg hE q _ (IB.numbered (L := L) 102 _ (Zg hn (by decide)))) IB.fail
theorem ib_fun (q : Nat) : IB L (Zr L z q) := fun S hS => IB.block (IB.stmt (IB.expr q) q q) q _ (IB.arg (IB.typed q) q _ (IB.numeral (L := L) _ (ib_take (L := L) wFun (by decide) hS)))
theorem IB.ploop {F : Rd1} (hF : IB L F) : ∀ (k : Nat) (o : List Nd), IB L (Wc L F k o)
 | 0, o => IB.val
 | k + 1, o => IB.ite (P := fun S => S.bad = false /\ S.p < L.length) (F := fun S => Wc L F k (o ++ [(F S).1]) (F S).2) (H := fun S => (o, S)) (fun S _ hS => IB.ploop hF k _ _ (hF S hS)) IB.val
theorem prog_in (q : Nat) : (Zj L z q).2.p <= L.length := IB.ploop (ib_fun q) q [] _ (IB.numeral (L := L) _ (ib_take (L := L) W9 (by decide) (Nat.zero_le _)))
end
end Go.Proofs
end
section
namespace Go.Proofs
open Go.Av
variable {G : Nat -> DV}
attribute [local irreducible] OpSem Zh ZB ZP ACalls qu AClose RV
open Go.Bl
abbrev zP : Nd := .mk 4 0 0 []
theorem elx (hG1 : G 1 = spaceT) (L : ZI) (hL : OkL L) (q r : Nat) (h : r + 2 <= q) : ElC G 176 L (WU L zP q) r := fun Q hQ => expr_rc hG1 L hL q Q (by omega)
theorem jX (L : ZI) (z : Nd) (q : Nat) : ∀ i c, J i c (WU L z q) (WU L z q) := fun i c => J.expr (Ag.refl L i) q c
theorem loop_len (L : ZI) (E : Rd1) : ∀ (k : Nat) (o : List Nd) (S : RS), (Wt L E k o S).1.length <= o.length + k
 | 0, o, S => by rw [Wt];show o.length <= o.length + 0;omega
 | k + 1, o, S => by
  rw [Wt]
  split
  ·have := loop_len L E k (o ++ [(E (Qw S)).1]) (E (Qw S)).2
   simp only [List.length_append, List.length_cons, List.length_nil] at this
   omega
  ·show o.length <= o.length + (k + 1);omega
theorem args_len (L : ZI) (E : Rd1) (k : Nat) (S : RS) : (WT L E k S).1.length <= k + 1 := by
 unfold WT
 split
 ·simp
 ·unfold ZW
  have := loop_len L E k [(E (Q8 L [40] S)).1] (E (Q8 L [40] S)).2
  simp only [List.length_cons, List.length_nil] at this
  show (Wt L E k [(E (Q8 L [40] S)).1] (E (Q8 L [40] S)).2).1.length <= k + 1
  omega
theorem fun_rc (hG1 : G 1 = spaceT) (L : ZI) (hL : OkL L) (q : Nat) (hq : L.length + 3 <= q) (hq2 : q <= 2000000) (S : RS) :
  CE Tryz.prog G 61 (fun p g => [.ptr p g 0]) (rdC L S) (.agg (Enc.enc (Zr L zP q S).1)) (rdC L (Zr L zP q S).2) := fun g B hg => by
 have hrl : ∀ Q : RS, rM L Q <= L.length := fun Q => by unfold rM;split <;> omega
 unfold Zr funM
 dsimp only
 have htk := take_c (G := G) L S hL wFun (by decide)
 generalize Q8 L wFun S = S1 at *
 have hnm := qr (G := G) L S1 hL
 generalize (Qy L S1).1 = v at *
 generalize (Qy L S1).2 = S2 at *
 have htel : ElC G 110 L (WY L q) L.length := fun Q hQ => typed_rc L hL q Q (by omega)
 have hargs := args_rc (G := G) 110 L (WY L q) L.length q hL htel S2 (hrl S2) (by have := hrl S2;omega)
 have hal := args_len L (WY L q) q S2
 generalize (WT L (WY L q) q S2).1 = axs at *
 generalize (WT L (WY L q) q S2).2 = S3 at *
 have hst : ElC G 152 L (WW L (WU L zP q) q q) L.length := fun Q hQ =>
  ⟨stmt_rc L hL (WU L zP q) (jX L zP q) q L.length (elx hG1 L hL q _ (by omega)) (by omega) q Q (by omega) (by omega), (jr (fun i => jS (jX L zP q) q q i True) Q).1⟩
 obtain ⟨q', rfl⟩ : ∃ q', q = q' + 1 := ⟨q - 1, by omega⟩
 have hblk := block_rc (G := G) L hL (WW L (WU L zP (q' + 1)) (q' + 1) (q' + 1)) L.length (q' + 1) hst (eats_st (jX L zP (q' + 1)) (q' + 1) q') S3 (by have := hrl S3;omega) (by have := hrl S3;omega)
 generalize (Ww L (WW L (WU L zP (q' + 1)) (q' + 1) (q' + 1)) (q' + 1) S3).1 = xb at *
 generalize (Ww L (WW L (WU L zP (q' + 1)) (q' + 1) (q' + 1)) (q' + 1) S3).2 = S4 at *
 clear hst htel hrl
 refine Qa Tryz.func61 rfl Tryz.ntmps61 rfl (t := [(0, .ptr 0 g 0)]) rfl fun E0 hE1 => ?_
 (repeat' first|(refine Qe ?_;(first|refine QI rfl ?_|refine WQ rfl rfl ?_|(refine Qp ?_;(first|refine ZL (z := xb) rfl rfl rfl rfl rfl rfl rfl (by first|omega|(simp;omega)) (by first|omega|(simp;omega)) (fun _ => rfl) (fun _ _ => ?_)|refine Wg 0 (htk) rfl rfl rfl rfl ?_|refine Wg 0 (hnm) rfl rfl rfl rfl ?_|refine Wg 0 (hblk) rfl rfl rfl rfl ?_|refine s_co 0 (hargs) (by first|exact .id|exact .node rfl rfl rfl) rfl rfl rfl rfl (QN _) (fun _ _ => ?_)))|(refine Wv ?_;(first|refine WR rfl rfl rfl rfl ?_|refine We rfl rfl rfl rfl (by rfl) (by rfl) (by rfl) ?_))|refine Qd rfl rfl ?_|refine QH rfl rfl ?_|refine QU rfl rfl ?_|refine QD (fun _ _ => ?_)))|(refine Qk ?_;(first|refine Qi ?_|refine QK rfl ?_|refine Q1 ?_))|(refine Qj ?_;(first|refine Ql ?_|refine Qc ?_|(refine Wn ?_;first|(rename_i g2 hg2 gn hgn ga hga;refine QG (fun p => p.1 :: .row g2 [.i 0, .i 0, .i 0, .nil] :: .row gn [.i 26, .i v, .i 0, .ref 3 ga 0 axs.length 4] :: p.2 :: []) 7 [(0, true), (1, true), (2, true), (3, false), (4, true), (5, false), (6, true), (7, false)] (by rfl) (by rfl) (by kernel_rfl) (by decide +kernel) (by decide +kernel) ⟨(_, _), rfl⟩ ?_)|(refine QG (fun p => p.1 :: p.2 :: []) 100 [(0, true)] (by rfl) (by rfl) (by kernel_rfl) (by decide +kernel) (by decide +kernel) ⟨(_, _), rfl⟩ ?_)|refine Q6 (by rfl) (by kernel_rfl) (by kernel_rfl) ?_|refine Q5 (by kernel_rfl) (by kernel_rfl) ?_)|refine Qt ?_))|(refine Zf ?_;(first|refine ZY ?_|refine i_z0 ?_|refine i_st rfl rfl (fun _ => (by (repeat' first|(refine Qe ?_;(first|refine QI rfl ?_|refine Qb rfl rfl rfl ?_|refine Wf (z := xb) rfl rfl (by decide) ?_|refine Qd rfl rfl ?_))|exact ⟨rfl, rfl⟩))) ?_|refine i_ef rfl ?_))|refine And.intro (Exists.intro ((_, _)) rfl) ?_)
 exact e_1 (Tryz.results61) (QA (size := 4) rfl rfl rfl rfl) (Zz (D := fun d => .agg [.i 26, .i v, .i 0, d]) (k := 2) (.node rfl rfl rfl) rfl (by rw [Q4];rfl) (by rw [Q0];rfl) rfl)
theorem eats_fun (L : ZI) (z : Nd) (q : Nat) : Eats L (Zr L z q) := fun S hb => by
 have h1 : mM L (Q8 L wFun S) < mM L S := by
  have h := (mm_take (L := L) (S := S) wFun (by decide)).1
  have : rM L S < mM L S := by unfold rM mM;rw [hb];simp
  omega
 have h2 : ∀ i, J i True (fun Q => (fun v : Int × RS => (fun a : List Nd × RS => (Nd.mk 26 v.1 0 (a.1 ++ [(Ww L (WW L (WU L z q) q q) q a.2).1]), (Ww L (WW L (WU L z q) q q) q a.2).2)) (WT L (WY L q) q v.2)) (Qy L Q)) (fun Q => (fun v : Int × RS => (fun a : List Nd × RS => (Nd.mk 26 v.1 0 (a.1 ++ [(Ww L (WW L (WU L z q) q q) q a.2).1]), (Ww L (WW L (WU L z q) q q) q a.2).2)) (WT L (WY L q) q v.2)) (Qy L Q)) := fun i => by
  refine (J.numeral (Ag.refl L i)).bind (K := fun v S => (Nd.mk 26 v 0 ((WT L (WY L q) q S).1 ++ [(Ww L (WW L (WU L z q) q q) q (WT L (WY L q) q S).2).1]), (Ww L (WW L (WU L z q) q q) q (WT L (WY L q) q S).2).2)) (K' := fun v S => (Nd.mk 26 v 0 ((WT L (WY L q) q S).1 ++ [(Ww L (WW L (WU L z q) q q) q (WT L (WY L q) q S).2).1]), (Ww L (WW L (WU L z q) q q) q (WT L (WY L q) q S).2).2)) fun v v' => ?_
  refine (J.arg (Ag.refl L i) (fun c => J.typed (Ag.refl L i) q c) q).bind (K := fun a S => (Nd.mk 26 v 0 (a ++ [(Ww L (WW L (WU L z q) q q) q S).1]), (Ww L (WW L (WU L z q) q q) q S).2)) (K' := fun a S => (Nd.mk 26 v' 0 (a ++ [(Ww L (WW L (WU L z q) q q) q S).1]), (Ww L (WW L (WU L z q) q q) q S).2)) fun a a' => ?_
  exact (jB (fun i c => jS (jX L z q) q q i c) q i _).map (u := fun x => Nd.mk 26 v 0 (a ++ [x])) (u' := fun x => Nd.mk 26 v' 0 (a' ++ [x])) fun x hc => by rw [hc.2, hc.1.2]
 exact Nat.lt_of_le_of_lt (jr h2 (Q8 L wFun S)).2 h1
end Go.Proofs
end
section
namespace Go.Proofs
open Go.Av Go.Bl
mutual
def WB : Nd -> Nat
 | .mk _ _ _ ks => WC ks + 1
def WC : List Nd -> Nat
 | [] => 0
 | x :: r => max (WB x) (WC r)
end
theorem depthL_app (a b : List Nd) : WC (a ++ b) = max (WC a) (WC b) := by
 induction a with
 | nil => simp [WC]
 | cons x r ih => rw [List.cons_append, WC, WC, ih];omega
theorem depthL_take {ks : List Nd} {i : Nat} (h : i < ks.length) : WC (ks.take (i + 1)) = max (WC (ks.take i)) (WB ks[i]) := by
 rw [List.take_succ_eq_append_getElem h, depthL_app, WC, WC];omega
theorem depth_size (t : Nd) : WB t <= Qx t := by
 induction t using Nd.ind with
 | h k n m ks ih =>
 rw [WB, Qx]
 have : ∀ ks : List Nd, (∀ x ∈ ks, WB x <= Qx x) -> WC ks <= QQ ks := by
  intro ks
  induction ks with
  | nil => intro _;exact Nat.le_refl _
  | cons x r ihr =>
   intro h
   have h1 := h x (by simp)
   have h2 := ihr fun y hy => h y (by simp [hy])
   rw [WC, QQ];omega
 have := this ks ih
 omega
structure Sh where
 is : Int
 low : Int
 high : Int
 last : Int
 kids : List Int
 more : Int
 least : Int
 som : Int
def shapesL : List Sh := [⟨3, 0, 0, 0, [], 0, 0, 0⟩, ⟨3, 0, 0, 0, [], 0, 0, 0⟩, ⟨2, 1, 4, 0, [], 0, 0, 0⟩, ⟨2, 0, 0, 0, [], 3, 1, 3⟩,
 ⟨4, -8, 7, 0, [], 0, 0, 0⟩, ⟨4, 0, 1, 0, [], 0, 0, 0⟩, ⟨4, 0, 5, 0, [], 0, 0, 0⟩, ⟨4, 0, 5, 0, [4], 0, 0, 0⟩, ⟨4, 0, 5, 2, [], 0, 0, 0⟩, ⟨4, 0, 13, 0, [4, 4], 0, 0, 0⟩, ⟨4, 0, 0, 0, [4], 0, 0, 0⟩, ⟨4, 0, 5, 0, [], 3, 0, 4⟩, ⟨4, 0, 2, 0, [], 0, 0, 0⟩,
 ⟨6, 0, 0, 0, [], 8, 0, 5⟩, ⟨5, 0, 5, 0, [4], 0, 0, 0⟩, ⟨5, 0, 5, 0, [4, 4], 0, 0, 0⟩, ⟨5, 0, 5, 2, [4], 0, 0, 0⟩, ⟨5, 0, 0, 0, [4, 6, 6], 0, 0, 0⟩, ⟨5, 0, 0, 0, [4, 6], 0, 0, 0⟩, ⟨5, 0, 0, 0, [4], 0, 0, 0⟩, ⟨5, 0, 0, 0, [4], 0, 0, 0⟩, ⟨5, 0, 5, 0, [6, 6], 0, 0, 0⟩, ⟨5, 0, 2, 0, [4], 0, 0, 0⟩, ⟨5, 0, 5, 0, [], 3, 0, 4⟩, ⟨5, 0, 0, 0, [4], 0, 0, 0⟩, ⟨5, 0, 0, 0, [], 0, 0, 0⟩,
 ⟨1, 0, 3, 0, [], 0, 0, 0⟩, ⟨0, 0, 3, 0, [], 6, 1, 1⟩]
def isB (s : Sh) (w : Int) : Bool := (decide (s.is = w) || (decide (s.is = 3) && decide (w = 2))) || (decide (s.is = 6) && decide (w = 5))
def rngB (s : Sh) (n m : Int) : Bool := (decide (s.low <= n) && decide (n <= s.high)) && (decide (0 <= m) && decide (m <= s.last))
def cntB (s : Sh) (l : Nat) : Bool := decide (s.least <= (l : Int) - (s.kids.length : Int)) && decide ((l : Int) - (s.kids.length : Int) <= s.more)
def wantK (s : Sh) (i : Nat) : Int := if i < s.kids.length then s.kids.getD i 0 else s.som
def noF : Int -> Bool := fun _ => false
def allI (f : Nat -> Bool) (n : Nat) : Bool := (List.range n).all f
def kidsB (s : Sh) (fs : List (Int -> Bool)) : Bool := allI (fun i => fs.getD i noF (wantK s i)) fs.length
def funB (n : Int) (fs : List (Int -> Bool)) : Bool := ((decide (n <= (fs.length : Int) - 1) && decide ((fs.length : Int) - 1 <= 6)) && fs.getD (fs.length - 1) noF 6) && allI (fun i => fs.getD i noF (if (i : Int) < n then 3 else 2)) (fs.length - 1)
def noSh : Sh := ⟨0, 0, 0, 0, [], 0, 0, 0⟩
mutual
def WG : Nd -> Int -> Bool
 | .mk k n m ks, w =>
  if 0 <= k /\ k < 28 then
   isB (shapesL.getD k.toNat noSh) w && rngB (shapesL.getD k.toNat noSh) n m && (if k = 26 then funB n (fitsF ks) else cntB (shapesL.getD k.toNat noSh) ks.length && kidsB (shapesL.getD k.toNat noSh) (fitsF ks))
  else false
def fitsF : List Nd -> List (Int -> Bool)
 | [] => []
 | x :: r => WG x :: fitsF r
end
theorem fitsF_eq : ∀ ks, fitsF ks = ks.map WG
 | [] => rfl
 | x :: r => by rw [fitsF, fitsF_eq r];rfl
def validM (t : Nd) : Bool := decide (Qx t <= 256) && decide (WB t <= 16) && WG t 0
theorem allI_iff {f : Nat -> Bool} {n : Nat} : allI f n = true ↔ ∀ i, i < n -> f i = true := by
 unfold allI
 rw [List.all_eq_true]
 simp
theorem qk (ks : List Nd) (f : Nd -> Int -> Bool) {i : Nat} (h : i < ks.length) : (ks.map f).getD i noF = f ks[i] := by
 rw [List.getD_eq_getElem?_getD, List.getElem?_map, List.getElem?_eq_getElem h];rfl
end Go.Proofs
end
section
namespace Go.Proofs
open Go.Av
variable {G : Nat -> DV}
attribute [local irreducible] OpSem Zh ZB ZP ACalls qu AClose RV
open Go.Bl
theorem s_max_as {P : Program} {G : Nat -> DV} {B : Nat} {f : Operand -> DV} {σ : List ABlk} {K : DV -> List ABlk -> Prop} {dst : Option Tmp} {type : TypeId} {pos : String} {after : Array Edge} {gd : Option (Nat × Bool)} {ts : Array TypeId} {x y : Operand} {k1 : IntKind} {a b c : Int} (hx : f x = .sc (.int k1 a)) (hy : f y = .sc (.int k1 b)) (hc : max a b = c) (k : K (.sc (.int k1 c)) σ) : OpSem P G B ⟨dst, .call ⟨.builtin .max, #[x, y], ts⟩, type, pos, after, gd⟩ f σ K := s_max hx hy (by rw [hc];exact k)
theorem trSize_c (t : Nd) : Qx t <= 4000000 -> Go.Av.Pure Tryz.prog G 73 [.agg (Enc.enc t)] (.i (Qx t)) := by
 induction t using Nd.ind with
 | h k n m ks ih =>
 intro hsz B
 have hse : Qx (.mk k n m ks) = 1 + QQ ks := by rw [Qx]
 rw [hse] at hsz ⊢
 have hln := WV ks
 have hi : ∀ x ∈ ks, Go.Av.Pure Tryz.prog G 73 [.agg (Enc.enc x)] (.i (Qx x)) := fun x hx => ih x hx (by have := Q9 hx;omega)
 clear ih
 rw [Q0]
 refine Qa Tryz.func73 rfl Tryz.ntmps73 rfl (t := [(0, .agg [.i k, .i n, .i m, QT ks])]) rfl fun E hE => ?_
 (repeat' first|(refine Qe ?_;(first|refine QI rfl ?_|refine QJ rfl ?_|refine Qb rfl rfl rfl ?_|refine Qz rfl ?_|refine Qd rfl rfl ?_|refine QV rfl rfl (fun _ _ => ?_)))|(refine Qk ?_;(first|refine Qi ?_|refine QK rfl ?_))|(refine Qj ?_;(first|refine Ql ?_|refine Qc ?_|refine Qf ?_)))
 rename_i g1 hg1
 refine ZQ (fun (i : Nat) => ⟨[(1, .ptr 0 g1 0), (3, .i ((1 + QQ (ks.take i) : Nat) : Int)), (7, QT ks), (8, .i ks.length), (9, .i i)], [.row g1 [.i k, .i n, .i m, QT ks]]⟩) (fun i => i <= ks.length) (fun i => ks.length - i) 0 ?_ (by omega) ?_
 ·exact zal rfl
 intro i hi2
 by_cases hj : i < ks.length
 ·have hi1 := hi _ (List.getElem_mem hj)
  have hsu := qG ks i hj
  have hle := WP ks i
  have hle2 := WP ks (i + 1)
  have e1 : ((1 + QQ (ks.take (i + 1)) : Nat) : Int) = ((1 + QQ (ks.take i) : Nat) : Int) + (Qx ks[i] : Int) := by omega
  clear hi
  (repeat' first|(refine Qe ?_;(first|refine QI rfl ?_|refine QJ rfl ?_|(refine QB ?_;(first|refine WQ rfl rfl ?_|refine QR rfl ?_))|refine QC rfl rfl (by first|assumption|omega|(simp;done)|(simp;omega)) ?_|(refine Qo ?_;(first|refine QY rfl rfl ?_|refine W7 rfl rfl (by omega) ?_))|refine QZ rfl rfl (hi1) ?_|refine WR rfl rfl rfl rfl ?_|refine QD (fun _ _ => ?_)))|(refine Qk ?_;(first|refine Qi ?_|refine QK rfl ?_|refine Q1 ?_))|(refine Qj ?_;(first|refine Ql ?_|refine Qc ?_|refine Qf ?_|refine Qu ?_|refine Qq rfl (by omega) ?_)))
  refine ⟨i + 1, by omega, by omega, ?_⟩
  rw [e1]
  exact zal rfl
 ·have hj : i = ks.length := by omega
  subst hj
  rw [List.take_length]
  clear hi
  (repeat' first|(refine Qe ?_;(first|refine QI rfl ?_|refine QJ rfl ?_|refine QY rfl rfl ?_))|(refine Qk ?_;(first|refine Qi ?_|refine QK rfl ?_))|(refine Qj ?_;(first|refine Ql ?_|refine Qc ?_|refine Qn rfl (by omega) ?_|refine Wp rfl ?_|refine Qt ?_)))
  exact e_1 (Tryz.results73) (Qg rfl) (Ze (σ := []) (r := [_]) ⟨rfl, rfl⟩)
theorem trDepth_c (t : Nd) : Qx t <= 4000000 -> Go.Av.Pure Tryz.prog G 74 [.agg (Enc.enc t)] (.i (WB t)) := by
 induction t using Nd.ind with
 | h k n m ks ih =>
 intro hsz B
 have hds := depth_size (.mk k n m ks)
 have hse : Qx (.mk k n m ks) = 1 + QQ ks := by rw [Qx]
 have hde : WB (.mk k n m ks) = WC ks + 1 := by rw [WB]
 rw [hse] at hsz hds
 rw [hde] at hds ⊢
 have hln := WV ks
 have hi : ∀ x ∈ ks, Go.Av.Pure Tryz.prog G 74 [.agg (Enc.enc x)] (.i (WB x)) := fun x hx => ih x hx (by have := Q9 hx;omega)
 clear ih
 rw [Q0]
 refine Qa Tryz.func74 rfl Tryz.ntmps74 rfl (t := [(0, .agg [.i k, .i n, .i m, QT ks])]) rfl fun E hE => ?_
 (repeat' first|(refine Qe ?_;(first|refine QI rfl ?_|refine QJ rfl ?_|refine Qb rfl rfl rfl ?_|refine Qz rfl ?_|refine Qd rfl rfl ?_|refine QV rfl rfl (fun _ _ => ?_)))|(refine Qk ?_;(first|refine Qi ?_|refine QK rfl ?_))|(refine Qj ?_;(first|refine Ql ?_|refine Qc ?_|refine Qf ?_)))
 rename_i g1 hg1
 refine ZQ (fun (i : Nat) => ⟨[(1, .ptr 0 g1 0), (3, .i ((WC (ks.take i) : Nat) : Int)), (7, QT ks), (8, .i ks.length), (9, .i i)], [.row g1 [.i k, .i n, .i m, QT ks]]⟩) (fun i => i <= ks.length) (fun i => ks.length - i) 0 ?_ (by omega) ?_
 ·exact zal rfl
 intro i hi2
 by_cases hj : i < ks.length
 ·have hi1 := hi _ (List.getElem_mem hj)
  have hsu := depthL_take hj
  have hmx : max ((WC (ks.take i) : Nat) : Int) ((WB ks[i] : Nat) : Int) = ((WC (ks.take (i + 1)) : Nat) : Int) := by rw [hsu];omega
  clear hi hsu
  (repeat' first|(refine Qe ?_;(first|refine QI rfl ?_|refine QJ rfl ?_|(refine QB ?_;(first|refine WQ rfl rfl ?_|refine QR rfl ?_))|refine QC rfl rfl (by first|assumption|omega|(simp;done)|(simp;omega)) ?_|(refine Qo ?_;(first|refine QY rfl rfl ?_|refine W7 rfl rfl (by omega) ?_))|(refine Qp ?_;(first|refine s_max_as rfl rfl hmx ?_|refine QZ rfl rfl (hi1) ?_))|refine WR rfl rfl rfl rfl ?_|refine QD (fun _ _ => ?_)))|(refine Qk ?_;(first|refine Qi ?_|refine QK rfl ?_|refine Q1 ?_))|(refine Qj ?_;(first|refine Ql ?_|refine Qc ?_|refine Qf ?_|refine Qu ?_|refine Qq rfl (by omega) ?_)))
  refine ⟨i + 1, by omega, by omega, ?_⟩
  exact zal rfl
 ·have hj : i = ks.length := by omega
  subst hj
  rw [List.take_length]
  have e1 : ((WC ks + 1 : Nat) : Int) = (WC ks : Int) + 1 := by omega
  rw [e1]
  clear hi
  (repeat' first|(refine Qe ?_;(first|refine QI rfl ?_|refine QJ rfl ?_|(refine Qo ?_;(first|refine QY rfl rfl ?_|refine W7 rfl rfl (by omega) ?_))))|(refine Qk ?_;(first|refine Qi ?_|refine QK rfl ?_))|(refine Qj ?_;(first|refine Ql ?_|refine Qc ?_|refine Qn rfl (by omega) ?_|refine Wp rfl ?_|refine Qt ?_)))
  exact e_1 (Tryz.results74) (Qg rfl) (Ze (σ := []) (r := [_]) ⟨rfl, rfl⟩)
end Go.Proofs
end
