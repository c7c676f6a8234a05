/-
  Part 7 of the proof: R9 PZ RA V1 V2 LX RB CP LV KX KP KS PV BN S3 S4 BW GX SQ GZ GW SR BK WJ.
-/
import Derived.Test.YtnppaoeijmgneaaGreatDoorZE1
import Derived.Test.YtnppaoeijmgneaaGreatDoorZE3
import Derived.Test.YtnppaoeijmgneaaGreatDoorZE4
import Derived.Test.YtnppaoeijmgneaaGreatDoorZE5
import Derived.Test.YtnppaoeijmgneaaGreatDoorZE6
set_option linter.unusedSimpArgs false
set_option linter.unusedVariables false
set_option maxRecDepth 10000
set_option maxHeartbeats 4000000
section
namespace Go.Proofs
open Go.Av
variable {G : Nat -> DV}
attribute [local irreducible] OpSem Zd Zx ZL ACalls qt AClose RV
open Go.Bl
theorem stmt_rc (L : ZK) (hL : OkL L) (E : Rd1) (hEj : ∀ i c, J i c E E) (q : Nat) (r1 : Nat) (hE : ElC G 176 L E r1) (hq : r1 + 1 <= q) : ∀ (n : Nat) (S : RS), rM L S + 2 <= n -> rM L S <= r1 + 1 -> CE Tryz.prog G 152 (fun p g => [.ptr p g 0]) (rdC L S) (.agg (Enc.enc (WS L E q n S).1)) (rdC L (WS L E q n S).2) := by
 intro n
 induction n with
 | zero => intro S h;omega
 | succ n ih =>
 intro S hn hr1
 have hjs := jS (L := L) hEj q n
 have hB := fun i c => jB (L := L) hjs n i c
 have hel : rM L S >= 1 -> ElC G 152 L (WS L E q n) (rM L S - 1) := fun h1 Q hQ => ⟨ih Q (by omega) (by omega), (jr (fun i => hjs i True) Q).1⟩
 have heat : rM L S >= 1 -> Eats L (WS L E q n) := fun h1 => by
  obtain ⟨n', rfl⟩ : ∃ n', n = n' + 1 := ⟨n - 1, by omega⟩
  exact eats_st hEj q n'
 have blk : rM L S >= 1 -> ∀ Q, rM L Q <= rM L S -> CE Tryz.prog G 111 (fun p g => [.ptr p g 0]) (rdC L Q) (.agg (Enc.enc (Wt L (WS L E q n) n Q).1)) (rdC L (Wt L (WS L E q n) n Q).2) := fun h1 Q hQ => block_rc L hL _ (rM L S - 1) n (hel h1) (heat h1) Q (by omega) (by omega)
 have bln : ∀ Q, rM L (Wt L (WS L E q n) n Q).2 <= rM L Q := fun Q => (jr (fun i => hB i True) Q).1
 clear ih hel heat
 rw [WS]
 by_cases h1 : Wb L S = [123]
 ·rw [if_pos h1]
  have hd : decide (Wb L S = [123]) = true := decide_eq_true h1
  have hrn := (WW h1 (by decide)).1
  have hblk := blk (by omega) S (Nat.le_refl _)
  clear blk bln
  intro g B hg
  refine Qa Tryz.func152 rfl Tryz.ntmps152 rfl (t := [(0, .ptr 0 g 0)]) rfl fun E0 hE1 => ?_
  (repeat' first|(refine Qe ?_;(first|refine QJ rfl ?_|refine Qb rfl rfl rfl ?_|refine WN rfl rfl ?_|(refine Qq ?_;(first|refine Wi 0 (ql L S hL) rfl rfl rfl rfl ?_|refine Wi 0 (hblk) rfl rfl rfl rfl ?_))|refine WR rfl rfl rfl rfl ?_|refine QV rfl rfl ?_|refine QC (fun _ _ => ?_)|refine QU rfl rfl (fun _ _ => ?_)))|(refine Qk ?_;(first|refine Qi ?_|refine QN rfl ?_|refine Q5 ?_))|(refine Qj ?_;(first|refine Qn ?_|refine Qc ?_|refine Qf ?_|refine Qp rfl (by omega) ?_|refine Qs ?_)))
  exact e_1 (Tryz.results152) (QH (size := 4) rfl rfl (partD_node _) (Enc.len _)) (c_ce rfl rfl)
 rw [if_neg h1]
 have hd : decide (Wb L S = [123]) = false := decide_eq_false h1
 have his1 := is_c (G := G) L S hL 118
 by_cases h2 : isM L 118 S = true
 ·rw [if_pos h2]
  rw [h2] at his1
  have hrn := (WW (L := L) (S := S) rfl (is_now h2).1).1
  have hasg := assign_rc (G := G) L hL E r1 hE S (by omega) h2
  clear blk bln
  intro g B hg
  refine Qa Tryz.func152 rfl Tryz.ntmps152 rfl (t := [(0, .ptr 0 g 0)]) rfl fun E0 hE1 => ?_
  (repeat' first|(refine Qe ?_;(first|refine QJ rfl ?_|refine Qb rfl rfl rfl ?_|refine WN rfl rfl ?_|(refine Qq ?_;(first|refine Wi 0 (ql L S hL) rfl rfl rfl rfl ?_|refine Wi 0 (his1) rfl rfl rfl rfl ?_|refine Wi 0 (hasg) rfl rfl rfl rfl ?_))|refine WR rfl rfl rfl rfl ?_|refine QV rfl rfl ?_|refine QC (fun _ _ => ?_)|refine QU rfl rfl (fun _ _ => ?_)))|(refine Qk ?_;(first|refine Qi ?_|refine QN rfl ?_|refine Q5 ?_))|(refine Qj ?_;(first|refine Qn ?_|refine Qc ?_|refine Qf ?_|refine Qh rfl ?_|refine Qm rfl (by omega) ?_|refine Qs ?_)))
  exact e_1 (Tryz.results152) (QH (size := 4) rfl rfl (partD_node _) (Enc.len _)) (c_ce rfl rfl)
 rw [if_neg h2]
 rw [show isM L 118 S = false by simpa using h2] at his1
 by_cases hwIf : Wb L S = wIf
 ·rw [if_pos hwIf]
  have hrn := (WW hwIf (by decide)).1
  unfold ifM
  have hval := fun (gb g2 B' g : Nat) (h : g <= B') => stmt1_rc (G := G) L E r1 hE (Qy S) (by omega) 17 g gb g2 B' h
  have hel := (hE (Qy S) (by omega)).2
  simp only
  generalize (E (Qy S)).1 = xE at *
  generalize (E (Qy S)).2 = S1 at *
  have hbla := blk (by omega) S1 (by omega)
  have hbll := bln S1
  generalize (Wt L (WS L E q n) n S1).1 = xa at *
  generalize (Wt L (WS L E q n) n S1).2 = S2 at *
  have htk := take_c (G := G) L S2 hL wElse (by decide)
  have htl := rM_take (L := L) (S := S2) wElse (by decide)
  generalize Wa L wElse S2 = S3 at *
  have hblb := blk (by omega) S3 (by omega)
  generalize (Wt L (WS L E q n) n S3).1 = xb at *
  generalize (Wt L (WS L E q n) n S3).2 = S4 at *
  clear blk bln
  intro g B hg
  refine Qa Tryz.func152 rfl Tryz.ntmps152 rfl (t := [(0, .ptr 0 g 0)]) rfl fun E0 hE1 => ?_
  (repeat' first|(refine Qe ?_;(first|refine QG rfl ?_|refine QJ rfl ?_|(refine Qz ?_;(first|refine WF rfl rfl ?_|refine Qb rfl rfl rfl ?_))|refine WN rfl rfl ?_|(refine Qq ?_;(first|refine s_callv_og rfl rfl (hval _ _ _ _ (by omega)) (fun _ _ => ?_)|refine Wi 0 (ql L S hL) rfl rfl rfl rfl ?_|refine Wi 0 (his1) rfl rfl rfl rfl ?_|refine Wi 0 (hbla) rfl rfl rfl rfl ?_|refine Wi 0 (hblb) rfl rfl rfl rfl ?_|refine Wi 0 (htk) rfl rfl rfl rfl ?_|refine Wi 0 (Z8 L S hL _ (by decide) (by assumption)) rfl rfl rfl rfl ?_|refine ZD (z := xa) rfl rfl rfl rfl rfl rfl rfl (by first|omega|(simp;done)|(simp;omega)) (by first|omega|(simp;done)|(simp;omega)) (fun _ => rfl) (fun _ _ => ?_)|refine ZD (z := xb) rfl rfl rfl rfl rfl rfl rfl (by first|omega|(simp;done)|(simp;omega)) (by first|omega|(simp;done)|(simp;omega)) (fun _ => rfl) (fun _ _ => ?_)))|(refine Wl ?_;(first|refine WR rfl rfl rfl rfl ?_|refine Q7 rfl rfl rfl rfl (by rfl) (by rfl) (by rfl) ?_))|refine QV rfl rfl ?_|refine QC (fun _ _ => ?_)|refine QU rfl rfl (fun _ _ => ?_)))|(refine Qk ?_;(first|refine Qi ?_|refine QN rfl ?_|refine Q5 ?_))|(refine Qj ?_;(first|refine Qn ?_|refine Qc ?_|refine Qf ?_|(refine Wg ?_;first|(rename_i gb hgb g2 hg2 gt hgt;refine QB (fun p => p :: .row gb [.ptr 0 g 0] :: .row g2 [.i 0, .i 0, .i 0, .nil] :: .row gt (Enc.enc xa) :: []) 6 [(0, true), (1, true), (2, true), (3, false), (4, true), (5, true), (6, false)] (by rfl) (by rfl) (by kernel_rfl) (by decide +kernel) (by decide +kernel) ⟨_, rfl⟩ ?_)|(rename_i gc2 hgc2;refine QB (fun p => p.1 :: .row gb [.ptr 0 g 0] :: .row g2 [.i 0, .i 0, .i 0, .nil] :: p.2 :: .row gn [.i 17, .i 0, .i 0, .ref 3 gc2 0 ([xE] ++ [xa]).length 4] :: []) 7 [(0, true), (1, true), (2, true), (3, false), (4, true), (5, false), (6, true), (7, false)] (by rfl) (by rfl) (by kernel_rfl) (by decide +kernel) (by decide +kernel) ⟨(_, _), rfl⟩ ?_)|(rename_i gb hgb g2 hg2 gc hgc gn hgn;refine QB (fun p => p.1 :: .row gb [.ptr 0 g 0] :: .row g2 [.i 0, .i 0, .i 0, .nil] :: p.2 :: .row gn [.i 18, .i 0, .i 0, .ref 3 gc 0 [xE].length 4] :: []) 7 [(0, true), (1, true), (2, true), (3, false), (4, true), (5, false), (6, true), (7, false)] (by rfl) (by rfl) (by kernel_rfl) (by decide +kernel) (by decide +kernel) ⟨(_, _), rfl⟩ ?_)|(rename_i gb hgb g2 hg2 gc hgc gn hgn;refine QB (fun p => p.1 :: .row gb [.ptr 0 g 0] :: .row g2 [.i 0, .i 0, .i 0, .nil] :: p.2 :: .row gn [.i 17, .i 0, .i 0, .ref 3 gc 0 [xE].length 4] :: []) 7 [(0, true), (1, true), (2, true), (3, false), (4, true), (5, false), (6, true), (7, false)] (by rfl) (by rfl) (by kernel_rfl) (by decide +kernel) (by decide +kernel) ⟨(_, _), rfl⟩ ?_)|(refine QB (fun p => p.1 :: p.2 :: []) 100 [(0, true)] (by rfl) (by rfl) (by kernel_rfl) (by decide +kernel) (by decide +kernel) ⟨(_, _), rfl⟩ ?_)|(refine QB (fun p => p) 100 [(0, true)] (by rfl) (by rfl) (by kernel_rfl) (by decide +kernel) (by decide +kernel) ⟨_, rfl⟩ ?_)|refine Q3 (by rfl) (by kernel_rfl) (by kernel_rfl) ?_|refine Q2 (by kernel_rfl) (by kernel_rfl) ?_)|refine Qh rfl ?_|refine Ql rfl ?_|refine Qm rfl (by omega) ?_|refine Qs ?_))|(refine Ze ?_;(first|refine Z1 ?_|refine i_z0 ?_|refine i_st rfl rfl (fun _ => (by (repeat' first|(refine Qe ?_;(first|refine Qb rfl rfl rfl ?_|(refine qd ?_;(first|refine Wc (z := xa) rfl rfl (by decide) ?_|refine Wc (z := xb) rfl rfl (by decide) ?_))|refine Qd rfl rfl ?_))|exact ⟨rfl, rfl⟩))) ?_|refine i_ef rfl ?_))|refine And.intro (Exists.intro ((_, _)) rfl) ?_)
  exact e_1 (Tryz.results152) (QH (size := 4) rfl rfl rfl rfl) (Zy (D := fun d => .agg [.i 17, .i 0, .i 0, d]) (k := 2) (.node rfl rfl rfl) rfl (by rw [QX];rfl) (by rw [QW];rfl) rfl)
 rw [if_neg hwIf]
 by_cases hwWhile : Wb L S = wWhile
 ·rw [if_pos hwWhile]
  have hrn := (WW hwWhile (by decide)).1
  unfold whileM
  have hval := fun (gb g2 B' g : Nat) (h : g <= B') => stmt1_rc (G := G) L E r1 hE (Qy S) (by omega) 18 g gb g2 B' h
  have hel := (hE (Qy S) (by omega)).2
  simp only
  generalize (E (Qy S)).1 = xE at *
  generalize (E (Qy S)).2 = S1 at *
  have hbla := blk (by omega) S1 (by omega)
  have hbll := bln S1
  generalize (Wt L (WS L E q n) n S1).1 = xa at *
  generalize (Wt L (WS L E q n) n S1).2 = S2 at *
  clear blk bln
  intro g B hg
  refine Qa Tryz.func152 rfl Tryz.ntmps152 rfl (t := [(0, .ptr 0 g 0)]) rfl fun E0 hE1 => ?_
  (repeat' first|(refine Qe ?_;(first|refine QG rfl ?_|refine QJ rfl ?_|(refine Qz ?_;(first|refine WF rfl rfl ?_|refine Qb rfl rfl rfl ?_))|refine WN rfl rfl ?_|(refine Qq ?_;(first|refine s_callv_og rfl rfl (hval _ _ _ _ (by omega)) (fun _ _ => ?_)|refine Wi 0 (ql L S hL) rfl rfl rfl rfl ?_|refine Wi 0 (his1) rfl rfl rfl rfl ?_|refine Wi 0 (hbla) rfl rfl rfl rfl ?_|refine Wi 0 (qc L S hL _ (by decide) (by assumption)) rfl rfl rfl rfl ?_|refine Wi 0 (Z8 L S hL _ (by decide) (by assumption)) rfl rfl rfl rfl ?_|refine ZD (z := xa) rfl rfl rfl rfl rfl rfl rfl (by first|omega|(simp;done)|(simp;omega)) (by first|omega|(simp;done)|(simp;omega)) (fun _ => rfl) (fun _ _ => ?_)))|(refine Wl ?_;(first|refine WR rfl rfl rfl rfl ?_|refine Q7 rfl rfl rfl rfl (by rfl) (by rfl) (by rfl) ?_))|refine QV rfl rfl ?_|refine QC (fun _ _ => ?_)|refine QU rfl rfl (fun _ _ => ?_)))|(refine Qk ?_;(first|refine Qi ?_|refine QN rfl ?_|refine Q5 ?_))|(refine Qj ?_;(first|refine Qn ?_|refine Qc ?_|refine Qf ?_|(refine Wg ?_;first|(rename_i gb hgb g2 hg2 gt hgt;refine QB (fun p => p :: .row gb [.ptr 0 g 0] :: .row g2 [.i 0, .i 0, .i 0, .nil] :: .row gt (Enc.enc xa) :: []) 6 [(0, true), (1, true), (2, true), (3, false), (4, true), (5, true), (6, false)] (by rfl) (by rfl) (by kernel_rfl) (by decide +kernel) (by decide +kernel) ⟨_, rfl⟩ ?_)|(rename_i gc2 hgc2;refine QB (fun p => p.1 :: .row gb [.ptr 0 g 0] :: .row g2 [.i 0, .i 0, .i 0, .nil] :: p.2 :: .row gn [.i 17, .i 0, .i 0, .ref 3 gc2 0 ([xE] ++ [xa]).length 4] :: []) 7 [(0, true), (1, true), (2, true), (3, false), (4, true), (5, false), (6, true), (7, false)] (by rfl) (by rfl) (by kernel_rfl) (by decide +kernel) (by decide +kernel) ⟨(_, _), rfl⟩ ?_)|(rename_i gb hgb g2 hg2 gc hgc gn hgn;refine QB (fun p => p.1 :: .row gb [.ptr 0 g 0] :: .row g2 [.i 0, .i 0, .i 0, .nil] :: p.2 :: .row gn [.i 18, .i 0, .i 0, .ref 3 gc 0 [xE].length 4] :: []) 7 [(0, true), (1, true), (2, true), (3, false), (4, true), (5, false), (6, true), (7, false)] (by rfl) (by rfl) (by kernel_rfl) (by decide +kernel) (by decide +kernel) ⟨(_, _), rfl⟩ ?_)|(rename_i gb hgb g2 hg2 gc hgc gn hgn;refine QB (fun p => p.1 :: .row gb [.ptr 0 g 0] :: .row g2 [.i 0, .i 0, .i 0, .nil] :: p.2 :: .row gn [.i 17, .i 0, .i 0, .ref 3 gc 0 [xE].length 4] :: []) 7 [(0, true), (1, true), (2, true), (3, false), (4, true), (5, false), (6, true), (7, false)] (by rfl) (by rfl) (by kernel_rfl) (by decide +kernel) (by decide +kernel) ⟨(_, _), rfl⟩ ?_)|(refine QB (fun p => p.1 :: p.2 :: []) 100 [(0, true)] (by rfl) (by rfl) (by kernel_rfl) (by decide +kernel) (by decide +kernel) ⟨(_, _), rfl⟩ ?_)|(refine QB (fun p => p) 100 [(0, true)] (by rfl) (by rfl) (by kernel_rfl) (by decide +kernel) (by decide +kernel) ⟨_, rfl⟩ ?_)|refine Q3 (by rfl) (by kernel_rfl) (by kernel_rfl) ?_|refine Q2 (by kernel_rfl) (by kernel_rfl) ?_)|refine Qh rfl ?_|refine Ql rfl ?_|refine Qm rfl (by omega) ?_|refine Qs ?_))|(refine Ze ?_;(first|refine Z1 ?_|refine i_z0 ?_|refine i_st rfl rfl (fun _ => (by (repeat' first|(refine Qe ?_;(first|refine Qb rfl rfl rfl ?_|refine Wc (z := xa) rfl rfl (by decide) ?_|refine Qd rfl rfl ?_))|exact ⟨rfl, rfl⟩))) ?_|refine i_ef rfl ?_))|refine And.intro (Exists.intro ((_, _)) rfl) ?_)
  exact e_1 (Tryz.results152) (QH (size := 4) rfl rfl rfl rfl) (Zy (D := fun d => .agg [.i 18, .i 0, .i 0, d]) (k := 2) (.node rfl rfl rfl) rfl (by rw [QX];rfl) (by rw [QW];rfl) rfl)
 rw [if_neg hwWhile]
 by_cases hwReturn : Wb L S = wReturn
 ·rw [if_pos hwReturn]
  have hrn := (WW hwReturn (by decide)).1
  unfold oneM
  have hval := fun (gb g2 B' g : Nat) (h : g <= B') => stmt1_rc (G := G) L E r1 hE (Qy S) (by omega) 19 g gb g2 B' h
  generalize (E (Qy S)).1 = xE at *
  generalize (E (Qy S)).2 = S1 at *
  clear blk bln
  intro g B hg
  refine Qa Tryz.func152 rfl Tryz.ntmps152 rfl (t := [(0, .ptr 0 g 0)]) rfl fun E0 hE1 => ?_
  (repeat' first|(refine Qe ?_;(first|refine QG rfl ?_|refine QJ rfl ?_|refine Qb rfl rfl rfl ?_|refine WN rfl rfl ?_|(refine Qq ?_;(first|refine s_callv_og rfl rfl (hval _ _ _ _ (by omega)) (fun _ _ => ?_)|refine Wi 0 (ql L S hL) rfl rfl rfl rfl ?_|refine Wi 0 (his1) rfl rfl rfl rfl ?_|refine Wi 0 (qc L S hL _ (by decide) (by assumption)) rfl rfl rfl rfl ?_|refine Wi 0 (Z8 L S hL _ (by decide) (by assumption)) rfl rfl rfl rfl ?_))|refine WR rfl rfl rfl rfl ?_|refine QV rfl rfl ?_|refine QC (fun _ _ => ?_)|refine QU rfl rfl (fun _ _ => ?_)))|(refine Qk ?_;(first|refine Qi ?_|refine QN rfl ?_|refine Q5 ?_))|(refine Qj ?_;(first|refine Qn ?_|refine Qc ?_|refine Qf ?_|refine Qh rfl ?_|refine Ql rfl ?_|refine Qm rfl (by omega) ?_|refine Qs ?_)))
  exact e_1 (Tryz.results152) (QH (size := 4) rfl rfl rfl rfl) (Zy (D := fun d => .agg [.i 19, .i 0, .i 0, d]) (k := 2) (.node rfl rfl rfl) rfl (by rw [QX];rfl) (by rw [QW];rfl) rfl)
 rw [if_neg hwReturn]
 by_cases hwThrow : Wb L S = wThrow
 ·rw [if_pos hwThrow]
  have hrn := (WW hwThrow (by decide)).1
  unfold oneM
  have hval := fun (gb g2 B' g : Nat) (h : g <= B') => stmt1_rc (G := G) L E r1 hE (Qy S) (by omega) 20 g gb g2 B' h
  generalize (E (Qy S)).1 = xE at *
  generalize (E (Qy S)).2 = S1 at *
  clear blk bln
  intro g B hg
  refine Qa Tryz.func152 rfl Tryz.ntmps152 rfl (t := [(0, .ptr 0 g 0)]) rfl fun E0 hE1 => ?_
  (repeat' first|(refine Qe ?_;(first|refine QG rfl ?_|refine QJ rfl ?_|refine Qb rfl rfl rfl ?_|refine WN rfl rfl ?_|(refine Qq ?_;(first|refine s_callv_og rfl rfl (hval _ _ _ _ (by omega)) (fun _ _ => ?_)|refine Wi 0 (ql L S hL) rfl rfl rfl rfl ?_|refine Wi 0 (his1) rfl rfl rfl rfl ?_|refine Wi 0 (qc L S hL _ (by decide) (by assumption)) rfl rfl rfl rfl ?_|refine Wi 0 (Z8 L S hL _ (by decide) (by assumption)) rfl rfl rfl rfl ?_))|refine WR rfl rfl rfl rfl ?_|refine QV rfl rfl ?_|refine QC (fun _ _ => ?_)|refine QU rfl rfl (fun _ _ => ?_)))|(refine Qk ?_;(first|refine Qi ?_|refine QN rfl ?_|refine Q5 ?_))|(refine Qj ?_;(first|refine Qn ?_|refine Qc ?_|refine Qf ?_|refine Qh rfl ?_|refine Ql rfl ?_|refine Qm rfl (by omega) ?_|refine Qs ?_)))
  exact e_1 (Tryz.results152) (QH (size := 4) rfl rfl rfl rfl) (Zy (D := fun d => .agg [.i 20, .i 0, .i 0, d]) (k := 2) (.node rfl rfl rfl) rfl (by rw [QX];rfl) (by rw [QW];rfl) rfl)
 rw [if_neg hwThrow]
 by_cases hwOut : Wb L S = wOut
 ·rw [if_pos hwOut]
  have hrn := (WW hwOut (by decide)).1
  unfold oneM
  have hval := fun (gb g2 B' g : Nat) (h : g <= B') => stmt1_rc (G := G) L E r1 hE (Qy S) (by omega) 24 g gb g2 B' h
  generalize (E (Qy S)).1 = xE at *
  generalize (E (Qy S)).2 = S1 at *
  clear blk bln
  intro g B hg
  refine Qa Tryz.func152 rfl Tryz.ntmps152 rfl (t := [(0, .ptr 0 g 0)]) rfl fun E0 hE1 => ?_
  (repeat' first|(refine Qe ?_;(first|refine QG rfl ?_|refine QJ rfl ?_|refine Qb rfl rfl rfl ?_|refine WN rfl rfl ?_|(refine Qq ?_;(first|refine s_callv_og rfl rfl (hval _ _ _ _ (by omega)) (fun _ _ => ?_)|refine Wi 0 (ql L S hL) rfl rfl rfl rfl ?_|refine Wi 0 (his1) rfl rfl rfl rfl ?_|refine Wi 0 (qc L S hL _ (by decide) (by assumption)) rfl rfl rfl rfl ?_|refine Wi 0 (Z8 L S hL _ (by decide) (by assumption)) rfl rfl rfl rfl ?_))|refine WR rfl rfl rfl rfl ?_|refine QV rfl rfl ?_|refine QC (fun _ _ => ?_)|refine QU rfl rfl (fun _ _ => ?_)))|(refine Qk ?_;(first|refine Qi ?_|refine QN rfl ?_|refine Q5 ?_))|(refine Qj ?_;(first|refine Qn ?_|refine Qc ?_|refine Qf ?_|refine Qh rfl ?_|refine Ql rfl ?_|refine Qm rfl (by omega) ?_|refine Qs ?_)))
  exact e_1 (Tryz.results152) (QH (size := 4) rfl rfl rfl rfl) (Zy (D := fun d => .agg [.i 24, .i 0, .i 0, d]) (k := 2) (.node rfl rfl rfl) rfl (by rw [QX];rfl) (by rw [QW];rfl) rfl)
 rw [if_neg hwOut]
 by_cases hwSkip : Wb L S = wSkip
 ·rw [if_pos hwSkip]
  have hrn := (WW hwSkip (by decide)).1
  clear blk bln
  intro g B hg
  refine Qa Tryz.func152 rfl Tryz.ntmps152 rfl (t := [(0, .ptr 0 g 0)]) rfl fun E0 hE1 => ?_
  (repeat' first|(refine Qe ?_;(first|refine QJ rfl ?_|refine Qb rfl rfl rfl ?_|refine WN rfl rfl ?_|(refine Qq ?_;(first|refine Wi 0 (ql L S hL) rfl rfl rfl rfl ?_|refine Wi 0 (his1) rfl rfl rfl rfl ?_|refine Wi 0 (qc L S hL _ (by decide) (by assumption)) rfl rfl rfl rfl ?_|refine Wi 0 (Z8 L S hL _ (by decide) (by assumption)) rfl rfl rfl rfl ?_))|refine WR rfl rfl rfl rfl ?_|refine QQ rfl rfl ?_|refine QV rfl rfl ?_|refine QC (fun _ _ => ?_)|refine QU rfl rfl (fun _ _ => ?_)))|(refine Qk ?_;(first|refine Qi ?_|refine QN rfl ?_|refine Q5 ?_))|(refine Qj ?_;(first|refine Qn ?_|refine Qc ?_|refine Qf ?_|refine Qh rfl ?_|refine Ql rfl ?_|refine Qm rfl (by omega) ?_|refine Qs ?_)))
  exact e_1 (Tryz.results152) (QH (size := 4) rfl rfl rfl rfl) (W5 (es := 4) (.node rfl rfl rfl) (by rw [QW];rfl) rfl)
 rw [if_neg hwSkip]
 by_cases hwTry : Wb L S = wTry
 ·rw [if_pos hwTry]
  have hrn := (WW hwTry (by decide)).1
  unfold tryM
  simp only
  have hbla := blk (by omega) (Qy S) (by omega)
  have hbll := bln (Qy S)
  generalize (Wt L (WS L E q n) n (Qy S)).1 = xa at *
  generalize (Wt L (WS L E q n) n (Qy S)).2 = S2 at *
  have htk := take_c (G := G) L S2 hL q7 (by decide)
  have htl := rM_take (L := L) (S := S2) q7 (by decide)
  generalize Wa L q7 S2 = S3 at *
  have hnb := numbered_c (G := G) L S3 hL 118
  have hnl := rM_numbered L 118 S3
  generalize (Qr L 118 S3).1 = v at *
  generalize (Qr L 118 S3).2 = S4 at *
  have hblb := blk (by omega) S4 (by omega)
  generalize (Wt L (WS L E q n) n S4).1 = xb at *
  generalize (Wt L (WS L E q n) n S4).2 = S5 at *
  clear blk bln
  intro g B hg
  refine Qa Tryz.func152 rfl Tryz.ntmps152 rfl (t := [(0, .ptr 0 g 0)]) rfl fun E0 hE1 => ?_
  (repeat' first|(refine Qe ?_;(first|refine QJ rfl ?_|refine Qb rfl rfl rfl ?_|refine WN rfl rfl ?_|(refine Qq ?_;(first|refine Wi 0 (ql L S hL) rfl rfl rfl rfl ?_|refine Wi 0 (his1) rfl rfl rfl rfl ?_|refine Wi 0 (hbla) rfl rfl rfl rfl ?_|refine Wi 0 (hblb) rfl rfl rfl rfl ?_|refine Wi 0 (htk) rfl rfl rfl rfl ?_|refine Wi 0 (hnb) rfl rfl rfl rfl ?_|refine Wi 0 (qc L S hL _ (by decide) (by assumption)) rfl rfl rfl rfl ?_|refine Wi 0 (Z8 L S hL _ (by decide) (by assumption)) rfl rfl rfl rfl ?_))|refine WR rfl rfl rfl rfl ?_|refine QV rfl rfl ?_|refine QC (fun _ _ => ?_)|refine QU rfl rfl (fun _ _ => ?_)))|(refine Qk ?_;(first|refine Qi ?_|refine QN rfl ?_|refine Q5 ?_))|(refine Qj ?_;(first|refine Qn ?_|refine Qc ?_|refine Qf ?_|(refine Wg ?_;first|(rename_i gb hgb g2 hg2 gt hgt;refine QB (fun p => p :: .row gb [.ptr 0 g 0] :: .row g2 [.i 0, .i 0, .i 0, .nil] :: .row gt (Enc.enc xa) :: []) 6 [(0, true), (1, true), (2, true), (3, false), (4, true), (5, true), (6, false)] (by rfl) (by rfl) (by kernel_rfl) (by decide +kernel) (by decide +kernel) ⟨_, rfl⟩ ?_)|(rename_i gc2 hgc2;refine QB (fun p => p.1 :: .row gb [.ptr 0 g 0] :: .row g2 [.i 0, .i 0, .i 0, .nil] :: p.2 :: .row gn [.i 17, .i 0, .i 0, .ref 3 gc2 0 ([xE] ++ [xa]).length 4] :: []) 7 [(0, true), (1, true), (2, true), (3, false), (4, true), (5, false), (6, true), (7, false)] (by rfl) (by rfl) (by kernel_rfl) (by decide +kernel) (by decide +kernel) ⟨(_, _), rfl⟩ ?_)|(rename_i gb hgb g2 hg2 gc hgc gn hgn;refine QB (fun p => p.1 :: .row gb [.ptr 0 g 0] :: .row g2 [.i 0, .i 0, .i 0, .nil] :: p.2 :: .row gn [.i 18, .i 0, .i 0, .ref 3 gc 0 [xE].length 4] :: []) 7 [(0, true), (1, true), (2, true), (3, false), (4, true), (5, false), (6, true), (7, false)] (by rfl) (by rfl) (by kernel_rfl) (by decide +kernel) (by decide +kernel) ⟨(_, _), rfl⟩ ?_)|(rename_i gb hgb g2 hg2 gc hgc gn hgn;refine QB (fun p => p.1 :: .row gb [.ptr 0 g 0] :: .row g2 [.i 0, .i 0, .i 0, .nil] :: p.2 :: .row gn [.i 17, .i 0, .i 0, .ref 3 gc 0 [xE].length 4] :: []) 7 [(0, true), (1, true), (2, true), (3, false), (4, true), (5, false), (6, true), (7, false)] (by rfl) (by rfl) (by kernel_rfl) (by decide +kernel) (by decide +kernel) ⟨(_, _), rfl⟩ ?_)|(refine QB (fun p => p.1 :: p.2 :: []) 100 [(0, true)] (by rfl) (by rfl) (by kernel_rfl) (by decide +kernel) (by decide +kernel) ⟨(_, _), rfl⟩ ?_)|(refine QB (fun p => p) 100 [(0, true)] (by rfl) (by rfl) (by kernel_rfl) (by decide +kernel) (by decide +kernel) ⟨_, rfl⟩ ?_)|refine Q3 (by rfl) (by kernel_rfl) (by kernel_rfl) ?_|refine Q2 (by kernel_rfl) (by kernel_rfl) ?_)|refine Qh rfl ?_|refine Ql rfl ?_|refine Qm rfl (by omega) ?_|refine Qs ?_))|(refine Ze ?_;(first|refine Z1 ?_|refine i_z0 ?_|refine i_st rfl rfl (fun _ => (by (repeat' first|(refine Qe ?_;(first|refine QG rfl ?_|(refine Qz ?_;(first|refine WF rfl rfl ?_|refine Qb rfl rfl rfl ?_))|refine ZS (y := xa) (z := xb) rfl rfl (by decide) ?_|refine QQ rfl rfl ?_))|exact ⟨rfl, rfl⟩))) ?_|refine i_ef rfl ?_))|refine And.intro (Exists.intro (_) rfl) ?_)
  refine e_1 (Tryz.results152) (QH (size := 4) rfl rfl rfl rfl) ?_
  rw [QW]
  exact c_ce rfl rfl
 rw [if_neg hwTry]
 by_cases hwSend : Wb L S = wSend
 ·rw [if_pos hwSend]
  have hrn := (WW hwSend (by decide)).1
  unfold oneM
  have hnb := numbered_c (G := G) L (Qy S) hL 99
  have hnl := rM_numbered L 99 (Qy S)
  generalize (Qr L 99 (Qy S)).1 = v at *
  generalize (Qr L 99 (Qy S)).2 = S1 at *
  have hval := fun (gb g2 B' g : Nat) (h : g <= B') => stmt1_rc (G := G) L E r1 hE S1 (by omega) 22 g gb g2 B' h
  generalize (E S1).1 = xE at *
  generalize (E S1).2 = S2 at *
  clear blk bln
  intro g B hg
  refine Qa Tryz.func152 rfl Tryz.ntmps152 rfl (t := [(0, .ptr 0 g 0)]) rfl fun E0 hE1 => ?_
  (repeat' first|(refine Qe ?_;(first|refine QG rfl ?_|refine QJ rfl ?_|(refine Qz ?_;(first|refine WF rfl rfl ?_|refine Qb rfl rfl rfl ?_))|refine WN rfl rfl ?_|(refine Qq ?_;(first|refine s_callv_og rfl rfl (hval _ _ _ _ (by omega)) (fun _ _ => ?_)|refine Wi 0 (ql L S hL) rfl rfl rfl rfl ?_|refine Wi 0 (his1) rfl rfl rfl rfl ?_|refine Wi 0 (hnb) rfl rfl rfl rfl ?_|refine Wi 0 (qc L S hL _ (by decide) (by assumption)) rfl rfl rfl rfl ?_|refine Wi 0 (Z8 L S hL _ (by decide) (by assumption)) rfl rfl rfl rfl ?_))|(refine Wl ?_;(first|refine WR rfl rfl rfl rfl ?_|refine Q7 rfl rfl rfl rfl (by rfl) (by rfl) (by rfl) ?_))|refine Qd rfl rfl ?_|refine QV rfl rfl ?_|refine QC (fun _ _ => ?_)|refine QU rfl rfl (fun _ _ => ?_)))|(refine Qk ?_;(first|refine Qi ?_|refine QN rfl ?_|refine Q5 ?_))|(refine Qj ?_;(first|refine Qn ?_|refine Qc ?_|refine Qf ?_|refine Qh rfl ?_|refine Ql rfl ?_|refine Qm rfl (by omega) ?_|refine Qs ?_)))
  exact e_1 (Tryz.results152) (QH (size := 4) rfl rfl rfl rfl) (Zy (D := fun d => .agg [.i 22, .i v, .i 0, d]) (k := 2) (.node rfl rfl rfl) rfl (by rw [QX];rfl) (by rw [QW];rfl) rfl)
 rw [if_neg hwSend]
 by_cases hwSpawn : Wb L S = wSpawn
 ·rw [if_pos hwSpawn]
  have hrn := (WW hwSpawn (by decide)).1
  have hnb := numbered_c (G := G) L (Qy S) hL 102
  have hnl := rM_numbered L 102 (Qy S)
  generalize (Qr L 102 (Qy S)).1 = v at *
  generalize (Qr L 102 (Qy S)).2 = S1 at *
  have hargs := args_rc (G := G) 176 L E r1 q hL hE S1 (by omega) (by omega)
  clear blk bln
  intro g B hg
  refine Qa Tryz.func152 rfl Tryz.ntmps152 rfl (t := [(0, .ptr 0 g 0)]) rfl fun E0 hE1 => ?_
  (repeat' first|(refine Qe ?_;(first|refine QG rfl ?_|refine QJ rfl ?_|refine Qb rfl rfl rfl ?_|refine WN rfl rfl ?_|(refine Qq ?_;(first|refine Wi 0 (ql L S hL) rfl rfl rfl rfl ?_|refine Wi 0 (his1) rfl rfl rfl rfl ?_|refine Wi 0 (hnb) rfl rfl rfl rfl ?_|refine Wi 0 (qc L S hL _ (by decide) (by assumption)) rfl rfl rfl rfl ?_|refine Wi 0 (Z8 L S hL _ (by decide) (by assumption)) rfl rfl rfl rfl ?_|refine s_co 0 (hargs) (by first|exact .id|exact .node rfl rfl rfl) rfl rfl rfl rfl (QO _) (fun _ _ => ?_)))|refine WR rfl rfl rfl rfl ?_|refine QQ rfl rfl ?_|refine QV rfl rfl ?_|refine QC (fun _ _ => ?_)|refine QU rfl rfl (fun _ _ => ?_)))|(refine Qk ?_;(first|refine Qi ?_|refine QN rfl ?_|refine Q5 ?_))|(refine Qj ?_;(first|refine Qn ?_|refine Qc ?_|refine Qf ?_|refine Qh rfl ?_|refine Ql rfl ?_|refine Qm rfl (by omega) ?_|refine Qs ?_)))
  exact e_1 (Tryz.results152) (QH (size := 4) rfl rfl rfl rfl) (Zy (D := fun d => .agg [.i 23, .i v, .i 0, d]) (k := 2) (.node rfl rfl rfl) rfl (by rw [QX];rfl) (by rw [QW];rfl) rfl)
 rw [if_neg hwSpawn]
 clear blk bln
 intro g B hg
 refine Qa Tryz.func152 rfl Tryz.ntmps152 rfl (t := [(0, .ptr 0 g 0)]) rfl fun E0 hE1 => ?_
 (repeat' first|(refine Qe ?_;(first|refine QJ rfl ?_|refine Qb rfl rfl rfl ?_|refine WN rfl rfl ?_|(refine Qq ?_;(first|refine Wi 0 (ql L S hL) rfl rfl rfl rfl ?_|refine Wi 0 (his1) rfl rfl rfl rfl ?_|refine Wi 0 (qc L S hL _ (by decide) (by assumption)) rfl rfl rfl rfl ?_|refine Wi 0 (fail_c L S) rfl rfl rfl rfl ?_))|refine WR rfl rfl rfl rfl ?_|refine QQ rfl rfl ?_|refine QV rfl rfl ?_|refine QC (fun _ _ => ?_)|refine QU rfl rfl (fun _ _ => ?_)))|(refine Qk ?_;(first|refine Qi ?_|refine QN rfl ?_|refine Q5 ?_))|(refine Qj ?_;(first|refine Qn ?_|refine Qc ?_|refine Qf ?_|refine Qx ?_|refine Ql rfl ?_|refine Qm rfl (by omega) ?_|refine Qs ?_)))
 exact e_1 (Tryz.results152) (QH (size := 4) rfl rfl rfl rfl) (W5 (es := 4) (.node rfl rfl rfl) (by show _ = DV.agg (Enc.enc (Nd.mk 0 0 0 []));rw [QW];rfl) rfl)
end Go.Proofs
end
section
namespace Go.Proofs
open Go.Av Go.Bl
section
variable {α β : Type} {c d : Nat} {L : ZK} {z : Nd}
def KW (c : Nat) (ν : α -> Nat) (F : RS -> α × RS) : Prop := ∀ S, (F S).2.bad = false -> S.bad = false /\ S.p + ν (F S).1 <= (F S).2.p + c
theorem KW.bind {μ : α -> Nat} {ν : β -> Nat} {F : RS -> α × RS} {K : α -> RS -> β × RS} (h : KW c μ F) (hk : ∀ a, KW (d + μ a) ν (K a)) : KW (c + d) ν (fun S => K (F S).1 (F S).2) := fun S hb => by
 obtain ⟨h1, h2⟩ := hk _ _ hb
 obtain ⟨h3, h4⟩ := h S h1
 exact ⟨h3, by show S.p + ν (K (F S).1 (F S).2).1 <= (K (F S).1 (F S).2).2.p + (c + d);omega⟩
theorem KW.next {ν : α -> Nat} {F : RS -> α × RS} (h : KW (c + 1) ν F) : KW c ν (fun S => F (Qy S)) := fun S hb => by
 obtain ⟨h1, h2⟩ := h (Qy S) hb
 exact ⟨h1, by have : (Qy S).p = S.p + 1 := rfl;show S.p + ν (F (Qy S)).1 <= (F (Qy S)).2.p + c;omega⟩
theorem KW.take {ν : α -> Nat} {F : RS -> α × RS} (s : List UInt8) (h : KW (c + 1) ν F) : KW c ν (fun S => F (Wa L s S)) := fun S hb => by
 obtain ⟨h1, h2⟩ := h (Wa L s S) hb
 unfold Wa at h1
 split at h1
 ·rename_i hn
  have e : Wa L s S = Qy S := by unfold Wa;rw [if_pos hn]
  have : (Qy S).p = S.p + 1 := rfl
  rw [e] at h2
  refine ⟨h1, ?_⟩
  show S.p + ν (F (Wa L s S)).1 <= (F (Wa L s S)).2.p + c
  rw [e];omega
 ·cases h1
theorem KW.ite {ν : α -> Nat} {P : RS -> Prop} [DecidablePred P] {F H : RS -> α × RS} (h1 : KW c ν F) (h2 : KW c ν H) : KW c ν (fun S => if P S then F S else H S) := fun S hb => by
 by_cases hp : P S
 ·simp only [if_pos hp] at hb ⊢;exact h1 S hb
 ·simp only [if_neg hp] at hb ⊢;exact h2 S hb
theorem KW.val {ν : α -> Nat} {a : α} (h : ν a <= c) : KW c ν (fun S => (a, S)) := fun S hb => ⟨hb, by show S.p + ν a <= S.p + c;omega⟩
theorem KW.vnext {ν : α -> Nat} {a : α} (h : ν a <= c + 1) : KW c ν (fun S => (a, Qy S)) := KW.next (F := fun S => (a, S)) (KW.val h)
theorem KW.fail {ν : α -> Nat} {F : RS -> α} {G : RS -> RS} : KW c ν (fun S => (F S, W7 (G S))) := fun S hb => by cases hb
theorem KW.map {ν : α -> Nat} {ξ : β -> Nat} {F : RS -> α × RS} {u : α -> β} (h : KW c ν F) (hu : ∀ a, ξ (u a) <= ν a + d) : KW (c + d) ξ (fun S => (u (F S).1, (F S).2)) := h.bind (K := fun a S => (u a, S)) fun a => KW.val (by have := hu a;omega)
theorem KW.conv {ν : α -> Nat} {F : RS -> α × RS} (h : KW c ν F) (e : c = d) : KW d ν F := e ▸ h
abbrev one1 : Int -> Nat := fun _ => 1
theorem KW.numeral : KW 0 one1 (QK L) := by
 refine KW.ite (P := fun S => numB (Wb L S) = true) (F := fun S => (valM (Wb L S), Qy S)) (H := fun S => (0, W7 S)) (fun S hb => ⟨hb, ?_⟩) KW.fail
 show S.p + 1 <= S.p + 1 + 0;omega
theorem KW.numbered (x : UInt8) : KW 0 one1 (Qr L x) := by
 refine KW.ite (P := fun S => isM L x S = true) (F := fun S => (valM ((Wb L S).drop 1), Qy S)) (H := fun S => (0, W7 S)) (fun S hb => ⟨hb, ?_⟩) KW.fail
 show S.p + 1 <= S.p + 1 + 0;omega
theorem ZM (x : Nd) : QT [x] = Qu x := by simp [QT]
theorem KW.loop {E : Rd1} (hE : KW 0 Qu E) : ∀ (k : Nat) (o : List Nd), KW (QT o) QT (Wq L E k o)
 | 0, o => KW.val (Nat.le_refl _)
 | k + 1, o => by
  refine KW.ite (P := fun S => Wb L S = [44]) (F := fun S => Wq L E k (o ++ [(E (Qy S)).1]) (E (Qy S)).2) (H := fun S => (o, S)) ?_ (KW.val (Nat.le_refl _))
  refine KW.next (F := fun S => Wq L E k (o ++ [(E S).1]) (E S).2) ?_
  refine (hE.bind (d := QT o + 1) (K := fun a S => Wq L E k (o ++ [a]) S) fun a => ?_).conv (by omega)
  have := KW.loop hE k (o ++ [a])
  intro S hb
  obtain ⟨h1, h2⟩ := this S hb
  rw [ZY, ZM] at h2
  exact ⟨h1, by show S.p + QT (Wq L E k (o ++ [a]) S).1 <= (Wq L E k (o ++ [a]) S).2.p + (QT o + 1 + Qu a);omega⟩
theorem KW.lst {E : Rd1} (hE : KW 0 Qu E) (k : Nat) : KW 0 QT (Z0 L E k) := by
 refine (hE.bind (d := 0) (K := fun a S => ((Wq L E k [a] S).1, Wa L [41] (Wq L E k [a] S).2)) fun a => ?_).conv (by omega)
 refine ((KW.loop (L := L) hE k [a]).bind (d := 0) (K := fun b S => (b, Wa L [41] S)) fun b => ?_).conv (by rw [ZM];omega)
 exact KW.take (F := fun S => (b, S)) [41] (KW.val (by omega))
theorem KW.arg {E : Rd1} (hE : KW 0 Qu E) (k : Nat) : KW 0 QT (WZ L E k) := by
 refine KW.take (F := fun S => if Wb L S = [41] then ([], Qy S) else Z0 L E k S) [40] ?_
 refine KW.ite (P := fun S => Wb L S = [41]) (F := fun S => ([], Qy S)) (KW.vnext (by simp [QT])) fun S hb => ?_
 obtain ⟨h1, h2⟩ := KW.lst hE k S hb
 exact ⟨h1, by omega⟩
theorem KW.variable {E : Rd1} (hE : KW 0 Qu E) : KW 0 Qu (WH L E) := by
 refine ((KW.numbered (L := L) 118).bind (d := 0) (K := fun a S => varTail L E a S) fun a => ?_).conv (by omega)
 refine KW.ite (P := fun S => Wb L S = [91]) (F := fun S => (Nd.mk 7 a 0 [(E (Qy S)).1], Wa L [93] (E (Qy S)).2)) ?_ ?_
 ·refine KW.next (F := fun S => (Nd.mk 7 a 0 [(E S).1], Wa L [93] (E S).2)) ?_
  refine (hE.bind (d := 0 + one1 a + 1) (K := fun x S => (Nd.mk 7 a 0 [x], Wa L [93] S)) fun x => ?_).conv (by omega)
  exact KW.take (F := fun S => (Nd.mk 7 a 0 [x], S)) [93] (KW.val (by rw [Qu, ZM];show 1 + Qu x <= 0 + 1 + 1 + Qu x + 1;omega))
 ·refine KW.ite (P := fun S => Wb L S = [46]) (F := fun S => (Nd.mk 8 a (QK L (Qy S)).1 [], (QK L (Qy S)).2)) (H := fun S => (Nd.mk 6 a 0 [], S)) ?_ (KW.val (by rw [Qu, QT];show 1 + 0 <= 0 + 1;omega))
  refine KW.next (F := fun S => (Nd.mk 8 a (QK L S).1 [], (QK L S).2)) ?_
  exact ((KW.numeral (L := L)).map (ξ := Qu) (d := 0 + one1 a + 1) (u := fun x => Nd.mk 8 a x []) fun x => by rw [Qu, QT];show 1 + 0 <= 1 + (0 + 1 + 1);omega).conv (by omega)
theorem KW.binary {E : Rd1} (hE : KW 0 Qu E) : KW 0 Qu (qC L E) := by
 refine (hE.bind (d := 0) (K := fun a S => if qW (Wb L S) < 0 then (zNd, W7 S) else (.mk 9 (qW (Wb L S)) 0 [a, (E (Qy S)).1], Wa L [41] (E (Qy S)).2)) fun a => ?_).conv (by omega)
 refine KW.ite (P := fun S => qW (Wb L S) < 0) (F := fun S => (zNd, W7 S)) KW.fail fun S hb => ?_
 have key : ∀ v, KW (0 + Qu a) Qu (fun S => (Nd.mk 9 v 0 [a, (E (Qy S)).1], Wa L [41] (E (Qy S)).2)) := fun v => by
  refine KW.next (F := fun S => (Nd.mk 9 v 0 [a, (E S).1], Wa L [41] (E S).2)) ?_
  refine (hE.bind (d := 0 + Qu a + 1) (K := fun x S => (Nd.mk 9 v 0 [a, x], Wa L [41] S)) fun x => ?_).conv (by omega)
  exact KW.take (F := fun S => (Nd.mk 9 v 0 [a, x], S)) [41] (KW.val (by rw [Qu, QT, ZM];omega))
 exact key (qW (Wb L S)) S hb
theorem KW.expr : ∀ (n : Nat), KW 0 Qu (WP L z n)
 | 0 => KW.fail
 | n + 1 => by
  have hE : KW 0 Qu (WP L z n) := KW.expr n
  refine KW.ite (P := fun S => numB (Wb L S) = true) (F := fun S => (Nd.mk 4 (QK L S).1 0 [], (QK L S).2)) ?_ ?_
  ·exact ((KW.numeral (L := L)).map (ξ := Qu) (d := 0) (u := fun x => Nd.mk 4 x 0 []) fun x => by rw [Qu, QT];show 1 + 0 <= 1 + 0;omega).conv (by omega)
  refine KW.ite (P := fun S => isM L 118 S = true) (F := WH L (WP L z n)) (KW.variable hE) ?_
  refine KW.ite (P := fun S => isM L 102 S = true) (F := fun S => (Nd.mk 11 (Qr L 102 S).1 0 (WZ L (WP L z n) n (Qr L 102 S).2).1, (WZ L (WP L z n) n (Qr L 102 S).2).2)) ?_ ?_
  ·refine ((KW.numbered (L := L) 102).bind (d := 0) (K := fun a S => (Nd.mk 11 a 0 (WZ L (WP L z n) n S).1, (WZ L (WP L z n) n S).2)) fun a => ?_).conv (by omega)
   exact ((KW.arg (L := L) hE n).map (ξ := Qu) (d := 0 + one1 a) (u := fun x => Nd.mk 11 a 0 x) fun x => by rw [Qu];show 1 + QT x <= QT x + (0 + 1);omega).conv (by omega)
  refine KW.ite (P := fun S => Wb L S = [45]) (F := fun S => if Wb L (Qy S) = [48] then (z, W7 (Qy S)) else (Nd.mk 4 (-(QK L (Qy S)).1) 0 [], (QK L (Qy S)).2)) ?_ ?_
  ·refine KW.next (F := fun S => if Wb L S = [48] then (z, W7 S) else (Nd.mk 4 (-(QK L S).1) 0 [], (QK L S).2)) ?_
   refine KW.ite (P := fun S => Wb L S = [48]) (F := fun S => (z, W7 S)) KW.fail ?_
   exact ((KW.numeral (L := L)).map (ξ := Qu) (d := 1) (u := fun x => Nd.mk 4 (-x) 0 []) fun x => by rw [Qu, QT];show 1 + 0 <= 1 + 1;omega).conv (by omega)
  refine KW.ite (P := fun S => Wb L S = wTrue) (F := fun S => (Nd.mk 5 1 0 [], Qy S)) (KW.vnext (by rw [Qu, QT];omega)) ?_
  refine KW.ite (P := fun S => Wb L S = wFalse) (F := fun S => (Nd.mk 5 0 0 [], Qy S)) (KW.vnext (by rw [Qu, QT];omega)) ?_
  refine KW.ite (P := fun S => Wb L S = [40]) (F := fun S => qC L (WP L z n) (Qy S)) (KW.next (F := qC L (WP L z n)) fun S hb => ?_) ?_
  ·obtain ⟨h1, h2⟩ := KW.binary hE S hb
   exact ⟨h1, by omega⟩
  refine KW.ite (P := fun S => Wb L S = [33]) (F := fun S => (Nd.mk 10 0 0 [(WP L z n (Qy S)).1], (WP L z n (Qy S)).2)) ?_ ?_
  ·exact KW.next (F := fun S => (Nd.mk 10 0 0 [(WP L z n S).1], (WP L z n S).2)) ((hE.map (ξ := Qu) (d := 1) (u := fun x => Nd.mk 10 0 0 [x]) fun x => by rw [Qu, ZM];omega).conv (by omega))
  refine KW.ite (P := fun S => Wb L S = wRecv) (F := fun S => (Nd.mk 12 (Qr L 99 (Qy S)).1 0 [], (Qr L 99 (Qy S)).2)) (H := fun S => (zNd, W7 S)) ?_ KW.fail
  exact KW.next (F := fun S => (Nd.mk 12 (Qr L 99 S).1 0 [], (Qr L 99 S).2)) (((KW.numbered (L := L) 99).map (ξ := Qu) (d := 1) (u := fun x => Nd.mk 12 x 0 []) fun x => by rw [Qu, QT];show 1 + 0 <= 1 + 1;omega).conv (by omega))
theorem KW.typed : ∀ (n : Nat), KW 0 Qu (WU L n)
 | 0 => KW.fail
 | n + 1 => by
  have hE : KW 0 Qu (WU L n) := KW.typed n
  refine KW.ite (P := fun S => Wb L S = wInt) (F := fun S => (Nd.mk 0 0 0 [], Qy S)) (KW.vnext (by rw [Qu, QT];omega)) ?_
  refine KW.ite (P := fun S => Wb L S = wBool) (F := fun S => (Nd.mk 1 0 0 [], Qy S)) (KW.vnext (by rw [Qu, QT];omega)) ?_
  refine KW.ite (P := fun S => Wb L S = wArr) (F := fun S => (Nd.mk 2 (QK L (Qy S)).1 0 [], (QK L (Qy S)).2)) ?_ ?_
  ·exact KW.next (F := fun S => (Nd.mk 2 (QK L S).1 0 [], (QK L S).2)) (((KW.numeral (L := L)).map (ξ := Qu) (d := 1) (u := fun x => Nd.mk 2 x 0 []) fun x => by rw [Qu, QT];show 1 + 0 <= 1 + 1;omega).conv (by omega))
  refine KW.ite (P := fun S => Wb L S = wRec) (F := fun S => (Nd.mk 3 0 0 (Z0 L (WU L n) n (Wa L [40] (Qy S))).1, (Z0 L (WU L n) n (Wa L [40] (Qy S))).2)) (H := fun S => (zNd, W7 S)) ?_ KW.fail
  refine KW.next (F := fun S => (Nd.mk 3 0 0 (Z0 L (WU L n) n (Wa L [40] S)).1, (Z0 L (WU L n) n (Wa L [40] S)).2)) ?_
  refine KW.take (F := fun S => (Nd.mk 3 0 0 (Z0 L (WU L n) n S).1, (Z0 L (WU L n) n S).2)) [40] ?_
  exact ((KW.lst (L := L) hE n).map (ξ := Qu) (d := 0 + 1 + 1) (u := fun x => Nd.mk 3 0 0 x) fun x => by rw [Qu];omega).conv (by omega)
theorem KW.bloop {T : Rd1} (hT : KW 0 Qu T) : ∀ (k : Nat) (o : List Nd), KW (QT o) QT (WK L T k o)
 | 0, o => KW.val (Nat.le_refl _)
 | k + 1, o => by
  refine KW.ite (P := fun S => S.bad = true) (F := fun S => (o, S)) (KW.val (Nat.le_refl _)) ?_
  refine KW.ite (P := fun S => Wb L S = [125]) (F := fun S => (o, Qy S)) (KW.vnext (by omega)) ?_
  refine (hT.bind (d := QT o) (K := fun a S => WK L T k (o ++ [a]) S) fun a => ?_).conv (by omega)
  have := KW.bloop hT k (o ++ [a])
  rw [ZY, ZM] at this
  exact this
theorem KW.block {T : Rd1} (hT : KW 0 Qu T) (k : Nat) : KW 0 Qu (Wt L T k) := by
 refine KW.take (F := fun S => (Nd.mk 13 0 0 (WK L T k [] S).1, (WK L T k [] S).2)) [123] ?_
 exact ((KW.bloop (L := L) hT k []).map (ξ := Qu) (d := 1) (u := fun x => Nd.mk 13 0 0 x) fun x => by rw [Qu];omega).conv (by rw [QT])
theorem size_set (v x : Nd) : Qu (setM v x) = Qu v + Qu x := by
 obtain ⟨k, n, m, ks⟩ := v
 show Qu (.mk (setKind k) n m (ks ++ [x])) = _
 rw [Qu, Qu, ZY, ZM];omega
theorem KW.assign {E : Rd1} (hE : KW 0 Qu E) : KW 0 Qu (qZ L E) := by
 refine ((KW.variable (L := L) hE).bind (d := 0) (K := fun a S => (setM a (E (Wa L [61] S)).1, (E (Wa L [61] S)).2)) fun a => ?_).conv (by omega)
 refine KW.take (F := fun S => (setM a (E S).1, (E S).2)) [61] ?_
 exact (hE.map (ξ := Qu) (d := 0 + Qu a + 1) (u := fun x => setM a x) fun x => by rw [size_set];omega).conv (by omega)
theorem KW.one {E : Rd1} (hE : KW 0 Qu E) (k n : Int) : KW 1 Qu (oneM E k n) := (hE.map (ξ := Qu) (d := 1) (u := fun x => Nd.mk k n 0 [x]) fun x => by rw [Qu, ZM];omega).conv (by omega)
theorem KW.iff {E B : Rd1} (hE : KW 0 Qu E) (hB : KW 0 Qu B) : KW 1 Qu (ifM L E B) := by
 refine (hE.bind (d := 1) (K := fun x S => (Nd.mk 17 0 0 [x, (B S).1, (B (Wa L wElse (B S).2)).1], (B (Wa L wElse (B S).2)).2)) fun x => ?_).conv (by omega)
 refine (hB.bind (d := 1 + Qu x) (K := fun y S => (Nd.mk 17 0 0 [x, y, (B (Wa L wElse S)).1], (B (Wa L wElse S)).2)) fun y => ?_).conv (by omega)
 refine KW.take (F := fun S => (Nd.mk 17 0 0 [x, y, (B S).1], (B S).2)) wElse ?_
 exact (hB.map (ξ := Qu) (d := 1 + Qu x + Qu y + 1) (u := fun w => Nd.mk 17 0 0 [x, y, w]) fun w => by rw [Qu, QT, QT, ZM];omega).conv (by omega)
theorem KW.whil {E B : Rd1} (hE : KW 0 Qu E) (hB : KW 0 Qu B) : KW 1 Qu (whileM E B) := by
 refine (hE.bind (d := 1) (K := fun x S => (Nd.mk 18 0 0 [x, (B S).1], (B S).2)) fun x => ?_).conv (by omega)
 exact (hB.map (ξ := Qu) (d := 1 + Qu x) (u := fun w => Nd.mk 18 0 0 [x, w]) fun w => by rw [Qu, QT, ZM];omega).conv (by omega)
theorem KW.tri {B : Rd1} (hB : KW 0 Qu B) : KW 1 Qu (tryM L B) := by
 refine (hB.bind (d := 1) (K := fun x S => (Nd.mk 21 (Qr L 118 (Wa L q7 S)).1 0 [x, (B (Qr L 118 (Wa L q7 S)).2).1], (B (Qr L 118 (Wa L q7 S)).2).2)) fun x => ?_).conv (by omega)
 refine KW.take (F := fun S => (Nd.mk 21 (Qr L 118 S).1 0 [x, (B (Qr L 118 S).2).1], (B (Qr L 118 S).2).2)) q7 ?_
 refine ((KW.numbered (L := L) 118).bind (d := 1 + Qu x + 1) (K := fun v S => (Nd.mk 21 v 0 [x, (B S).1], (B S).2)) fun v => ?_).conv (by omega)
 exact (hB.map (ξ := Qu) (d := 1 + Qu x + 1 + one1 v) (u := fun w => Nd.mk 21 v 0 [x, w]) fun w => by rw [Qu, QT, ZM];omega).conv (by omega)
theorem KW.stmt {E : Rd1} (hE : KW 0 Qu E) (q : Nat) : ∀ (n : Nat), KW 0 Qu (WS L E q n)
 | 0 => KW.fail
 | n + 1 => by
  have hB : KW 0 Qu (Wt L (WS L E q n) n) := KW.block (KW.stmt hE q n) n
  refine KW.ite (P := fun S => Wb L S = [123]) (F := Wt L (WS L E q n) n) hB ?_
  refine KW.ite (P := fun S => isM L 118 S = true) (F := qZ L E) (KW.assign hE) ?_
  refine KW.ite (P := fun S => Wb L S = wIf) (F := fun S => ifM L E (Wt L (WS L E q n) n) (Qy S)) (KW.next (KW.iff hE hB)) ?_
  refine KW.ite (P := fun S => Wb L S = wWhile) (F := fun S => whileM E (Wt L (WS L E q n) n) (Qy S)) (KW.next (KW.whil hE hB)) ?_
  refine KW.ite (P := fun S => Wb L S = wReturn) (F := fun S => oneM E 19 0 (Qy S)) (KW.next (KW.one hE 19 0)) ?_
  refine KW.ite (P := fun S => Wb L S = wThrow) (F := fun S => oneM E 20 0 (Qy S)) (KW.next (KW.one hE 20 0)) ?_
  refine KW.ite (P := fun S => Wb L S = wOut) (F := fun S => oneM E 24 0 (Qy S)) (KW.next (KW.one hE 24 0)) ?_
  refine KW.ite (P := fun S => Wb L S = wSkip) (F := fun S => (Nd.mk 25 0 0 [], Qy S)) (KW.vnext (by rw [Qu, QT];omega)) ?_
  refine KW.ite (P := fun S => Wb L S = wTry) (F := fun S => tryM L (Wt L (WS L E q n) n) (Qy S)) (KW.next (KW.tri hB)) ?_
  refine KW.ite (P := fun S => Wb L S = wSend) (F := fun S => oneM E 22 (Qr L 99 (Qy S)).1 (Qr L 99 (Qy S)).2) ?_ ?_
  ·refine KW.next (F := fun S => oneM E 22 (Qr L 99 S).1 (Qr L 99 S).2) ?_
   refine ((KW.numbered (L := L) 99).bind (d := 1) (K := fun a S => oneM E 22 a S) fun a S hb => ?_).conv (by omega)
   obtain ⟨h1, h2⟩ := KW.one hE 22 a S hb
   exact ⟨h1, by show S.p + Qu (oneM E 22 a S).1 <= (oneM E 22 a S).2.p + (1 + 1);omega⟩
  refine KW.ite (P := fun S => Wb L S = wSpawn) (F := fun S => (Nd.mk 23 (Qr L 102 (Qy S)).1 0 (WZ L E q (Qr L 102 (Qy S)).2).1, (WZ L E q (Qr L 102 (Qy S)).2).2)) (H := fun S => (zNd, W7 S)) ?_ KW.fail
  refine KW.next (F := fun S => (Nd.mk 23 (Qr L 102 S).1 0 (WZ L E q (Qr L 102 S).2).1, (WZ L E q (Qr L 102 S).2).2)) ?_
  refine ((KW.numbered (L := L) 102).bind (d := 1) (K := fun a S => (Nd.mk 23 a 0 (WZ L E q S).1, (WZ L E q S).2)) fun a => ?_).conv (by omega)
  exact ((KW.arg (L := L) hE q).map (ξ := Qu) (d := 1 + one1 a) (u := fun x => Nd.mk 23 a 0 x) fun x => by rw [Qu];omega).conv (by omega)
theorem KW.fn {T B : Rd1} (hT : KW 0 Qu T) (hB : KW 0 Qu B) (q : Nat) : KW 0 Qu (funM L T B q) := by
 refine KW.take (F := fun S => (Nd.mk 26 (QK L S).1 0 ((WZ L T q (QK L S).2).1 ++ [(B (WZ L T q (QK L S).2).2).1]), (B (WZ L T q (QK L S).2).2).2)) wFun ?_
 refine ((KW.numeral (L := L)).bind (d := 1) (K := fun v S => (Nd.mk 26 v 0 ((WZ L T q S).1 ++ [(B (WZ L T q S).2).1]), (B (WZ L T q S).2).2)) fun v => ?_).conv (by omega)
 refine ((KW.arg (L := L) hT q).bind (d := 1 + one1 v) (K := fun a S => (Nd.mk 26 v 0 (a ++ [(B S).1]), (B S).2)) fun a => ?_).conv (by omega)
 exact (hB.map (ξ := Qu) (d := 1 + one1 v + QT a) (u := fun x => Nd.mk 26 v 0 (a ++ [x])) fun x => by rw [Qu, ZY, ZM];omega).conv (by omega)
theorem KW.ploop {F : Rd1} (hF : KW 0 Qu F) : ∀ (k : Nat) (o : List Nd), KW (QT o) QT (W9 L F k o)
 | 0, o => KW.val (Nat.le_refl _)
 | k + 1, o => by
  refine KW.ite (P := fun S => S.bad = false /\ S.p < L.length) (F := fun S => W9 L F k (o ++ [(F S).1]) (F S).2) (H := fun S => (o, S)) ?_ (KW.val (Nat.le_refl _))
  refine (hF.bind (d := QT o) (K := fun a S => W9 L F k (o ++ [a]) S) fun a => ?_).conv (by omega)
  have := KW.ploop hF k (o ++ [a])
  rw [ZY, ZM] at this
  exact this
theorem kw_fun (q : Nat) : KW 0 Qu (q9 L z q) := KW.fn (KW.typed q) (KW.block (KW.stmt (KW.expr q) q q) q) q
theorem prog_size (q : Nat) (h : (qV L z q).2.bad = false) : Qu (qV L z q).1 <= (qV L z q).2.p := by
 have key : KW 0 Qu (fun S => (Nd.mk 27 (QK L (Wa L qn S)).1 0 (W9 L (q9 L z q) q [] (QK L (Wa L qn S)).2).1, (W9 L (q9 L z q) q [] (QK L (Wa L qn S)).2).2)) := by
  refine KW.take (F := fun S => (Nd.mk 27 (QK L S).1 0 (W9 L (q9 L z q) q [] (QK L S).2).1, (W9 L (q9 L z q) q [] (QK L S).2).2)) qn ?_
  refine ((KW.numeral (L := L)).bind (d := 1) (K := fun v S => (Nd.mk 27 v 0 (W9 L (q9 L z q) q [] S).1, (W9 L (q9 L z q) q [] S).2)) fun v => ?_).conv (by omega)
  exact ((KW.ploop (L := L) (kw_fun (z := z) q) q []).map (ξ := Qu) (d := 1 + one1 v) (u := fun x => Nd.mk 27 v 0 x) fun x => by rw [Qu];omega).conv (by rw [QT];omega)
 obtain ⟨_, h2⟩ := key ⟨0, false⟩ h
 have : (0 : Nat) + Qu (qV L z q).1 <= (qV L z q).2.p + 0 := h2
 omega
def IB (L : ZK) (F : RS -> α × RS) : Prop := ∀ S, S.p <= L.length -> (F S).2.p <= L.length
theorem IB.bind {F : RS -> α × RS} {K : α -> RS -> β × RS} (h : IB L F) (hk : ∀ a, IB L (K a)) : IB L (fun S => K (F S).1 (F S).2) := fun S hs => hk _ _ (h S hs)
theorem IB.ite {P : RS -> Prop} [DecidablePred P] {F H : RS -> α × RS} (h1 : ∀ S, P S -> S.p <= L.length -> (F S).2.p <= L.length) (h2 : IB L H) : IB L (fun S => if P S then F S else H S) := fun S hs => by
 by_cases hp : P S
 ·simp only [if_pos hp];exact h1 S hp hs
 ·simp only [if_neg hp];exact h2 S hs
theorem Zf {S : RS} {w : List UInt8} (h : Wb L S = w) (hw : w ≠ []) : (Qy S).p <= L.length := by
 obtain ⟨_, h2, _⟩ := now_at (L := L) (S := S) (by rw [h];exact hw)
 exact h2
theorem ib_take (s : List UInt8) (hs : s ≠ []) {S : RS} (h : S.p <= L.length) : (Wa L s S).p <= L.length := by
 unfold Wa
 split
 ·rename_i hn;exact Zf hn hs
 ·exact h
theorem IB.take {F : RS -> α × RS} (s : List UInt8) (hs : s ≠ []) (h : IB L F) : IB L (fun S => F (Wa L s S)) := fun S hS => h _ (ib_take s hs hS)
theorem IB.fail {a : α} : IB L (fun S => (a, W7 S)) := fun S hS => hS
theorem IB.val {a : α} : IB L (fun S => (a, S)) := fun S hS => hS
theorem IB.numeral : IB L (QK L) :=
 IB.ite (P := fun S => numB (Wb L S) = true) (F := fun S => (valM (Wb L S), Qy S)) (H := fun S => (0, W7 S)) (fun S hp _ => Zf rfl (numB_ne hp)) IB.fail
theorem isM_ne {S : RS} {c : UInt8} (h : isM L c S = true) : Wb L S ≠ [] := by
 rintro e
 unfold isM at h
 rw [e] at h
 simp [Lib.hasPrefix] at h
theorem IB.numbered (x : UInt8) : IB L (Qr L x) :=
 IB.ite (P := fun S => isM L x S = true) (F := fun S => (valM ((Wb L S).drop 1), Qy S)) (H := fun S => (0, W7 S)) (fun S hp _ => Zf rfl (isM_ne hp)) IB.fail
theorem IB.nx {F : RS -> α × RS} (h : IB L F) {w : List UInt8} (hw : w ≠ []) : ∀ S, Wb L S = w -> S.p <= L.length -> (F (Qy S)).2.p <= L.length := fun S hn _ => h _ (Zf hn hw)
theorem IB.loop {E : Rd1} (hE : IB L E) : ∀ (k : Nat) (o : List Nd), IB L (Wq L E k o)
 | 0, o => IB.val
 | k + 1, o => IB.ite (P := fun S => Wb L S = [44]) (F := fun S => Wq L E k (o ++ [(E (Qy S)).1]) (E (Qy S)).2) (H := fun S => (o, S)) (fun S hn _ => IB.loop hE k _ _ (hE _ (Zf hn (by decide)))) IB.val
theorem IB.lst {E : Rd1} (hE : IB L E) (k : Nat) : IB L (Z0 L E k) := fun S hS => ib_take (L := L) [41] (by decide) (IB.loop hE k _ _ (hE S hS))
theorem IB.arg {E : Rd1} (hE : IB L E) (k : Nat) : IB L (WZ L E k) :=
 IB.take (F := fun S => if Wb L S = [41] then ([], Qy S) else Z0 L E k S) [40] (by decide) (IB.ite (P := fun S => Wb L S = [41]) (F := fun S => ([], Qy S)) (fun S hn _ => Zf hn (by decide)) (IB.lst hE k))
theorem IB.variable {E : Rd1} (hE : IB L E) : IB L (WH L E) := by
 refine (IB.numbered (L := L) 118).bind (K := fun a S => varTail L E a S) fun a => ?_
 refine IB.ite (P := fun S => Wb L S = [91]) (F := fun S => (Nd.mk 7 a 0 [(E (Qy S)).1], Wa L [93] (E (Qy S)).2)) (fun S hn _ => ib_take (L := L) [93] (by decide) (hE _ (Zf hn (by decide)))) ?_
 exact IB.ite (P := fun S => Wb L S = [46]) (F := fun S => (Nd.mk 8 a (QK L (Qy S)).1 [], (QK L (Qy S)).2)) (H := fun S => (Nd.mk 6 a 0 [], S)) (fun S hn _ => IB.numeral (L := L) _ (Zf hn (by decide))) IB.val
theorem IB.binary {E : Rd1} (hE : IB L E) : IB L (qC L E) := by
 refine hE.bind (K := fun a S => if qW (Wb L S) < 0 then (zNd, W7 S) else (.mk 9 (qW (Wb L S)) 0 [a, (E (Qy S)).1], Wa L [41] (E (Qy S)).2)) fun a S hS => ?_
 dsimp only
 by_cases ho : qW (Wb L S) < 0
 ·rw [if_pos ho];exact hS
 ·rw [if_neg ho]
  have hne : Wb L S ≠ [] := by
   intro e
   rw [e] at ho
   exact ho (by decide)
  exact ib_take (L := L) [41] (by decide) (hE _ (Zf rfl hne))
theorem IB.expr : ∀ (n : Nat), IB L (WP L z n)
 | 0 => IB.fail
 | n + 1 => by
  have hE : IB L (WP L z n) := IB.expr n
  refine IB.ite (P := fun S => numB (Wb L S) = true) (F := fun S => (Nd.mk 4 (QK L S).1 0 [], (QK L S).2)) (fun S _ hS => IB.numeral S hS) ?_
  refine IB.ite (P := fun S => isM L 118 S = true) (F := WH L (WP L z n)) (fun S _ hS => IB.variable hE S hS) ?_
  refine IB.ite (P := fun S => isM L 102 S = true) (F := fun S => (Nd.mk 11 (Qr L 102 S).1 0 (WZ L (WP L z n) n (Qr L 102 S).2).1, (WZ L (WP L z n) n (Qr L 102 S).2).2)) (fun S _ hS => IB.arg hE n _ (IB.numbered (L := L) 102 S hS)) ?_
  refine IB.ite (P := fun S => Wb L S = [45]) (F := fun S => if Wb L (Qy S) = [48] then (z, W7 (Qy S)) else (Nd.mk 4 (-(QK L (Qy S)).1) 0 [], (QK L (Qy S)).2)) (fun S hn _ => ?_) ?_
  ·have h1 := Zf (L := L) hn (by decide)
   split
   ·exact h1
   ·exact IB.numeral (L := L) _ h1
  refine IB.ite (P := fun S => Wb L S = wTrue) (F := fun S => (Nd.mk 5 1 0 [], Qy S)) (fun S hn _ => Zf hn (by decide)) ?_
  refine IB.ite (P := fun S => Wb L S = wFalse) (F := fun S => (Nd.mk 5 0 0 [], Qy S)) (fun S hn _ => Zf hn (by decide)) ?_
  refine IB.ite (P := fun S => Wb L S = [40]) (F := fun S => qC L (WP L z n) (Qy S)) ((IB.binary hE).nx (by decide)) ?_
  refine IB.ite (P := fun S => Wb L S = [33]) (F := fun S => (Nd.mk 10 0 0 [(WP L z n (Qy S)).1], (WP L z n (Qy S)).2)) (fun S hn _ => hE _ (Zf hn (by decide))) ?_
  exact IB.ite (P := fun S => Wb L S = wRecv) (F := fun S => (Nd.mk 12 (Qr L 99 (Qy S)).1 0 [], (Qr L 99 (Qy S)).2)) (H := fun S => (zNd, W7 S)) (fun S hn _ => IB.numbered (L := L) 99 _ (Zf hn (by decide))) IB.fail
theorem IB.typed : ∀ (n : Nat), IB L (WU L n)
 | 0 => IB.fail
 | n + 1 => by
  have hE : IB L (WU L n) := IB.typed n
  refine IB.ite (P := fun S => Wb L S = wInt) (F := fun S => (Nd.mk 0 0 0 [], Qy S)) (fun S hn _ => Zf hn (by decide)) ?_
  refine IB.ite (P := fun S => Wb L S = wBool) (F := fun S => (Nd.mk 1 0 0 [], Qy S)) (fun S hn _ => Zf hn (by decide)) ?_
  refine IB.ite (P := fun S => Wb L S = wArr) (F := fun S => (Nd.mk 2 (QK L (Qy S)).1 0 [], (QK L (Qy S)).2)) (fun S hn _ => IB.numeral (L := L) _ (Zf hn (by decide))) ?_
  exact IB.ite (P := fun S => Wb L S = wRec) (F := fun S => (Nd.mk 3 0 0 (Z0 L (WU L n) n (Wa L [40] (Qy S))).1, (Z0 L (WU L n) n (Wa L [40] (Qy S))).2)) (H := fun S => (zNd, W7 S)) (fun S hn _ => IB.lst hE n _ (ib_take [40] (by decide) (Zf hn (by decide)))) IB.fail
theorem IB.bloop {T : Rd1} (hT : IB L T) : ∀ (k : Nat) (o : List Nd), IB L (WK L T k o)
 | 0, o => IB.val
 | k + 1, o => by
  refine IB.ite (P := fun S => S.bad = true) (F := fun S => (o, S)) (fun S _ hS => hS) ?_
  refine IB.ite (P := fun S => Wb L S = [125]) (F := fun S => (o, Qy S)) (fun S hn _ => Zf hn (by decide)) ?_
  exact hT.bind (K := fun a S => WK L T k (o ++ [a]) S) fun a => IB.bloop hT k _
theorem IB.block {T : Rd1} (hT : IB L T) (k : Nat) : IB L (Wt L T k) := fun S hS => IB.bloop hT k [] _ (ib_take (L := L) [123] (by decide) hS)
theorem IB.stmt {E : Rd1} (hE : IB L E) (q : Nat) : ∀ (n : Nat), IB L (WS L E q n)
 | 0 => IB.fail
 | n + 1 => by
  have hB : IB L (Wt L (WS L E q n) n) := IB.block (IB.stmt hE q n) n
  refine IB.ite (P := fun S => Wb L S = [123]) (F := Wt L (WS L E q n) n) (fun S _ hS => hB S hS) ?_
  refine IB.ite (P := fun S => isM L 118 S = true) (F := qZ L E) (fun S _ hS => hE _ (ib_take (L := L) [61] (by decide) (IB.variable hE S hS))) ?_
  refine IB.ite (P := fun S => Wb L S = wIf) (F := fun S => ifM L E (Wt L (WS L E q n) n) (Qy S)) (fun S hn _ => hB _ (ib_take (L := L) wElse (by decide) (hB _ (hE _ (Zf hn (by decide)))))) ?_
  refine IB.ite (P := fun S => Wb L S = wWhile) (F := fun S => whileM E (Wt L (WS L E q n) n) (Qy S)) (fun S hn _ => hB _ (hE _ (Zf hn (by decide)))) ?_
  refine IB.ite (P := fun S => Wb L S = wReturn) (F := fun S => oneM E 19 0 (Qy S)) (fun S hn _ => hE _ (Zf hn (by decide))) ?_
  refine IB.ite (P := fun S => Wb L S = wThrow) (F := fun S => oneM E 20 0 (Qy S)) (fun S hn _ => hE _ (Zf hn (by decide))) ?_
  refine IB.ite (P := fun S => Wb L S = wOut) (F := fun S => oneM E 24 0 (Qy S)) (fun S hn _ => hE _ (Zf hn (by decide))) ?_
  refine IB.ite (P := fun S => Wb L S = wSkip) (F := fun S => (Nd.mk 25 0 0 [], Qy S)) (fun S hn _ => Zf hn (by decide)) ?_
  refine IB.ite (P := fun S => Wb L S = wTry) (F := fun S => tryM L (Wt L (WS L E q n) n) (Qy S)) (fun S hn _ => hB _ (IB.numbered (L := L) 118 _ (ib_take (L := L) q7 (by decide) (hB _ (Zf hn (by decide)))))) ?_
  refine IB.ite (P := fun S => Wb L S = wSend) (F := fun S => oneM E 22 (Qr L 99 (Qy S)).1 (Qr L 99 (Qy S)).2) (fun S hn _ => hE _ (IB.numbered (L := L) 99 _ (Zf hn (by decide)))) ?_
  exact IB.ite (P := fun S => Wb L S = wSpawn) (F := fun S => (Nd.mk 23 (Qr L 102 (Qy S)).1 0 (WZ L E q (Qr L 102 (Qy S)).2).1, (WZ L E q (Qr L 102 (Qy S)).2).2)) (H := fun S => (zNd, W7 S)) (fun S hn _ => IB.arg hE q _ (IB.numbered (L := L) 102 _ (Zf hn (by decide)))) IB.fail
theorem ib_fun (q : Nat) : IB L (q9 L z q) := fun S hS => IB.block (IB.stmt (IB.expr q) q q) q _ (IB.arg (IB.typed q) q _ (IB.numeral (L := L) _ (ib_take (L := L) wFun (by decide) hS)))
theorem IB.ploop {F : Rd1} (hF : IB L F) : ∀ (k : Nat) (o : List Nd), IB L (W9 L F k o)
 | 0, o => IB.val
 | k + 1, o => IB.ite (P := fun S => S.bad = false /\ S.p < L.length) (F := fun S => W9 L F k (o ++ [(F S).1]) (F S).2) (H := fun S => (o, S)) (fun S _ hS => IB.ploop hF k _ _ (hF S hS)) IB.val
theorem prog_in (q : Nat) : (qV L z q).2.p <= L.length := IB.ploop (ib_fun q) q [] _ (IB.numeral (L := L) _ (ib_take (L := L) qn (by decide) (Nat.zero_le _)))
end
end Go.Proofs
end
section
namespace Go.Proofs
open Go.Av
variable {G : Nat -> DV}
attribute [local irreducible] OpSem Zd Zx ZL ACalls qt AClose RV
open Go.Bl
abbrev zP : Nd := .mk 4 0 0 []
theorem elx (hG1 : G 1 = spaceT) (L : ZK) (hL : OkL L) (q r : Nat) (h : r + 2 <= q) : ElC G 176 L (WP L zP q) r := fun Q hQ => expr_rc hG1 L hL q Q (by omega)
theorem jX (L : ZK) (z : Nd) (q : Nat) : ∀ i c, J i c (WP L z q) (WP L z q) := fun i c => J.expr (Ag.refl L i) q c
theorem loop_len (L : ZK) (E : Rd1) : ∀ (k : Nat) (o : List Nd) (S : RS), (Wq L E k o S).1.length <= o.length + k
 | 0, o, S => by rw [Wq];show o.length <= o.length + 0;omega
 | k + 1, o, S => by
  rw [Wq]
  split
  ·have := loop_len L E k (o ++ [(E (Qy S)).1]) (E (Qy S)).2
   simp only [List.length_append, List.length_cons, List.length_nil] at this
   omega
  ·show o.length <= o.length + (k + 1);omega
theorem args_len (L : ZK) (E : Rd1) (k : Nat) (S : RS) : (WZ L E k S).1.length <= k + 1 := by
 unfold WZ
 split
 ·simp
 ·unfold Z0
  have := loop_len L E k [(E (Wa L [40] S)).1] (E (Wa L [40] S)).2
  simp only [List.length_cons, List.length_nil] at this
  show (Wq L E k [(E (Wa L [40] S)).1] (E (Wa L [40] S)).2).1.length <= k + 1
  omega
theorem fun_rc (hG1 : G 1 = spaceT) (L : ZK) (hL : OkL L) (q : Nat) (hq : L.length + 3 <= q) (hq2 : q <= 2000000) (S : RS) :
  CE Tryz.prog G 61 (fun p g => [.ptr p g 0]) (rdC L S) (.agg (Enc.enc (q9 L zP q S).1)) (rdC L (q9 L zP q S).2) := fun g B hg => by
 have hrl : ∀ Q : RS, rM L Q <= L.length := fun Q => by unfold rM;split <;> omega
 unfold q9 funM
 dsimp only
 have htk := take_c (G := G) L S hL wFun (by decide)
 generalize Wa L wFun S = S1 at *
 have hnm := qK (G := G) L S1 hL
 generalize (QK L S1).1 = v at *
 generalize (QK L S1).2 = S2 at *
 have htel : ElC G 110 L (WU L q) L.length := fun Q hQ => typed_rc L hL q Q (by omega)
 have hargs := args_rc (G := G) 110 L (WU L q) L.length q hL htel S2 (hrl S2) (by have := hrl S2;omega)
 have hal := args_len L (WU L q) q S2
 generalize (WZ L (WU L q) q S2).1 = axs at *
 generalize (WZ L (WU L q) q S2).2 = S3 at *
 have hst : ElC G 152 L (WS L (WP L zP q) q q) L.length := fun Q hQ =>
  ⟨stmt_rc L hL (WP L zP q) (jX L zP q) q L.length (elx hG1 L hL q _ (by omega)) (by omega) q Q (by omega) (by omega), (jr (fun i => jS (jX L zP q) q q i True) Q).1⟩
 obtain ⟨q', rfl⟩ : ∃ q', q = q' + 1 := ⟨q - 1, by omega⟩
 have hblk := block_rc (G := G) L hL (WS L (WP L zP (q' + 1)) (q' + 1) (q' + 1)) L.length (q' + 1) hst (eats_st (jX L zP (q' + 1)) (q' + 1) q') S3 (by have := hrl S3;omega) (by have := hrl S3;omega)
 generalize (Wt L (WS L (WP L zP (q' + 1)) (q' + 1) (q' + 1)) (q' + 1) S3).1 = xb at *
 generalize (Wt L (WS L (WP L zP (q' + 1)) (q' + 1) (q' + 1)) (q' + 1) S3).2 = S4 at *
 clear hst htel hrl
 refine Qa Tryz.func61 rfl Tryz.ntmps61 rfl (t := [(0, .ptr 0 g 0)]) rfl fun E0 hE1 => ?_
 (repeat' first|(refine Qe ?_;(first|refine QG rfl ?_|refine WF rfl rfl ?_|(refine Qq ?_;(first|refine ZD (z := xb) rfl rfl rfl rfl rfl rfl rfl (by first|omega|(simp;omega)) (by first|omega|(simp;omega)) (fun _ => rfl) (fun _ _ => ?_)|refine Wi 0 (htk) rfl rfl rfl rfl ?_|refine Wi 0 (hnm) rfl rfl rfl rfl ?_|refine Wi 0 (hblk) rfl rfl rfl rfl ?_|refine s_co 0 (hargs) (by first|exact .id|exact .node rfl rfl rfl) rfl rfl rfl rfl (QO _) (fun _ _ => ?_)))|(refine Wl ?_;(first|refine WR rfl rfl rfl rfl ?_|refine Q7 rfl rfl rfl rfl (by rfl) (by rfl) (by rfl) ?_))|refine Qd rfl rfl ?_|refine QQ rfl rfl ?_|refine QV rfl rfl ?_|refine QC (fun _ _ => ?_)))|(refine Qk ?_;(first|refine Qi ?_|refine QN rfl ?_|refine Q5 ?_))|(refine Qj ?_;(first|refine Qn ?_|refine Qc ?_|(refine Wg ?_;first|(rename_i g2 hg2 gn hgn ga hga;refine QB (fun p => p.1 :: .row g2 [.i 0, .i 0, .i 0, .nil] :: .row gn [.i 26, .i v, .i 0, .ref 3 ga 0 axs.length 4] :: p.2 :: []) 7 [(0, true), (1, true), (2, true), (3, false), (4, true), (5, false), (6, true), (7, false)] (by rfl) (by rfl) (by kernel_rfl) (by decide +kernel) (by decide +kernel) ⟨(_, _), rfl⟩ ?_)|(refine QB (fun p => p.1 :: p.2 :: []) 100 [(0, true)] (by rfl) (by rfl) (by kernel_rfl) (by decide +kernel) (by decide +kernel) ⟨(_, _), rfl⟩ ?_)|refine Q3 (by rfl) (by kernel_rfl) (by kernel_rfl) ?_|refine Q2 (by kernel_rfl) (by kernel_rfl) ?_)|refine Qs ?_))|(refine Ze ?_;(first|refine Z1 ?_|refine i_z0 ?_|refine i_st rfl rfl (fun _ => (by (repeat' first|(refine Qe ?_;(first|refine QG rfl ?_|refine Qb rfl rfl rfl ?_|refine Wc (z := xb) rfl rfl (by decide) ?_|refine Qd rfl rfl ?_))|exact ⟨rfl, rfl⟩))) ?_|refine i_ef rfl ?_))|refine And.intro (Exists.intro ((_, _)) rfl) ?_)
 exact e_1 (Tryz.results61) (QH (size := 4) rfl rfl rfl rfl) (Zy (D := fun d => .agg [.i 26, .i v, .i 0, d]) (k := 2) (.node rfl rfl rfl) rfl (by rw [QX];rfl) (by rw [QW];rfl) rfl)
theorem eats_fun (L : ZK) (z : Nd) (q : Nat) : Eats L (q9 L z q) := fun S hb => by
 have h1 : mM L (Wa L wFun S) < mM L S := by
  have h := (mm_take (L := L) (S := S) wFun (by decide)).1
  have : rM L S < mM L S := by unfold rM mM;rw [hb];simp
  omega
 have h2 : ∀ i, J i True (fun Q => (fun v : Int × RS => (fun a : List Nd × RS => (Nd.mk 26 v.1 0 (a.1 ++ [(Wt L (WS L (WP L z q) q q) q a.2).1]), (Wt L (WS L (WP L z q) q q) q a.2).2)) (WZ L (WU L q) q v.2)) (QK L Q)) (fun Q => (fun v : Int × RS => (fun a : List Nd × RS => (Nd.mk 26 v.1 0 (a.1 ++ [(Wt L (WS L (WP L z q) q q) q a.2).1]), (Wt L (WS L (WP L z q) q q) q a.2).2)) (WZ L (WU L q) q v.2)) (QK L Q)) := fun i => by
  refine (J.numeral (Ag.refl L i)).bind (K := fun v S => (Nd.mk 26 v 0 ((WZ L (WU L q) q S).1 ++ [(Wt L (WS L (WP L z q) q q) q (WZ L (WU L q) q S).2).1]), (Wt L (WS L (WP L z q) q q) q (WZ L (WU L q) q S).2).2)) (K' := fun v S => (Nd.mk 26 v 0 ((WZ L (WU L q) q S).1 ++ [(Wt L (WS L (WP L z q) q q) q (WZ L (WU L q) q S).2).1]), (Wt L (WS L (WP L z q) q q) q (WZ L (WU L q) q S).2).2)) fun v v' => ?_
  refine (J.arg (Ag.refl L i) (fun c => J.typed (Ag.refl L i) q c) q).bind (K := fun a S => (Nd.mk 26 v 0 (a ++ [(Wt L (WS L (WP L z q) q q) q S).1]), (Wt L (WS L (WP L z q) q q) q S).2)) (K' := fun a S => (Nd.mk 26 v' 0 (a ++ [(Wt L (WS L (WP L z q) q q) q S).1]), (Wt L (WS L (WP L z q) q q) q S).2)) fun a a' => ?_
  exact (jB (fun i c => jS (jX L z q) q q i c) q i _).map (u := fun x => Nd.mk 26 v 0 (a ++ [x])) (u' := fun x => Nd.mk 26 v' 0 (a' ++ [x])) fun x hc => by rw [hc.2, hc.1.2]
 exact Nat.lt_of_le_of_lt (jr h2 (Wa L wFun S)).2 h1
theorem s_sub_as {P : Program} {G : Nat -> DV} {B : Nat} {f : Operand -> DV} {σ : List ABlk} {K : DV -> List ABlk -> Prop} {dst : Option Tmp} {type : TypeId} {pos : String} {after : Array Edge} {gd : Option (Nat × Bool)} {t t' : TypeId} {x y : Operand} {a b c : Int} (hx : f x = .sc (.int .i64 a)) (hy : f y = .sc (.int .i64 b)) (hc : a - b = c) (h : -9223372036854775808 <= c /\ c <= 9223372036854775807)
  (k : K (.sc (.int .i64 c)) σ) : OpSem P G B ⟨dst, .binOp .sub t x y t', type, pos, after, gd⟩ f σ K :=
 Zz hx hy (by rw [hc];exact h) (by rw [hc];exact k)
theorem funFits_c (k n m : Int) (ks : List Nd) (hl : ks.length <= 1048576) (hn : 0 <= n /\ n <= 3) (hx : ∀ x ∈ ks, ∀ w, Go.Av.Pure Tryz.prog G 75 [.agg (Enc.enc x), .i w] (.b (WA x w))) :
  Go.Av.Pure Tryz.prog G 123 [.agg [.i k, .i n, .i m, QR ks]] (.b (funB n (ks.map WA))) := fun B => by
 have hml : (ks.map WA).length = ks.length := List.length_map _
 by_cases h0 : ks.length = 0
 ·have hF : funB n (ks.map WA) = false := by
   unfold funB
   rw [hml, decide_eq_false (by omega : ¬ n <= (ks.length : Int) - 1)];rfl
  have hvs : (ks.length : Int) - 1 = -1 := by omega
  rw [hF]
  refine Qa Tryz.func123 rfl Tryz.ntmps123 rfl (t := [(0, .agg [.i k, .i n, .i m, QR ks])]) rfl fun E hE => ?_
  (repeat' first|(refine Qe ?_;(first|refine QG rfl ?_|refine QJ rfl ?_|refine Qb rfl rfl rfl ?_|(refine Qo ?_;(first|refine s_sub_as rfl rfl hvs ⟨by omega, by omega⟩ ?_|refine Q1 rfl rfl ?_))|refine Qt rfl ?_|refine WO rfl rfl ?_|refine Qd rfl rfl ?_|refine QU rfl rfl (fun _ _ => ?_)))|(refine Qk ?_;(first|refine Qi ?_|refine QN rfl ?_|refine W2 rfl rfl rfl rfl ?_|refine We rfl rfl (by omega) ?_))|(refine Qj ?_;(first|refine Qn ?_|refine Qc ?_|refine Qh rfl ?_|refine Qs ?_)))
  exact e_1 (Tryz.results123) (Qg rfl) (Zc (σ := []) (r := [_]) ⟨rfl, rfl⟩)
 obtain ⟨v, hv⟩ : ∃ v : Nat, ks.length = v + 1 := ⟨ks.length - 1, by omega⟩
 have hvs : (ks.length : Int) - 1 = (v : Int) := by omega
 have hvk : v < ks.length := by omega
 have hfl : (ks.map WA).getD v noF = WA ks[v] := qo ks WA hvk
 have hlast := hx _ (List.getElem_mem hvk) 6
 have hfun : funB n (ks.map WA) = (((decide (n <= (v : Int)) && decide ((v : Int) <= 6)) && WA ks[v] 6) && allI (fun i => (ks.map WA).getD i noF (if (i : Int) < n then 3 else 2)) v) := by
  unfold funB
  rw [hml, hvs, show ks.length - 1 = v by omega, hfl]
 by_cases hc : n <= (v : Int) /\ (v : Int) <= 6
 case neg =>
  have hF : funB n (ks.map WA) = false := by
   rw [hfun]
   rcases Classical.not_and_iff_not_or_not.1 hc with h|h
   ·rw [decide_eq_false h];rfl
   ·rw [decide_eq_false h, Bool.and_false];rfl
  rw [hF]
  refine Qa Tryz.func123 rfl Tryz.ntmps123 rfl (t := [(0, .agg [.i k, .i n, .i m, QR ks])]) rfl fun E hE => ?_
  (repeat' first|(refine Qe ?_;(first|refine QG rfl ?_|refine QJ rfl ?_|refine Qb rfl rfl rfl ?_|(refine Qo ?_;(first|refine s_sub_as rfl rfl hvs ⟨by omega, by omega⟩ ?_|refine Q1 rfl rfl ?_|refine Z6 rfl rfl ?_))|refine Qt rfl ?_|(refine Q4 ?_;(first|refine WO rfl rfl ?_|refine Wr rfl rfl ?_))|refine Qd rfl rfl ?_|refine QU rfl rfl (fun _ _ => ?_)))|(refine Qk ?_;(first|refine Qi ?_|refine QN rfl ?_|refine WD rfl rfl rfl rfl ?_|refine W2 rfl rfl rfl rfl ?_|refine We rfl rfl (by omega) ?_|refine q8 rfl rfl (fun _ => ?_) (fun _ => ?_)))|(refine Qj ?_;(first|refine Qn ?_|refine Qc ?_|refine Qh rfl ?_|refine Qs ?_)))
  all_goals exact e_1 (Tryz.results123) (Qg rfl) (Zc (σ := []) (r := [_]) ⟨rfl, rfl⟩)
 cases hb : WA ks[v] 6 with
 | false =>
  have hF : funB n (ks.map WA) = false := by rw [hfun, hb];simp
  rw [hF]
  rw [hb] at hlast
  refine Qa Tryz.func123 rfl Tryz.ntmps123 rfl (t := [(0, .agg [.i k, .i n, .i m, QR ks])]) rfl fun E hE => ?_
  (repeat' first|(refine Qe ?_;(first|refine QG rfl ?_|refine QJ rfl ?_|(refine Qz ?_;(first|refine QD rfl ?_|refine Qb rfl rfl rfl ?_))|refine Qv rfl rfl (by first|assumption|omega|(simp;done)|(simp;omega)) ?_|(refine Qo ?_;(first|refine s_sub_as rfl rfl hvs ⟨by omega, by omega⟩ ?_|refine Q1 rfl rfl ?_|refine Z6 rfl rfl ?_))|(refine Qq ?_;(first|refine Qt rfl ?_|refine QZ rfl rfl (hlast) ?_))|refine Wr rfl rfl ?_|refine Wn rfl ?_|refine Qd rfl rfl ?_|refine QU rfl rfl (fun _ _ => ?_)))|(refine Qk ?_;(first|refine Qi ?_|refine QN rfl ?_|refine WD rfl rfl rfl rfl ?_|refine Q6 rfl rfl (by omega) ?_))|(refine Qj ?_;(first|refine Qn ?_|refine Qc ?_|refine Qh rfl ?_|refine Qs ?_)))
  all_goals exact e_1 (Tryz.results123) (Qg rfl) (Zc (σ := []) (r := [_]) ⟨rfl, rfl⟩)
 | true =>
  rw [hb] at hlast
  rw [hfun, hb, decide_eq_true hc.1, decide_eq_true hc.2, Bool.and_true, Bool.and_true, Bool.true_and]
  have hl2 : ∀ (i : Nat) (h : i < (ks.take v).length), ∀ w, Go.Av.Pure Tryz.prog G 75 [.agg (Enc.enc (ks.take v)[i]), .i w] (.b ((ks.map WA).getD i noF w)) := fun i h w => by
   have hi : i < ks.length := by rw [List.length_take] at h;omega
   rw [qo ks WA hi, List.getElem_take]
   exact hx _ (List.getElem_mem hi) w
  have htl : (ks.take v).length = v := by rw [List.length_take];omega
  clear hx hfun hfl
  generalize (fun (i : Nat) (w : Int) => (ks.map WA).getD i noF w) = ff at *
  refine Qa Tryz.func123 rfl Tryz.ntmps123 rfl (t := [(0, .agg [.i k, .i n, .i m, QR ks])]) rfl fun E hE => ?_
  (repeat' first|(refine Qe ?_;(first|refine QG rfl ?_|refine QJ rfl ?_|(refine Qz ?_;(first|refine QD rfl ?_|refine Qb rfl rfl rfl ?_))|refine Qv rfl rfl (by first|assumption|omega|(simp;done)|(simp;omega)) ?_|(refine Qo ?_;(first|refine s_sub_as rfl rfl hvs ⟨by omega, by omega⟩ ?_|refine Q1 rfl rfl ?_|refine Z6 rfl rfl ?_))|(refine Qq ?_;(first|refine Qt rfl ?_|refine QZ rfl rfl (hlast) ?_))|refine Wr rfl rfl ?_|refine Wn rfl ?_|refine Qd rfl rfl ?_|refine s_slice_hn rfl rfl (by omega) ?_|refine QU rfl rfl (fun _ _ => ?_)))|(refine Qk ?_;(first|refine Qi ?_|refine QN rfl ?_|refine WD rfl rfl rfl rfl ?_|refine Q6 rfl rfl (by omega) ?_))|(refine Qj ?_;(first|refine Qn ?_|refine Qc ?_|refine Qf ?_|refine Qx ?_|refine Ql rfl ?_)))
  rename_i g1 hg1
  generalize hfs : ks.map WA = fs at *
  generalize hlt : ks.take v = l at *
  refine qb (fun (i : Nat) => ⟨[(1, .ptr 0 g1 0), (2, .b false), (31, QR l), (32, .i l.length), (33, .i i)], [.row g1 [.i k, .i n, .i m, QR ks]]⟩) (fun i => i <= v /\ ∀ j, j < i -> fs.getD j noF (if (j : Int) < n then 3 else 2) = true) (fun i => v - i) 0 ?_ ⟨by omega, fun j hj => by omega⟩ ?_
  ·exact zal rfl
  intro i ⟨hi, hall⟩
  by_cases hil : i < v
  ·by_cases hin : (i : Int) < n
   ·have hfi := hl2 i (by omega) 3
    cases hbi : fs.getD i noF 3 with
    | false =>
     have hA : allI (fun i => fs.getD i noF (if (i : Int) < n then 3 else 2)) v = false := by
      rw [Bool.eq_false_iff]
      intro h
      have := allI_iff.1 h i hil
      rw [if_pos hin, hbi] at this;cases this
     rw [hA]
     rw [hbi] at hfi
     clear hl2
     (repeat' first|(refine Qe ?_;(first|refine QG rfl ?_|refine QJ rfl ?_|(refine Qz ?_;(first|refine WF rfl rfl ?_|refine QD rfl ?_|refine Qb rfl rfl rfl ?_))|refine Qv rfl rfl (by first|assumption|omega|(simp;done)|(simp;omega)) ?_|refine Q1 rfl rfl ?_|refine QZ rfl rfl (hfi) ?_|refine WR rfl rfl rfl rfl ?_|refine Wn rfl ?_|refine Qd rfl rfl ?_|refine QC (fun _ _ => ?_)))|(refine Qk ?_;(first|refine Qi ?_|refine QN rfl ?_|refine Q5 ?_))|(refine Qj ?_;(first|refine Qn ?_|refine Qc ?_|refine Qf ?_|refine Qx ?_|refine Qh rfl ?_|refine Qp rfl (by omega) ?_|refine Qs ?_)))
     all_goals exact e_1 (Tryz.results123) (Qg rfl) (Zc (σ := []) ⟨rfl, rfl⟩)
    | true =>
     rw [hbi] at hfi
     clear hl2
     (repeat' first|(refine Qe ?_;(first|refine QG rfl ?_|refine QJ rfl ?_|(refine Qz ?_;(first|refine WF rfl rfl ?_|refine QD rfl ?_|refine Qb rfl rfl rfl ?_))|refine Qv rfl rfl (by first|assumption|omega|(simp;done)|(simp;omega)) ?_|(refine Qo ?_;(first|refine Q1 rfl rfl ?_|refine W3 rfl rfl (by omega) ?_))|refine QZ rfl rfl (hfi) ?_|refine WR rfl rfl rfl rfl ?_|refine Wn rfl ?_|refine Qd rfl rfl ?_|refine QC (fun _ _ => ?_)))|(refine Qk ?_;(first|refine Qi ?_|refine QN rfl ?_|refine Q5 ?_))|(refine Qj ?_;(first|refine Qn ?_|refine Qc ?_|refine Qf ?_|refine Qx ?_|refine Ql rfl ?_|refine Qp rfl (by omega) ?_)))
     refine ⟨i + 1, ⟨by omega, fun j hj => ?_⟩, by omega, ?_⟩
     ·rcases Nat.lt_or_ge j i with h|h
      ·exact hall j h
      ·have : j = i := by omega
       subst this;rw [if_pos hin];exact hbi
     ·exact zal rfl
   ·have hfi := hl2 i (by omega) 2
    cases hbi : fs.getD i noF 2 with
    | false =>
     have hA : allI (fun i => fs.getD i noF (if (i : Int) < n then 3 else 2)) v = false := by
      rw [Bool.eq_false_iff]
      intro h
      have := allI_iff.1 h i hil
      rw [if_neg hin, hbi] at this;cases this
     rw [hA]
     rw [hbi] at hfi
     clear hl2
     (repeat' first|(refine Qe ?_;(first|refine QG rfl ?_|refine QJ rfl ?_|(refine Qz ?_;(first|refine WF rfl rfl ?_|refine QD rfl ?_|refine Qb rfl rfl rfl ?_))|refine Qv rfl rfl (by first|assumption|omega|(simp;done)|(simp;omega)) ?_|refine Q1 rfl rfl ?_|refine QZ rfl rfl (hfi) ?_|refine WR rfl rfl rfl rfl ?_|refine Wn rfl ?_|refine Qd rfl rfl ?_|refine QC (fun _ _ => ?_)))|(refine Qk ?_;(first|refine Qi ?_|refine QN rfl ?_|refine Q5 ?_))|(refine Qj ?_;(first|refine Qn ?_|refine Qc ?_|refine Qf ?_|refine Qx ?_|refine Qh rfl ?_|refine Qp rfl (by omega) ?_|refine Qm rfl (by omega) ?_|refine Qs ?_)))
     all_goals exact e_1 (Tryz.results123) (Qg rfl) (Zc (σ := []) ⟨rfl, rfl⟩)
    | true =>
     rw [hbi] at hfi
     clear hl2
     (repeat' first|(refine Qe ?_;(first|refine QG rfl ?_|refine QJ rfl ?_|(refine Qz ?_;(first|refine WF rfl rfl ?_|refine QD rfl ?_|refine Qb rfl rfl rfl ?_))|refine Qv rfl rfl (by first|assumption|omega|(simp;done)|(simp;omega)) ?_|(refine Qo ?_;(first|refine Q1 rfl rfl ?_|refine W3 rfl rfl (by omega) ?_))|refine QZ rfl rfl (hfi) ?_|refine WR rfl rfl rfl rfl ?_|refine Wn rfl ?_|refine Qd rfl rfl ?_|refine QC (fun _ _ => ?_)))|(refine Qk ?_;(first|refine Qi ?_|refine QN rfl ?_|refine Q5 ?_))|(refine Qj ?_;(first|refine Qn ?_|refine Qc ?_|refine Qf ?_|refine Qx ?_|refine Ql rfl ?_|refine Qp rfl (by omega) ?_|refine Qm rfl (by omega) ?_)))
     refine ⟨i + 1, ⟨by omega, fun j hj => ?_⟩, by omega, ?_⟩
     ·rcases Nat.lt_or_ge j i with h|h
      ·exact hall j h
      ·have : j = i := by omega
       subst this;rw [if_neg hin];exact hbi
     ·exact zal rfl
  ·have hiv : i = v := by omega
   subst hiv
   have hA : allI (fun j => fs.getD j noF (if (j : Int) < n then 3 else 2)) i = true := allI_iff.2 hall
   rw [hA]
   clear hl2
   (repeat' first|(refine Qe ?_;(first|refine QJ rfl ?_|refine Q1 rfl rfl ?_))|(refine Qk ?_;(first|refine Qi ?_|refine QN rfl ?_))|(refine Qj ?_;(first|refine Qn ?_|refine Qc ?_|refine Qm rfl (by omega) ?_|refine WI rfl ?_|refine Qs ?_)))
   exact e_1 (Tryz.results123) (Qg rfl) (Zc (σ := []) (r := [_]) ⟨rfl, rfl⟩)
instance : Enc Sh where
 enc s := [.i s.is, .i s.low, .i s.high, .i s.last, QR s.kids, .i s.more, .i s.least, .i s.som]
 es := 8
 len _ := rfl
 one _ d hd := by
  simp only [List.mem_cons, List.not_mem_nil, or_false] at hd
  rcases hd with rfl|rfl|rfl|rfl|rfl|rfl|rfl|rfl <;> rfl
 clo r d hd := by
  simp only [List.mem_cons, List.not_mem_nil, or_false] at hd
  rcases hd with rfl|rfl|rfl|rfl|rfl|rfl|rfl|rfl <;> first|exact Wf|exact Wu _
 pos := by decide
def shapesT : DV := .ep (Ws shapesL)
theorem shape_at {k : Int} (h0 : 0 <= k) (h1 : k < 28) : ∃ is low high last kids more least som, shapesL.getD k.toNat noSh = ⟨is, low, high, last, kids, more, least, som⟩ /\ kids.length <= 3 /\ (k = 26 -> is = 1 /\ low = 0 /\ high = 3 /\ last = 0) /\
  partD ((Ws shapesL).drop (k.toNat * 8)) 0 8 = some [.i is, .i low, .i high, .i last, QR kids, .i more, .i least, .i som] := by
 have : k = 0 \/ k = 1 \/ k = 2 \/ k = 3 \/ k = 4 \/ k = 5 \/ k = 6 \/ k = 7 \/ k = 8 \/ k = 9 \/ k = 10 \/ k = 11 \/ k = 12 \/ k = 13 \/ k = 14 \/ k = 15 \/ k = 16 \/ k = 17 \/ k = 18 \/ k = 19 \/ k = 20 \/ k = 21 \/ k = 22 \/ k = 23 \/ k = 24 \/ k = 25 \/ k = 26 \/ k = 27 := by omega
 rcases this with rfl|rfl|rfl|rfl|rfl|rfl|rfl|rfl|rfl|rfl|rfl|rfl|rfl|rfl|rfl|rfl|rfl|rfl|rfl|rfl|rfl|rfl|rfl|rfl|rfl|rfl|rfl|rfl <;> exact ⟨_, _, _, _, _, _, _, _, rfl, by decide, by decide, rfl⟩
theorem fits_c (hG0 : G 0 = shapesT) (t : Nd) : Qu t <= 1000000 -> ∀ w, Go.Av.Pure Tryz.prog G 75 [.agg (Enc.enc t), .i w] (.b (WA t w)) := by
 induction t using Nd.ind with
 | h k n m ks ih =>
 intro hsz w B
 have hse : Qu (.mk k n m ks) = 1 + QT ks := by rw [Qu]
 rw [hse] at hsz
 have hln := WC ks
 have hx : ∀ x ∈ ks, ∀ w, Go.Av.Pure Tryz.prog G 75 [.agg (Enc.enc x), .i w] (.b (WA x w)) := fun x hx w => ih x hx (by have := QY hx;omega) w
 clear ih
 rw [WA, fitsF_eq, QW]
 have hml : (ks.map WA).length = ks.length := List.length_map _
 by_cases hk : 0 <= k /\ k < 28
 case neg =>
  rw [if_neg hk]
  clear hx
  refine Qa Tryz.func75 rfl Tryz.ntmps75 rfl (t := [(0, .agg [.i k, .i n, .i m, QR ks]), (1, .i w)]) rfl fun E hE => ?_
  (repeat' first|(refine Qe ?_;(first|refine QG rfl ?_|refine QJ rfl ?_|refine Qb rfl rfl rfl ?_|(refine Qo ?_;(first|refine Q1 rfl rfl ?_|refine W0 rfl rfl ?_))|(refine Q4 ?_;(first|refine WO rfl rfl ?_|refine Wr rfl rfl ?_))|refine Qd rfl rfl ?_|refine QU rfl rfl (fun _ _ => ?_)))|(refine Qk ?_;(first|refine Qi ?_|refine QN rfl ?_|refine WD rfl rfl rfl rfl ?_|refine W2 rfl rfl rfl rfl ?_|refine q8 rfl rfl (fun _ => ?_) (fun _ => ?_)))|(refine Qj ?_;(first|refine Qn ?_|refine Qc ?_|refine Qh rfl ?_|refine Qp rfl (by omega) ?_|refine Qs ?_)))
  all_goals exact e_1 (Tryz.results75) (Qg rfl) (Zc (σ := []) (r := [_]) ⟨rfl, rfl⟩)
 rw [if_pos hk]
 obtain ⟨is, low, high, last, kids, more, least, som, hs, hkl, h26, hpart⟩ := shape_at hk.1 hk.2
 rw [hs]
 clear hs
 by_cases hI : isB ⟨is, low, high, last, kids, more, least, som⟩ w = true
 case neg =>
  have hI2 : is ≠ w /\ ¬ (is = 3 /\ w = 2) /\ ¬ (is = 6 /\ w = 5) := by
   have : ¬ ((is = w \/ (is = 3 /\ w = 2)) \/ (is = 6 /\ w = 5)) := by simpa [isB] using hI
   omega
  rw [show isB ⟨is, low, high, last, kids, more, least, som⟩ w = false by simpa using hI, Bool.false_and, Bool.false_and]
  clear hx hI h26
  refine Qa Tryz.func75 rfl Tryz.ntmps75 rfl (t := [(0, .agg [.i k, .i n, .i m, QR ks]), (1, .i w)]) rfl fun E hE => ?_
  (repeat' first|(refine Qe ?_;(first|refine QG rfl ?_|refine QJ rfl ?_|(refine Qz ?_;(first|refine ZO rfl hpart rfl ?_|refine Qb rfl rfl rfl ?_))|refine qx (cs := Ws shapesL) hG0 rfl (by omega) (by omega) ?_|(refine Qo ?_;(first|refine Q1 rfl rfl ?_|refine W0 rfl rfl ?_|refine QS rfl rfl ?_))|(refine Q4 ?_;(first|refine WO rfl rfl ?_|refine Wr rfl rfl ?_))|refine WR rfl rfl rfl rfl ?_|(refine g_unOp ?_;(first|refine s_not_d rfl ?_|refine Wn rfl ?_))|refine Qd rfl rfl ?_|refine QC (fun _ _ => ?_)|refine QU rfl rfl (fun _ _ => ?_)))|(refine Qk ?_;(first|refine Qi ?_|refine QN rfl ?_|refine Q5 ?_|refine WD rfl rfl rfl rfl ?_|refine W2 rfl rfl rfl rfl ?_|refine We rfl rfl (by omega) ?_|refine Q6 rfl rfl (by omega) ?_|refine q8 rfl rfl (fun _ => ?_) (fun _ => ?_)))|(refine Qj ?_;(first|refine Qn ?_|refine Qc ?_|refine Qx ?_|refine Qh rfl ?_|refine Qm rfl (by omega) ?_|refine Qs ?_)))
  all_goals exact e_1 (Tryz.results75) (Qg rfl) (Zc (σ := []) (r := [_, _]) ⟨rfl, rfl⟩)
 rw [hI, Bool.true_and]
 have hI3 : is = w \/ (is ≠ w /\ is = 3 /\ w = 2) \/ (is ≠ w /\ is ≠ 3 /\ is = 6 /\ w = 5) := by
  have : (is = w \/ (is = 3 /\ w = 2)) \/ (is = 6 /\ w = 5) := by simpa [isB] using hI
  omega
 clear hI
 have hrng : rngB ⟨is, low, high, last, kids, more, least, som⟩ n m = true ↔ (low <= n /\ n <= high) /\ 0 <= m /\ m <= last := by simp [rngB]
 have hcnt : cntB ⟨is, low, high, last, kids, more, least, som⟩ ks.length = true ↔ least <= (ks.length : Int) - (kids.length : Int) /\ (ks.length : Int) - (kids.length : Int) <= more := by simp [cntB]
 have hkd : kidsB ⟨is, low, high, last, kids, more, least, som⟩ (ks.map WA) = allI (fun i => (ks.map WA).getD i noF (if i < kids.length then kids.getD i 0 else som)) ks.length := by unfold kidsB;rw [hml];rfl
 have hfun0 := fun (h : 0 <= n /\ n <= 3) => funFits_c (G := G) k n m ks (by omega) h hx
 have hl2 : ∀ (i : Nat) (h : i < ks.length), ∀ w, Go.Av.Pure Tryz.prog G 75 [.agg (Enc.enc ks[i]), .i w] (.b ((ks.map WA).getD i noF w)) := fun i h w => by
  rw [qo ks WA h]
  exact hx _ (List.getElem_mem h) w
 clear hx
 generalize ks.map WA = fs at *
 rcases hI3 with hI3|hI3|hI3
 ·by_cases hr : (low <= n /\ n <= high) /\ 0 <= m /\ m <= last
  case neg =>
   rw [show rngB ⟨is, low, high, last, kids, more, least, som⟩ n m = false from Bool.eq_false_iff.2 fun h => hr (hrng.1 h), Bool.false_and]
   clear hl2 hfun0 hrng hcnt hkd h26
   refine Qa Tryz.func75 rfl Tryz.ntmps75 rfl (t := [(0, .agg [.i k, .i n, .i m, QR ks]), (1, .i w)]) rfl fun E hE => ?_
   (repeat' first|(refine Qe ?_;(first|refine QG rfl ?_|refine QJ rfl ?_|(refine Qz ?_;(first|refine ZO rfl hpart rfl ?_|refine Qb rfl rfl rfl ?_))|refine qx (cs := Ws shapesL) hG0 rfl (by omega) (by omega) ?_|(refine Qo ?_;(first|refine Q1 rfl rfl ?_|refine Z6 rfl rfl ?_|refine W0 rfl rfl ?_|refine QS rfl rfl ?_))|(refine Q4 ?_;(first|refine WO rfl rfl ?_|refine Wr rfl rfl ?_))|refine WR rfl rfl rfl rfl ?_|refine Wn rfl ?_|refine Qd rfl rfl ?_|refine QC (fun _ _ => ?_)|refine QU rfl rfl (fun _ _ => ?_)))|(refine Qk ?_;(first|refine Qi ?_|refine QN rfl ?_|refine Q5 ?_|refine WD rfl rfl rfl rfl ?_|refine W2 rfl rfl rfl rfl ?_|refine o_gu rfl rfl rfl rfl rfl ?_|refine We rfl rfl (by omega) ?_|refine Q6 rfl rfl (by omega) ?_|refine q8 rfl rfl (fun _ => ?_) (fun _ => ?_)))|(refine Qj ?_;(first|refine Qn ?_|refine Qc ?_|refine Qx ?_|refine Qh rfl ?_|refine Qp rfl (by omega) ?_|refine Qm rfl (by omega) ?_|refine Qs ?_)))
   all_goals exact e_1 (Tryz.results75) (Qg rfl) (Zc (σ := []) (r := [_, _]) ⟨rfl, rfl⟩)
  rw [hrng.2 hr, Bool.true_and]
  by_cases k26 : k = 26
  ·rw [if_pos k26]
   obtain ⟨e1, e2, e3, e4⟩ := h26 k26
   have hfun := hfun0 ⟨by omega, by omega⟩
   clear hl2 hfun0 hrng hcnt hkd h26
   refine Qa Tryz.func75 rfl Tryz.ntmps75 rfl (t := [(0, .agg [.i k, .i n, .i m, QR ks]), (1, .i w)]) rfl fun E hE => ?_
   (repeat' first|(refine Qe ?_;(first|refine QG rfl ?_|refine QJ rfl ?_|(refine Qz ?_;(first|refine WF rfl rfl ?_|refine ZO rfl hpart rfl ?_|refine Qb rfl rfl rfl ?_))|refine qx (cs := Ws shapesL) hG0 rfl (by omega) (by omega) ?_|(refine Qo ?_;(first|refine Q1 rfl rfl ?_|refine Z6 rfl rfl ?_|refine W0 rfl rfl ?_|refine QS rfl rfl ?_))|refine QZ rfl rfl (hfun) ?_|(refine Q4 ?_;(first|refine WO rfl rfl ?_|refine Wr rfl rfl ?_))|refine WR rfl rfl rfl rfl ?_|refine Wn rfl ?_|refine Qd rfl rfl ?_|refine QC (fun _ _ => ?_)|refine QU rfl rfl (fun _ _ => ?_)))|(refine Qk ?_;(first|refine Qi ?_|refine QN rfl ?_|refine Q5 ?_|refine WD rfl rfl rfl rfl ?_|refine W2 rfl rfl rfl rfl ?_|refine o_gu rfl rfl rfl rfl rfl ?_|refine We rfl rfl (by omega) ?_|refine Q6 rfl rfl (by omega) ?_))|(refine Qj ?_;(first|refine Qn ?_|refine Qc ?_|refine Qx ?_|refine Qp rfl (by omega) ?_|refine Qm rfl (by omega) ?_|refine Qs ?_)))
   exact e_1 (Tryz.results75) (Qg rfl) (Zc (σ := []) (r := [_, _]) ⟨rfl, rfl⟩)
  rw [if_neg k26]
  by_cases hc : least <= (ks.length : Int) - (kids.length : Int) /\ (ks.length : Int) - (kids.length : Int) <= more
  case neg =>
   rw [show cntB ⟨is, low, high, last, kids, more, least, som⟩ ks.length = false from Bool.eq_false_iff.2 fun h => hc (hcnt.1 h), Bool.false_and]
   clear hl2 hfun0 hrng hcnt hkd h26
   refine Qa Tryz.func75 rfl Tryz.ntmps75 rfl (t := [(0, .agg [.i k, .i n, .i m, QR ks]), (1, .i w)]) rfl fun E hE => ?_
   (repeat' first|(refine Qe ?_;(first|refine QG rfl ?_|refine QJ rfl ?_|(refine Qz ?_;(first|refine ZO rfl hpart rfl ?_|refine Qb rfl rfl rfl ?_))|refine qx (cs := Ws shapesL) hG0 rfl (by omega) (by omega) ?_|(refine Qo ?_;(first|refine Q1 rfl rfl ?_|refine Z6 rfl rfl ?_|refine W0 rfl rfl ?_|refine QS rfl rfl ?_|refine Zz rfl rfl (by omega) ?_))|refine Qt rfl ?_|(refine Q4 ?_;(first|refine WO rfl rfl ?_|refine Wr rfl rfl ?_))|refine WR rfl rfl rfl rfl ?_|refine Wn rfl ?_|refine Qd rfl rfl ?_|refine QC (fun _ _ => ?_)|refine QU rfl rfl (fun _ _ => ?_)))|(refine Qk ?_;(first|refine Qi ?_|refine QN rfl ?_|refine Q5 ?_|refine WD rfl rfl rfl rfl ?_|refine W2 rfl rfl rfl rfl ?_|refine o_gu rfl rfl rfl rfl rfl ?_|refine We rfl rfl (by omega) ?_|refine Q6 rfl rfl (by omega) ?_|refine q8 rfl rfl (fun _ => ?_) (fun _ => ?_)))|(refine Qj ?_;(first|refine Qn ?_|refine Qc ?_|refine Qx ?_|refine Qh rfl ?_|refine Qp rfl (by omega) ?_|refine Qm rfl (by omega) ?_|refine Qs ?_)))
   all_goals exact e_1 (Tryz.results75) (Qg rfl) (Zc (σ := []) (r := [_, _]) ⟨rfl, rfl⟩)
  rw [hcnt.2 hc, Bool.true_and, hkd]
  clear hfun0 hrng hcnt hkd h26
  refine Qa Tryz.func75 rfl Tryz.ntmps75 rfl (t := [(0, .agg [.i k, .i n, .i m, QR ks]), (1, .i w)]) rfl fun E hE => ?_
  (repeat' first|(refine Qe ?_;(first|refine QG rfl ?_|refine QJ rfl ?_|(refine Qz ?_;(first|refine ZO rfl hpart rfl ?_|refine Qb rfl rfl rfl ?_))|refine qx (cs := Ws shapesL) hG0 rfl (by omega) (by omega) ?_|(refine Qo ?_;(first|refine Q1 rfl rfl ?_|refine Z6 rfl rfl ?_|refine W0 rfl rfl ?_|refine QS rfl rfl ?_|refine Zz rfl rfl (by omega) ?_))|refine Qt rfl ?_|(refine Q4 ?_;(first|refine WO rfl rfl ?_|refine Wr rfl rfl ?_))|refine WR rfl rfl rfl rfl ?_|refine Wn rfl ?_|refine Qd rfl rfl ?_|refine QC (fun _ _ => ?_)|refine QU rfl rfl (fun _ _ => ?_)))|(refine Qk ?_;(first|refine Qi ?_|refine QN rfl ?_|refine Q5 ?_|refine WD rfl rfl rfl rfl ?_|refine W2 rfl rfl rfl rfl ?_|refine o_gu rfl rfl rfl rfl rfl ?_|refine We rfl rfl (by omega) ?_|refine Q6 rfl rfl (by omega) ?_))|(refine Qj ?_;(first|refine Qn ?_|refine Qc ?_|refine Qf ?_|refine Qx ?_|refine Qm rfl (by omega) ?_)))
  rename_i g1 hg1 g2 hg2
  refine qb (fun (i : Nat) => ⟨[(2, .ptr 0 g1 0), (4, .b false), (5, .ptr 1 g2 0), (96, QR ks), (97, .i ks.length), (98, .i i)], [.row g1 [.i k, .i n, .i m, QR ks], .row g2 [.i is, .i low, .i high, .i last, QR kids, .i more, .i least, .i som]]⟩) (fun i => i <= ks.length /\ ∀ j, j < i -> fs.getD j noF (if j < kids.length then kids.getD j 0 else som) = true) (fun i => ks.length - i) 0 ?_ ⟨by omega, fun j hj => by omega⟩ ?_
  ·exact zal rfl
  intro i ⟨hi, hall⟩
  by_cases hil : i < ks.length
  ·by_cases hik : i < kids.length
   ·have hgd : kids.getD i 0 = kids[i] := by rw [List.getD_eq_getElem?_getD, List.getElem?_eq_getElem hik];rfl
    have hfi := hl2 i hil kids[i]
    cases hbi : fs.getD i noF kids[i] with
    | false =>
     have hA : allI (fun i => fs.getD i noF (if i < kids.length then kids.getD i 0 else som)) ks.length = false := by
      rw [Bool.eq_false_iff]
      intro h
      have := allI_iff.1 h i hil
      rw [if_pos hik, hgd, hbi] at this;cases this
     rw [hA]
     rw [hbi] at hfi
     clear hl2 hall
     (repeat' first|(refine Qe ?_;(first|refine QG rfl ?_|refine QJ rfl ?_|(refine Qz ?_;(first|refine WF rfl rfl ?_|refine QM rfl ?_|refine QD rfl ?_|refine Qb rfl rfl rfl ?_))|refine Qv rfl rfl (by first|assumption|omega|(simp;done)|(simp;omega)) ?_|refine Q1 rfl rfl ?_|(refine Qq ?_;(first|refine Qt rfl ?_|refine QZ rfl rfl (hfi) ?_))|refine WR rfl rfl rfl rfl ?_|refine Wn rfl ?_|refine Qd rfl rfl ?_|refine QC (fun _ _ => ?_)))|(refine Qk ?_;(first|refine Qi ?_|refine QN rfl ?_|refine Q5 ?_))|(refine Qj ?_;(first|refine Qn ?_|refine Qc ?_|refine Qf ?_|refine Qx ?_|refine Qh rfl ?_|refine Qp rfl (by omega) ?_|refine Qs ?_)))
     all_goals exact e_1 (Tryz.results75) (Qg rfl) (Zc (σ := []) ⟨rfl, rfl⟩)
    | true =>
     rw [hbi] at hfi
     clear hl2
     (repeat' first|(refine Qe ?_;(first|refine QG rfl ?_|refine QJ rfl ?_|(refine Qz ?_;(first|refine WF rfl rfl ?_|refine QM rfl ?_|refine QD rfl ?_|refine Qb rfl rfl rfl ?_))|refine Qv rfl rfl (by first|assumption|omega|(simp;done)|(simp;omega)) ?_|(refine Qo ?_;(first|refine Q1 rfl rfl ?_|refine W3 rfl rfl (by omega) ?_))|(refine Qq ?_;(first|refine Qt rfl ?_|refine QZ rfl rfl (hfi) ?_))|refine WR rfl rfl rfl rfl ?_|refine Wn rfl ?_|refine Qd rfl rfl ?_|refine QC (fun _ _ => ?_)))|(refine Qk ?_;(first|refine Qi ?_|refine QN rfl ?_|refine Q5 ?_))|(refine Qj ?_;(first|refine Qn ?_|refine Qc ?_|refine Qf ?_|refine Qx ?_|refine Ql rfl ?_|refine Qp rfl (by omega) ?_)))
     refine ⟨i + 1, ⟨by omega, fun j hj => ?_⟩, by omega, ?_⟩
     ·rcases Nat.lt_or_ge j i with h|h
      ·exact hall j h
      ·have : j = i := by omega
       subst this;rw [if_pos hik, hgd];exact hbi
     ·exact zal rfl
   ·have hfi := hl2 i hil som
    cases hbi : fs.getD i noF som with
    | false =>
     have hA : allI (fun i => fs.getD i noF (if i < kids.length then kids.getD i 0 else som)) ks.length = false := by
      rw [Bool.eq_false_iff]
      intro h
      have := allI_iff.1 h i hil
      rw [if_neg hik, hbi] at this;cases this
     rw [hA]
     rw [hbi] at hfi
     clear hl2 hall
     (repeat' first|(refine Qe ?_;(first|refine QG rfl ?_|refine QJ rfl ?_|(refine Qz ?_;(first|refine WF rfl rfl ?_|refine QD rfl ?_|refine Qb rfl rfl rfl ?_))|refine Qv rfl rfl (by first|assumption|omega|(simp;done)|(simp;omega)) ?_|refine Q1 rfl rfl ?_|(refine Qq ?_;(first|refine Qt rfl ?_|refine QZ rfl rfl (hfi) ?_))|refine WR rfl rfl rfl rfl ?_|refine Wn rfl ?_|refine Qd rfl rfl ?_|refine QC (fun _ _ => ?_)))|(refine Qk ?_;(first|refine Qi ?_|refine QN rfl ?_|refine Q5 ?_))|(refine Qj ?_;(first|refine Qn ?_|refine Qc ?_|refine Qf ?_|refine Qx ?_|refine Qh rfl ?_|refine Qp rfl (by omega) ?_|refine Qm rfl (by omega) ?_|refine Qs ?_)))
     all_goals exact e_1 (Tryz.results75) (Qg rfl) (Zc (σ := []) ⟨rfl, rfl⟩)
    | true =>
     rw [hbi] at hfi
     clear hl2
     (repeat' first|(refine Qe ?_;(first|refine QG rfl ?_|refine QJ rfl ?_|(refine Qz ?_;(first|refine WF rfl rfl ?_|refine QD rfl ?_|refine Qb rfl rfl rfl ?_))|refine Qv rfl rfl (by first|assumption|omega|(simp;done)|(simp;omega)) ?_|(refine Qo ?_;(first|refine Q1 rfl rfl ?_|refine W3 rfl rfl (by omega) ?_))|(refine Qq ?_;(first|refine Qt rfl ?_|refine QZ rfl rfl (hfi) ?_))|refine WR rfl rfl rfl rfl ?_|refine Wn rfl ?_|refine Qd rfl rfl ?_|refine QC (fun _ _ => ?_)))|(refine Qk ?_;(first|refine Qi ?_|refine QN rfl ?_|refine Q5 ?_))|(refine Qj ?_;(first|refine Qn ?_|refine Qc ?_|refine Qf ?_|refine Qx ?_|refine Ql rfl ?_|refine Qp rfl (by omega) ?_|refine Qm rfl (by omega) ?_)))
     refine ⟨i + 1, ⟨by omega, fun j hj => ?_⟩, by omega, ?_⟩
     ·rcases Nat.lt_or_ge j i with h|h
      ·exact hall j h
      ·have : j = i := by omega
       subst this;rw [if_neg hik];exact hbi
     ·exact zal rfl
  ·have hiv : i = ks.length := by omega
   subst hiv
   have hA : allI (fun i => fs.getD i noF (if i < kids.length then kids.getD i 0 else som)) ks.length = true := allI_iff.2 hall
   rw [hA]
   clear hl2 hall
   (repeat' first|(refine Qe ?_;(first|refine QJ rfl ?_|refine Q1 rfl rfl ?_))|(refine Qk ?_;(first|refine Qi ?_|refine QN rfl ?_))|(refine Qj ?_;(first|refine Qn ?_|refine Qc ?_|refine Qm rfl (by omega) ?_|refine WI rfl ?_|refine Qs ?_)))
   exact e_1 (Tryz.results75) (Qg rfl) (Zc (σ := []) (r := [_, _]) ⟨rfl, rfl⟩)
 ·by_cases hr : (low <= n /\ n <= high) /\ 0 <= m /\ m <= last
  case neg =>
   rw [show rngB ⟨is, low, high, last, kids, more, least, som⟩ n m = false from Bool.eq_false_iff.2 fun h => hr (hrng.1 h), Bool.false_and]
   clear hl2 hfun0 hrng hcnt hkd h26
   refine Qa Tryz.func75 rfl Tryz.ntmps75 rfl (t := [(0, .agg [.i k, .i n, .i m, QR ks]), (1, .i w)]) rfl fun E hE => ?_
   (repeat' first|(refine Qe ?_;(first|refine QG rfl ?_|refine QJ rfl ?_|(refine Qz ?_;(first|refine ZO rfl hpart rfl ?_|refine Qb rfl rfl rfl ?_))|refine qx (cs := Ws shapesL) hG0 rfl (by omega) (by omega) ?_|(refine Qo ?_;(first|refine Q1 rfl rfl ?_|refine Z6 rfl rfl ?_|refine W0 rfl rfl ?_|refine QS rfl rfl ?_))|(refine Q4 ?_;(first|refine WO rfl rfl ?_|refine Wr rfl rfl ?_))|refine WR rfl rfl rfl rfl ?_|refine Wn rfl ?_|refine Qd rfl rfl ?_|refine QC (fun _ _ => ?_)|refine QU rfl rfl (fun _ _ => ?_)))|(refine Qk ?_;(first|refine Qi ?_|refine QN rfl ?_|refine Q5 ?_|refine WD rfl rfl rfl rfl ?_|refine W2 rfl rfl rfl rfl ?_|refine o_gu rfl rfl rfl rfl rfl ?_|refine We rfl rfl (by omega) ?_|refine Q6 rfl rfl (by omega) ?_|refine q8 rfl rfl (fun _ => ?_) (fun _ => ?_)))|(refine Qj ?_;(first|refine Qn ?_|refine Qc ?_|refine Qx ?_|refine Qh rfl ?_|refine Qp rfl (by omega) ?_|refine Qm rfl (by omega) ?_|refine Qs ?_)))
   all_goals exact e_1 (Tryz.results75) (Qg rfl) (Zc (σ := []) (r := [_, _]) ⟨rfl, rfl⟩)
  rw [hrng.2 hr, Bool.true_and]
  by_cases k26 : k = 26
  ·rw [if_pos k26]
   exfalso
   have := h26 k26
   omega
  rw [if_neg k26]
  by_cases hc : least <= (ks.length : Int) - (kids.length : Int) /\ (ks.length : Int) - (kids.length : Int) <= more
  case neg =>
   rw [show cntB ⟨is, low, high, last, kids, more, least, som⟩ ks.length = false from Bool.eq_false_iff.2 fun h => hc (hcnt.1 h), Bool.false_and]
   clear hl2 hfun0 hrng hcnt hkd h26
   refine Qa Tryz.func75 rfl Tryz.ntmps75 rfl (t := [(0, .agg [.i k, .i n, .i m, QR ks]), (1, .i w)]) rfl fun E hE => ?_
   (repeat' first|(refine Qe ?_;(first|refine QG rfl ?_|refine QJ rfl ?_|(refine Qz ?_;(first|refine ZO rfl hpart rfl ?_|refine Qb rfl rfl rfl ?_))|refine qx (cs := Ws shapesL) hG0 rfl (by omega) (by omega) ?_|(refine Qo ?_;(first|refine Q1 rfl rfl ?_|refine Z6 rfl rfl ?_|refine W0 rfl rfl ?_|refine QS rfl rfl ?_|refine Zz rfl rfl (by omega) ?_))|refine Qt rfl ?_|(refine Q4 ?_;(first|refine WO rfl rfl ?_|refine Wr rfl rfl ?_))|refine WR rfl rfl rfl rfl ?_|refine Wn rfl ?_|refine Qd rfl rfl ?_|refine QC (fun _ _ => ?_)|refine QU rfl rfl (fun _ _ => ?_)))|(refine Qk ?_;(first|refine Qi ?_|refine QN rfl ?_|refine Q5 ?_|refine WD rfl rfl rfl rfl ?_|refine W2 rfl rfl rfl rfl ?_|refine o_gu rfl rfl rfl rfl rfl ?_|refine We rfl rfl (by omega) ?_|refine Q6 rfl rfl (by omega) ?_|refine q8 rfl rfl (fun _ => ?_) (fun _ => ?_)))|(refine Qj ?_;(first|refine Qn ?_|refine Qc ?_|refine Qx ?_|refine Qh rfl ?_|refine Qp rfl (by omega) ?_|refine Qm rfl (by omega) ?_|refine Qs ?_)))
   all_goals exact e_1 (Tryz.results75) (Qg rfl) (Zc (σ := []) (r := [_, _]) ⟨rfl, rfl⟩)
  rw [hcnt.2 hc, Bool.true_and, hkd]
  clear hfun0 hrng hcnt hkd h26
  refine Qa Tryz.func75 rfl Tryz.ntmps75 rfl (t := [(0, .agg [.i k, .i n, .i m, QR ks]), (1, .i w)]) rfl fun E hE => ?_
  (repeat' first|(refine Qe ?_;(first|refine QG rfl ?_|refine QJ rfl ?_|(refine Qz ?_;(first|refine ZO rfl hpart rfl ?_|refine Qb rfl rfl rfl ?_))|refine qx (cs := Ws shapesL) hG0 rfl (by omega) (by omega) ?_|(refine Qo ?_;(first|refine Q1 rfl rfl ?_|refine Z6 rfl rfl ?_|refine W0 rfl rfl ?_|refine QS rfl rfl ?_|refine Zz rfl rfl (by omega) ?_))|refine Qt rfl ?_|(refine Q4 ?_;(first|refine WO rfl rfl ?_|refine Wr rfl rfl ?_))|refine WR rfl rfl rfl rfl ?_|refine Wn rfl ?_|refine Qd rfl rfl ?_|refine QC (fun _ _ => ?_)|refine QU rfl rfl (fun _ _ => ?_)))|(refine Qk ?_;(first|refine Qi ?_|refine QN rfl ?_|refine Q5 ?_|refine WD rfl rfl rfl rfl ?_|refine W2 rfl rfl rfl rfl ?_|refine o_gu rfl rfl rfl rfl rfl ?_|refine We rfl rfl (by omega) ?_|refine Q6 rfl rfl (by omega) ?_))|(refine Qj ?_;(first|refine Qn ?_|refine Qc ?_|refine Qf ?_|refine Qx ?_|refine Qm rfl (by omega) ?_)))
  rename_i g1 hg1 g2 hg2
  refine qb (fun (i : Nat) => ⟨[(2, .ptr 0 g1 0), (4, .b false), (5, .ptr 1 g2 0), (96, QR ks), (97, .i ks.length), (98, .i i)], [.row g1 [.i k, .i n, .i m, QR ks], .row g2 [.i is, .i low, .i high, .i last, QR kids, .i more, .i least, .i som]]⟩) (fun i => i <= ks.length /\ ∀ j, j < i -> fs.getD j noF (if j < kids.length then kids.getD j 0 else som) = true) (fun i => ks.length - i) 0 ?_ ⟨by omega, fun j hj => by omega⟩ ?_
  ·exact zal rfl
  intro i ⟨hi, hall⟩
  by_cases hil : i < ks.length
  ·by_cases hik : i < kids.length
   ·have hgd : kids.getD i 0 = kids[i] := by rw [List.getD_eq_getElem?_getD, List.getElem?_eq_getElem hik];rfl
    have hfi := hl2 i hil kids[i]
    cases hbi : fs.getD i noF kids[i] with
    | false =>
     have hA : allI (fun i => fs.getD i noF (if i < kids.length then kids.getD i 0 else som)) ks.length = false := by
      rw [Bool.eq_false_iff]
      intro h
      have := allI_iff.1 h i hil
      rw [if_pos hik, hgd, hbi] at this;cases this
     rw [hA]
     rw [hbi] at hfi
     clear hl2 hall
     (repeat' first|(refine Qe ?_;(first|refine QG rfl ?_|refine QJ rfl ?_|(refine Qz ?_;(first|refine WF rfl rfl ?_|refine QM rfl ?_|refine QD rfl ?_|refine Qb rfl rfl rfl ?_))|refine Qv rfl rfl (by first|assumption|omega|(simp;done)|(simp;omega)) ?_|refine Q1 rfl rfl ?_|(refine Qq ?_;(first|refine Qt rfl ?_|refine QZ rfl rfl (hfi) ?_))|refine WR rfl rfl rfl rfl ?_|refine Wn rfl ?_|refine Qd rfl rfl ?_|refine QC (fun _ _ => ?_)))|(refine Qk ?_;(first|refine Qi ?_|refine QN rfl ?_|refine Q5 ?_))|(refine Qj ?_;(first|refine Qn ?_|refine Qc ?_|refine Qf ?_|refine Qx ?_|refine Qh rfl ?_|refine Qp rfl (by omega) ?_|refine Qs ?_)))
     all_goals exact e_1 (Tryz.results75) (Qg rfl) (Zc (σ := []) ⟨rfl, rfl⟩)
    | true =>
     rw [hbi] at hfi
     clear hl2
     (repeat' first|(refine Qe ?_;(first|refine QG rfl ?_|refine QJ rfl ?_|(refine Qz ?_;(first|refine WF rfl rfl ?_|refine QM rfl ?_|refine QD rfl ?_|refine Qb rfl rfl rfl ?_))|refine Qv rfl rfl (by first|assumption|omega|(simp;done)|(simp;omega)) ?_|(refine Qo ?_;(first|refine Q1 rfl rfl ?_|refine W3 rfl rfl (by omega) ?_))|(refine Qq ?_;(first|refine Qt rfl ?_|refine QZ rfl rfl (hfi) ?_))|refine WR rfl rfl rfl rfl ?_|refine Wn rfl ?_|refine Qd rfl rfl ?_|refine QC (fun _ _ => ?_)))|(refine Qk ?_;(first|refine Qi ?_|refine QN rfl ?_|refine Q5 ?_))|(refine Qj ?_;(first|refine Qn ?_|refine Qc ?_|refine Qf ?_|refine Qx ?_|refine Ql rfl ?_|refine Qp rfl (by omega) ?_)))
     refine ⟨i + 1, ⟨by omega, fun j hj => ?_⟩, by omega, ?_⟩
     ·rcases Nat.lt_or_ge j i with h|h
      ·exact hall j h
      ·have : j = i := by omega
       subst this;rw [if_pos hik, hgd];exact hbi
     ·exact zal rfl
   ·have hfi := hl2 i hil som
    cases hbi : fs.getD i noF som with
    | false =>
     have hA : allI (fun i => fs.getD i noF (if i < kids.length then kids.getD i 0 else som)) ks.length = false := by
      rw [Bool.eq_false_iff]
      intro h
      have := allI_iff.1 h i hil
      rw [if_neg hik, hbi] at this;cases this
     rw [hA]
     rw [hbi] at hfi
     clear hl2 hall
     (repeat' first|(refine Qe ?_;(first|refine QG rfl ?_|refine QJ rfl ?_|(refine Qz ?_;(first|refine WF rfl rfl ?_|refine QD rfl ?_|refine Qb rfl rfl rfl ?_))|refine Qv rfl rfl (by first|assumption|omega|(simp;done)|(simp;omega)) ?_|refine Q1 rfl rfl ?_|(refine Qq ?_;(first|refine Qt rfl ?_|refine QZ rfl rfl (hfi) ?_))|refine WR rfl rfl rfl rfl ?_|refine Wn rfl ?_|refine Qd rfl rfl ?_|refine QC (fun _ _ => ?_)))|(refine Qk ?_;(first|refine Qi ?_|refine QN rfl ?_|refine Q5 ?_))|(refine Qj ?_;(first|refine Qn ?_|refine Qc ?_|refine Qf ?_|refine Qx ?_|refine Qh rfl ?_|refine Qp rfl (by omega) ?_|refine Qm rfl (by omega) ?_|refine Qs ?_)))
     all_goals exact e_1 (Tryz.results75) (Qg rfl) (Zc (σ := []) ⟨rfl, rfl⟩)
    | true =>
     rw [hbi] at hfi
     clear hl2
     (repeat' first|(refine Qe ?_;(first|refine QG rfl ?_|refine QJ rfl ?_|(refine Qz ?_;(first|refine WF rfl rfl ?_|refine QD rfl ?_|refine Qb rfl rfl rfl ?_))|refine Qv rfl rfl (by first|assumption|omega|(simp;done)|(simp;omega)) ?_|(refine Qo ?_;(first|refine Q1 rfl rfl ?_|refine W3 rfl rfl (by omega) ?_))|(refine Qq ?_;(first|refine Qt rfl ?_|refine QZ rfl rfl (hfi) ?_))|refine WR rfl rfl rfl rfl ?_|refine Wn rfl ?_|refine Qd rfl rfl ?_|refine QC (fun _ _ => ?_)))|(refine Qk ?_;(first|refine Qi ?_|refine QN rfl ?_|refine Q5 ?_))|(refine Qj ?_;(first|refine Qn ?_|refine Qc ?_|refine Qf ?_|refine Qx ?_|refine Ql rfl ?_|refine Qp rfl (by omega) ?_|refine Qm rfl (by omega) ?_)))
     refine ⟨i + 1, ⟨by omega, fun j hj => ?_⟩, by omega, ?_⟩
     ·rcases Nat.lt_or_ge j i with h|h
      ·exact hall j h
      ·have : j = i := by omega
       subst this;rw [if_neg hik];exact hbi
     ·exact zal rfl
  ·have hiv : i = ks.length := by omega
   subst hiv
   have hA : allI (fun i => fs.getD i noF (if i < kids.length then kids.getD i 0 else som)) ks.length = true := allI_iff.2 hall
   rw [hA]
   clear hl2 hall
   (repeat' first|(refine Qe ?_;(first|refine QJ rfl ?_|refine Q1 rfl rfl ?_))|(refine Qk ?_;(first|refine Qi ?_|refine QN rfl ?_))|(refine Qj ?_;(first|refine Qn ?_|refine Qc ?_|refine Qm rfl (by omega) ?_|refine WI rfl ?_|refine Qs ?_)))
   exact e_1 (Tryz.results75) (Qg rfl) (Zc (σ := []) (r := [_, _]) ⟨rfl, rfl⟩)
 ·by_cases hr : (low <= n /\ n <= high) /\ 0 <= m /\ m <= last
  case neg =>
   rw [show rngB ⟨is, low, high, last, kids, more, least, som⟩ n m = false from Bool.eq_false_iff.2 fun h => hr (hrng.1 h), Bool.false_and]
   clear hl2 hfun0 hrng hcnt hkd h26
   refine Qa Tryz.func75 rfl Tryz.ntmps75 rfl (t := [(0, .agg [.i k, .i n, .i m, QR ks]), (1, .i w)]) rfl fun E hE => ?_
   (repeat' first|(refine Qe ?_;(first|refine QG rfl ?_|refine QJ rfl ?_|(refine Qz ?_;(first|refine ZO rfl hpart rfl ?_|refine Qb rfl rfl rfl ?_))|refine qx (cs := Ws shapesL) hG0 rfl (by omega) (by omega) ?_|(refine Qo ?_;(first|refine Q1 rfl rfl ?_|refine Z6 rfl rfl ?_|refine W0 rfl rfl ?_|refine QS rfl rfl ?_))|(refine Q4 ?_;(first|refine WO rfl rfl ?_|refine Wr rfl rfl ?_))|refine WR rfl rfl rfl rfl ?_|refine s_not_d rfl ?_|refine Qd rfl rfl ?_|refine QC (fun _ _ => ?_)|refine QU rfl rfl (fun _ _ => ?_)))|(refine Qk ?_;(first|refine Qi ?_|refine QN rfl ?_|refine Q5 ?_|refine WD rfl rfl rfl rfl ?_|refine W2 rfl rfl rfl rfl ?_|refine We rfl rfl (by omega) ?_|refine Q6 rfl rfl (by omega) ?_|refine q8 rfl rfl (fun _ => ?_) (fun _ => ?_)))|(refine Qj ?_;(first|refine Qn ?_|refine Qc ?_|refine Qx ?_|refine Qh rfl ?_|refine Qp rfl (by omega) ?_|refine Qm rfl (by omega) ?_|refine Qs ?_)))
   all_goals exact e_1 (Tryz.results75) (Qg rfl) (Zc (σ := []) (r := [_, _]) ⟨rfl, rfl⟩)
  rw [hrng.2 hr, Bool.true_and]
  by_cases k26 : k = 26
  ·rw [if_pos k26]
   exfalso
   have := h26 k26
   omega
  rw [if_neg k26]
  by_cases hc : least <= (ks.length : Int) - (kids.length : Int) /\ (ks.length : Int) - (kids.length : Int) <= more
  case neg =>
   rw [show cntB ⟨is, low, high, last, kids, more, least, som⟩ ks.length = false from Bool.eq_false_iff.2 fun h => hc (hcnt.1 h), Bool.false_and]
   clear hl2 hfun0 hrng hcnt hkd h26
   refine Qa Tryz.func75 rfl Tryz.ntmps75 rfl (t := [(0, .agg [.i k, .i n, .i m, QR ks]), (1, .i w)]) rfl fun E hE => ?_
   (repeat' first|(refine Qe ?_;(first|refine QG rfl ?_|refine QJ rfl ?_|(refine Qz ?_;(first|refine ZO rfl hpart rfl ?_|refine Qb rfl rfl rfl ?_))|refine qx (cs := Ws shapesL) hG0 rfl (by omega) (by omega) ?_|(refine Qo ?_;(first|refine Q1 rfl rfl ?_|refine Z6 rfl rfl ?_|refine W0 rfl rfl ?_|refine QS rfl rfl ?_|refine Zz rfl rfl (by omega) ?_))|refine Qt rfl ?_|(refine Q4 ?_;(first|refine WO rfl rfl ?_|refine Wr rfl rfl ?_))|refine WR rfl rfl rfl rfl ?_|refine s_not_d rfl ?_|refine Qd rfl rfl ?_|refine QC (fun _ _ => ?_)|refine QU rfl rfl (fun _ _ => ?_)))|(refine Qk ?_;(first|refine Qi ?_|refine QN rfl ?_|refine Q5 ?_|refine WD rfl rfl rfl rfl ?_|refine W2 rfl rfl rfl rfl ?_|refine We rfl rfl (by omega) ?_|refine Q6 rfl rfl (by omega) ?_|refine q8 rfl rfl (fun _ => ?_) (fun _ => ?_)))|(refine Qj ?_;(first|refine Qn ?_|refine Qc ?_|refine Qx ?_|refine Qh rfl ?_|refine Qp rfl (by omega) ?_|refine Qm rfl (by omega) ?_|refine Qs ?_)))
   all_goals exact e_1 (Tryz.results75) (Qg rfl) (Zc (σ := []) (r := [_, _]) ⟨rfl, rfl⟩)
  rw [hcnt.2 hc, Bool.true_and, hkd]
  clear hfun0 hrng hcnt hkd h26
  refine Qa Tryz.func75 rfl Tryz.ntmps75 rfl (t := [(0, .agg [.i k, .i n, .i m, QR ks]), (1, .i w)]) rfl fun E hE => ?_
  (repeat' first|(refine Qe ?_;(first|refine QG rfl ?_|refine QJ rfl ?_|(refine Qz ?_;(first|refine ZO rfl hpart rfl ?_|refine Qb rfl rfl rfl ?_))|refine qx (cs := Ws shapesL) hG0 rfl (by omega) (by omega) ?_|(refine Qo ?_;(first|refine Q1 rfl rfl ?_|refine Z6 rfl rfl ?_|refine W0 rfl rfl ?_|refine QS rfl rfl ?_|refine Zz rfl rfl (by omega) ?_))|refine Qt rfl ?_|(refine Q4 ?_;(first|refine WO rfl rfl ?_|refine Wr rfl rfl ?_))|refine WR rfl rfl rfl rfl ?_|refine s_not_d rfl ?_|refine Qd rfl rfl ?_|refine QC (fun _ _ => ?_)|refine QU rfl rfl (fun _ _ => ?_)))|(refine Qk ?_;(first|refine Qi ?_|refine QN rfl ?_|refine Q5 ?_|refine WD rfl rfl rfl rfl ?_|refine W2 rfl rfl rfl rfl ?_|refine We rfl rfl (by omega) ?_|refine Q6 rfl rfl (by omega) ?_))|(refine Qj ?_;(first|refine Qn ?_|refine Qc ?_|refine Qf ?_|refine Qx ?_|refine Qm rfl (by omega) ?_)))
  rename_i g1 hg1 g2 hg2
  refine qb (fun (i : Nat) => ⟨[(2, .ptr 0 g1 0), (4, .b false), (5, .ptr 1 g2 0), (96, QR ks), (97, .i ks.length), (98, .i i)], [.row g1 [.i k, .i n, .i m, QR ks], .row g2 [.i is, .i low, .i high, .i last, QR kids, .i more, .i least, .i som]]⟩) (fun i => i <= ks.length /\ ∀ j, j < i -> fs.getD j noF (if j < kids.length then kids.getD j 0 else som) = true) (fun i => ks.length - i) 0 ?_ ⟨by omega, fun j hj => by omega⟩ ?_
  ·exact zal rfl
  intro i ⟨hi, hall⟩
  by_cases hil : i < ks.length
  ·by_cases hik : i < kids.length
   ·have hgd : kids.getD i 0 = kids[i] := by rw [List.getD_eq_getElem?_getD, List.getElem?_eq_getElem hik];rfl
    have hfi := hl2 i hil kids[i]
    cases hbi : fs.getD i noF kids[i] with
    | false =>
     have hA : allI (fun i => fs.getD i noF (if i < kids.length then kids.getD i 0 else som)) ks.length = false := by
      rw [Bool.eq_false_iff]
      intro h
      have := allI_iff.1 h i hil
      rw [if_pos hik, hgd, hbi] at this;cases this
     rw [hA]
     rw [hbi] at hfi
     clear hl2 hall
     (repeat' first|(refine Qe ?_;(first|refine QG rfl ?_|refine QJ rfl ?_|(refine Qz ?_;(first|refine WF rfl rfl ?_|refine QM rfl ?_|refine QD rfl ?_|refine Qb rfl rfl rfl ?_))|refine Qv rfl rfl (by first|assumption|omega|(simp;done)|(simp;omega)) ?_|refine Q1 rfl rfl ?_|(refine Qq ?_;(first|refine Qt rfl ?_|refine QZ rfl rfl (hfi) ?_))|refine WR rfl rfl rfl rfl ?_|refine Wn rfl ?_|refine Qd rfl rfl ?_|refine QC (fun _ _ => ?_)))|(refine Qk ?_;(first|refine Qi ?_|refine QN rfl ?_|refine Q5 ?_))|(refine Qj ?_;(first|refine Qn ?_|refine Qc ?_|refine Qf ?_|refine Qx ?_|refine Qh rfl ?_|refine Qp rfl (by omega) ?_|refine Qs ?_)))
     all_goals exact e_1 (Tryz.results75) (Qg rfl) (Zc (σ := []) ⟨rfl, rfl⟩)
    | true =>
     rw [hbi] at hfi
     clear hl2
     (repeat' first|(refine Qe ?_;(first|refine QG rfl ?_|refine QJ rfl ?_|(refine Qz ?_;(first|refine WF rfl rfl ?_|refine QM rfl ?_|refine QD rfl ?_|refine Qb rfl rfl rfl ?_))|refine Qv rfl rfl (by first|assumption|omega|(simp;done)|(simp;omega)) ?_|(refine Qo ?_;(first|refine Q1 rfl rfl ?_|refine W3 rfl rfl (by omega) ?_))|(refine Qq ?_;(first|refine Qt rfl ?_|refine QZ rfl rfl (hfi) ?_))|refine WR rfl rfl rfl rfl ?_|refine Wn rfl ?_|refine Qd rfl rfl ?_|refine QC (fun _ _ => ?_)))|(refine Qk ?_;(first|refine Qi ?_|refine QN rfl ?_|refine Q5 ?_))|(refine Qj ?_;(first|refine Qn ?_|refine Qc ?_|refine Qf ?_|refine Qx ?_|refine Ql rfl ?_|refine Qp rfl (by omega) ?_)))
     refine ⟨i + 1, ⟨by omega, fun j hj => ?_⟩, by omega, ?_⟩
     ·rcases Nat.lt_or_ge j i with h|h
      ·exact hall j h
      ·have : j = i := by omega
       subst this;rw [if_pos hik, hgd];exact hbi
     ·exact zal rfl
   ·have hfi := hl2 i hil som
    cases hbi : fs.getD i noF som with
    | false =>
     have hA : allI (fun i => fs.getD i noF (if i < kids.length then kids.getD i 0 else som)) ks.length = false := by
      rw [Bool.eq_false_iff]
      intro h
      have := allI_iff.1 h i hil
      rw [if_neg hik, hbi] at this;cases this
     rw [hA]
     rw [hbi] at hfi
     clear hl2 hall
     (repeat' first|(refine Qe ?_;(first|refine QG rfl ?_|refine QJ rfl ?_|(refine Qz ?_;(first|refine WF rfl rfl ?_|refine QD rfl ?_|refine Qb rfl rfl rfl ?_))|refine Qv rfl rfl (by first|assumption|omega|(simp;done)|(simp;omega)) ?_|refine Q1 rfl rfl ?_|(refine Qq ?_;(first|refine Qt rfl ?_|refine QZ rfl rfl (hfi) ?_))|refine WR rfl rfl rfl rfl ?_|refine Wn rfl ?_|refine Qd rfl rfl ?_|refine QC (fun _ _ => ?_)))|(refine Qk ?_;(first|refine Qi ?_|refine QN rfl ?_|refine Q5 ?_))|(refine Qj ?_;(first|refine Qn ?_|refine Qc ?_|refine Qf ?_|refine Qx ?_|refine Qh rfl ?_|refine Qp rfl (by omega) ?_|refine Qm rfl (by omega) ?_|refine Qs ?_)))
     all_goals exact e_1 (Tryz.results75) (Qg rfl) (Zc (σ := []) ⟨rfl, rfl⟩)
    | true =>
     rw [hbi] at hfi
     clear hl2
     (repeat' first|(refine Qe ?_;(first|refine QG rfl ?_|refine QJ rfl ?_|(refine Qz ?_;(first|refine WF rfl rfl ?_|refine QD rfl ?_|refine Qb rfl rfl rfl ?_))|refine Qv rfl rfl (by first|assumption|omega|(simp;done)|(simp;omega)) ?_|(refine Qo ?_;(first|refine Q1 rfl rfl ?_|refine W3 rfl rfl (by omega) ?_))|(refine Qq ?_;(first|refine Qt rfl ?_|refine QZ rfl rfl (hfi) ?_))|refine WR rfl rfl rfl rfl ?_|refine Wn rfl ?_|refine Qd rfl rfl ?_|refine QC (fun _ _ => ?_)))|(refine Qk ?_;(first|refine Qi ?_|refine QN rfl ?_|refine Q5 ?_))|(refine Qj ?_;(first|refine Qn ?_|refine Qc ?_|refine Qf ?_|refine Qx ?_|refine Ql rfl ?_|refine Qp rfl (by omega) ?_|refine Qm rfl (by omega) ?_)))
     refine ⟨i + 1, ⟨by omega, fun j hj => ?_⟩, by omega, ?_⟩
     ·rcases Nat.lt_or_ge j i with h|h
      ·exact hall j h
      ·have : j = i := by omega
       subst this;rw [if_neg hik];exact hbi
     ·exact zal rfl
  ·have hiv : i = ks.length := by omega
   subst hiv
   have hA : allI (fun i => fs.getD i noF (if i < kids.length then kids.getD i 0 else som)) ks.length = true := allI_iff.2 hall
   rw [hA]
   clear hl2 hall
   (repeat' first|(refine Qe ?_;(first|refine QJ rfl ?_|refine Q1 rfl rfl ?_))|(refine Qk ?_;(first|refine Qi ?_|refine QN rfl ?_))|(refine Qj ?_;(first|refine Qn ?_|refine Qc ?_|refine Qm rfl (by omega) ?_|refine WI rfl ?_|refine Qs ?_)))
   exact e_1 (Tryz.results75) (Qg rfl) (Zc (σ := []) (r := [_, _]) ⟨rfl, rfl⟩)
theorem valid_c (hG0 : G 0 = shapesT) (t : Nd) (hsz : Qu t <= 1000000) : Go.Av.Pure Tryz.prog G 31 [.agg (Enc.enc t)] (.b (validM t)) := fun B => by
 have hsiz := trSize_c (G := G) t (by omega)
 have hdep := trDepth_c (G := G) t (by omega)
 have hfit := fits_c hG0 t hsz 0
 unfold validM
 by_cases h1 : Qu t <= 256
 ·by_cases h2 : Ww t <= 16
  ·rw [decide_eq_true h1, decide_eq_true h2, Bool.true_and, Bool.true_and]
   refine Qa Tryz.func31 rfl Tryz.ntmps31 rfl (t := [(0, .agg (Enc.enc t))]) rfl fun E hE => ?_
   (repeat' first|(refine Qe ?_;(first|refine QG rfl ?_|refine QJ rfl ?_|refine WF rfl rfl ?_|refine Zp rfl rfl ?_|(refine Qq ?_;(first|refine QZ rfl rfl (hsiz) ?_|refine QZ rfl rfl (hdep) ?_|refine QZ rfl rfl (hfit) ?_))|refine WO rfl rfl ?_|refine QU rfl rfl (fun _ _ => ?_)))|(refine Qk ?_;(first|refine Qi ?_|refine QN rfl ?_|refine WD rfl rfl rfl rfl ?_|refine We rfl rfl (by omega) ?_))|(refine Qj ?_;(first|refine Qn ?_|refine Qc ?_|refine Qs ?_)))
   all_goals exact e_1 (Tryz.results31) (Qg rfl) (Zc (σ := []) (r := [_]) ⟨rfl, rfl⟩)
  ·rw [decide_eq_true h1, decide_eq_false h2, Bool.true_and, Bool.false_and]
   refine Qa Tryz.func31 rfl Tryz.ntmps31 rfl (t := [(0, .agg (Enc.enc t))]) rfl fun E hE => ?_
   (repeat' first|(refine Qe ?_;(first|refine QG rfl ?_|refine QJ rfl ?_|refine WF rfl rfl ?_|refine Zp rfl rfl ?_|(refine Qq ?_;(first|refine QZ rfl rfl (hsiz) ?_|refine QZ rfl rfl (hdep) ?_))|(refine Q4 ?_;(first|refine WO rfl rfl ?_|refine Wr rfl rfl ?_))|refine QU rfl rfl (fun _ _ => ?_)))|(refine Qk ?_;(first|refine Qi ?_|refine QN rfl ?_|refine WD rfl rfl rfl rfl ?_|refine W2 rfl rfl rfl rfl ?_|refine We rfl rfl (by omega) ?_|refine Q6 rfl rfl (by omega) ?_))|(refine Qj ?_;(first|refine Qn ?_|refine Qc ?_|refine Qs ?_)))
   all_goals exact e_1 (Tryz.results31) (Qg rfl) (Zc (σ := []) (r := [_]) ⟨rfl, rfl⟩)
 ·rw [decide_eq_false h1, Bool.false_and, Bool.false_and]
  refine Qa Tryz.func31 rfl Tryz.ntmps31 rfl (t := [(0, .agg (Enc.enc t))]) rfl fun E hE => ?_
  (repeat' first|(refine Qe ?_;(first|refine QG rfl ?_|refine QJ rfl ?_|refine WF rfl rfl ?_|refine Zp rfl rfl ?_|refine QZ rfl rfl (hsiz) ?_|refine Wr rfl rfl ?_|refine QU rfl rfl (fun _ _ => ?_)))|(refine Qk ?_;(first|refine Qi ?_|refine QN rfl ?_|refine W2 rfl rfl rfl rfl ?_|refine Q6 rfl rfl (by omega) ?_))|(refine Qj ?_;(first|refine Qn ?_|refine Qc ?_|refine Qs ?_)))
  all_goals exact e_1 (Tryz.results31) (Qg rfl) (Zc (σ := []) (r := [_]) ⟨rfl, rfl⟩)
end Go.Proofs
end
section
namespace Go.Proofs
open Go.Av Go.Bl
theorem scan_nil {s : List UInt8} {a : Nat} (h : Z2 (s.dropWhile spB) = []) : ZI s a = ([], a + (s.length - (s.dropWhile spB).length)) := by
 rw [ZI];simp only;rw [dif_pos h]
theorem scan_cons {s r t : List UInt8} {a b : Nat} (hr : s.dropWhile spB = r) (ht : Z2 r = t) (h : t ≠ []) (hb : b = a + (s.length - r.length)) :
  ZI s a = ((t, b) :: (ZI (r.drop t.length) (b + t.length)).1, (ZI (r.drop t.length) (b + t.length)).2) := by
 subst hr ht hb
 rw [ZI];simp only;rw [dif_neg h]
end Go.Proofs
end
section
namespace Go.Proofs
open Go.Av
variable {G : Nat -> DV}
attribute [local irreducible] OpSem Zd Zx ZL ACalls qt AClose RV
open Go.Bl
def parseM (z : Nd) (s : List UInt8) : Nd × Int :=
 if 8192 < s.length then (zNd, 8192)
 else if (qV (ZI s 0).1 z ((ZI s 0).1.length + 3)).2.bad = true then
  (if h : (qV (ZI s 0).1 z ((ZI s 0).1.length + 3)).2.p < (ZI s 0).1.length then (zNd, ((ZI s 0).1[(qV (ZI s 0).1 z ((ZI s 0).1.length + 3)).2.p].2 : Int)) else (zNd, ((ZI s 0).2 : Int)))
 else if (ZI s 0).2 < s.length then (zNd, ((ZI s 0).2 : Int))
 else if validM (qV (ZI s 0).1 z ((ZI s 0).1.length + 3)).1 = true then ((qV (ZI s 0).1 z ((ZI s 0).1.length + 3)).1, -1) else (zNd, 0)
theorem tup_nil {L : Lay} {a b c d : DV} {es : Nat} {v : Value} (h : VRep L (.tup [.agg [a, b, c, .sc (.slice none 0 0)], d]) v) : VRep L (.tup [.agg [a, b, c, .sl es []], d]) v := by
 cases h with|tup _ vs hl hg =>
 refine .tup _ _ hl fun j e hj => ?_
 match j with
 | 0 => simp at hj;subst hj;exact agg4_nil (hg 0 _ rfl)
 | j + 1 => exact hg (j + 1) e hj
theorem scan_ok (s : List UInt8) (hs : s.length <= 8192) : OkL (ZI s 0).1 /\ (ZI s 0).2 <= s.length /\ (ZI s 0).1.length <= s.length /\ ∀ x ∈ (ZI s 0).1, x.2 <= s.length := by
 have key : ∀ (n : Nat) (u : List UInt8) (a : Nat), u.length = n -> ((ZI u a).2 <= a + u.length /\ (ZI u a).1.length <= u.length /\ ∀ x ∈ (ZI u a).1, x.1 ≠ [] /\ x.1.length <= u.length /\ x.2 <= a + u.length) := by
  intro n
  induction n using Nat.strongRecOn with
  | _ n ih =>
  intro u a hu
  have hd := (List.dropWhile_sublist (l := u) spB).length_le
  by_cases hf : Z2 (u.dropWhile spB) = []
  ·rw [scan_nil hf]
   refine ⟨by show a + (u.length - (u.dropWhile spB).length) <= a + u.length;omega, Nat.zero_le _, fun x hx => by cases hx⟩
  ·have hle := firstM_le (u.dropWhile spB)
   have hpos : 1 <= (Z2 (u.dropWhile spB)).length := by
    cases hq : Z2 (u.dropWhile spB) with
    | nil => exact absurd hq hf
    | cons b q => simp
   rw [scan_cons rfl rfl hf rfl]
   have hdl : ((u.dropWhile spB).drop (Z2 (u.dropWhile spB)).length).length = (u.dropWhile spB).length - (Z2 (u.dropWhile spB)).length := List.length_drop
   obtain ⟨i1, i2, i3⟩ := ih _ (by rw [hdl];omega) ((u.dropWhile spB).drop (Z2 (u.dropWhile spB)).length) (a + (u.length - (u.dropWhile spB).length) + (Z2 (u.dropWhile spB)).length) rfl
   rw [hdl] at i1 i2 i3
   refine ⟨by dsimp only;omega, by rw [List.length_cons];omega, fun x hx => ?_⟩
   rcases List.mem_cons.1 hx with rfl|hx
   ·exact ⟨hf, by dsimp only;omega, by dsimp only;omega⟩
   ·obtain ⟨j1, j2, j3⟩ := i3 x hx
    exact ⟨j1, by omega, by omega⟩
 obtain ⟨h1, h2, h3⟩ := key _ s 0 rfl
 exact ⟨⟨by omega, fun x hx => ⟨(h3 x hx).1, by have := (h3 x hx).2.1;omega⟩⟩, by omega, h2, fun x hx => by have := (h3 x hx).2.2;omega⟩
theorem parse_c (hG0 : G 0 = shapesT) (hG1 : G 1 = spaceT) (s : List UInt8) (hsl : s.length <= 1000000000) : Go.Av.Pure Tryz.prog G 23 [WQ s] (.tup [.agg (Enc.enc (parseM zP s).1), .i (parseM zP s).2]) := fun B => by
 unfold parseM
 by_cases h8 : 8192 < s.length
 ·rw [if_pos h8]
  refine Qa Tryz.func23 rfl Tryz.ntmps23 rfl (t := [(0, WQ s)]) rfl fun E hE => ?_
  (repeat' first|(refine Qe ?_;(first|refine QG rfl ?_|refine QJ rfl ?_|refine Z6 rfl rfl ?_|refine WM rfl ?_|refine WR rfl rfl rfl rfl ?_|refine QQ rfl rfl ?_|refine QC (fun _ _ => ?_)))|(refine Qk ?_;(first|refine Qi ?_|refine QN rfl ?_|refine Q5 ?_))|(refine Qj ?_;(first|refine Qn ?_|refine Qc ?_|refine Qp rfl (by omega) ?_|refine Qs ?_)))
  exact e_2 (Tryz.results23) (QH (size := 4) rfl rfl rfl rfl) (Qg rfl) (ZB (d2 := .tup [.agg [.i 0, .i 0, .i 0, .sl 4 []], .i 8192]) (fun L v h => tup_nil h) (Qw (by show _ = DV.tup [.agg (Enc.enc zNd), .i 8192];unfold zNd;rw [QW];rfl)))
 rw [if_neg h8]
 have hscan := scan_c (G := G) hG1 s (by omega)
 obtain ⟨hL, he, hlen, hat⟩ := scan_ok s (by omega)
 generalize (ZI s 0).2 = e at *
 generalize (ZI s 0).1 = L at *
 obtain ⟨q, hqq⟩ : ∃ q, q = L.length + 3 := ⟨_, rfl⟩
 rw [<- hqq]
 have hq : L.length + 3 <= q := by omega
 have hfn := fun Q => fun_rc (G := G) hG1 L hL q hq (by omega) Q
 have hea := eats_fun L zP q
 have hkw := kw_fun (L := L) (z := zP) q
 have hps := fun h => Nat.le_trans (prog_size (L := L) (z := zP) q h) (prog_in q)
 have hpa : qV L zP q = (Nd.mk 27 (QK L (Wa L qn ⟨0, false⟩)).1 0 (W9 L (q9 L zP q) q [] (QK L (Wa L qn ⟨0, false⟩)).2).1, (W9 L (q9 L zP q) q [] (QK L (Wa L qn ⟨0, false⟩)).2).2) := rfl
 rw [hpa] at hps ⊢
 clear hpa
 generalize q9 L zP q = F at *
 have htk := take_c (G := G) L ⟨0, false⟩ hL qn (by decide)
 have hmt := (mm_take (L := L) (S := ⟨0, false⟩) qn (by decide)).1
 have hr0 : rM L ⟨0, false⟩ = L.length := by unfold rM;simp
 generalize Wa L qn ⟨0, false⟩ = S1 at *
 have hnm := qK (G := G) L S1 hL
 have hmn := (jr (L := L) (F := QK L) (fun i => J.numeral (Ag.refl L i)) S1).2
 generalize (QK L S1).1 = v at *
 generalize (QK L S1).2 = S2 at *
 have htl : (tks L).length = L.length := by simp [tks]
 dsimp only at hps ⊢
 refine Qa Tryz.func23 rfl Tryz.ntmps23 rfl (t := [(0, WQ s)]) rfl fun E hE => ?_
 (repeat' first|(refine Qe ?_;(first|refine QG rfl ?_|refine QJ rfl ?_|refine Z6 rfl rfl ?_|(refine Qq ?_;(first|refine WM rfl ?_|refine QZ rfl rfl (hscan) ?_|refine Wi 1 (htk) rfl rfl rfl rfl ?_|refine Wi 1 (hnm) rfl rfl rfl rfl ?_))|refine WR rfl rfl rfl rfl ?_|refine QI rfl rfl rfl ?_|refine QQ rfl rfl ?_|refine QC (fun _ _ => ?_)|refine QU rfl rfl (fun _ _ => ?_)))|(refine Qk ?_;(first|refine Qi ?_|refine QN rfl ?_|refine Q5 ?_))|(refine Qj ?_;(first|refine Qn ?_|refine Qc ?_|refine Qf ?_|refine Qx ?_|refine Qm rfl (by omega) ?_)))
 rename_i g2 hg2 gr hgr gn hgn
 refine r_ownin 2 3 4 rfl rfl (fun _ => rfl) (fun gk hgk => ?_)
 refine r_loop3n (fun (o : List Nd) (Q : RS) (gg : Nat) => ⟨[(0, WQ s), (2, .ptr 0 g2 0), (4, QR (tks L)), (5, .i e), (6, .ptr 1 gr 0), (7, .ptr 2 gn 0)], [.row g2 [.i 0, .i 0, .i 0, .nil], .row gr (rdC L Q), .row gn [.i 27, .i v, .i 0, .ref 3 gg 0 o.length 4], .row gg (Ws o)]⟩) (fun o Q gg => E.N < gg /\ o.length + mM L Q <= L.length /\ ∃ k', W9 L F q [] S2 = W9 L F k' o Q /\ mM L Q + 1 <= k') (fun o Q gg => mM L Q) [] S2 gk ?_ ⟨hgk, by simp;omega, q, rfl, by omega⟩ ?_
 ·exact zal rfl
 intro o Q gg ⟨hgg, hq2, k', hk1, hk2⟩
 have hol : o.length <= 2000000 := by omega
 rw [hk1] at hps ⊢
 have c1 := QX o
 cases hb : Q.bad with
 | true =>
  have hend : W9 L F k' o Q = (o, Q) := by
   cases k' with
   | zero => rfl
   | succ k2 => rw [W9, if_neg (by rw [hb];simp)]
  rw [hend]
  dsimp only
  rw [if_pos hb]
  clear hps hk1 hend hfn hkw hea
  have ecell : rdC L Q = [QR (tks L), .i (Q.p : Nat), .i (Q.p : Nat)] := by unfold rdC badI;rw [if_pos hb]
  rw [ecell]
  by_cases hpl : Q.p < L.length
  ·rw [dif_pos hpl]
   have hpl2 : Q.p < (tks L).length := by omega
   have hta : ((tks L)[Q.p].a : Int) = (L[Q.p].2 : Int) := by rw [tks_get hpl]
   (repeat' first|(refine Qe ?_;(first|refine QG rfl ?_|refine QJ rfl ?_|refine Qb rfl rfl rfl ?_|(refine Qo ?_;(first|refine Q1 rfl rfl ?_|refine W0 rfl rfl ?_))|refine Qt rfl ?_|(refine Q4 ?_;(first|refine WO rfl rfl ?_|refine Wr rfl rfl ?_))|refine WR rfl rfl rfl rfl ?_|refine Qd rfl rfl ?_|refine QA rfl rfl ?_))|(refine Qk ?_;(first|refine Qi ?_|refine QN rfl ?_|refine WD rfl rfl rfl rfl ?_|refine W2 rfl rfl rfl rfl ?_))|(refine Qj ?_;(first|refine Qn ?_|refine Qc ?_|refine Qf ?_|(refine Wg ?_;first|(refine QB (fun p => p.1 :: .row gr [QR (tks L), .i (Q.p : Nat), .i (Q.p : Nat)] :: p.2) 100 [(1, true), (2, true), (3, true), (4, true), (5, true), (6, true), (7, true), (8, true), (0, true), (9, false), (10, true)] (by rfl) (by rfl) (by kernel_rfl) (by decide +kernel) (by decide +kernel) ⟨(_, _), rfl⟩ ?_)|(refine QB (fun p => .row g2 [.i 0, .i 0, .i 0, .nil] :: p.1 :: .row gn [.i 27, .i v, .i 0, .ref 3 gg 0 o.length 4] :: p.2) 7 [(0, true), (1, true), (2, true), (3, false), (4, true), (5, false), (6, true), (7, false)] (by rfl) (by rfl) (by kernel_rfl) (by decide +kernel) (by decide +kernel) ⟨(_, _), rfl⟩ ?_)|refine Q3 (by rfl) (by kernel_rfl) (by kernel_rfl) ?_|refine Q2 (by kernel_rfl) (by kernel_rfl) ?_)|refine Ql rfl ?_|refine Qp rfl (by omega) ?_|refine WI rfl ?_|refine Qs ?_))|(refine Ze ?_;(first|refine Z1 ?_|refine i_st rfl rfl (fun _ => (by (repeat' first|(refine Qe ?_;(first|refine QG rfl ?_|refine QJ rfl ?_|(refine Qz ?_;(first|refine QM rfl ?_|refine Qb rfl rfl rfl ?_))|refine Qv rfl rfl (by first|assumption|omega|(simp;done)|(simp;omega)) ?_|(refine g_fieldAddr ?_;(first|refine Qd rfl rfl ?_|refine s_fld_ep rfl rfl ?_))|refine QQ rfl rfl ?_|refine QA rfl rfl ?_))|exact ⟨rfl, rfl⟩))) ?_|refine i_ef0 ?_))|refine And.intro (Exists.intro ((_, _)) rfl) ?_)
   exact e_2 (Tryz.results23) (QH (size := 4) rfl rfl rfl rfl) (Qg rfl) (ZB (d2 := .tup [.agg [.i 0, .i 0, .i 0, .sl 4 []], .i (tks L)[Q.p].a]) (fun L v h => tup_nil h) (Qw (by rw [hta];show _ = DV.tup [.agg (Enc.enc zNd), _];unfold zNd;rw [QW];rfl)))
  ·rw [dif_neg hpl]
   (repeat' first|(refine Qe ?_;(first|refine QG rfl ?_|refine QJ rfl ?_|refine Qb rfl rfl rfl ?_|(refine Qo ?_;(first|refine Q1 rfl rfl ?_|refine W0 rfl rfl ?_))|refine Qt rfl ?_|(refine Q4 ?_;(first|refine WO rfl rfl ?_|refine Wr rfl rfl ?_))|refine WR rfl rfl rfl rfl ?_|refine Qd rfl rfl ?_|refine QQ rfl rfl ?_|refine QA rfl rfl ?_))|(refine Qk ?_;(first|refine Qi ?_|refine QN rfl ?_|refine Q5 ?_|refine WD rfl rfl rfl rfl ?_|refine W2 rfl rfl rfl rfl ?_))|(refine Qj ?_;(first|refine Qn ?_|refine Qc ?_|refine Qf ?_|refine Qh rfl ?_|refine Ql rfl ?_|refine Qm rfl (by omega) ?_|refine WI rfl ?_|refine Qs ?_)))
   exact e_2 (Tryz.results23) (QH (size := 4) rfl rfl rfl rfl) (Qg rfl) (ZB (d2 := .tup [.agg [.i 0, .i 0, .i 0, .sl 4 []], .i e]) (fun L v h => tup_nil h) (Qw (by show _ = DV.tup [.agg (Enc.enc zNd), _];unfold zNd;rw [QW];rfl)))
 | false =>
  have hbi := bad_neg hb
  match k', hk1, hk2 with
  | k2 + 1, hk1, hk2 =>
  by_cases hpl : Q.p < L.length
  ·have hrec : W9 L F (k2 + 1) o Q = W9 L F k2 (o ++ [(F Q).1]) (F Q).2 := by rw [W9, if_pos ⟨hb, hpl⟩]
   have hlt := hea Q hb
   have hfun := hfn Q
   clear hps hk1 hfn hkw hea
   generalize hx2 : (F Q).1 = xb at *
   generalize hS2 : (F Q).2 = S3 at *
   (repeat' first|(refine Qe ?_;(first|refine QG rfl ?_|refine Qb rfl rfl rfl ?_|refine Q1 rfl rfl ?_|(refine Qq ?_;(first|refine ZD (z := xb) rfl rfl rfl rfl rfl rfl rfl (by first|omega|(simp;omega)) (by first|omega|(simp;omega)) (fun _ => rfl) (fun _ _ => ?_)|refine Qt rfl ?_|refine Wi 1 (hfun) rfl rfl rfl rfl ?_))|refine WO rfl rfl ?_|refine Q7 rfl rfl rfl rfl (by rfl) (by rfl) (by rfl) ?_|refine Qd rfl rfl ?_|refine QA rfl rfl ?_))|(refine Qk ?_;(first|refine Qi ?_|refine QN rfl ?_|refine WD rfl rfl rfl rfl ?_|refine We rfl rfl (by omega) ?_))|(refine Qj ?_;(first|refine Qn ?_|refine Qc ?_|refine Qf ?_|(refine Wg ?_;first|(refine QB (fun p => p.1 :: .row gr [QR (tks L), .i (Q.p : Nat), .i (Q.p : Nat)] :: p.2) 100 [(1, true), (2, true), (3, true), (4, true), (5, true), (6, true), (7, true), (8, true), (0, true), (9, false), (10, true)] (by rfl) (by rfl) (by kernel_rfl) (by decide +kernel) (by decide +kernel) ⟨(_, _), rfl⟩ ?_)|(refine QB (fun p => .row g2 [.i 0, .i 0, .i 0, .nil] :: p.1 :: .row gn [.i 27, .i v, .i 0, .ref 3 gg 0 o.length 4] :: p.2) 7 [(0, true), (1, true), (2, true), (3, false), (4, true), (5, false), (6, true), (7, false)] (by rfl) (by rfl) (by kernel_rfl) (by decide +kernel) (by decide +kernel) ⟨(_, _), rfl⟩ ?_)|refine Q3 (by rfl) (by kernel_rfl) (by kernel_rfl) ?_|refine Q2 (by kernel_rfl) (by kernel_rfl) ?_)|refine Qx ?_|refine Qp rfl (by omega) ?_))|(refine Ze ?_;(first|refine Z1 ?_|refine i_z0 ?_|refine i_st rfl rfl (fun _ => (by (repeat' first|(refine Qe ?_;(first|refine QG rfl ?_|refine Qb rfl rfl rfl ?_|refine Wc (z := xb) rfl rfl (by decide) ?_|refine Qd rfl rfl ?_))|exact ⟨rfl, rfl⟩))) ?_|refine i_ef rfl ?_))|refine And.intro (Exists.intro ((_, _)) rfl) ?_)
   refine ⟨o ++ [xb], S3, _, ⟨by assumption, by simp;omega, k2, hrec, by omega⟩, by omega, ?_⟩
   exact zal rfl
  ·have hend : W9 L F (k2 + 1) o Q = (o, Q) := by rw [W9, if_neg (by rw [hb];simp;omega)]
   rw [hend] at hps ⊢
   dsimp only at hps ⊢
   rw [if_neg (by rw [hb];decide)]
   have hsz : Qu (.mk 27 v 0 o) <= 1000000 := by
    have := hps hb
    omega
   have hval := valid_c hG0 (.mk 27 v 0 o) hsz
   rw [QW] at hval
   clear hps hk1 hend hfn hkw hea
   refine r_pubin 2 3 rfl rfl rfl c1.symm rfl rfl ?_
   by_cases hes : e < s.length
   ·rw [if_pos hes]
    (repeat' first|(refine Qe ?_;(first|refine QG rfl ?_|refine QJ rfl ?_|refine Qb rfl rfl rfl ?_|(refine Qo ?_;(first|refine Q1 rfl rfl ?_|refine W0 rfl rfl ?_))|(refine Qq ?_;(first|refine Qt rfl ?_|refine WM rfl ?_))|(refine Q4 ?_;(first|refine WO rfl rfl ?_|refine Wr rfl rfl ?_))|refine WR rfl rfl rfl rfl ?_|refine Qd rfl rfl ?_|refine QQ rfl rfl ?_|refine QA rfl rfl ?_))|(refine Qk ?_;(first|refine Qi ?_|refine QN rfl ?_|refine Q5 ?_|refine WD rfl rfl rfl rfl ?_|refine W2 rfl rfl rfl rfl ?_|refine We rfl rfl (by omega) ?_|refine Q6 rfl rfl (by omega) ?_))|(refine Qj ?_;(first|refine Qn ?_|refine Qc ?_|refine Qf ?_|refine Ql rfl ?_|refine Qp rfl (by omega) ?_|refine Qm rfl (by omega) ?_|refine WI rfl ?_|refine Qs ?_)))
    exact e_2 (Tryz.results23) (QH (size := 4) rfl rfl rfl rfl) (Qg rfl) (ZB (d2 := .tup [.agg [.i 0, .i 0, .i 0, .sl 4 []], .i e]) (fun L v h => tup_nil h) (Qw (by show _ = DV.tup [.agg (Enc.enc zNd), _];unfold zNd;rw [QW];rfl)))
   ·rw [if_neg hes]
    cases hvv : validM (.mk 27 v 0 o) with
    | true =>
     rw [hvv] at hval
     rw [if_pos rfl]
     (repeat' first|(refine Qe ?_;(first|refine QG rfl ?_|refine QJ rfl ?_|(refine Qz ?_;(first|refine WF rfl rfl ?_|refine Qb rfl rfl rfl ?_))|(refine Qo ?_;(first|refine Q1 rfl rfl ?_|refine W0 rfl rfl ?_))|(refine Qq ?_;(first|refine Qt rfl ?_|refine WM rfl ?_|refine QZ rfl rfl (hval) ?_))|(refine Q4 ?_;(first|refine WO rfl rfl ?_|refine Wr rfl rfl ?_))|refine WR rfl rfl rfl rfl ?_|refine Wn rfl ?_|refine Qd rfl rfl ?_|refine QA rfl rfl ?_))|(refine Qk ?_;(first|refine Qi ?_|refine QN rfl ?_|refine Q5 ?_|refine WD rfl rfl rfl rfl ?_|refine W2 rfl rfl rfl rfl ?_|refine We rfl rfl (by omega) ?_|refine Q6 rfl rfl (by omega) ?_))|(refine Qj ?_;(first|refine Qn ?_|refine Qc ?_|refine Qf ?_|refine Qx ?_|refine Ql rfl ?_|refine Qm rfl (by omega) ?_|refine WI rfl ?_|refine Qs ?_)))
     exact e_2 (Tryz.results23) (QH (size := 4) rfl rfl rfl rfl) (Qg rfl) (Qw (by rw [QW];rfl))
    | false =>
     rw [hvv] at hval
     rw [if_neg (by decide)]
     (repeat' first|(refine Qe ?_;(first|refine QG rfl ?_|refine QJ rfl ?_|(refine Qz ?_;(first|refine WF rfl rfl ?_|refine Qb rfl rfl rfl ?_))|(refine Qo ?_;(first|refine Q1 rfl rfl ?_|refine W0 rfl rfl ?_))|(refine Qq ?_;(first|refine Qt rfl ?_|refine WM rfl ?_|refine QZ rfl rfl (hval) ?_))|(refine Q4 ?_;(first|refine WO rfl rfl ?_|refine Wr rfl rfl ?_))|refine WR rfl rfl rfl rfl ?_|refine Wn rfl ?_|refine Qd rfl rfl ?_|refine QQ rfl rfl ?_|refine QA rfl rfl ?_))|(refine Qk ?_;(first|refine Qi ?_|refine QN rfl ?_|refine Q5 ?_|refine WD rfl rfl rfl rfl ?_|refine W2 rfl rfl rfl rfl ?_|refine We rfl rfl (by omega) ?_|refine Q6 rfl rfl (by omega) ?_))|(refine Qj ?_;(first|refine Qn ?_|refine Qc ?_|refine Qf ?_|refine Qh rfl ?_|refine Ql rfl ?_|refine Qm rfl (by omega) ?_|refine WI rfl ?_|refine Qs ?_)))
     exact e_2 (Tryz.results23) (QH (size := 4) rfl rfl rfl rfl) (Qg rfl) (ZB (d2 := .tup [.agg [.i 0, .i 0, .i 0, .sl 4 []], .i 0]) (fun L v h => tup_nil h) (Qw (by show _ = DV.tup [.agg (Enc.enc zNd), _];unfold zNd;rw [QW];rfl)))
theorem nan_c (a : Int) : Go.Av.Pure Tryz.prog G 124 [.i a] (.b false) := fun B => by
 refine Qa Tryz.func124 rfl Tryz.ntmps124 rfl (t := [(0, .i a)]) rfl fun E hE => ?_
 (repeat' first|(refine Qe ?_;(first|refine QG rfl ?_|refine QJ rfl ?_|refine ZN rfl rfl ?_))|(refine Qk ?_;(first|refine Qi ?_|refine QN rfl ?_))|(refine Qj ?_;(first|refine Qn ?_|refine Qc ?_|refine Qs ?_)))
 refine e_1 Tryz.results124 (Qg rfl) (Qw ?_)
 simp
theorem cmpI_c (a : Int) : Go.Av.Pure Tryz.prog G 77 [.i a, .i a] (.i 0) := fun B => by
 refine Qa Tryz.func77 rfl Tryz.ntmps77 rfl (t := [(0, .i a), (1, .i a)]) rfl fun E hE => ?_
 (repeat' first|(refine Qe ?_;(first|refine QG rfl ?_|refine QJ rfl ?_|(refine Qo ?_;(first|refine Q1 rfl rfl ?_|refine Z6 rfl rfl ?_))|refine QZ rfl rfl (nan_c _) ?_))|(refine Qk ?_;(first|refine Qi ?_|refine QN rfl ?_))|(refine Qj ?_;(first|refine Qn ?_|refine Qc ?_|refine Qx ?_|refine Ql rfl ?_|refine Qm rfl (by omega) ?_|refine Qs ?_)))
 refine e_1 Tryz.results77 (Qg rfl) (Qw ?_)
 rfl
theorem or_c (l : List Int) (hl : l.length <= 4) (h : ∀ x ∈ l, x = 0) : Go.Av.Pure Tryz.prog G 76 [QR l] (.i 0) := fun B => by
 refine Qa Tryz.func76 rfl Tryz.ntmps76 rfl (t := [(0, QR l)]) rfl fun E hE => ?_
 (repeat' first|(refine Qe ?_;(first|refine QG rfl ?_|refine QJ rfl ?_|refine Qt rfl ?_))|(refine Qk ?_;(first|refine Qi ?_|refine QN rfl ?_))|(refine Qj ?_;(first|refine Qn ?_|refine Qc ?_|refine Qf ?_)))
 refine qb (fun (i : Nat) => ⟨[(3, .i 0), (6, QR l), (7, .i l.length), (8, .i i)], []⟩) (fun i => i <= l.length) (fun i => l.length - i) 0 ?_ (by omega) ?_
 ·exact zal rfl
 intro i hi
 by_cases hil : i < l.length
 ·have h0 := h _ (List.getElem_mem hil)
  (repeat' first|(refine Qe ?_;(first|refine QG rfl ?_|refine QJ rfl ?_|refine QM rfl ?_|refine Qv rfl rfl (by first|assumption|omega|(simp;done)|(simp;omega)) ?_|(refine Qo ?_;(first|refine Q1 rfl rfl ?_|refine ZN rfl rfl ?_|refine W3 rfl rfl (by omega) ?_))))|(refine Qk ?_;(first|refine Qi ?_|refine QN rfl ?_))|(refine Qj ?_;(first|refine Qn ?_|refine Qc ?_|refine Qf ?_|refine Qx ?_|refine Qp rfl (by omega) ?_|refine Qm rfl (by omega) ?_)))
  refine ⟨i + 1, by omega, by omega, ?_⟩
  exact zal rfl
 ·(repeat' first|(refine Qe ?_;(first|refine QG rfl ?_|refine QJ rfl ?_|refine Q1 rfl rfl ?_))|(refine Qk ?_;(first|refine Qi ?_|refine QN rfl ?_))|(refine Qj ?_;(first|refine Qn ?_|refine Qc ?_|refine Qm rfl (by omega) ?_|refine WI rfl ?_|refine Qs ?_)))
  refine e_1 Tryz.results76 (Qg rfl) (Qw ?_)
  rfl
theorem cmpF_c (l : List Nd) (hl : l.length <= 1000000) (h : ∀ x ∈ l, Go.Av.Pure Tryz.prog G 32 [.agg (Enc.enc x), .agg (Enc.enc x)] (.i 0)) : Go.Av.Pure Tryz.prog G 78 [QR l, QR l, .fn (.func 32) [] []] (.i 0) := fun B => by
 refine Qa Tryz.func78 rfl Tryz.ntmps78 rfl (t := [(0, QR l), (1, QR l), (2, .fn (.func 32) [] [])]) rfl fun E hE => ?_
 (repeat' first|(refine Qe ?_;(first|refine QG rfl ?_|refine QJ rfl ?_|refine Qt rfl ?_))|(refine Qk ?_;(first|refine Qi ?_|refine QN rfl ?_))|(refine Qj ?_;(first|refine Qn ?_|refine Qc ?_|refine Qf ?_)))
 refine qb (fun (i : Nat) => ⟨[(0, QR l), (1, QR l), (2, .fn (.func 32) [] []), (11, QR l), (12, .i l.length), (13, .i i)], []⟩) (fun i => i <= l.length) (fun i => l.length - i) 0 ?_ (by omega) ?_
 ·exact zal rfl
 intro i hi
 by_cases hil : i < l.length
 ·have hfi := h _ (List.getElem_mem hil)
  clear h
  (repeat' first|(refine Qe ?_;(first|refine QG rfl ?_|refine QJ rfl ?_|(refine Qz ?_;(first|refine WF rfl rfl ?_|refine QD rfl ?_))|refine Qv rfl rfl (by first|assumption|omega|(simp;done)|(simp;omega)) ?_|(refine Qo ?_;(first|refine Q1 rfl rfl ?_|refine W0 rfl rfl ?_|refine ZN rfl rfl ?_|refine W3 rfl rfl (by omega) ?_))|(refine Qq ?_;(first|refine Qt rfl ?_|refine qy rfl (hfi) (by repeat' first|exact Wf|exact Wu _|exact WB (QO _)|exact QO _|refine ZG ?_ ?_|refine Zq ?_|refine Wv ?_|refine Wp ?_|exact WL|refine Q8 ?_ ?_|refine WB ?_) ?_))|refine WR rfl rfl rfl rfl ?_|refine QC (fun _ _ => ?_)))|(refine Qk ?_;(first|refine Qi ?_|refine QN rfl ?_|refine Q5 ?_))|(refine Qj ?_;(first|refine Qn ?_|refine Qc ?_|refine Qf ?_|refine Qx ?_|refine Ql rfl ?_|refine Qp rfl (by omega) ?_|refine Qm rfl (by omega) ?_)))
  refine ⟨i + 1, by omega, by omega, ?_⟩
  exact zal rfl
 ·clear h
  (repeat' first|(refine Qe ?_;(first|refine QG rfl ?_|refine QJ rfl ?_|refine Q1 rfl rfl ?_|refine Qt rfl ?_))|(refine Qk ?_;(first|refine Qi ?_|refine QN rfl ?_))|(refine Qj ?_;(first|refine Qn ?_|refine Qc ?_|refine Qx ?_|refine Qm rfl (by omega) ?_|refine WI rfl ?_|refine Qs ?_)))
  refine e_1 Tryz.results78 (Qg rfl) (Qw ?_)
  rfl
theorem trCompare_c (t : Nd) : Qu t <= 1000000 -> Go.Av.Pure Tryz.prog G 32 [.agg (Enc.enc t), .agg (Enc.enc t)] (.i 0) := by
 induction t using Nd.ind with
 | h k n m ks ih =>
 intro hsz B
 have hse : Qu (.mk k n m ks) = 1 + QT ks := by rw [Qu]
 rw [hse] at hsz
 have hln := WC ks
 have hcf := cmpF_c (G := G) ks (by omega) fun x hx => ih x hx (by have := QY hx;omega)
 have h4 : ∀ x ∈ [(0 : Int), 0, 0, 0], x = 0 := by decide
 clear ih
 rw [QW]
 refine Qa Tryz.func32 rfl Tryz.ntmps32 rfl (t := [(0, .agg [.i k, .i n, .i m, QR ks]), (1, .agg [.i k, .i n, .i m, QR ks])]) rfl fun E hE => ?_
 (repeat' first|(refine Qe ?_;(first|refine QJ rfl ?_|refine QU rfl rfl (fun _ _ => ?_)))|(refine Qk ?_;(first|refine Qi ?_|refine QN rfl ?_))|(refine Qj ?_;(first|refine Qn ?_|refine Qc ?_|(refine Wg ?_;first|refine Q3 (by rfl) (by kernel_rfl) (by kernel_rfl) ?_|refine Q2 (by kernel_rfl) (by kernel_rfl) ?_)|refine Qs ?_))|(refine Zw ?_;(first|refine x_op rfl (by (repeat' first|(refine Qe ?_;(first|refine QJ rfl ?_|refine Qb rfl rfl rfl ?_|(refine Qq ?_;(first|refine QZ rfl rfl (cmpI_c _) ?_|refine QZ rfl rfl (or_c _ (by decide) h4) ?_|refine QZ rfl rfl (hcf) ?_))|refine W1 (cs := Ws [(0 : Int), 0, 0, 0]) rfl rfl (by decide) rfl ?_|refine Qd rfl rfl ?_))|exact ⟨rfl, rfl⟩)) ?_|refine Zr ?_)))
 all_goals exact e_1 (Tryz.results32) (Qg rfl) (Qw rfl)
theorem sign_c (a : Int) : Go.Av.Pure Tryz.prog G 120 [.i a, .i a] (.i 0) := fun B => by
 refine Qa Tryz.func120 rfl Tryz.ntmps120 rfl (t := [(0, .i a), (1, .i a)]) rfl fun E hE => ?_
 (repeat' first|(refine Qe ?_;(first|refine QG rfl ?_|refine QJ rfl ?_|(refine Qo ?_;(first|refine Q1 rfl rfl ?_|refine Z6 rfl rfl ?_))))|(refine Qk ?_;(first|refine Qi ?_|refine QN rfl ?_))|(refine Qj ?_;(first|refine Qn ?_|refine Qc ?_|refine Qx ?_|refine Qm rfl (by omega) ?_|refine Qs ?_)))
 refine e_1 Tryz.results120 (Qg rfl) (Qw ?_)
 rfl
theorem r05Compare_c (t : Nd) : Qu t <= 1000000 -> Go.Av.Pure Tryz.prog G 66 [.agg (Enc.enc t), .agg (Enc.enc t)] (.i 0) := by
 induction t using Nd.ind with
 | h k n m ks ih =>
 intro hsz B
 have hse : Qu (.mk k n m ks) = 1 + QT ks := by rw [Qu]
 rw [hse] at hsz
 have hln := WC ks
 have hx : ∀ x ∈ ks, Go.Av.Pure Tryz.prog G 66 [.agg (Enc.enc x), .agg (Enc.enc x)] (.i 0) := fun x hx => ih x hx (by have := QY hx;omega)
 clear ih
 rw [QW]
 refine Qa Tryz.func66 rfl Tryz.ntmps66 rfl (t := [(0, .agg [.i k, .i n, .i m, QR ks]), (1, .agg [.i k, .i n, .i m, QR ks])]) rfl fun E hE => ?_
 (repeat' first|(refine Qe ?_;(first|refine QJ rfl ?_|refine Qb rfl rfl rfl ?_|refine W1 (cs := Ws [(k : Int), n, m]) rfl rfl (by decide) rfl ?_|refine Qd rfl rfl ?_|refine QU rfl rfl (fun _ _ => ?_)))|(refine Qk ?_;(first|refine Qi ?_|refine QN rfl ?_))|(refine Qj ?_;(first|refine Qn ?_|refine Qc ?_|refine Qf ?_)))
 rename_i g2 hg2 g3 hg3
 generalize hxs : [k, n, m] = xs at *
 have hxl : xs.length = 3 := by rw [<- hxs];rfl
 refine qb (fun (i : Nat) => ⟨[(2, .ptr 0 g2 0), (3, .ptr 1 g3 0), (5, QR xs), (6, QR xs), (7, .i i)], [.row g2 [.i k, .i n, .i m, QR ks], .row g3 [.i k, .i n, .i m, QR ks]]⟩) (fun i => i <= 3) (fun i => 3 - i) 0 ?_ (by omega) ?_
 ·exact zal rfl
 intro i hi
 by_cases hil : i < 3
 ·have hil2 : i < xs.length := by omega
  (repeat' first|(refine Qe ?_;(first|refine QG rfl ?_|refine QJ rfl ?_|(refine Qo ?_;(first|refine Q1 rfl rfl ?_|refine W3 rfl rfl (by omega) ?_))))|(refine Qk ?_;(first|refine Qi ?_|refine QN rfl ?_))|(refine Qj ?_;(first|refine Qn ?_|refine Qc ?_|refine Qf ?_|(refine Wg ?_;first|refine Q3 (by rfl) (by kernel_rfl) (by kernel_rfl) ?_|refine Q2 (by kernel_rfl) (by kernel_rfl) ?_)|refine Qx ?_|refine Qp rfl (by omega) ?_|refine Qm rfl (by omega) ?_))|(refine Zw ?_;(first|refine x_op rfl (by (repeat' first|(refine Qe ?_;(first|refine QG rfl ?_|refine QM rfl ?_|refine Qv rfl rfl (by first|assumption|omega|(simp;done)|(simp;omega)) ?_|refine ZN rfl rfl ?_))|exact ⟨rfl, rfl⟩)) ?_|refine Zr ?_)))
  all_goals
   refine ⟨i + 1, by omega, by omega, ?_⟩
   exact zal rfl
 ·(repeat' first|(refine Qe ?_;(first|refine QG rfl ?_|refine QJ rfl ?_|refine Q1 rfl rfl ?_))|(refine Qk ?_;(first|refine Qi ?_|refine QN rfl ?_))|(refine Qj ?_;(first|refine Qn ?_|refine Qc ?_|refine Qf ?_|refine Qm rfl (by omega) ?_|refine WI rfl ?_)))
  refine qb (fun (i : Nat) => ⟨[(2, .ptr 0 g2 0), (3, .ptr 1 g3 0), (8, .i i)], [.row g2 [.i k, .i n, .i m, QR ks], .row g3 [.i k, .i n, .i m, QR ks]]⟩) (fun i => i <= ks.length) (fun i => ks.length - i) 0 ?_ (by omega) ?_
  ·exact zal rfl
  intro i hi
  by_cases hil : i < ks.length
  ·have hi1 := hx _ (List.getElem_mem hil)
   clear hx
   (repeat' first|(refine Qe ?_;(first|refine QG rfl ?_|refine QJ rfl ?_|refine Qb rfl rfl rfl ?_|(refine Qo ?_;(first|refine Q1 rfl rfl ?_|refine ZN rfl rfl ?_|refine W3 rfl rfl (by omega) ?_))|refine Qt rfl ?_|refine WO rfl rfl ?_|refine Qd rfl rfl ?_))|(refine Qk ?_;(first|refine Qi ?_|refine QN rfl ?_|refine WD rfl rfl rfl rfl ?_|refine We rfl rfl (by omega) ?_))|(refine Qj ?_;(first|refine Qn ?_|refine Qc ?_|refine Qf ?_|(refine Wg ?_;first|refine Q3 (by rfl) (by kernel_rfl) (by kernel_rfl) ?_|refine Q2 (by kernel_rfl) (by kernel_rfl) ?_)|refine Qx ?_|refine Ql rfl ?_|refine Qp rfl (by omega) ?_))|(refine Zw ?_;(first|refine x_op rfl (by (repeat' first|(refine Qe ?_;(first|refine QG rfl ?_|refine QJ rfl ?_|(refine Qz ?_;(first|refine QD rfl ?_|refine Qb rfl rfl rfl ?_))|refine Qv rfl rfl (by first|assumption|omega|(simp;done)|(simp;omega)) ?_|refine QZ rfl rfl (hi1) ?_|refine Qd rfl rfl ?_))|exact ⟨rfl, rfl⟩)) ?_|refine Zr ?_)))
   all_goals
    refine ⟨i + 1, by omega, by omega, ?_⟩
    exact zal rfl
  ·clear hx
   (repeat' first|(refine Qe ?_;(first|refine QG rfl ?_|refine QJ rfl ?_|refine Qb rfl rfl rfl ?_|refine Q1 rfl rfl ?_|(refine Qq ?_;(first|refine Qt rfl ?_|refine QZ rfl rfl (sign_c _) ?_))|refine Wr rfl rfl ?_|refine Qd rfl rfl ?_))|(refine Qk ?_;(first|refine Qi ?_|refine QN rfl ?_|refine W2 rfl rfl rfl rfl ?_|refine Q6 rfl rfl (by omega) ?_))|(refine Qj ?_;(first|refine Qn ?_|refine Qc ?_|refine Ql rfl ?_|refine WI rfl ?_|refine Qs ?_)))
   all_goals exact e_1 (Tryz.results66) (Qg rfl) (Qw rfl)
theorem r05Same_c (t : Nd) (hsz : Qu t <= 1000000) : Go.Av.Pure Tryz.prog G 25 [.agg (Enc.enc t), .agg (Enc.enc t)] (.b true) := fun B => by
 have hcc := r05Compare_c (G := G) t hsz
 refine Qa Tryz.func25 rfl Tryz.ntmps25 rfl (t := [(0, .agg (Enc.enc t)), (1, .agg (Enc.enc t))]) rfl fun E hE => ?_
 (repeat' first|(refine Qe ?_;(first|refine QJ rfl ?_|refine WF rfl rfl ?_|refine QS rfl rfl ?_|refine QZ rfl rfl (hcc) ?_|refine QU rfl rfl (fun _ _ => ?_)))|(refine Qk ?_;(first|refine Qi ?_|refine QN rfl ?_))|(refine Qj ?_;(first|refine Qn ?_|refine Qc ?_|refine Qs ?_)))
 all_goals exact e_1 (Tryz.results25) (Qg rfl) (Qw rfl)
def exN : Nd := .mk 27 0 0 [.mk 26 1 0 [.mk 0 0 0 [], .mk 13 0 0 [.mk 14 0 0 [.mk 9 0 0 [.mk 6 0 0 [], .mk 4 1 0 []]], .mk 19 0 0 [.mk 6 0 0 []]]]]
def sEx1 : List UInt8 := [112, 114, 111, 103, 114, 97, 109, 32, 48, 10, 102, 117, 110, 32, 49, 32, 40, 105, 110, 116, 41, 32, 123, 10, 32, 32, 118, 48, 32, 61, 32, 40, 118, 48, 32, 43, 32, 49, 41, 10, 32, 32, 114, 101, 116, 117, 114, 110, 32, 118, 48, 10, 125, 10]
def sEx2 : List UInt8 := [112, 114, 111, 103, 114, 97, 109, 32, 48, 32, 102, 117, 110, 32, 49, 32, 40, 105, 110, 116, 41, 32, 123, 32, 114, 101, 116, 117, 114, 110, 32, 40, 118, 48, 41, 32, 125]
theorem ex_par1 : parseM zP sEx1 = (exN, -1) := by kernel_rfl
theorem ex_par2 : (parseM zP sEx2).2 = 34 := by decide +kernel
theorem ex_pr : Zo exN = sEx1 := by decide +kernel
theorem ex_l1 : lineM exN [0, 1, 0, 0] = 3 := by kernel_rfl
theorem ex_l2 : lineM exN [0, 1, 2] = 0 := by kernel_rfl
theorem example_c : Go.Av.Pure Tryz.prog G 57 [] (.agg (Enc.enc exN)) := fun B => by
 refine Qa Tryz.func57 rfl Tryz.ntmps57 rfl (t := []) rfl fun E hE => ?_
 (repeat' first|(refine Qe ?_;(first|refine WF rfl rfl ?_|refine WR rfl rfl rfl rfl ?_|refine W1 rfl rfl (by decide) rfl ?_|refine QQ rfl rfl ?_|refine QC (fun _ _ => ?_)))|(refine Qk ?_;(first|refine Qi ?_|refine QN rfl ?_|refine Q5 ?_))|(refine Qj ?_;(first|refine Qn ?_|refine Qc ?_|refine Qs ?_)))
 refine e_1 (Tryz.results57) (QH (size := 4) rfl rfl rfl rfl) (c_sub ?_ (Qw rfl))
 unfold exN
 repeat' first|exact .refl _|exact .nil _|exact dsub_nil|refine dsub_cons ?_ ?_|refine .agg _ _ rfl ?_|refine .sl _ _ _ rfl ?_
theorem lives_c (hG0 : G 0 = shapesT) (hG1 : G 1 = spaceT) (hG : G 6 = pow10T) : Go.Av.Pure Tryz.prog G 20 [] (.b true) := fun B => by
 have hex := example_c (G := G)
 have hp1 := parse_c hG0 hG1 sEx1 (by decide)
 rw [ex_par1] at hp1
 have hp2 := parse_c hG0 hG1 sEx2 (by decide)
 rw [ex_par2] at hp2
 have hok : okN exN := by unfold exN;simp [okN, okL, i64]
 have hsz : Qu exN <= 1000000 := by decide +kernel
 have hpr := print_c hG hG1 exN hok hsz
 rw [ex_pr] at hpr
 have hsm := r05Same_c (G := G) exN hsz
 have hl1 := line_c1 hG hG1 exN hok hsz [0, 1, 0, 0] (by decide)
 rw [ex_l1] at hl1
 have hl2 := line_c1 hG hG1 exN hok hsz [0, 1, 2] (by decide)
 rw [ex_l2] at hl2
 have hd : decide (sEx1 = sEx1) = true := decide_eq_true rfl
 generalize (parseM zP sEx2).1 = x2 at *
 refine Qa Tryz.func20 rfl Tryz.ntmps20 rfl (t := []) rfl fun E hE => ?_
 (repeat' first|(refine Qe ?_;(first|refine QG rfl ?_|refine QJ rfl ?_|refine WF rfl rfl ?_|(refine Qo ?_;(first|refine QS rfl rfl ?_|refine WN rfl rfl ?_))|(refine Qq ?_;(first|refine W4 rfl rfl hex (Wp (Enc.clo _)) ?_|refine W4 rfl rfl hp1 (Wv (Q8 (Wp (Enc.clo _)) (Q8 Wf WL))) ?_|refine W4 rfl rfl hp2 (Wv (Q8 (Wp (Enc.clo _)) (Q8 Wf WL))) ?_|refine QZ rfl rfl (hpr) ?_|refine QZ rfl rfl (hsm) ?_|refine QZ rfl rfl (hl1) ?_|refine QZ rfl rfl (hl2) ?_))|refine WO rfl rfl ?_|refine WR rfl rfl rfl rfl ?_|(refine qd ?_;(first|refine W1 (cs := Ws [(0 : Int), 1, 0, 0]) rfl rfl (by decide) rfl ?_|refine W1 (cs := Ws [(0 : Int), 1, 2]) rfl rfl (by decide) rfl ?_))|refine QI rfl rfl rfl ?_|refine QC (fun _ _ => ?_)))|(refine Qk ?_;(first|refine Qi ?_|refine QN rfl ?_|refine Q5 ?_|refine WD rfl rfl rfl rfl ?_))|(refine Qj ?_;(first|refine Qn ?_|refine Qc ?_|refine Qs ?_)))
 all_goals exact e_1 (Tryz.results20) (Qg rfl) (Qw (by simp))
end Go.Proofs
end
section
namespace Go.Proofs
open Go.Av Go.Bl
structure FitI (s : Sh) (n m : Int) (ks : List Nd) (w : Int) : Prop where
 is : s.is = w \/ (s.is = 3 /\ w = 2) \/ (s.is = 6 /\ w = 5)
 low : s.low <= n
 high : n <= s.high
 mlow : 0 <= m
 mhigh : m <= s.last
 least : s.least <= (ks.length : Int) - (s.kids.length : Int)
 more : (ks.length : Int) - (s.kids.length : Int) <= s.more
 kid : ∀ i (h : i < ks.length), WA ks[i] (wantK s i) = true
theorem fit_inv {k n m w : Int} {ks : List Nd} (h : WA (.mk k n m ks) w = true) (hk : k ≠ 26) : FitI (shapesL.getD k.toNat noSh) n m ks w := by
 rw [WA] at h
 split at h
 ·simp only [Bool.and_eq_true] at h
  obtain ⟨⟨h0, h1⟩, h2, h3⟩ := h
  unfold isB at h0
  unfold rngB at h1
  unfold cntB at h2
  unfold kidsB at h3
  simp only [Bool.and_eq_true, Bool.or_eq_true, decide_eq_true_eq] at h0 h1 h2
  rw [fitsF_eq, List.length_map] at h3
  refine ⟨by omega, h1.1.1, h1.1.2, h1.2.1, h1.2.2, h2.1, h2.2, fun i hi => ?_⟩
  have := allI_iff.1 h3 i hi
  rw [qo ks WA hi] at this
  exact this
 ·cases h
theorem kids_all {s : Sh} {n m w : Int} {ks : List Nd} (h : FitI s n m ks w) (c : Int) (hw : ∀ i, i < ks.length -> wantK s i = c) : ∀ x ∈ ks, WA x c = true := fun x hx => by
 obtain ⟨i, hi, rfl⟩ := List.getElem_of_mem hx
 have := h.kid i hi
 rw [hw i hi] at this
 exact this
theorem map_getDb (ks : List Nd) (f : Nd -> Bool) {i : Nat} (h : i < ks.length) : (ks.map f).getD i false = f ks[i] := by
 rw [List.getD_eq_getElem?_getD, List.getElem?_map, List.getElem?_eq_getElem h];rfl
theorem fit_k {k n m w : Int} {ks : List Nd} (h : WA (.mk k n m ks) w = true) : 0 <= k /\ k < 28 := by
 rw [WA] at h
 split at h
 ·assumption
 ·cases h
theorem fit_typ (t : Nd) : ∀ w, (w = 2 \/ w = 3) -> WA t w = true -> ZJ t = true := by
 induction t using Nd.ind with
 | h k n m ks ih =>
 intro w hw h
 have hk := fit_k h
 by_cases h26 : k = 26
 ·subst h26
  rw [WA, if_pos (by decide)] at h
  simp only [Bool.and_eq_true] at h
  have := h.1.1
  unfold isB at this
  simp [shapesL] at this
  omega
 have hf := fit_inv h h26
 have hkk : k = 0 \/ k = 1 \/ k = 2 \/ k = 3 \/ (4 <= k /\ k <= 27) := by omega
 rw [ZJ]
 rcases hkk with rfl|rfl|rfl|rfl|h4
 ·have hl : ks.length = 0 := by have := hf.least;have := hf.more;simp [shapesL] at this;simp_all
  obtain rfl : ks = [] := List.eq_nil_of_length_eq_zero hl
  obtain ⟨h0, h1, h2, h3, h4, h5, h6, h7⟩ := hf
  simp [shapesL] at h0 h1 h2 h3 h4 h5 h6
  simp [Wz, Q0];omega
 ·have hl : ks.length = 0 := by have := hf.least;have := hf.more;simp [shapesL] at this;simp_all
  obtain rfl : ks = [] := List.eq_nil_of_length_eq_zero hl
  obtain ⟨h0, h1, h2, h3, h4, h5, h6, h7⟩ := hf
  simp [shapesL] at h0 h1 h2 h3 h4 h5 h6
  simp [Wz, Q0];omega
 ·have hl : ks.length = 0 := by have := hf.least;have := hf.more;simp [shapesL] at this;simp_all
  obtain rfl : ks = [] := List.eq_nil_of_length_eq_zero hl
  obtain ⟨h0, h1, h2, h3, h4, h5, h6, h7⟩ := hf
  simp [shapesL] at h0 h1 h2 h3 h4 h5 h6
  simp [Wz, Q0, WT];omega
 ·have ha := kids_all hf 3 fun i _ => by show (if i < 0 then _ else (3 : Int)) = 3;rw [if_neg (by omega)]
  obtain ⟨h0, h1, h2, h3, h4, h5, h6, h7⟩ := hf
  simp [shapesL] at h0 h1 h2 h3 h4 h5 h6
  have hl : 0 < ks.length := by omega
  rw [if_neg (by omega), if_neg (by omega), if_pos rfl, typOks_eq]
  have : ks.all ZJ = true := by rw [List.all_eq_true];exact fun x hx => ih x hx 3 (.inr rfl) (ha x hx)
  rw [this]
  simp [Wz, Q0, hl];omega
 ·exfalso
  have h0 := hf.is
  have hs : ∀ j : Fin 28, 4 <= j.val -> ((shapesL.getD j.val noSh).is ≠ 2 /\ (shapesL.getD j.val noSh).is ≠ 3) := by decide
  have := hs ⟨k.toNat, by omega⟩ (by show 4 <= k.toNat;omega)
  dsimp only at this
  omega
theorem fit_is {k n m w : Int} {ks : List Nd} (h : WA (.mk k n m ks) w = true) : (shapesL.getD k.toNat noSh).is = w \/ ((shapesL.getD k.toNat noSh).is = 3 /\ w = 2) \/ ((shapesL.getD k.toNat noSh).is = 6 /\ w = 5) := by
 rw [WA] at h
 split at h
 ·simp only [Bool.and_eq_true] at h
  have := h.1.1
  unfold isB at this
  simp only [Bool.and_eq_true, Bool.or_eq_true, decide_eq_true_eq] at this
  omega
 ·cases h
theorem kind_is {k n m w : Int} {ks : List Nd} (h : WA (.mk k n m ks) w = true) : (w = 4 -> 4 <= k /\ k <= 12) /\ (w = 6 -> k = 13) /\ (w = 5 -> 13 <= k /\ k <= 25) /\ (w = 1 -> k = 26) /\ (w = 0 -> k = 27) := by
 have hk := fit_k h
 have h0 := fit_is h
 have hs : ∀ j : Fin 28, ((shapesL.getD j.val noSh).is = 4 -> 4 <= j.val /\ j.val <= 12) /\ ((shapesL.getD j.val noSh).is = 6 -> j.val = 13) /\ ((shapesL.getD j.val noSh).is = 5 -> 13 <= j.val /\ j.val <= 25) /\ ((shapesL.getD j.val noSh).is = 1 -> j.val = 26) /\ ((shapesL.getD j.val noSh).is = 0 -> j.val = 27) := by decide
 have := hs ⟨k.toNat, by omega⟩
 dsimp only at this
 obtain ⟨a1, a2, a3, a4, a5⟩ := this
 refine ⟨fun hw => ?_, fun hw => ?_, fun hw => ?_, fun hw => ?_, fun hw => ?_⟩
 ·have := a1 (by omega);omega
 ·have := a2 (by omega);omega
 ·by_cases h6 : (shapesL.getD k.toNat noSh).is = 6
  ·have := a2 h6;omega
  ·have := a3 (by omega);omega
 ·have := a4 (by omega);omega
 ·have := a5 (by omega);omega
theorem fit_ex (t : Nd) : WA t 4 = true -> Zn t = true := by
 induction t using Nd.ind with
 | h k n m ks ih =>
 intro h
 have hk := (kind_is h).1 rfl
 have hf := fit_inv h (by omega)
 have hkk : k = 4 \/ k = 5 \/ k = 6 \/ k = 7 \/ k = 8 \/ k = 9 \/ k = 10 \/ k = 11 \/ k = 12 := by omega
 have hall : (∀ i, i < ks.length -> wantK (shapesL.getD k.toNat noSh) i = 4) -> exOks ks = true := fun hw => by
  rw [WY, List.all_eq_true]
  exact fun x hx => ih x hx (kids_all hf 4 hw x hx)
 rw [Zn]
 rcases hkk with rfl|rfl|rfl|rfl|rfl|rfl|rfl|rfl|rfl
 ·have hl : ks.length = 0 := by have := hf.least;have := hf.more;simp [shapesL] at this;simp_all
  obtain rfl : ks = [] := List.eq_nil_of_length_eq_zero hl
  obtain ⟨h0, h1, h2, h3, h4, h5, h6, h7⟩ := hf
  simp [shapesL] at h0 h1 h2 h3 h4 h5 h6
  by_cases hn : n < 0
  ·simp [Q0, WT, hn];omega
  ·simp [Q0, WT, hn];omega
 ·have hl : ks.length = 0 := by have := hf.least;have := hf.more;simp [shapesL] at this;simp_all
  obtain rfl : ks = [] := List.eq_nil_of_length_eq_zero hl
  obtain ⟨h0, h1, h2, h3, h4, h5, h6, h7⟩ := hf
  simp [shapesL] at h0 h1 h2 h3 h4 h5 h6
  simp [Q0, WT];omega
 ·have hl : ks.length = 0 := by have := hf.least;have := hf.more;simp [shapesL] at this;simp_all
  obtain rfl : ks = [] := List.eq_nil_of_length_eq_zero hl
  obtain ⟨h0, h1, h2, h3, h4, h5, h6, h7⟩ := hf
  simp [shapesL] at h0 h1 h2 h3 h4 h5 h6
  simp [Q0, WT];omega
 ·have hl : ks.length = 1 := by have := hf.least;have := hf.more;simp [shapesL] at *;omega
  have := hall fun i hi => by (have : i = 0 := by omega);subst this;rfl
  obtain ⟨h0, h1, h2, h3, h4, h5, h6, h7⟩ := hf
  simp [shapesL] at h0 h1 h2 h3 h4 h5 h6
  simp [Q0, WT, this];omega
 ·have hl : ks.length = 0 := by have := hf.least;have := hf.more;simp [shapesL] at this;simp_all
  obtain rfl : ks = [] := List.eq_nil_of_length_eq_zero hl
  obtain ⟨h0, h1, h2, h3, h4, h5, h6, h7⟩ := hf
  simp [shapesL] at h0 h1 h2 h3 h4 h5 h6
  simp [Q0, WT]
  omega
 ·have hl : ks.length = 2 := by have := hf.least;have := hf.more;simp [shapesL] at *;omega
  have := hall fun i hi => by (have : i = 0 \/ i = 1 := by omega);rcases this with rfl|rfl <;> rfl
  obtain ⟨h0, h1, h2, h3, h4, h5, h6, h7⟩ := hf
  simp [shapesL] at h0 h1 h2 h3 h4 h5 h6
  simp [Q0, WT, this];omega
 ·have hl : ks.length = 1 := by have := hf.least;have := hf.more;simp [shapesL] at *;omega
  have := hall fun i hi => by (have : i = 0 := by omega);subst this;rfl
  obtain ⟨h0, h1, h2, h3, h4, h5, h6, h7⟩ := hf
  simp [shapesL] at h0 h1 h2 h3 h4 h5 h6
  simp [Wz, Q0, WT, this];omega
 ·have := hall fun i hi => by show (if i < 0 then _ else (4 : Int)) = 4;rw [if_neg (by omega)]
  obtain ⟨h0, h1, h2, h3, h4, h5, h6, h7⟩ := hf
  simp [shapesL] at h0 h1 h2 h3 h4 h5 h6
  simp [Q0, WT, this];omega
 ·have hl : ks.length = 0 := by have := hf.least;have := hf.more;simp [shapesL] at this;simp_all
  obtain rfl : ks = [] := List.eq_nil_of_length_eq_zero hl
  obtain ⟨h0, h1, h2, h3, h4, h5, h6, h7⟩ := hf
  simp [shapesL] at h0 h1 h2 h3 h4 h5 h6
  simp [Q0, WT];omega
theorem fit_st (t : Nd) : (WA t 5 = true -> qg t = true) /\ (WA t 6 = true -> inOk t = true) := by
 induction t using Nd.ind with
 | h k n m ks ih =>
 have hblk : ∀ w, k = 13 -> WA (.mk k n m ks) w = true -> Wz n m ks.length (-1) = true /\ stOks ks = true := fun w hk h => by
  have hf := fit_inv h (by omega)
  subst hk
  have ha := kids_all hf 5 fun i _ => by show (if i < 0 then _ else (5 : Int)) = 5;rw [if_neg (by omega)]
  obtain ⟨h0, h1, h2, h3, h4, h5, h6, h7⟩ := hf
  simp [shapesL] at h0 h1 h2 h3 h4 h5 h6
  refine ⟨by simp [Wz, Q0];omega, ?_⟩
  have : ∀ ks : List Nd, (∀ x ∈ ks, qg x = true) -> stOks ks = true := by
   intro ks
   induction ks with
   | nil => intro _;rfl
   | cons x r ihr => intro h;rw [stOks, h x (by simp), ihr fun y hy => h y (by simp [hy])];rfl
  exact this ks fun x hx => (ih x hx).1 (ha x hx)
 refine ⟨fun h => ?_, fun h => ?_⟩
 ·have hk := (kind_is h).2.2.1 rfl
  have hf := fit_inv h (by omega)
  have hkk : k = 13 \/ k = 14 \/ k = 15 \/ k = 16 \/ k = 17 \/ k = 18 \/ k = 19 \/ k = 20 \/ k = 21 \/ k = 22 \/ k = 23 \/ k = 24 \/ k = 25 := by omega
  have hall : (∀ i, i < ks.length -> wantK (shapesL.getD k.toNat noSh) i = 4) -> ks.all Zn = true := fun hw => by
   rw [List.all_eq_true]
   exact fun x hx => fit_ex x (kids_all hf 4 hw x hx)
  rw [qg]
  rcases hkk with rfl|rfl|rfl|rfl|rfl|rfl|rfl|rfl|rfl|rfl|rfl|rfl|rfl
  ·obtain ⟨b1, b2⟩ := hblk 5 rfl h
   rw [if_pos rfl, b1, b2];rfl
  ·have hl : ks.length = 1 := by have := hf.least;have := hf.more;simp [shapesL] at *;omega
   have := hall fun i hi => by (have : i = 0 := by omega);subst this;rfl
   obtain ⟨h0, h1, h2, h3, h4, h5, h6, h7⟩ := hf
   simp [shapesL] at h0 h1 h2 h3 h4 h5 h6
   simp only [Zt, this]
   simp [Q0, WT];omega
  ·have hl : ks.length = 2 := by have := hf.least;have := hf.more;simp [shapesL] at *;omega
   have := hall fun i hi => by (have : i = 0 \/ i = 1 := by omega);rcases this with rfl|rfl <;> rfl
   obtain ⟨h0, h1, h2, h3, h4, h5, h6, h7⟩ := hf
   simp [shapesL] at h0 h1 h2 h3 h4 h5 h6
   simp only [Zt, this]
   simp [Q0, WT];omega
  ·have hl : ks.length = 1 := by have := hf.least;have := hf.more;simp [shapesL] at *;omega
   have := hall fun i hi => by (have : i = 0 := by omega);subst this;rfl
   obtain ⟨h0, h1, h2, h3, h4, h5, h6, h7⟩ := hf
   simp [shapesL] at h0 h1 h2 h3 h4 h5 h6
   simp only [Zt, this]
   simp [Q0, WT];omega
  ·have hl : ks.length = 3 := by have := hf.least;have := hf.more;simp [shapesL] at *;omega
   have k0 : Zn ks[0] = true := fit_ex _ (hf.kid 0 (by omega))
   have k1 : inOk ks[1] = true := (ih _ (List.getElem_mem _)).2 (hf.kid 1 (by omega))
   have k2 : inOk ks[2] = true := (ih _ (List.getElem_mem _)).2 (hf.kid 2 (by omega))
   obtain ⟨h0, h1, h2, h3, h4, h5, h6, h7⟩ := hf
   simp [shapesL] at h0 h1 h2 h3 h4 h5 h6
   rw [if_neg (by omega), if_pos rfl, ZE, map_getDb ks Zn (i := 0) (by omega), map_getDb ks inOk (i := 1) (by omega), map_getDb ks inOk (i := 2) (by omega), k0, k1, k2]
   simp [Wz, Q0];omega
  ·have hl : ks.length = 2 := by have := hf.least;have := hf.more;simp [shapesL] at *;omega
   have k0 : Zn ks[0] = true := fit_ex _ (hf.kid 0 (by omega))
   have k1 : inOk ks[1] = true := (ih _ (List.getElem_mem _)).2 (hf.kid 1 (by omega))
   obtain ⟨h0, h1, h2, h3, h4, h5, h6, h7⟩ := hf
   simp [shapesL] at h0 h1 h2 h3 h4 h5 h6
   rw [if_neg (by omega), if_neg (by omega), if_pos rfl, ZE, map_getDb ks Zn (i := 0) (by omega), map_getDb ks inOk (i := 1) (by omega), k0, k1]
   simp [Wz, Q0];omega
  ·have hl : ks.length = 1 := by have := hf.least;have := hf.more;simp [shapesL] at *;omega
   have := hall fun i hi => by (have : i = 0 := by omega);subst this;rfl
   obtain ⟨h0, h1, h2, h3, h4, h5, h6, h7⟩ := hf
   simp [shapesL] at h0 h1 h2 h3 h4 h5 h6
   simp only [Zt, this]
   simp [Wz, Q0, WT];omega
  ·have hl : ks.length = 1 := by have := hf.least;have := hf.more;simp [shapesL] at *;omega
   have := hall fun i hi => by (have : i = 0 := by omega);subst this;rfl
   obtain ⟨h0, h1, h2, h3, h4, h5, h6, h7⟩ := hf
   simp [shapesL] at h0 h1 h2 h3 h4 h5 h6
   simp only [Zt, this]
   simp [Wz, Q0, WT];omega
  ·have hl : ks.length = 2 := by have := hf.least;have := hf.more;simp [shapesL] at *;omega
   have k0 : inOk ks[0] = true := (ih _ (List.getElem_mem _)).2 (hf.kid 0 (by omega))
   have k1 : inOk ks[1] = true := (ih _ (List.getElem_mem _)).2 (hf.kid 1 (by omega))
   obtain ⟨h0, h1, h2, h3, h4, h5, h6, h7⟩ := hf
   simp [shapesL] at h0 h1 h2 h3 h4 h5 h6
   rw [if_neg (by omega), if_neg (by omega), if_neg (by omega), if_pos rfl, ZE, map_getDb ks inOk (i := 0) (by omega), map_getDb ks inOk (i := 1) (by omega), k0, k1]
   simp [Q0, WT];omega
  ·have hl : ks.length = 1 := by have := hf.least;have := hf.more;simp [shapesL] at *;omega
   have := hall fun i hi => by (have : i = 0 := by omega);subst this;rfl
   obtain ⟨h0, h1, h2, h3, h4, h5, h6, h7⟩ := hf
   simp [shapesL] at h0 h1 h2 h3 h4 h5 h6
   simp only [Zt, this]
   simp [Q0, WT];omega
  ·have := hall fun i hi => by show (if i < 0 then _ else (4 : Int)) = 4;rw [if_neg (by omega)]
   obtain ⟨h0, h1, h2, h3, h4, h5, h6, h7⟩ := hf
   simp [shapesL] at h0 h1 h2 h3 h4 h5 h6
   simp only [Zt, this]
   simp [Q0, WT];omega
  ·have hl : ks.length = 1 := by have := hf.least;have := hf.more;simp [shapesL] at *;omega
   have := hall fun i hi => by (have : i = 0 := by omega);subst this;rfl
   obtain ⟨h0, h1, h2, h3, h4, h5, h6, h7⟩ := hf
   simp [shapesL] at h0 h1 h2 h3 h4 h5 h6
   simp only [Zt, this]
   simp [Wz, Q0, WT];omega
  ·have hl : ks.length = 0 := by have := hf.least;have := hf.more;simp [shapesL] at this;simp_all
   obtain rfl : ks = [] := List.eq_nil_of_length_eq_zero hl
   obtain ⟨h0, h1, h2, h3, h4, h5, h6, h7⟩ := hf
   simp [shapesL] at h0 h1 h2 h3 h4 h5 h6
   simp only [Zt]
   simp [Wz, Q0, WT];omega
 ·have hk := (kind_is h).2.1 rfl
  obtain ⟨b1, b2⟩ := hblk 6 hk h
  rw [inOk, b1, b2, decide_eq_true hk];rfl
theorem fit_funok (t : Nd) (h : WA t 1 = true) : ZF t = true := by
 obtain ⟨k, n, m, ks⟩ := t
 have hk := (kind_is h).2.2.2.1 rfl
 subst hk
 rw [WA, if_pos (by decide), if_pos rfl, fitsF_eq] at h
 simp only [Bool.and_eq_true] at h
 obtain ⟨⟨_, h1⟩, h2⟩ := h
 unfold rngB at h1
 unfold funB at h2
 simp only [Bool.and_eq_true, decide_eq_true_eq, List.length_map] at h1 h2
 simp [shapesL] at h1
 obtain ⟨⟨⟨c1, c2⟩, c3⟩, c4⟩ := h2
 have hl : 0 < ks.length := by
  by_cases h0 : ks.length = 0
  ·omega
  ·omega
 rw [qo ks WA (by omega)] at c3
 rw [ZF]
 have d1 : inOk (ks.getD (ks.length - 1) (.mk 0 0 0 [])) = true := by
  rw [List.getD_eq_getElem?_getD, List.getElem?_eq_getElem (show ks.length - 1 < ks.length by omega)]
  exact (fit_st _).2 c3
 have d2 : (ks.take (ks.length - 1)).all ZJ = true := by
  rw [List.all_eq_true]
  intro x hx
  obtain ⟨i, hi, rfl⟩ := List.getElem_of_mem hx
  rw [List.length_take] at hi
  have h3 := allI_iff.1 c4 i (by omega)
  rw [qo ks WA (by omega)] at h3
  rw [List.getElem_take]
  refine fit_typ _ _ ?_ h3
  split <;> simp
 rw [d1, d2, decide_eq_true hl]
 simp [Q0, WT];omega
theorem fit_pr (t : Nd) (h : WA t 0 = true) : prOk t = true := by
 obtain ⟨k, n, m, ks⟩ := t
 have hk := (kind_is h).2.2.2.2 rfl
 have hf := fit_inv h (by omega)
 subst hk
 have ha := kids_all hf 1 fun i _ => by show (if i < 0 then _ else (1 : Int)) = 1;rw [if_neg (by omega)]
 obtain ⟨h0, h1, h2, h3, h4, h5, h6, h7⟩ := hf
 simp [shapesL] at h0 h1 h2 h3 h4 h5 h6
 rw [prOk, if_pos rfl]
 have : ks.all ZF = true := by rw [List.all_eq_true];exact fun x hx => fit_funok x (ha x hx)
 rw [this]
 simp [Q0, WT];omega
theorem valid_pr {t : Nd} (h : validM t = true) : prOk t = true := by
 unfold validM at h
 simp only [Bool.and_eq_true] at h
 exact fit_pr t h.2
theorem valid_ok {t : Nd} (h : validM t = true) : okN t /\ Qu t <= 256 /\ prOk t = true := by
 have hp := valid_pr h
 unfold validM at h
 simp only [Bool.and_eq_true, decide_eq_true_eq] at h
 exact ⟨fit_ok t 0 h.2, h.1.1, hp⟩
end Go.Proofs
end
section
namespace Go.Proofs
open Go.Av
variable {G : Nat -> DV}
attribute [local irreducible] OpSem Zd Zx ZL ACalls qt AClose RV
open Go.Bl
section
variable {P : Program} {G : Nat -> DV} {B : Nat} {f : Operand -> DV} {σ : List ABlk} {K : DV -> List ABlk -> Prop} {dst : Option Tmp} {type : TypeId} {pos : String} {after : Array Edge} {gd : Option (Nat × Bool)}
end
section
variable {P : Program} {G : Nat -> DV} {B : Nat} {f : Operand -> DV} {σ : List ABlk} {K : DV -> List ABlk -> Prop} {dst : Option Tmp} {type : TypeId} {pos : String} {after : Array Edge} {gd : Option (Nat × Bool)}
end
section
variable {P : Program} {G : Nat -> DV} {B : Nat} {f : Operand -> DV} {σ : List ABlk} {K : DV -> List ABlk -> Prop} {dst : Option Tmp} {type : TypeId} {pos : String} {after : Array Edge} {gd : Option (Nat × Bool)}
end
section
variable {P : Program} {G : Nat -> DV} {B : Nat} {f : Operand -> DV} {σ : List ABlk} {K : DV -> List ABlk -> Prop} {dst : Option Tmp} {type : TypeId} {pos : String} {after : Array Edge} {gd : Option (Nat × Bool)}
theorem s_neq_asK {t t' : TypeId} {x y : Operand} {a b : Int} {k1 : IntKind} {v : Bool} (hx : f x = .sc (.int k1 a)) (hy : f y = .sc (.int k1 b)) (hc : decide (a ≠ b) = v)
  (k : K (.sc (.bool v)) σ) : OpSem P G B ⟨dst, .binOp .neq t x y t', type, pos, after, gd⟩ f σ K := ZN hx hy (by rw [hc];exact k)
end
theorem prog_no (k n m : Int) (ks : List Nd) (hk : k ≠ 27) : Go.Av.Pure Tryz.prog G 51 [.agg [.i k, .i n, .i m, QR ks]] (.tup [QR ([] : List Str), .b false]) := fun B => by
 have hpg := trivial
 have hwh := trivial
 refine Qa Tryz.func51 rfl Tryz.ntmps51 rfl (t := [(0, .agg [.i k, .i n, .i m, QR ks])]) rfl fun E hE => ?_
 (repeat' first|(refine Qe ?_;(first|refine QG rfl ?_|refine QJ rfl ?_|refine Qb rfl rfl rfl ?_|refine ZN rfl rfl ?_|refine WO rfl rfl ?_|refine Qd rfl rfl ?_|refine QU rfl rfl (fun _ _ => ?_)))|(refine Qk ?_;(first|refine Qi ?_|refine QN rfl ?_|refine W2 rfl rfl rfl rfl ?_|refine We rfl rfl (by omega) ?_))|(refine Qj ?_;(first|refine Qn ?_|refine Qc ?_|refine Qh rfl ?_|refine Qs ?_)))
 exact e_2 (Tryz.results51) (Qg rfl) (Qg rfl) (c_sub (d2 := .tup [QR ([] : List Str), .b false]) (.tup _ _ rfl (dsub_cons (.nil 1) (dsub_cons (.refl _) dsub_nil))) (Qw rfl))
theorem r06Line_c (t : Nd) (hok : okN t) (hs : Qu t <= 100000) (path : List Int) (hpl : path.length <= 4611686018427387904) : Go.Av.Pure Tryz.prog G 27 [.agg (Enc.enc t), QR path] (.i (lineM t path)) := fun B => by
 obtain ⟨k, n, m, ks⟩ := t
 by_cases hk : k = 27
 ·subst hk
  obtain ⟨x, hpg, _⟩ := rProg_c (G := G) n m ks hok (by omega)
  cases hp : prOk (.mk 27 n m ks) with
  | false =>
   rw [hp] at hpg
   have hz : lineM (.mk 27 n m ks) path = 0 := by
    unfold lineM Zo
    rw [hp, if_pos (.inr (.inr (by simp)))]
   rw [hz, QW]
   have hwh := trivial
   refine Qa Tryz.func27 rfl Tryz.ntmps27 rfl (t := [(0, .agg [.i 27, .i n, .i m, QR ks]), (1, QR path)]) rfl fun E hE => ?_
   (repeat' first|(refine Qe ?_;(first|refine QG rfl ?_|refine QJ rfl ?_|refine WF rfl rfl ?_|refine QZ rfl rfl (hpg) ?_|refine Wn rfl ?_|refine QI rfl rfl rfl ?_|refine QU rfl rfl (fun _ _ => ?_)))|(refine Qk ?_;(first|refine Qi ?_|refine QN rfl ?_))|(refine Qj ?_;(first|refine Qn ?_|refine Qc ?_|refine Qh rfl ?_|refine Qs ?_)))
   exact e_1 (Tryz.results27) (Qg rfl) (Qw rfl)
  | true =>
   rw [hp] at hpg
   have hwh := where_c (G := G) path (.mk 27 n m ks) 1 (deep_pr hp) hok hs hpl (by decide) (by omega)
   have hz : lineM (.mk 27 n m ks) path = if atM path (.mk 27 n m ks) = none then 0 else qF path (.mk 27 n m ks) 1 := by
    unfold lineM
    by_cases ha : atM path (.mk 27 n m ks) = none
    ·rw [if_pos (.inl ha), if_pos ha]
    ·rw [if_neg ha, if_neg]
     rintro (h|h|h)
     ·exact ha h
     ·exact h rfl
     ·unfold Zo at h
      rw [if_pos hp, prT, if_pos rfl] at h
      have := congrArg List.length h
      rw [List.length_append, Wk] at this
      simp at this
   rw [hz]
   generalize (if atM path (.mk 27 n m ks) = none then (0 : Int) else qF path (.mk 27 n m ks) 1) = r at *
   rw [QW] at hwh ⊢
   refine Qa Tryz.func27 rfl Tryz.ntmps27 rfl (t := [(0, .agg [.i 27, .i n, .i m, QR ks]), (1, QR path)]) rfl fun E hE => ?_
   (repeat' first|(refine Qe ?_;(first|refine QG rfl ?_|refine QJ rfl ?_|refine WF rfl rfl ?_|(refine Qq ?_;(first|refine QZ rfl rfl (hpg) ?_|refine QZ rfl rfl (hwh) ?_))|refine Wn rfl ?_|refine QI rfl rfl rfl ?_|refine QU rfl rfl (fun _ _ => ?_)))|(refine Qk ?_;(first|refine Qi ?_|refine QN rfl ?_))|(refine Qj ?_;(first|refine Qn ?_|refine Qc ?_|refine Qx ?_|refine Ql rfl ?_|refine Qs ?_)))
   exact e_1 (Tryz.results27) (Qg rfl) (Qw rfl)
 ·have hpg := prog_no (G := G) k n m ks hk
  have hwh := trivial
  have hz : lineM (.mk k n m ks) path = 0 := by
   unfold lineM
   rw [if_pos (.inr (.inl hk))]
  rw [hz, QW]
  refine Qa Tryz.func27 rfl Tryz.ntmps27 rfl (t := [(0, .agg [.i k, .i n, .i m, QR ks]), (1, QR path)]) rfl fun E hE => ?_
  (repeat' first|(refine Qe ?_;(first|refine QG rfl ?_|refine QJ rfl ?_|refine WF rfl rfl ?_|refine QZ rfl rfl (hpg) ?_|refine Wn rfl ?_|refine QI rfl rfl rfl ?_|refine QU rfl rfl (fun _ _ => ?_)))|(refine Qk ?_;(first|refine Qi ?_|refine QN rfl ?_))|(refine Qj ?_;(first|refine Qn ?_|refine Qc ?_|refine Qh rfl ?_|refine Qs ?_)))
  exact e_1 (Tryz.results27) (Qg rfl) (Qw rfl)
theorem lines_law (hG0 : G 0 = shapesT) (hG1 : G 1 = spaceT) (hG : G 6 = pow10T) (l path : List Int) (at_ how by_ : Int) (hl : OkI l) (h1 : i64 at_) (h2 : i64 how) (h3 : i64 by_) (hpl : path.length <= 140737488355328) :
  Go.Av.Pure Tryz.prog G 5 [QR l, .i at_, .i how, .i by_, QR path] (.b true) := fun B => by
 obtain ⟨p, hv, _, hsm⟩ := sample_c (G := G) l hl
 obtain ⟨hok, hsz, hpk⟩ := valid_ok hv
 obtain ⟨v, hokv, hszv, hsp⟩ := spoilt_c (G := G) p hok (by omega) at_ how by_ h1 h2 h3
 have hlv := lives_c (G := G) hG0 hG1 hG
 have hps := trivial
 have hl1 := trivial
 have hl2 := trivial
 have hne := trivial
 have hpg := trivial
 have hwh := trivial
 refine Qa Tryz.func5 rfl Tryz.ntmps5 rfl (t := [(0, QR l), (1, .i at_), (2, .i how), (3, .i by_), (4, QR path)]) rfl fun E0 hE0 => ?_
 (repeat' first|(refine Qe ?_;(first|refine QG rfl ?_|refine QJ rfl ?_|refine W4 rfl rfl hsm (Wp (Enc.clo _)) ?_|refine WR rfl rfl rfl rfl ?_|refine QC (fun _ _ => ?_)))|(refine Qk ?_;(first|refine Qi ?_|refine QN rfl ?_|refine Q5 ?_))|(refine Qj ?_;(first|refine Qn ?_|refine Qc ?_|refine Qf ?_|(refine Wg ?_;first|refine Q3 (by rfl) (by kernel_rfl) (by kernel_rfl) ?_|refine Q2 (by kernel_rfl) (by kernel_rfl) ?_)))|(refine Zw ?_;(first|refine x_op rfl (by (repeat' first|(refine Qe ?_;(first|refine QG rfl ?_|refine QJ rfl ?_|refine WF rfl rfl ?_|refine W4 rfl rfl hsp (Wp (Enc.clo _)) ?_|refine ZS (y := p) (z := v) rfl rfl (by decide) ?_))|exact ⟨rfl, rfl⟩)) ?_|refine Zr ?_)))
 generalize hL : [p, v] = L at *
 have hLl : L.length = 2 := by rw [<- hL];rfl
 have hall : ∀ x ∈ L, okN x /\ Qu x <= 600 := fun x hx => by
  rw [<- hL] at hx
  rcases List.mem_cons.1 hx with rfl|hx
  ·exact ⟨hok, by omega⟩
  ·rcases List.mem_cons.1 hx with rfl|hx
   ·exact ⟨hokv, by omega⟩
   ·cases hx
 clear hL hv hok hsz hpk hokv hszv hsm hsp
 have hsm := trivial
 have hsp := trivial
 refine qb (fun i : Nat => ⟨[(1, .i at_), (4, QR path), (12, QR L), (13, .i i)], []⟩) (fun i => i <= 2) (fun i => 2 - i) 0 ?_ (by omega) ?_
 ·exact zal rfl
 intro i hi
 by_cases hi2 : i < 2
 ·have hil : i < L.length := by omega
  obtain ⟨hok, hsz⟩ := hall _ (List.getElem_mem hil)
  clear hall
  have hps := paths_c (G := G) L[i] (by omega)
  have hpn := pathsN_len L[i]
  have hplens : ∀ q ∈ Zi L[i] ++ [path, [(0 : Int), 0, 0, 0, 0, 0, at_], [(-1 : Int)]], q.length <= 140737488355328 := fun q hq => by
   rcases List.mem_append.1 hq with hq|hq
   ·have := paths_lens _ q hq;omega
   ·simp only [List.mem_cons, List.not_mem_nil, or_false] at hq
    rcases hq with rfl|rfl|rfl
    ·exact hpl
    ·simp
    ·simp
  have hln : ∀ q : List Int, q.length <= 140737488355328 -> Go.Av.Pure Tryz.prog G 26 [.agg (Enc.enc L[i]), QR q] (.i (lineM L[i] q)) /\ Go.Av.Pure Tryz.prog G 27 [.agg (Enc.enc L[i]), QR q] (.i (lineM L[i] q)) := fun q hq =>
   ⟨line_c1 (G := G) hG hG1 L[i] hok (by omega) q (by omega), r06Line_c (G := G) L[i] hok (by omega) q (by omega)⟩
  have hL3 : [path, [(0 : Int), 0, 0, 0, 0, 0, at_], [(-1 : Int)]].length = 3 := rfl
  generalize Zi L[i] = PN at *
  (repeat' first|(refine Qe ?_;(first|refine QG rfl ?_|refine QJ rfl ?_|refine QD rfl ?_|refine Qv rfl rfl (by first|assumption|omega|(simp;done)|(simp;omega)) ?_|refine Q1 rfl rfl ?_|(refine Qq ?_;(first|refine s_call_o rfl rfl (hps) (by first|exact QO _) (fun _ _ => ?_)|refine s_app_r rfl rfl rfl rfl rfl rfl rfl (by first|omega|(simp;omega)) (by first|omega|(simp;omega)) (fun _ => rfl) (fun _ _ => ?_)))|(refine qd ?_;(first|refine W1 (cs := Ws [(0 : Int), 0, 0, 0, 0, 0, at_]) rfl rfl (by decide) rfl ?_|refine W1 (cs := Ws [(-1 : Int)]) rfl rfl (by decide) rfl ?_|refine W1 (cs := Ws [path, [(0 : Int), 0, 0, 0, 0, 0, at_], [(-1 : Int)]]) rfl rfl (by decide) rfl ?_))))|(refine Qk ?_;(first|refine Qi ?_|refine QN rfl ?_))|(refine Qj ?_;(first|refine Qn ?_|refine Qc ?_|refine Qf ?_|refine Qx ?_|refine Qp rfl (by omega) ?_)))
  rename_i gA hgA gB hgB
  refine r_pub 14 rfl rfl (QX _).symm rfl ?_
  have hPLl : (PN ++ [path, [(0 : Int), 0, 0, 0, 0, 0, at_], [(-1 : Int)]]).length <= 1000 := by rw [List.length_append, hL3];omega
  generalize PN ++ [path, [(0 : Int), 0, 0, 0, 0, 0, at_], [(-1 : Int)]] = PL at *
  clear hps
  have hps := trivial
  refine qb (fun q : Nat => ⟨[(1, .i at_), (4, QR path), (12, QR L), (13, .i i), (14, QR PL), (15, .i q)], []⟩) (fun q => q <= PL.length) (fun q => PL.length - q) 0 ?_ (by omega) ?_
  ·exact zal rfl
  intro q hq
  by_cases hql : q < PL.length
  ·obtain ⟨hl1, hl2⟩ := hln PL[q] (hplens _ (List.getElem_mem hql))
   clear hln hplens
   generalize lineM L[i] PL[q] = w at *
   have hne : decide (w ≠ w) = false := by simp
   (repeat' first|(refine Qe ?_;(first|refine QG rfl ?_|refine QJ rfl ?_|(refine Qo ?_;(first|refine Q1 rfl rfl ?_|refine W3 rfl rfl (by omega) ?_))|refine Qt rfl ?_))|(refine Qk ?_;(first|refine Qi ?_|refine QN rfl ?_))|(refine Qj ?_;(first|refine Qn ?_|refine Qc ?_|refine Qf ?_|(refine Wg ?_;first|refine Q3 (by rfl) (by kernel_rfl) (by kernel_rfl) ?_|refine Q2 (by kernel_rfl) (by kernel_rfl) ?_)|refine Qx ?_|refine Ql rfl ?_|refine Qp rfl (by omega) ?_))|(refine Zw ?_;(first|refine x_op rfl (by (repeat' first|(refine Qe ?_;(first|refine QG rfl ?_|(refine Qz ?_;(first|refine QM rfl ?_|refine QD rfl ?_))|refine Qv rfl rfl (by first|assumption|omega|(simp;done)|(simp;omega)) ?_|refine s_neq_asK rfl rfl hne ?_|(refine Qq ?_;(first|refine QZ rfl rfl (hl1) ?_|refine QZ rfl rfl (hl2) ?_))))|exact ⟨rfl, rfl⟩)) ?_|refine Zr ?_)))
   refine ⟨q + 1, by omega, by omega, ?_⟩
   exact zal rfl
  ·clear hln hplens
   (repeat' first|(refine Qe ?_;(first|refine QG rfl ?_|refine QJ rfl ?_|(refine Qo ?_;(first|refine Q1 rfl rfl ?_|refine W3 rfl rfl (by omega) ?_))|refine Qt rfl ?_))|(refine Qk ?_;(first|refine Qi ?_|refine QN rfl ?_))|(refine Qj ?_;(first|refine Qn ?_|refine Qc ?_|refine Qm rfl (by omega) ?_|refine WI rfl ?_)))
   refine ⟨i + 1, by omega, by omega, ?_⟩
   exact zal rfl
 ·clear hall
  (repeat' first|(refine Qe ?_;(first|refine QG rfl ?_|refine QJ rfl ?_|refine Q1 rfl rfl ?_|refine QZ rfl rfl (hlv) ?_))|(refine Qk ?_;(first|refine Qi ?_|refine QN rfl ?_))|(refine Qj ?_;(first|refine Qn ?_|refine Qc ?_|refine Qm rfl (by omega) ?_|refine WI rfl ?_|refine Qs ?_)))
  exact e_1 (Tryz.results5) (Qg rfl) (Qw rfl)
end Go.Proofs
end
