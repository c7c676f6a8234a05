/-
  Part 5 of the proof: R9 PZ RA V1 V2 RB GA BN CP AvD2 LV AvL5.
-/
import Derived.Test.YtnppaoeijmgneaaGreatDoorZB1
import Derived.Test.YtnppaoeijmgneaaGreatDoorZB2
import Derived.Test.YtnppaoeijmgneaaGreatDoorZB3
import Derived.Test.YtnppaoeijmgneaaGreatDoorZB4
set_option linter.unusedSimpArgs false
set_option linter.unusedVariables false
set_option maxRecDepth 10000
set_option maxHeartbeats 4000000
section
namespace Go.Proofs
open Go.Av
variable {G : Nat -> DV}
attribute [local irreducible] OpSem Za Zv qc ACalls AEnd AClose RV
open Go.Bl
theorem stmt_rc (L : Zq) (hL : OkL L) (E : Rd1) (hEj : ∀ i c, J i c E E) (q : Nat) (r1 : Nat) (hE : ElC G 176 L E r1) (hq : r1 + 1 <= q) : ∀ (n : Nat) (S : RS), rM L S + 2 <= n -> rM L S <= r1 + 1 -> CE Tryz.prog G 152 (fun p g => [.ptr p g 0]) (rdC L S) (.agg (Enc.enc (WA L E q n S).1)) (rdC L (WA L E q n S).2) := by
 intro n
 induction n with
 | zero => intro S h; omega
 | succ n ih =>
 intro S hn hr1
 have hjs := jS (L := L) hEj q n
 have hB := fun i c => jB (L := L) hjs n i c
 have hel : rM L S >= 1 -> ElC G 152 L (WA L E q n) (rM L S - 1) := fun h1 Q hQ => ⟨ih Q (by omega) (by omega), (jr (fun i => hjs i True) Q).1⟩
 have heat : rM L S >= 1 -> Eats L (WA L E q n) := fun h1 => by
  obtain ⟨n', rfl⟩ : ∃ n', n = n' + 1 := ⟨n - 1, by omega⟩
  exact eats_st hEj q n'
 have blk : rM L S >= 1 -> ∀ Q, rM L Q <= rM L S -> CE Tryz.prog G 111 (fun p g => [.ptr p g 0]) (rdC L Q) (.agg (Enc.enc (Wi L (WA L E q n) n Q).1)) (rdC L (Wi L (WA L E q n) n Q).2) := fun h1 Q hQ => block_rc L hL _ (rM L S - 1) n (hel h1) (heat h1) Q (by omega) (by omega)
 have bln : ∀ Q, rM L (Wi L (WA L E q n) n Q).2 <= rM L Q := fun Q => (jr (fun i => hB i True) Q).1
 clear ih hel heat
 rw [WA]
 by_cases h1 : QV L S = [123]
 ·rw [if_pos h1]
  have hd : decide (QV L S = [123]) = true := decide_eq_true h1
  have hrn := (WE h1 (by decide)).1
  have hblk := blk (by omega) S (Nat.le_refl _)
  clear blk bln
  intro g B hg
  refine Qa Tryz.func152 rfl Tryz.ntmps152 rfl (t := [(0, .ptr 0 g 0)]) rfl fun E0 hE1 => ?_
  (repeat' first | (refine Qg ?_; (first | refine QN rfl ?_ | refine Qc rfl rfl rfl ?_ | refine Wx rfl rfl ?_ | (refine Qt ?_; (first | refine Q4 0 (ZQ L S hL) rfl rfl rfl rfl ?_ | refine Q4 0 (hblk) rfl rfl rfl rfl ?_)) | refine WD rfl rfl rfl rfl ?_ | refine QH rfl rfl ?_ | refine Qu (fun _ _ => ?_) | refine Q9 rfl rfl (fun _ _ => ?_))) | (refine Qk ?_; (first | refine Qi ?_ | refine QK rfl ?_ | refine QR ?_)) | (refine Qj ?_; (first | refine Ql ?_ | refine Qb ?_ | refine Qe ?_ | refine Qm rfl (by omega) ?_ | refine Qy ?_)))
  exact e_1 (Tryz.results152) (Qz (size := 4) rfl rfl (partD_node _) (Enc.len _)) (c_ce rfl rfl)
 rw [if_neg h1]
 have hd : decide (QV L S = [123]) = false := decide_eq_false h1
 have his1 := is_c (G := G) L S hL 118
 by_cases h2 : isM L 118 S = true
 ·rw [if_pos h2]
  rw [h2] at his1
  have hrn := (WE (L := L) (S := S) rfl (is_now h2).1).1
  have hasg := assign_rc (G := G) L hL E r1 hE S (by omega) h2
  clear blk bln
  intro g B hg
  refine Qa Tryz.func152 rfl Tryz.ntmps152 rfl (t := [(0, .ptr 0 g 0)]) rfl fun E0 hE1 => ?_
  (repeat' first | (refine Qg ?_; (first | refine QN rfl ?_ | refine Qc rfl rfl rfl ?_ | refine Wx rfl rfl ?_ | (refine Qt ?_; (first | refine Q4 0 (ZQ L S hL) rfl rfl rfl rfl ?_ | refine Q4 0 (his1) rfl rfl rfl rfl ?_ | refine Q4 0 (hasg) rfl rfl rfl rfl ?_)) | refine WD rfl rfl rfl rfl ?_ | refine QH rfl rfl ?_ | refine Qu (fun _ _ => ?_) | refine Q9 rfl rfl (fun _ _ => ?_))) | (refine Qk ?_; (first | refine Qi ?_ | refine QK rfl ?_ | refine QR ?_)) | (refine Qj ?_; (first | refine Ql ?_ | refine Qb ?_ | refine Qe ?_ | refine Qq rfl ?_ | refine Qf rfl (by omega) ?_ | refine Qy ?_)))
  exact e_1 (Tryz.results152) (Qz (size := 4) rfl rfl (partD_node _) (Enc.len _)) (c_ce rfl rfl)
 rw [if_neg h2]
 rw [show isM L 118 S = false by simpa using h2] at his1
 by_cases hwIf : QV L S = wIf
 ·rw [if_pos hwIf]
  have hrn := (WE hwIf (by decide)).1
  unfold ifM
  have hval := fun (gb g2 B' g : Nat) (h : g <= B') => stmt1_rc (G := G) L E r1 hE (Qn S) (by omega) 17 g gb g2 B' h
  have hel := (hE (Qn S) (by omega)).2
  simp only
  generalize (E (Qn S)).1 = xE at *
  generalize (E (Qn S)).2 = S1 at *
  have hbla := blk (by omega) S1 (by omega)
  have hbll := bln S1
  generalize (Wi L (WA L E q n) n S1).1 = xa at *
  generalize (Wi L (WA L E q n) n S1).2 = S2 at *
  have htk := take_c (G := G) L S2 hL wElse (by decide)
  have htl := rM_take (L := L) (S := S2) wElse (by decide)
  generalize QU L wElse S2 = S3 at *
  have hblb := blk (by omega) S3 (by omega)
  generalize (Wi L (WA L E q n) n S3).1 = xb at *
  generalize (Wi L (WA L E q n) n S3).2 = S4 at *
  clear blk bln
  intro g B hg
  refine Qa Tryz.func152 rfl Tryz.ntmps152 rfl (t := [(0, .ptr 0 g 0)]) rfl fun E0 hE1 => ?_
  (repeat' first | (refine Qg ?_; (first | refine QJ rfl ?_ | refine QN rfl ?_ | (refine QG ?_; (first | refine WL rfl rfl ?_ | refine Qc rfl rfl rfl ?_)) | refine Wx rfl rfl ?_ | (refine Qt ?_; (first | refine s_callv_og rfl rfl (hval _ _ _ _ (by omega)) (fun _ _ => ?_) | refine Q4 0 (ZQ L S hL) rfl rfl rfl rfl ?_ | refine Q4 0 (his1) rfl rfl rfl rfl ?_ | refine Q4 0 (hbla) rfl rfl rfl rfl ?_ | refine Q4 0 (hblb) rfl rfl rfl rfl ?_ | refine Q4 0 (htk) rfl rfl rfl rfl ?_ | refine Q4 0 (ZC L S hL _ (by decide) (by assumption)) rfl rfl rfl rfl ?_ | refine Zt (z := xa) rfl rfl rfl rfl rfl rfl rfl (by first | omega | (simp; done) | (simp; omega)) (by first | omega | (simp; done) | (simp; omega)) (fun _ => rfl) (fun _ _ => ?_) | refine Zt (z := xb) rfl rfl rfl rfl rfl rfl rfl (by first | omega | (simp; done) | (simp; omega)) (by first | omega | (simp; done) | (simp; omega)) (fun _ => rfl) (fun _ _ => ?_))) | (refine Wg ?_; (first | refine WD rfl rfl rfl rfl ?_ | refine QZ rfl rfl rfl rfl (by rfl) (by rfl) (by rfl) ?_)) | refine QH rfl rfl ?_ | refine Qu (fun _ _ => ?_) | refine Q9 rfl rfl (fun _ _ => ?_))) | (refine Qk ?_; (first | refine Qi ?_ | refine QK rfl ?_ | refine QR ?_)) | (refine Qj ?_; (first | refine Ql ?_ | refine Qb ?_ | refine Qe ?_ | (refine WF ?_; first | (rename_i gb hgb g2 hg2 gt hgt; refine Qv (fun p => p :: .row gb [.ptr 0 g 0] :: .row g2 [.i 0, .i 0, .i 0, .nil] :: .row gt (Enc.enc xa) :: []) 6 [(0, true), (1, true), (2, true), (3, false), (4, true), (5, true), (6, false)] (by rfl) (by rfl) (by kernel_rfl) (by decide +kernel) (by decide +kernel) ⟨_, rfl⟩ ?_) | (rename_i gc2 hgc2; refine Qv (fun p => p.1 :: .row gb [.ptr 0 g 0] :: .row g2 [.i 0, .i 0, .i 0, .nil] :: p.2 :: .row gn [.i 17, .i 0, .i 0, .ref 3 gc2 0 ([xE] ++ [xa]).length 4] :: []) 7 [(0, true), (1, true), (2, true), (3, false), (4, true), (5, false), (6, true), (7, false)] (by rfl) (by rfl) (by kernel_rfl) (by decide +kernel) (by decide +kernel) ⟨(_, _), rfl⟩ ?_) | (rename_i gb hgb g2 hg2 gc hgc gn hgn; refine Qv (fun p => p.1 :: .row gb [.ptr 0 g 0] :: .row g2 [.i 0, .i 0, .i 0, .nil] :: p.2 :: .row gn [.i 18, .i 0, .i 0, .ref 3 gc 0 [xE].length 4] :: []) 7 [(0, true), (1, true), (2, true), (3, false), (4, true), (5, false), (6, true), (7, false)] (by rfl) (by rfl) (by kernel_rfl) (by decide +kernel) (by decide +kernel) ⟨(_, _), rfl⟩ ?_) | (rename_i gb hgb g2 hg2 gc hgc gn hgn; refine Qv (fun p => p.1 :: .row gb [.ptr 0 g 0] :: .row g2 [.i 0, .i 0, .i 0, .nil] :: p.2 :: .row gn [.i 17, .i 0, .i 0, .ref 3 gc 0 [xE].length 4] :: []) 7 [(0, true), (1, true), (2, true), (3, false), (4, true), (5, false), (6, true), (7, false)] (by rfl) (by rfl) (by kernel_rfl) (by decide +kernel) (by decide +kernel) ⟨(_, _), rfl⟩ ?_) | (refine Qv (fun p => p.1 :: p.2 :: []) 100 [(0, true)] (by rfl) (by rfl) (by kernel_rfl) (by decide +kernel) (by decide +kernel) ⟨(_, _), rfl⟩ ?_) | (refine Qv (fun p => p) 100 [(0, true)] (by rfl) (by rfl) (by kernel_rfl) (by decide +kernel) (by decide +kernel) ⟨_, rfl⟩ ?_) | refine Wm (by rfl) (by kernel_rfl) (by kernel_rfl) ?_ | refine Wl (by kernel_rfl) (by kernel_rfl) ?_) | refine Qq rfl ?_ | refine Qs rfl ?_ | refine Qf rfl (by omega) ?_ | refine Qy ?_)) | (refine W6 ?_; (first | refine ZG ?_ | refine i_z0 ?_ | refine i_st rfl rfl (fun _ => (by (repeat' first | (refine Qg ?_; (first | refine Qc rfl rfl rfl ?_ | (refine Zl ?_; (first | refine Q3 (z := xa) rfl rfl (by decide) ?_ | refine Q3 (z := xb) rfl rfl (by decide) ?_)) | refine Qd rfl rfl ?_)) | exact ⟨rfl, rfl⟩))) ?_ | refine i_ef rfl ?_)) | refine And.intro (Exists.intro ((_, _)) rfl) ?_)
  exact e_1 (Tryz.results152) (Qz (size := 4) rfl rfl rfl rfl) (Zi (D := fun d => .agg [.i 17, .i 0, .i 0, d]) (k := 2) (.node rfl rfl rfl) rfl (by rw [QS]; rfl) (by rw [QQ]; rfl) rfl)
 rw [if_neg hwIf]
 by_cases hwWhile : QV L S = wWhile
 ·rw [if_pos hwWhile]
  have hrn := (WE hwWhile (by decide)).1
  unfold whileM
  have hval := fun (gb g2 B' g : Nat) (h : g <= B') => stmt1_rc (G := G) L E r1 hE (Qn S) (by omega) 18 g gb g2 B' h
  have hel := (hE (Qn S) (by omega)).2
  simp only
  generalize (E (Qn S)).1 = xE at *
  generalize (E (Qn S)).2 = S1 at *
  have hbla := blk (by omega) S1 (by omega)
  have hbll := bln S1
  generalize (Wi L (WA L E q n) n S1).1 = xa at *
  generalize (Wi L (WA L E q n) n S1).2 = S2 at *
  clear blk bln
  intro g B hg
  refine Qa Tryz.func152 rfl Tryz.ntmps152 rfl (t := [(0, .ptr 0 g 0)]) rfl fun E0 hE1 => ?_
  (repeat' first | (refine Qg ?_; (first | refine QJ rfl ?_ | refine QN rfl ?_ | (refine QG ?_; (first | refine WL rfl rfl ?_ | refine Qc rfl rfl rfl ?_)) | refine Wx rfl rfl ?_ | (refine Qt ?_; (first | refine s_callv_og rfl rfl (hval _ _ _ _ (by omega)) (fun _ _ => ?_) | refine Q4 0 (ZQ L S hL) rfl rfl rfl rfl ?_ | refine Q4 0 (his1) rfl rfl rfl rfl ?_ | refine Q4 0 (hbla) rfl rfl rfl rfl ?_ | refine Q4 0 (ZH L S hL _ (by decide) (by assumption)) rfl rfl rfl rfl ?_ | refine Q4 0 (ZC L S hL _ (by decide) (by assumption)) rfl rfl rfl rfl ?_ | refine Zt (z := xa) rfl rfl rfl rfl rfl rfl rfl (by first | omega | (simp; done) | (simp; omega)) (by first | omega | (simp; done) | (simp; omega)) (fun _ => rfl) (fun _ _ => ?_))) | (refine Wg ?_; (first | refine WD rfl rfl rfl rfl ?_ | refine QZ rfl rfl rfl rfl (by rfl) (by rfl) (by rfl) ?_)) | refine QH rfl rfl ?_ | refine Qu (fun _ _ => ?_) | refine Q9 rfl rfl (fun _ _ => ?_))) | (refine Qk ?_; (first | refine Qi ?_ | refine QK rfl ?_ | refine QR ?_)) | (refine Qj ?_; (first | refine Ql ?_ | refine Qb ?_ | refine Qe ?_ | (refine WF ?_; first | (rename_i gb hgb g2 hg2 gt hgt; refine Qv (fun p => p :: .row gb [.ptr 0 g 0] :: .row g2 [.i 0, .i 0, .i 0, .nil] :: .row gt (Enc.enc xa) :: []) 6 [(0, true), (1, true), (2, true), (3, false), (4, true), (5, true), (6, false)] (by rfl) (by rfl) (by kernel_rfl) (by decide +kernel) (by decide +kernel) ⟨_, rfl⟩ ?_) | (rename_i gc2 hgc2; refine Qv (fun p => p.1 :: .row gb [.ptr 0 g 0] :: .row g2 [.i 0, .i 0, .i 0, .nil] :: p.2 :: .row gn [.i 17, .i 0, .i 0, .ref 3 gc2 0 ([xE] ++ [xa]).length 4] :: []) 7 [(0, true), (1, true), (2, true), (3, false), (4, true), (5, false), (6, true), (7, false)] (by rfl) (by rfl) (by kernel_rfl) (by decide +kernel) (by decide +kernel) ⟨(_, _), rfl⟩ ?_) | (rename_i gb hgb g2 hg2 gc hgc gn hgn; refine Qv (fun p => p.1 :: .row gb [.ptr 0 g 0] :: .row g2 [.i 0, .i 0, .i 0, .nil] :: p.2 :: .row gn [.i 18, .i 0, .i 0, .ref 3 gc 0 [xE].length 4] :: []) 7 [(0, true), (1, true), (2, true), (3, false), (4, true), (5, false), (6, true), (7, false)] (by rfl) (by rfl) (by kernel_rfl) (by decide +kernel) (by decide +kernel) ⟨(_, _), rfl⟩ ?_) | (rename_i gb hgb g2 hg2 gc hgc gn hgn; refine Qv (fun p => p.1 :: .row gb [.ptr 0 g 0] :: .row g2 [.i 0, .i 0, .i 0, .nil] :: p.2 :: .row gn [.i 17, .i 0, .i 0, .ref 3 gc 0 [xE].length 4] :: []) 7 [(0, true), (1, true), (2, true), (3, false), (4, true), (5, false), (6, true), (7, false)] (by rfl) (by rfl) (by kernel_rfl) (by decide +kernel) (by decide +kernel) ⟨(_, _), rfl⟩ ?_) | (refine Qv (fun p => p.1 :: p.2 :: []) 100 [(0, true)] (by rfl) (by rfl) (by kernel_rfl) (by decide +kernel) (by decide +kernel) ⟨(_, _), rfl⟩ ?_) | (refine Qv (fun p => p) 100 [(0, true)] (by rfl) (by rfl) (by kernel_rfl) (by decide +kernel) (by decide +kernel) ⟨_, rfl⟩ ?_) | refine Wm (by rfl) (by kernel_rfl) (by kernel_rfl) ?_ | refine Wl (by kernel_rfl) (by kernel_rfl) ?_) | refine Qq rfl ?_ | refine Qs rfl ?_ | refine Qf rfl (by omega) ?_ | refine Qy ?_)) | (refine W6 ?_; (first | refine ZG ?_ | refine i_z0 ?_ | refine i_st rfl rfl (fun _ => (by (repeat' first | (refine Qg ?_; (first | refine Qc rfl rfl rfl ?_ | refine Q3 (z := xa) rfl rfl (by decide) ?_ | refine Qd rfl rfl ?_)) | exact ⟨rfl, rfl⟩))) ?_ | refine i_ef rfl ?_)) | refine And.intro (Exists.intro ((_, _)) rfl) ?_)
  exact e_1 (Tryz.results152) (Qz (size := 4) rfl rfl rfl rfl) (Zi (D := fun d => .agg [.i 18, .i 0, .i 0, d]) (k := 2) (.node rfl rfl rfl) rfl (by rw [QS]; rfl) (by rw [QQ]; rfl) rfl)
 rw [if_neg hwWhile]
 by_cases hwReturn : QV L S = wReturn
 ·rw [if_pos hwReturn]
  have hrn := (WE hwReturn (by decide)).1
  unfold oneM
  have hval := fun (gb g2 B' g : Nat) (h : g <= B') => stmt1_rc (G := G) L E r1 hE (Qn S) (by omega) 19 g gb g2 B' h
  generalize (E (Qn S)).1 = xE at *
  generalize (E (Qn S)).2 = S1 at *
  clear blk bln
  intro g B hg
  refine Qa Tryz.func152 rfl Tryz.ntmps152 rfl (t := [(0, .ptr 0 g 0)]) rfl fun E0 hE1 => ?_
  (repeat' first | (refine Qg ?_; (first | refine QJ rfl ?_ | refine QN rfl ?_ | refine Qc rfl rfl rfl ?_ | refine Wx rfl rfl ?_ | (refine Qt ?_; (first | refine s_callv_og rfl rfl (hval _ _ _ _ (by omega)) (fun _ _ => ?_) | refine Q4 0 (ZQ L S hL) rfl rfl rfl rfl ?_ | refine Q4 0 (his1) rfl rfl rfl rfl ?_ | refine Q4 0 (ZH L S hL _ (by decide) (by assumption)) rfl rfl rfl rfl ?_ | refine Q4 0 (ZC L S hL _ (by decide) (by assumption)) rfl rfl rfl rfl ?_)) | refine WD rfl rfl rfl rfl ?_ | refine QH rfl rfl ?_ | refine Qu (fun _ _ => ?_) | refine Q9 rfl rfl (fun _ _ => ?_))) | (refine Qk ?_; (first | refine Qi ?_ | refine QK rfl ?_ | refine QR ?_)) | (refine Qj ?_; (first | refine Ql ?_ | refine Qb ?_ | refine Qe ?_ | refine Qq rfl ?_ | refine Qs rfl ?_ | refine Qf rfl (by omega) ?_ | refine Qy ?_)))
  exact e_1 (Tryz.results152) (Qz (size := 4) rfl rfl rfl rfl) (Zi (D := fun d => .agg [.i 19, .i 0, .i 0, d]) (k := 2) (.node rfl rfl rfl) rfl (by rw [QS]; rfl) (by rw [QQ]; rfl) rfl)
 rw [if_neg hwReturn]
 by_cases hwThrow : QV L S = wThrow
 ·rw [if_pos hwThrow]
  have hrn := (WE hwThrow (by decide)).1
  unfold oneM
  have hval := fun (gb g2 B' g : Nat) (h : g <= B') => stmt1_rc (G := G) L E r1 hE (Qn S) (by omega) 20 g gb g2 B' h
  generalize (E (Qn S)).1 = xE at *
  generalize (E (Qn S)).2 = S1 at *
  clear blk bln
  intro g B hg
  refine Qa Tryz.func152 rfl Tryz.ntmps152 rfl (t := [(0, .ptr 0 g 0)]) rfl fun E0 hE1 => ?_
  (repeat' first | (refine Qg ?_; (first | refine QJ rfl ?_ | refine QN rfl ?_ | refine Qc rfl rfl rfl ?_ | refine Wx rfl rfl ?_ | (refine Qt ?_; (first | refine s_callv_og rfl rfl (hval _ _ _ _ (by omega)) (fun _ _ => ?_) | refine Q4 0 (ZQ L S hL) rfl rfl rfl rfl ?_ | refine Q4 0 (his1) rfl rfl rfl rfl ?_ | refine Q4 0 (ZH L S hL _ (by decide) (by assumption)) rfl rfl rfl rfl ?_ | refine Q4 0 (ZC L S hL _ (by decide) (by assumption)) rfl rfl rfl rfl ?_)) | refine WD rfl rfl rfl rfl ?_ | refine QH rfl rfl ?_ | refine Qu (fun _ _ => ?_) | refine Q9 rfl rfl (fun _ _ => ?_))) | (refine Qk ?_; (first | refine Qi ?_ | refine QK rfl ?_ | refine QR ?_)) | (refine Qj ?_; (first | refine Ql ?_ | refine Qb ?_ | refine Qe ?_ | refine Qq rfl ?_ | refine Qs rfl ?_ | refine Qf rfl (by omega) ?_ | refine Qy ?_)))
  exact e_1 (Tryz.results152) (Qz (size := 4) rfl rfl rfl rfl) (Zi (D := fun d => .agg [.i 20, .i 0, .i 0, d]) (k := 2) (.node rfl rfl rfl) rfl (by rw [QS]; rfl) (by rw [QQ]; rfl) rfl)
 rw [if_neg hwThrow]
 by_cases hwOut : QV L S = wOut
 ·rw [if_pos hwOut]
  have hrn := (WE hwOut (by decide)).1
  unfold oneM
  have hval := fun (gb g2 B' g : Nat) (h : g <= B') => stmt1_rc (G := G) L E r1 hE (Qn S) (by omega) 24 g gb g2 B' h
  generalize (E (Qn S)).1 = xE at *
  generalize (E (Qn S)).2 = S1 at *
  clear blk bln
  intro g B hg
  refine Qa Tryz.func152 rfl Tryz.ntmps152 rfl (t := [(0, .ptr 0 g 0)]) rfl fun E0 hE1 => ?_
  (repeat' first | (refine Qg ?_; (first | refine QJ rfl ?_ | refine QN rfl ?_ | refine Qc rfl rfl rfl ?_ | refine Wx rfl rfl ?_ | (refine Qt ?_; (first | refine s_callv_og rfl rfl (hval _ _ _ _ (by omega)) (fun _ _ => ?_) | refine Q4 0 (ZQ L S hL) rfl rfl rfl rfl ?_ | refine Q4 0 (his1) rfl rfl rfl rfl ?_ | refine Q4 0 (ZH L S hL _ (by decide) (by assumption)) rfl rfl rfl rfl ?_ | refine Q4 0 (ZC L S hL _ (by decide) (by assumption)) rfl rfl rfl rfl ?_)) | refine WD rfl rfl rfl rfl ?_ | refine QH rfl rfl ?_ | refine Qu (fun _ _ => ?_) | refine Q9 rfl rfl (fun _ _ => ?_))) | (refine Qk ?_; (first | refine Qi ?_ | refine QK rfl ?_ | refine QR ?_)) | (refine Qj ?_; (first | refine Ql ?_ | refine Qb ?_ | refine Qe ?_ | refine Qq rfl ?_ | refine Qs rfl ?_ | refine Qf rfl (by omega) ?_ | refine Qy ?_)))
  exact e_1 (Tryz.results152) (Qz (size := 4) rfl rfl rfl rfl) (Zi (D := fun d => .agg [.i 24, .i 0, .i 0, d]) (k := 2) (.node rfl rfl rfl) rfl (by rw [QS]; rfl) (by rw [QQ]; rfl) rfl)
 rw [if_neg hwOut]
 by_cases hwSkip : QV L S = wSkip
 ·rw [if_pos hwSkip]
  have hrn := (WE hwSkip (by decide)).1
  clear blk bln
  intro g B hg
  refine Qa Tryz.func152 rfl Tryz.ntmps152 rfl (t := [(0, .ptr 0 g 0)]) rfl fun E0 hE1 => ?_
  (repeat' first | (refine Qg ?_; (first | refine QN rfl ?_ | refine Qc rfl rfl rfl ?_ | refine Wx rfl rfl ?_ | (refine Qt ?_; (first | refine Q4 0 (ZQ L S hL) rfl rfl rfl rfl ?_ | refine Q4 0 (his1) rfl rfl rfl rfl ?_ | refine Q4 0 (ZH L S hL _ (by decide) (by assumption)) rfl rfl rfl rfl ?_ | refine Q4 0 (ZC L S hL _ (by decide) (by assumption)) rfl rfl rfl rfl ?_)) | refine WD rfl rfl rfl rfl ?_ | refine QA rfl rfl ?_ | refine QH rfl rfl ?_ | refine Qu (fun _ _ => ?_) | refine Q9 rfl rfl (fun _ _ => ?_))) | (refine Qk ?_; (first | refine Qi ?_ | refine QK rfl ?_ | refine QR ?_)) | (refine Qj ?_; (first | refine Ql ?_ | refine Qb ?_ | refine Qe ?_ | refine Qq rfl ?_ | refine Qs rfl ?_ | refine Qf rfl (by omega) ?_ | refine Qy ?_)))
  exact e_1 (Tryz.results152) (Qz (size := 4) rfl rfl rfl rfl) (WN (es := 4) (.node rfl rfl rfl) (by rw [QQ]; rfl) rfl)
 rw [if_neg hwSkip]
 by_cases hwTry : QV L S = wTry
 ·rw [if_pos hwTry]
  have hrn := (WE hwTry (by decide)).1
  unfold tryM
  simp only
  have hbla := blk (by omega) (Qn S) (by omega)
  have hbll := bln (Qn S)
  generalize (Wi L (WA L E q n) n (Qn S)).1 = xa at *
  generalize (Wi L (WA L E q n) n (Qn S)).2 = S2 at *
  have htk := take_c (G := G) L S2 hL qv (by decide)
  have htl := rM_take (L := L) (S := S2) qv (by decide)
  generalize QU L qv S2 = S3 at *
  have hnb := numbered_c (G := G) L S3 hL 118
  have hnl := rM_numbered L 118 S3
  generalize (Qh L 118 S3).1 = v at *
  generalize (Qh L 118 S3).2 = S4 at *
  have hblb := blk (by omega) S4 (by omega)
  generalize (Wi L (WA L E q n) n S4).1 = xb at *
  generalize (Wi L (WA L E q n) n S4).2 = S5 at *
  clear blk bln
  intro g B hg
  refine Qa Tryz.func152 rfl Tryz.ntmps152 rfl (t := [(0, .ptr 0 g 0)]) rfl fun E0 hE1 => ?_
  (repeat' first | (refine Qg ?_; (first | refine QN rfl ?_ | refine Qc rfl rfl rfl ?_ | refine Wx rfl rfl ?_ | (refine Qt ?_; (first | refine Q4 0 (ZQ L S hL) rfl rfl rfl rfl ?_ | refine Q4 0 (his1) rfl rfl rfl rfl ?_ | refine Q4 0 (hbla) rfl rfl rfl rfl ?_ | refine Q4 0 (hblb) rfl rfl rfl rfl ?_ | refine Q4 0 (htk) rfl rfl rfl rfl ?_ | refine Q4 0 (hnb) rfl rfl rfl rfl ?_ | refine Q4 0 (ZH L S hL _ (by decide) (by assumption)) rfl rfl rfl rfl ?_ | refine Q4 0 (ZC L S hL _ (by decide) (by assumption)) rfl rfl rfl rfl ?_)) | refine WD rfl rfl rfl rfl ?_ | refine QH rfl rfl ?_ | refine Qu (fun _ _ => ?_) | refine Q9 rfl rfl (fun _ _ => ?_))) | (refine Qk ?_; (first | refine Qi ?_ | refine QK rfl ?_ | refine QR ?_)) | (refine Qj ?_; (first | refine Ql ?_ | refine Qb ?_ | refine Qe ?_ | (refine WF ?_; first | (rename_i gb hgb g2 hg2 gt hgt; refine Qv (fun p => p :: .row gb [.ptr 0 g 0] :: .row g2 [.i 0, .i 0, .i 0, .nil] :: .row gt (Enc.enc xa) :: []) 6 [(0, true), (1, true), (2, true), (3, false), (4, true), (5, true), (6, false)] (by rfl) (by rfl) (by kernel_rfl) (by decide +kernel) (by decide +kernel) ⟨_, rfl⟩ ?_) | (rename_i gc2 hgc2; refine Qv (fun p => p.1 :: .row gb [.ptr 0 g 0] :: .row g2 [.i 0, .i 0, .i 0, .nil] :: p.2 :: .row gn [.i 17, .i 0, .i 0, .ref 3 gc2 0 ([xE] ++ [xa]).length 4] :: []) 7 [(0, true), (1, true), (2, true), (3, false), (4, true), (5, false), (6, true), (7, false)] (by rfl) (by rfl) (by kernel_rfl) (by decide +kernel) (by decide +kernel) ⟨(_, _), rfl⟩ ?_) | (rename_i gb hgb g2 hg2 gc hgc gn hgn; refine Qv (fun p => p.1 :: .row gb [.ptr 0 g 0] :: .row g2 [.i 0, .i 0, .i 0, .nil] :: p.2 :: .row gn [.i 18, .i 0, .i 0, .ref 3 gc 0 [xE].length 4] :: []) 7 [(0, true), (1, true), (2, true), (3, false), (4, true), (5, false), (6, true), (7, false)] (by rfl) (by rfl) (by kernel_rfl) (by decide +kernel) (by decide +kernel) ⟨(_, _), rfl⟩ ?_) | (rename_i gb hgb g2 hg2 gc hgc gn hgn; refine Qv (fun p => p.1 :: .row gb [.ptr 0 g 0] :: .row g2 [.i 0, .i 0, .i 0, .nil] :: p.2 :: .row gn [.i 17, .i 0, .i 0, .ref 3 gc 0 [xE].length 4] :: []) 7 [(0, true), (1, true), (2, true), (3, false), (4, true), (5, false), (6, true), (7, false)] (by rfl) (by rfl) (by kernel_rfl) (by decide +kernel) (by decide +kernel) ⟨(_, _), rfl⟩ ?_) | (refine Qv (fun p => p.1 :: p.2 :: []) 100 [(0, true)] (by rfl) (by rfl) (by kernel_rfl) (by decide +kernel) (by decide +kernel) ⟨(_, _), rfl⟩ ?_) | (refine Qv (fun p => p) 100 [(0, true)] (by rfl) (by rfl) (by kernel_rfl) (by decide +kernel) (by decide +kernel) ⟨_, rfl⟩ ?_) | refine Wm (by rfl) (by kernel_rfl) (by kernel_rfl) ?_ | refine Wl (by kernel_rfl) (by kernel_rfl) ?_) | refine Qq rfl ?_ | refine Qs rfl ?_ | refine Qf rfl (by omega) ?_ | refine Qy ?_)) | (refine W6 ?_; (first | refine ZG ?_ | refine i_z0 ?_ | refine i_st rfl rfl (fun _ => (by (repeat' first | (refine Qg ?_; (first | refine QJ rfl ?_ | (refine QG ?_; (first | refine WL rfl rfl ?_ | refine Qc rfl rfl rfl ?_)) | refine ZD (y := xa) (z := xb) rfl rfl (by decide) ?_ | refine QA rfl rfl ?_)) | exact ⟨rfl, rfl⟩))) ?_ | refine i_ef rfl ?_)) | refine And.intro (Exists.intro (_) rfl) ?_)
  refine e_1 (Tryz.results152) (Qz (size := 4) rfl rfl rfl rfl) ?_
  rw [QQ]
  exact c_ce rfl rfl
 rw [if_neg hwTry]
 by_cases hwSend : QV L S = wSend
 ·rw [if_pos hwSend]
  have hrn := (WE hwSend (by decide)).1
  unfold oneM
  have hnb := numbered_c (G := G) L (Qn S) hL 99
  have hnl := rM_numbered L 99 (Qn S)
  generalize (Qh L 99 (Qn S)).1 = v at *
  generalize (Qh L 99 (Qn S)).2 = S1 at *
  have hval := fun (gb g2 B' g : Nat) (h : g <= B') => stmt1_rc (G := G) L E r1 hE S1 (by omega) 22 g gb g2 B' h
  generalize (E S1).1 = xE at *
  generalize (E S1).2 = S2 at *
  clear blk bln
  intro g B hg
  refine Qa Tryz.func152 rfl Tryz.ntmps152 rfl (t := [(0, .ptr 0 g 0)]) rfl fun E0 hE1 => ?_
  (repeat' first | (refine Qg ?_; (first | refine QJ rfl ?_ | refine QN rfl ?_ | (refine QG ?_; (first | refine WL rfl rfl ?_ | refine Qc rfl rfl rfl ?_)) | refine Wx rfl rfl ?_ | (refine Qt ?_; (first | refine s_callv_og rfl rfl (hval _ _ _ _ (by omega)) (fun _ _ => ?_) | refine Q4 0 (ZQ L S hL) rfl rfl rfl rfl ?_ | refine Q4 0 (his1) rfl rfl rfl rfl ?_ | refine Q4 0 (hnb) rfl rfl rfl rfl ?_ | refine Q4 0 (ZH L S hL _ (by decide) (by assumption)) rfl rfl rfl rfl ?_ | refine Q4 0 (ZC L S hL _ (by decide) (by assumption)) rfl rfl rfl rfl ?_)) | (refine Wg ?_; (first | refine WD rfl rfl rfl rfl ?_ | refine QZ rfl rfl rfl rfl (by rfl) (by rfl) (by rfl) ?_)) | refine Qd rfl rfl ?_ | refine QH rfl rfl ?_ | refine Qu (fun _ _ => ?_) | refine Q9 rfl rfl (fun _ _ => ?_))) | (refine Qk ?_; (first | refine Qi ?_ | refine QK rfl ?_ | refine QR ?_)) | (refine Qj ?_; (first | refine Ql ?_ | refine Qb ?_ | refine Qe ?_ | refine Qq rfl ?_ | refine Qs rfl ?_ | refine Qf rfl (by omega) ?_ | refine Qy ?_)))
  exact e_1 (Tryz.results152) (Qz (size := 4) rfl rfl rfl rfl) (Zi (D := fun d => .agg [.i 22, .i v, .i 0, d]) (k := 2) (.node rfl rfl rfl) rfl (by rw [QS]; rfl) (by rw [QQ]; rfl) rfl)
 rw [if_neg hwSend]
 by_cases hwSpawn : QV L S = wSpawn
 ·rw [if_pos hwSpawn]
  have hrn := (WE hwSpawn (by decide)).1
  have hnb := numbered_c (G := G) L (Qn S) hL 102
  have hnl := rM_numbered L 102 (Qn S)
  generalize (Qh L 102 (Qn S)).1 = v at *
  generalize (Qh L 102 (Qn S)).2 = S1 at *
  have hargs := args_rc (G := G) 176 L E r1 q hL hE S1 (by omega) (by omega)
  clear blk bln
  intro g B hg
  refine Qa Tryz.func152 rfl Tryz.ntmps152 rfl (t := [(0, .ptr 0 g 0)]) rfl fun E0 hE1 => ?_
  (repeat' first | (refine Qg ?_; (first | refine QJ rfl ?_ | refine QN rfl ?_ | refine Qc rfl rfl rfl ?_ | refine Wx rfl rfl ?_ | (refine Qt ?_; (first | refine Q4 0 (ZQ L S hL) rfl rfl rfl rfl ?_ | refine Q4 0 (his1) rfl rfl rfl rfl ?_ | refine Q4 0 (hnb) rfl rfl rfl rfl ?_ | refine Q4 0 (ZH L S hL _ (by decide) (by assumption)) rfl rfl rfl rfl ?_ | refine Q4 0 (ZC L S hL _ (by decide) (by assumption)) rfl rfl rfl rfl ?_ | refine s_co 0 (hargs) (by first | exact .id | exact .node rfl rfl rfl) rfl rfl rfl rfl (QC _) (fun _ _ => ?_))) | refine WD rfl rfl rfl rfl ?_ | refine QA rfl rfl ?_ | refine QH rfl rfl ?_ | refine Qu (fun _ _ => ?_) | refine Q9 rfl rfl (fun _ _ => ?_))) | (refine Qk ?_; (first | refine Qi ?_ | refine QK rfl ?_ | refine QR ?_)) | (refine Qj ?_; (first | refine Ql ?_ | refine Qb ?_ | refine Qe ?_ | refine Qq rfl ?_ | refine Qs rfl ?_ | refine Qf rfl (by omega) ?_ | refine Qy ?_)))
  exact e_1 (Tryz.results152) (Qz (size := 4) rfl rfl rfl rfl) (Zi (D := fun d => .agg [.i 23, .i v, .i 0, d]) (k := 2) (.node rfl rfl rfl) rfl (by rw [QS]; rfl) (by rw [QQ]; rfl) rfl)
 rw [if_neg hwSpawn]
 clear blk bln
 intro g B hg
 refine Qa Tryz.func152 rfl Tryz.ntmps152 rfl (t := [(0, .ptr 0 g 0)]) rfl fun E0 hE1 => ?_
 (repeat' first | (refine Qg ?_; (first | refine QN rfl ?_ | refine Qc rfl rfl rfl ?_ | refine Wx rfl rfl ?_ | (refine Qt ?_; (first | refine Q4 0 (ZQ L S hL) rfl rfl rfl rfl ?_ | refine Q4 0 (his1) rfl rfl rfl rfl ?_ | refine Q4 0 (ZH L S hL _ (by decide) (by assumption)) rfl rfl rfl rfl ?_ | refine Q4 0 (fail_c L S) rfl rfl rfl rfl ?_)) | refine WD rfl rfl rfl rfl ?_ | refine QA rfl rfl ?_ | refine QH rfl rfl ?_ | refine Qu (fun _ _ => ?_) | refine Q9 rfl rfl (fun _ _ => ?_))) | (refine Qk ?_; (first | refine Qi ?_ | refine QK rfl ?_ | refine QR ?_)) | (refine Qj ?_; (first | refine Ql ?_ | refine Qb ?_ | refine Qe ?_ | refine QB ?_ | refine Qs rfl ?_ | refine Qf rfl (by omega) ?_ | refine Qy ?_)))
 exact e_1 (Tryz.results152) (Qz (size := 4) rfl rfl rfl rfl) (WN (es := 4) (.node rfl rfl rfl) (by show _ = DV.agg (Enc.enc (Nd.mk 0 0 0 [])); rw [QQ]; rfl) rfl)
end Go.Proofs
end
section
namespace Go.Proofs
open Go.Av Go.Bl
section
variable {α β : Type} {c d : Nat} {L : Zq} {z : Nd}
def KW (c : Nat) (ν : α -> Nat) (F : RS -> α × RS) : Prop := ∀ S, (F S).2.bad = false -> S.bad = false /\ S.p + ν (F S).1 <= (F S).2.p + c
theorem KW.bind {μ : α -> Nat} {ν : β -> Nat} {F : RS -> α × RS} {K : α -> RS -> β × RS} (h : KW c μ F) (hk : ∀ a, KW (d + μ a) ν (K a)) : KW (c + d) ν (fun S => K (F S).1 (F S).2) := fun S hb => by
 obtain ⟨h1, h2⟩ := hk _ _ hb
 obtain ⟨h3, h4⟩ := h S h1
 exact ⟨h3, by show S.p + ν (K (F S).1 (F S).2).1 <= (K (F S).1 (F S).2).2.p + (c + d); omega⟩
theorem KW.next {ν : α -> Nat} {F : RS -> α × RS} (h : KW (c + 1) ν F) : KW c ν (fun S => F (Qn S)) := fun S hb => by
 obtain ⟨h1, h2⟩ := h (Qn S) hb
 exact ⟨h1, by have : (Qn S).p = S.p + 1 := rfl; show S.p + ν (F (Qn S)).1 <= (F (Qn S)).2.p + c; omega⟩
theorem KW.take {ν : α -> Nat} {F : RS -> α × RS} (s : List UInt8) (h : KW (c + 1) ν F) : KW c ν (fun S => F (QU L s S)) := fun S hb => by
 obtain ⟨h1, h2⟩ := h (QU L s S) hb
 unfold QU at h1
 split at h1
 ·rename_i hn
  have e : QU L s S = Qn S := by unfold QU; rw [if_pos hn]
  have : (Qn S).p = S.p + 1 := rfl
  rw [e] at h2
  refine ⟨h1, ?_⟩
  show S.p + ν (F (QU L s S)).1 <= (F (QU L s S)).2.p + c
  rw [e]; omega
 ·cases h1
theorem KW.ite {ν : α -> Nat} {P : RS -> Prop} [DecidablePred P] {F H : RS -> α × RS} (h1 : KW c ν F) (h2 : KW c ν H) : KW c ν (fun S => if P S then F S else H S) := fun S hb => by
 by_cases hp : P S
 ·simp only [if_pos hp] at hb ⊢; exact h1 S hb
 ·simp only [if_neg hp] at hb ⊢; exact h2 S hb
theorem KW.val {ν : α -> Nat} {a : α} (h : ν a <= c) : KW c ν (fun S => (a, S)) := fun S hb => ⟨hb, by show S.p + ν a <= S.p + c; omega⟩
theorem KW.vnext {ν : α -> Nat} {a : α} (h : ν a <= c + 1) : KW c ν (fun S => (a, Qn S)) := KW.next (F := fun S => (a, S)) (KW.val h)
theorem KW.fail {ν : α -> Nat} {F : RS -> α} {G : RS -> RS} : KW c ν (fun S => (F S, WQ (G S))) := fun S hb => by cases hb
theorem KW.map {ν : α -> Nat} {ξ : β -> Nat} {F : RS -> α × RS} {u : α -> β} (h : KW c ν F) (hu : ∀ a, ξ (u a) <= ν a + d) : KW (c + d) ξ (fun S => (u (F S).1, (F S).2)) := h.bind (K := fun a S => (u a, S)) fun a => KW.val (by have := hu a; omega)
theorem KW.conv {ν : α -> Nat} {F : RS -> α × RS} (h : KW c ν F) (e : c = d) : KW d ν F := e ▸ h
abbrev one1 : Int -> Nat := fun _ => 1
theorem KW.numeral : KW 0 one1 (Qw L) := by
 refine KW.ite (P := fun S => numB (QV L S) = true) (F := fun S => (valM (QV L S), Qn S)) (H := fun S => (0, WQ S)) (fun S hb => ⟨hb, ?_⟩) KW.fail
 show S.p + 1 <= S.p + 1 + 0; omega
theorem KW.numbered (x : UInt8) : KW 0 one1 (Qh L x) := by
 refine KW.ite (P := fun S => isM L x S = true) (F := fun S => (valM ((QV L S).drop 1), Qn S)) (H := fun S => (0, WQ S)) (fun S hb => ⟨hb, ?_⟩) KW.fail
 show S.p + 1 <= S.p + 1 + 0; omega
theorem Zr (x : Nd) : QD [x] = Qr x := by simp [QD]
theorem KW.loop {E : Rd1} (hE : KW 0 Qr E) : ∀ (k : Nat) (o : List Nd), KW (QD o) QD (We L E k o)
 | 0, o => KW.val (Nat.le_refl _)
 | k + 1, o => by
  refine KW.ite (P := fun S => QV L S = [44]) (F := fun S => We L E k (o ++ [(E (Qn S)).1]) (E (Qn S)).2) (H := fun S => (o, S)) ?_ (KW.val (Nat.le_refl _))
  refine KW.next (F := fun S => We L E k (o ++ [(E S).1]) (E S).2) ?_
  refine (hE.bind (d := QD o + 1) (K := fun a S => We L E k (o ++ [a]) S) fun a => ?_).conv (by omega)
  have := KW.loop hE k (o ++ [a])
  intro S hb
  obtain ⟨h1, h2⟩ := this S hb
  rw [Z2, Zr] at h2
  exact ⟨h1, by show S.p + QD (We L E k (o ++ [a]) S).1 <= (We L E k (o ++ [a]) S).2.p + (QD o + 1 + Qr a); omega⟩
theorem KW.lst {E : Rd1} (hE : KW 0 Qr E) (k : Nat) : KW 0 QD (Zx L E k) := by
 refine (hE.bind (d := 0) (K := fun a S => ((We L E k [a] S).1, QU L [41] (We L E k [a] S).2)) fun a => ?_).conv (by omega)
 refine ((KW.loop (L := L) hE k [a]).bind (d := 0) (K := fun b S => (b, QU L [41] S)) fun b => ?_).conv (by rw [Zr]; omega)
 exact KW.take (F := fun S => (b, S)) [41] (KW.val (by omega))
theorem KW.arg {E : Rd1} (hE : KW 0 Qr E) (k : Nat) : KW 0 QD (WH L E k) := by
 refine KW.take (F := fun S => if QV L S = [41] then ([], Qn S) else Zx L E k S) [40] ?_
 refine KW.ite (P := fun S => QV L S = [41]) (F := fun S => ([], Qn S)) (KW.vnext (by simp [QD])) fun S hb => ?_
 obtain ⟨h1, h2⟩ := KW.lst hE k S hb
 exact ⟨h1, by omega⟩
theorem KW.variable {E : Rd1} (hE : KW 0 Qr E) : KW 0 Qr (Wq L E) := by
 refine ((KW.numbered (L := L) 118).bind (d := 0) (K := fun a S => varTail L E a S) fun a => ?_).conv (by omega)
 refine KW.ite (P := fun S => QV L S = [91]) (F := fun S => (Nd.mk 7 a 0 [(E (Qn S)).1], QU L [93] (E (Qn S)).2)) ?_ ?_
 ·refine KW.next (F := fun S => (Nd.mk 7 a 0 [(E S).1], QU L [93] (E S).2)) ?_
  refine (hE.bind (d := 0 + one1 a + 1) (K := fun x S => (Nd.mk 7 a 0 [x], QU L [93] S)) fun x => ?_).conv (by omega)
  exact KW.take (F := fun S => (Nd.mk 7 a 0 [x], S)) [93] (KW.val (by rw [Qr, Zr]; show 1 + Qr x <= 0 + 1 + 1 + Qr x + 1; omega))
 ·refine KW.ite (P := fun S => QV L S = [46]) (F := fun S => (Nd.mk 8 a (Qw L (Qn S)).1 [], (Qw L (Qn S)).2)) (H := fun S => (Nd.mk 6 a 0 [], S)) ?_ (KW.val (by rw [Qr, QD]; show 1 + 0 <= 0 + 1; omega))
  refine KW.next (F := fun S => (Nd.mk 8 a (Qw L S).1 [], (Qw L S).2)) ?_
  exact ((KW.numeral (L := L)).map (ξ := Qr) (d := 0 + one1 a + 1) (u := fun x => Nd.mk 8 a x []) fun x => by rw [Qr, QD]; show 1 + 0 <= 1 + (0 + 1 + 1); omega).conv (by omega)
theorem KW.binary {E : Rd1} (hE : KW 0 Qr E) : KW 0 Qr (qb L E) := by
 refine (hE.bind (d := 0) (K := fun a S => if qs (QV L S) < 0 then (zNd, WQ S) else (.mk 9 (qs (QV L S)) 0 [a, (E (Qn S)).1], QU L [41] (E (Qn S)).2)) fun a => ?_).conv (by omega)
 refine KW.ite (P := fun S => qs (QV L S) < 0) (F := fun S => (zNd, WQ S)) KW.fail fun S hb => ?_
 have key : ∀ v, KW (0 + Qr a) Qr (fun S => (Nd.mk 9 v 0 [a, (E (Qn S)).1], QU L [41] (E (Qn S)).2)) := fun v => by
  refine KW.next (F := fun S => (Nd.mk 9 v 0 [a, (E S).1], QU L [41] (E S).2)) ?_
  refine (hE.bind (d := 0 + Qr a + 1) (K := fun x S => (Nd.mk 9 v 0 [a, x], QU L [41] S)) fun x => ?_).conv (by omega)
  exact KW.take (F := fun S => (Nd.mk 9 v 0 [a, x], S)) [41] (KW.val (by rw [Qr, QD, Zr]; omega))
 exact key (qs (QV L S)) S hb
theorem KW.expr : ∀ (n : Nat), KW 0 Qr (Wz L z n)
 | 0 => KW.fail
 | n + 1 => by
  have hE : KW 0 Qr (Wz L z n) := KW.expr n
  refine KW.ite (P := fun S => numB (QV L S) = true) (F := fun S => (Nd.mk 4 (Qw L S).1 0 [], (Qw L S).2)) ?_ ?_
  ·exact ((KW.numeral (L := L)).map (ξ := Qr) (d := 0) (u := fun x => Nd.mk 4 x 0 []) fun x => by rw [Qr, QD]; show 1 + 0 <= 1 + 0; omega).conv (by omega)
  refine KW.ite (P := fun S => isM L 118 S = true) (F := Wq L (Wz L z n)) (KW.variable hE) ?_
  refine KW.ite (P := fun S => isM L 102 S = true) (F := fun S => (Nd.mk 11 (Qh L 102 S).1 0 (WH L (Wz L z n) n (Qh L 102 S).2).1, (WH L (Wz L z n) n (Qh L 102 S).2).2)) ?_ ?_
  ·refine ((KW.numbered (L := L) 102).bind (d := 0) (K := fun a S => (Nd.mk 11 a 0 (WH L (Wz L z n) n S).1, (WH L (Wz L z n) n S).2)) fun a => ?_).conv (by omega)
   exact ((KW.arg (L := L) hE n).map (ξ := Qr) (d := 0 + one1 a) (u := fun x => Nd.mk 11 a 0 x) fun x => by rw [Qr]; show 1 + QD x <= QD x + (0 + 1); omega).conv (by omega)
  refine KW.ite (P := fun S => QV L S = [45]) (F := fun S => if QV L (Qn S) = [48] then (z, WQ (Qn S)) else (Nd.mk 4 (-(Qw L (Qn S)).1) 0 [], (Qw L (Qn S)).2)) ?_ ?_
  ·refine KW.next (F := fun S => if QV L S = [48] then (z, WQ S) else (Nd.mk 4 (-(Qw L S).1) 0 [], (Qw L S).2)) ?_
   refine KW.ite (P := fun S => QV L S = [48]) (F := fun S => (z, WQ S)) KW.fail ?_
   exact ((KW.numeral (L := L)).map (ξ := Qr) (d := 1) (u := fun x => Nd.mk 4 (-x) 0 []) fun x => by rw [Qr, QD]; show 1 + 0 <= 1 + 1; omega).conv (by omega)
  refine KW.ite (P := fun S => QV L S = wTrue) (F := fun S => (Nd.mk 5 1 0 [], Qn S)) (KW.vnext (by rw [Qr, QD]; omega)) ?_
  refine KW.ite (P := fun S => QV L S = wFalse) (F := fun S => (Nd.mk 5 0 0 [], Qn S)) (KW.vnext (by rw [Qr, QD]; omega)) ?_
  refine KW.ite (P := fun S => QV L S = [40]) (F := fun S => qb L (Wz L z n) (Qn S)) (KW.next (F := qb L (Wz L z n)) fun S hb => ?_) ?_
  ·obtain ⟨h1, h2⟩ := KW.binary hE S hb
   exact ⟨h1, by omega⟩
  refine KW.ite (P := fun S => QV L S = [33]) (F := fun S => (Nd.mk 10 0 0 [(Wz L z n (Qn S)).1], (Wz L z n (Qn S)).2)) ?_ ?_
  ·exact KW.next (F := fun S => (Nd.mk 10 0 0 [(Wz L z n S).1], (Wz L z n S).2)) ((hE.map (ξ := Qr) (d := 1) (u := fun x => Nd.mk 10 0 0 [x]) fun x => by rw [Qr, Zr]; omega).conv (by omega))
  refine KW.ite (P := fun S => QV L S = wRecv) (F := fun S => (Nd.mk 12 (Qh L 99 (Qn S)).1 0 [], (Qh L 99 (Qn S)).2)) (H := fun S => (zNd, WQ S)) ?_ KW.fail
  exact KW.next (F := fun S => (Nd.mk 12 (Qh L 99 S).1 0 [], (Qh L 99 S).2)) (((KW.numbered (L := L) 99).map (ξ := Qr) (d := 1) (u := fun x => Nd.mk 12 x 0 []) fun x => by rw [Qr, QD]; show 1 + 0 <= 1 + 1; omega).conv (by omega))
theorem KW.typed : ∀ (n : Nat), KW 0 Qr (WB L n)
 | 0 => KW.fail
 | n + 1 => by
  have hE : KW 0 Qr (WB L n) := KW.typed n
  refine KW.ite (P := fun S => QV L S = wInt) (F := fun S => (Nd.mk 0 0 0 [], Qn S)) (KW.vnext (by rw [Qr, QD]; omega)) ?_
  refine KW.ite (P := fun S => QV L S = wBool) (F := fun S => (Nd.mk 1 0 0 [], Qn S)) (KW.vnext (by rw [Qr, QD]; omega)) ?_
  refine KW.ite (P := fun S => QV L S = wArr) (F := fun S => (Nd.mk 2 (Qw L (Qn S)).1 0 [], (Qw L (Qn S)).2)) ?_ ?_
  ·exact KW.next (F := fun S => (Nd.mk 2 (Qw L S).1 0 [], (Qw L S).2)) (((KW.numeral (L := L)).map (ξ := Qr) (d := 1) (u := fun x => Nd.mk 2 x 0 []) fun x => by rw [Qr, QD]; show 1 + 0 <= 1 + 1; omega).conv (by omega))
  refine KW.ite (P := fun S => QV L S = wRec) (F := fun S => (Nd.mk 3 0 0 (Zx L (WB L n) n (QU L [40] (Qn S))).1, (Zx L (WB L n) n (QU L [40] (Qn S))).2)) (H := fun S => (zNd, WQ S)) ?_ KW.fail
  refine KW.next (F := fun S => (Nd.mk 3 0 0 (Zx L (WB L n) n (QU L [40] S)).1, (Zx L (WB L n) n (QU L [40] S)).2)) ?_
  refine KW.take (F := fun S => (Nd.mk 3 0 0 (Zx L (WB L n) n S).1, (Zx L (WB L n) n S).2)) [40] ?_
  exact ((KW.lst (L := L) hE n).map (ξ := Qr) (d := 0 + 1 + 1) (u := fun x => Nd.mk 3 0 0 x) fun x => by rw [Qr]; omega).conv (by omega)
theorem KW.bloop {T : Rd1} (hT : KW 0 Qr T) : ∀ (k : Nat) (o : List Nd), KW (QD o) QD (Wr L T k o)
 | 0, o => KW.val (Nat.le_refl _)
 | k + 1, o => by
  refine KW.ite (P := fun S => S.bad = true) (F := fun S => (o, S)) (KW.val (Nat.le_refl _)) ?_
  refine KW.ite (P := fun S => QV L S = [125]) (F := fun S => (o, Qn S)) (KW.vnext (by omega)) ?_
  refine (hT.bind (d := QD o) (K := fun a S => Wr L T k (o ++ [a]) S) fun a => ?_).conv (by omega)
  have := KW.bloop hT k (o ++ [a])
  rw [Z2, Zr] at this
  exact this
theorem KW.block {T : Rd1} (hT : KW 0 Qr T) (k : Nat) : KW 0 Qr (Wi L T k) := by
 refine KW.take (F := fun S => (Nd.mk 13 0 0 (Wr L T k [] S).1, (Wr L T k [] S).2)) [123] ?_
 exact ((KW.bloop (L := L) hT k []).map (ξ := Qr) (d := 1) (u := fun x => Nd.mk 13 0 0 x) fun x => by rw [Qr]; omega).conv (by rw [QD])
theorem size_set (v x : Nd) : Qr (setM v x) = Qr v + Qr x := by
 obtain ⟨k, n, m, ks⟩ := v
 show Qr (.mk (setKind k) n m (ks ++ [x])) = _
 rw [Qr, Qr, Z2, Zr]; omega
theorem KW.assign {E : Rd1} (hE : KW 0 Qr E) : KW 0 Qr (qu L E) := by
 refine ((KW.variable (L := L) hE).bind (d := 0) (K := fun a S => (setM a (E (QU L [61] S)).1, (E (QU L [61] S)).2)) fun a => ?_).conv (by omega)
 refine KW.take (F := fun S => (setM a (E S).1, (E S).2)) [61] ?_
 exact (hE.map (ξ := Qr) (d := 0 + Qr a + 1) (u := fun x => setM a x) fun x => by rw [size_set]; omega).conv (by omega)
theorem KW.one {E : Rd1} (hE : KW 0 Qr E) (k n : Int) : KW 1 Qr (oneM E k n) := (hE.map (ξ := Qr) (d := 1) (u := fun x => Nd.mk k n 0 [x]) fun x => by rw [Qr, Zr]; omega).conv (by omega)
theorem KW.iff {E B : Rd1} (hE : KW 0 Qr E) (hB : KW 0 Qr B) : KW 1 Qr (ifM L E B) := by
 refine (hE.bind (d := 1) (K := fun x S => (Nd.mk 17 0 0 [x, (B S).1, (B (QU L wElse (B S).2)).1], (B (QU L wElse (B S).2)).2)) fun x => ?_).conv (by omega)
 refine (hB.bind (d := 1 + Qr x) (K := fun y S => (Nd.mk 17 0 0 [x, y, (B (QU L wElse S)).1], (B (QU L wElse S)).2)) fun y => ?_).conv (by omega)
 refine KW.take (F := fun S => (Nd.mk 17 0 0 [x, y, (B S).1], (B S).2)) wElse ?_
 exact (hB.map (ξ := Qr) (d := 1 + Qr x + Qr y + 1) (u := fun w => Nd.mk 17 0 0 [x, y, w]) fun w => by rw [Qr, QD, QD, Zr]; omega).conv (by omega)
theorem KW.whil {E B : Rd1} (hE : KW 0 Qr E) (hB : KW 0 Qr B) : KW 1 Qr (whileM E B) := by
 refine (hE.bind (d := 1) (K := fun x S => (Nd.mk 18 0 0 [x, (B S).1], (B S).2)) fun x => ?_).conv (by omega)
 exact (hB.map (ξ := Qr) (d := 1 + Qr x) (u := fun w => Nd.mk 18 0 0 [x, w]) fun w => by rw [Qr, QD, Zr]; omega).conv (by omega)
theorem KW.tri {B : Rd1} (hB : KW 0 Qr B) : KW 1 Qr (tryM L B) := by
 refine (hB.bind (d := 1) (K := fun x S => (Nd.mk 21 (Qh L 118 (QU L qv S)).1 0 [x, (B (Qh L 118 (QU L qv S)).2).1], (B (Qh L 118 (QU L qv S)).2).2)) fun x => ?_).conv (by omega)
 refine KW.take (F := fun S => (Nd.mk 21 (Qh L 118 S).1 0 [x, (B (Qh L 118 S).2).1], (B (Qh L 118 S).2).2)) qv ?_
 refine ((KW.numbered (L := L) 118).bind (d := 1 + Qr x + 1) (K := fun v S => (Nd.mk 21 v 0 [x, (B S).1], (B S).2)) fun v => ?_).conv (by omega)
 exact (hB.map (ξ := Qr) (d := 1 + Qr x + 1 + one1 v) (u := fun w => Nd.mk 21 v 0 [x, w]) fun w => by rw [Qr, QD, Zr]; omega).conv (by omega)
theorem KW.stmt {E : Rd1} (hE : KW 0 Qr E) (q : Nat) : ∀ (n : Nat), KW 0 Qr (WA L E q n)
 | 0 => KW.fail
 | n + 1 => by
  have hB : KW 0 Qr (Wi L (WA L E q n) n) := KW.block (KW.stmt hE q n) n
  refine KW.ite (P := fun S => QV L S = [123]) (F := Wi L (WA L E q n) n) hB ?_
  refine KW.ite (P := fun S => isM L 118 S = true) (F := qu L E) (KW.assign hE) ?_
  refine KW.ite (P := fun S => QV L S = wIf) (F := fun S => ifM L E (Wi L (WA L E q n) n) (Qn S)) (KW.next (KW.iff hE hB)) ?_
  refine KW.ite (P := fun S => QV L S = wWhile) (F := fun S => whileM E (Wi L (WA L E q n) n) (Qn S)) (KW.next (KW.whil hE hB)) ?_
  refine KW.ite (P := fun S => QV L S = wReturn) (F := fun S => oneM E 19 0 (Qn S)) (KW.next (KW.one hE 19 0)) ?_
  refine KW.ite (P := fun S => QV L S = wThrow) (F := fun S => oneM E 20 0 (Qn S)) (KW.next (KW.one hE 20 0)) ?_
  refine KW.ite (P := fun S => QV L S = wOut) (F := fun S => oneM E 24 0 (Qn S)) (KW.next (KW.one hE 24 0)) ?_
  refine KW.ite (P := fun S => QV L S = wSkip) (F := fun S => (Nd.mk 25 0 0 [], Qn S)) (KW.vnext (by rw [Qr, QD]; omega)) ?_
  refine KW.ite (P := fun S => QV L S = wTry) (F := fun S => tryM L (Wi L (WA L E q n) n) (Qn S)) (KW.next (KW.tri hB)) ?_
  refine KW.ite (P := fun S => QV L S = wSend) (F := fun S => oneM E 22 (Qh L 99 (Qn S)).1 (Qh L 99 (Qn S)).2) ?_ ?_
  ·refine KW.next (F := fun S => oneM E 22 (Qh L 99 S).1 (Qh L 99 S).2) ?_
   refine ((KW.numbered (L := L) 99).bind (d := 1) (K := fun a S => oneM E 22 a S) fun a S hb => ?_).conv (by omega)
   obtain ⟨h1, h2⟩ := KW.one hE 22 a S hb
   exact ⟨h1, by show S.p + Qr (oneM E 22 a S).1 <= (oneM E 22 a S).2.p + (1 + 1); omega⟩
  refine KW.ite (P := fun S => QV L S = wSpawn) (F := fun S => (Nd.mk 23 (Qh L 102 (Qn S)).1 0 (WH L E q (Qh L 102 (Qn S)).2).1, (WH L E q (Qh L 102 (Qn S)).2).2)) (H := fun S => (zNd, WQ S)) ?_ KW.fail
  refine KW.next (F := fun S => (Nd.mk 23 (Qh L 102 S).1 0 (WH L E q (Qh L 102 S).2).1, (WH L E q (Qh L 102 S).2).2)) ?_
  refine ((KW.numbered (L := L) 102).bind (d := 1) (K := fun a S => (Nd.mk 23 a 0 (WH L E q S).1, (WH L E q S).2)) fun a => ?_).conv (by omega)
  exact ((KW.arg (L := L) hE q).map (ξ := Qr) (d := 1 + one1 a) (u := fun x => Nd.mk 23 a 0 x) fun x => by rw [Qr]; omega).conv (by omega)
theorem KW.fn {T B : Rd1} (hT : KW 0 Qr T) (hB : KW 0 Qr B) (q : Nat) : KW 0 Qr (funM L T B q) := by
 refine KW.take (F := fun S => (Nd.mk 26 (Qw L S).1 0 ((WH L T q (Qw L S).2).1 ++ [(B (WH L T q (Qw L S).2).2).1]), (B (WH L T q (Qw L S).2).2).2)) wFun ?_
 refine ((KW.numeral (L := L)).bind (d := 1) (K := fun v S => (Nd.mk 26 v 0 ((WH L T q S).1 ++ [(B (WH L T q S).2).1]), (B (WH L T q S).2).2)) fun v => ?_).conv (by omega)
 refine ((KW.arg (L := L) hT q).bind (d := 1 + one1 v) (K := fun a S => (Nd.mk 26 v 0 (a ++ [(B S).1]), (B S).2)) fun a => ?_).conv (by omega)
 exact (hB.map (ξ := Qr) (d := 1 + one1 v + QD a) (u := fun x => Nd.mk 26 v 0 (a ++ [x])) fun x => by rw [Qr, Z2, Zr]; omega).conv (by omega)
theorem KW.ploop {F : Rd1} (hF : KW 0 Qr F) : ∀ (k : Nat) (o : List Nd), KW (QD o) QD (WT L F k o)
 | 0, o => KW.val (Nat.le_refl _)
 | k + 1, o => by
  refine KW.ite (P := fun S => S.bad = false /\ S.p < L.length) (F := fun S => WT L F k (o ++ [(F S).1]) (F S).2) (H := fun S => (o, S)) ?_ (KW.val (Nat.le_refl _))
  refine (hF.bind (d := QD o) (K := fun a S => WT L F k (o ++ [a]) S) fun a => ?_).conv (by omega)
  have := KW.ploop hF k (o ++ [a])
  rw [Z2, Zr] at this
  exact this
theorem kw_fun (q : Nat) : KW 0 Qr (qx L z q) := KW.fn (KW.typed q) (KW.block (KW.stmt (KW.expr q) q q) q) q
theorem prog_size (q : Nat) (h : (qr L z q).2.bad = false) : Qr (qr L z q).1 <= (qr L z q).2.p := by
 have key : KW 0 Qr (fun S => (Nd.mk 27 (Qw L (QU L ZR S)).1 0 (WT L (qx L z q) q [] (Qw L (QU L ZR S)).2).1, (WT L (qx L z q) q [] (Qw L (QU L ZR S)).2).2)) := by
  refine KW.take (F := fun S => (Nd.mk 27 (Qw L S).1 0 (WT L (qx L z q) q [] (Qw L S).2).1, (WT L (qx L z q) q [] (Qw L S).2).2)) ZR ?_
  refine ((KW.numeral (L := L)).bind (d := 1) (K := fun v S => (Nd.mk 27 v 0 (WT L (qx L z q) q [] S).1, (WT L (qx L z q) q [] S).2)) fun v => ?_).conv (by omega)
  exact ((KW.ploop (L := L) (kw_fun (z := z) q) q []).map (ξ := Qr) (d := 1 + one1 v) (u := fun x => Nd.mk 27 v 0 x) fun x => by rw [Qr]; omega).conv (by rw [QD]; omega)
 obtain ⟨_, h2⟩ := key ⟨0, false⟩ h
 have : (0 : Nat) + Qr (qr L z q).1 <= (qr L z q).2.p + 0 := h2
 omega
def IB (L : Zq) (F : RS -> α × RS) : Prop := ∀ S, S.p <= L.length -> (F S).2.p <= L.length
theorem IB.bind {F : RS -> α × RS} {K : α -> RS -> β × RS} (h : IB L F) (hk : ∀ a, IB L (K a)) : IB L (fun S => K (F S).1 (F S).2) := fun S hs => hk _ _ (h S hs)
theorem IB.ite {P : RS -> Prop} [DecidablePred P] {F H : RS -> α × RS} (h1 : ∀ S, P S -> S.p <= L.length -> (F S).2.p <= L.length) (h2 : IB L H) : IB L (fun S => if P S then F S else H S) := fun S hs => by
 by_cases hp : P S
 ·simp only [if_pos hp]; exact h1 S hp hs
 ·simp only [if_neg hp]; exact h2 S hs
theorem WX {S : RS} {w : List UInt8} (h : QV L S = w) (hw : w ≠ []) : (Qn S).p <= L.length := by
 obtain ⟨_, h2, _⟩ := now_at (L := L) (S := S) (by rw [h]; exact hw)
 exact h2
theorem ib_take (s : List UInt8) (hs : s ≠ []) {S : RS} (h : S.p <= L.length) : (QU L s S).p <= L.length := by
 unfold QU
 split
 ·rename_i hn; exact WX hn hs
 ·exact h
theorem IB.take {F : RS -> α × RS} (s : List UInt8) (hs : s ≠ []) (h : IB L F) : IB L (fun S => F (QU L s S)) := fun S hS => h _ (ib_take s hs hS)
theorem IB.fail {a : α} : IB L (fun S => (a, WQ S)) := fun S hS => hS
theorem IB.val {a : α} : IB L (fun S => (a, S)) := fun S hS => hS
theorem IB.numeral : IB L (Qw L) :=
 IB.ite (P := fun S => numB (QV L S) = true) (F := fun S => (valM (QV L S), Qn S)) (H := fun S => (0, WQ S)) (fun S hp _ => WX rfl (numB_ne hp)) IB.fail
theorem isM_ne {S : RS} {c : UInt8} (h : isM L c S = true) : QV L S ≠ [] := by
 rintro e
 unfold isM at h
 rw [e] at h
 simp [Lib.hasPrefix] at h
theorem IB.numbered (x : UInt8) : IB L (Qh L x) :=
 IB.ite (P := fun S => isM L x S = true) (F := fun S => (valM ((QV L S).drop 1), Qn S)) (H := fun S => (0, WQ S)) (fun S hp _ => WX rfl (isM_ne hp)) IB.fail
theorem IB.nx {F : RS -> α × RS} (h : IB L F) {w : List UInt8} (hw : w ≠ []) : ∀ S, QV L S = w -> S.p <= L.length -> (F (Qn S)).2.p <= L.length := fun S hn _ => h _ (WX hn hw)
theorem IB.loop {E : Rd1} (hE : IB L E) : ∀ (k : Nat) (o : List Nd), IB L (We L E k o)
 | 0, o => IB.val
 | k + 1, o => IB.ite (P := fun S => QV L S = [44]) (F := fun S => We L E k (o ++ [(E (Qn S)).1]) (E (Qn S)).2) (H := fun S => (o, S)) (fun S hn _ => IB.loop hE k _ _ (hE _ (WX hn (by decide)))) IB.val
theorem IB.lst {E : Rd1} (hE : IB L E) (k : Nat) : IB L (Zx L E k) := fun S hS => ib_take (L := L) [41] (by decide) (IB.loop hE k _ _ (hE S hS))
theorem IB.arg {E : Rd1} (hE : IB L E) (k : Nat) : IB L (WH L E k) :=
 IB.take (F := fun S => if QV L S = [41] then ([], Qn S) else Zx L E k S) [40] (by decide) (IB.ite (P := fun S => QV L S = [41]) (F := fun S => ([], Qn S)) (fun S hn _ => WX hn (by decide)) (IB.lst hE k))
theorem IB.variable {E : Rd1} (hE : IB L E) : IB L (Wq L E) := by
 refine (IB.numbered (L := L) 118).bind (K := fun a S => varTail L E a S) fun a => ?_
 refine IB.ite (P := fun S => QV L S = [91]) (F := fun S => (Nd.mk 7 a 0 [(E (Qn S)).1], QU L [93] (E (Qn S)).2)) (fun S hn _ => ib_take (L := L) [93] (by decide) (hE _ (WX hn (by decide)))) ?_
 exact IB.ite (P := fun S => QV L S = [46]) (F := fun S => (Nd.mk 8 a (Qw L (Qn S)).1 [], (Qw L (Qn S)).2)) (H := fun S => (Nd.mk 6 a 0 [], S)) (fun S hn _ => IB.numeral (L := L) _ (WX hn (by decide))) IB.val
theorem IB.binary {E : Rd1} (hE : IB L E) : IB L (qb L E) := by
 refine hE.bind (K := fun a S => if qs (QV L S) < 0 then (zNd, WQ S) else (.mk 9 (qs (QV L S)) 0 [a, (E (Qn S)).1], QU L [41] (E (Qn S)).2)) fun a S hS => ?_
 dsimp only
 by_cases ho : qs (QV L S) < 0
 ·rw [if_pos ho]; exact hS
 ·rw [if_neg ho]
  have hne : QV L S ≠ [] := by
   intro e
   rw [e] at ho
   exact ho (by decide)
  exact ib_take (L := L) [41] (by decide) (hE _ (WX rfl hne))
theorem IB.expr : ∀ (n : Nat), IB L (Wz L z n)
 | 0 => IB.fail
 | n + 1 => by
  have hE : IB L (Wz L z n) := IB.expr n
  refine IB.ite (P := fun S => numB (QV L S) = true) (F := fun S => (Nd.mk 4 (Qw L S).1 0 [], (Qw L S).2)) (fun S _ hS => IB.numeral S hS) ?_
  refine IB.ite (P := fun S => isM L 118 S = true) (F := Wq L (Wz L z n)) (fun S _ hS => IB.variable hE S hS) ?_
  refine IB.ite (P := fun S => isM L 102 S = true) (F := fun S => (Nd.mk 11 (Qh L 102 S).1 0 (WH L (Wz L z n) n (Qh L 102 S).2).1, (WH L (Wz L z n) n (Qh L 102 S).2).2)) (fun S _ hS => IB.arg hE n _ (IB.numbered (L := L) 102 S hS)) ?_
  refine IB.ite (P := fun S => QV L S = [45]) (F := fun S => if QV L (Qn S) = [48] then (z, WQ (Qn S)) else (Nd.mk 4 (-(Qw L (Qn S)).1) 0 [], (Qw L (Qn S)).2)) (fun S hn _ => ?_) ?_
  ·have h1 := WX (L := L) hn (by decide)
   split
   ·exact h1
   ·exact IB.numeral (L := L) _ h1
  refine IB.ite (P := fun S => QV L S = wTrue) (F := fun S => (Nd.mk 5 1 0 [], Qn S)) (fun S hn _ => WX hn (by decide)) ?_
  refine IB.ite (P := fun S => QV L S = wFalse) (F := fun S => (Nd.mk 5 0 0 [], Qn S)) (fun S hn _ => WX hn (by decide)) ?_
  refine IB.ite (P := fun S => QV L S = [40]) (F := fun S => qb L (Wz L z n) (Qn S)) ((IB.binary hE).nx (by decide)) ?_
  refine IB.ite (P := fun S => QV L S = [33]) (F := fun S => (Nd.mk 10 0 0 [(Wz L z n (Qn S)).1], (Wz L z n (Qn S)).2)) (fun S hn _ => hE _ (WX hn (by decide))) ?_
  exact IB.ite (P := fun S => QV L S = wRecv) (F := fun S => (Nd.mk 12 (Qh L 99 (Qn S)).1 0 [], (Qh L 99 (Qn S)).2)) (H := fun S => (zNd, WQ S)) (fun S hn _ => IB.numbered (L := L) 99 _ (WX hn (by decide))) IB.fail
theorem IB.typed : ∀ (n : Nat), IB L (WB L n)
 | 0 => IB.fail
 | n + 1 => by
  have hE : IB L (WB L n) := IB.typed n
  refine IB.ite (P := fun S => QV L S = wInt) (F := fun S => (Nd.mk 0 0 0 [], Qn S)) (fun S hn _ => WX hn (by decide)) ?_
  refine IB.ite (P := fun S => QV L S = wBool) (F := fun S => (Nd.mk 1 0 0 [], Qn S)) (fun S hn _ => WX hn (by decide)) ?_
  refine IB.ite (P := fun S => QV L S = wArr) (F := fun S => (Nd.mk 2 (Qw L (Qn S)).1 0 [], (Qw L (Qn S)).2)) (fun S hn _ => IB.numeral (L := L) _ (WX hn (by decide))) ?_
  exact IB.ite (P := fun S => QV L S = wRec) (F := fun S => (Nd.mk 3 0 0 (Zx L (WB L n) n (QU L [40] (Qn S))).1, (Zx L (WB L n) n (QU L [40] (Qn S))).2)) (H := fun S => (zNd, WQ S)) (fun S hn _ => IB.lst hE n _ (ib_take [40] (by decide) (WX hn (by decide)))) IB.fail
theorem IB.bloop {T : Rd1} (hT : IB L T) : ∀ (k : Nat) (o : List Nd), IB L (Wr L T k o)
 | 0, o => IB.val
 | k + 1, o => by
  refine IB.ite (P := fun S => S.bad = true) (F := fun S => (o, S)) (fun S _ hS => hS) ?_
  refine IB.ite (P := fun S => QV L S = [125]) (F := fun S => (o, Qn S)) (fun S hn _ => WX hn (by decide)) ?_
  exact hT.bind (K := fun a S => Wr L T k (o ++ [a]) S) fun a => IB.bloop hT k _
theorem IB.block {T : Rd1} (hT : IB L T) (k : Nat) : IB L (Wi L T k) := fun S hS => IB.bloop hT k [] _ (ib_take (L := L) [123] (by decide) hS)
theorem IB.stmt {E : Rd1} (hE : IB L E) (q : Nat) : ∀ (n : Nat), IB L (WA L E q n)
 | 0 => IB.fail
 | n + 1 => by
  have hB : IB L (Wi L (WA L E q n) n) := IB.block (IB.stmt hE q n) n
  refine IB.ite (P := fun S => QV L S = [123]) (F := Wi L (WA L E q n) n) (fun S _ hS => hB S hS) ?_
  refine IB.ite (P := fun S => isM L 118 S = true) (F := qu L E) (fun S _ hS => hE _ (ib_take (L := L) [61] (by decide) (IB.variable hE S hS))) ?_
  refine IB.ite (P := fun S => QV L S = wIf) (F := fun S => ifM L E (Wi L (WA L E q n) n) (Qn S)) (fun S hn _ => hB _ (ib_take (L := L) wElse (by decide) (hB _ (hE _ (WX hn (by decide)))))) ?_
  refine IB.ite (P := fun S => QV L S = wWhile) (F := fun S => whileM E (Wi L (WA L E q n) n) (Qn S)) (fun S hn _ => hB _ (hE _ (WX hn (by decide)))) ?_
  refine IB.ite (P := fun S => QV L S = wReturn) (F := fun S => oneM E 19 0 (Qn S)) (fun S hn _ => hE _ (WX hn (by decide))) ?_
  refine IB.ite (P := fun S => QV L S = wThrow) (F := fun S => oneM E 20 0 (Qn S)) (fun S hn _ => hE _ (WX hn (by decide))) ?_
  refine IB.ite (P := fun S => QV L S = wOut) (F := fun S => oneM E 24 0 (Qn S)) (fun S hn _ => hE _ (WX hn (by decide))) ?_
  refine IB.ite (P := fun S => QV L S = wSkip) (F := fun S => (Nd.mk 25 0 0 [], Qn S)) (fun S hn _ => WX hn (by decide)) ?_
  refine IB.ite (P := fun S => QV L S = wTry) (F := fun S => tryM L (Wi L (WA L E q n) n) (Qn S)) (fun S hn _ => hB _ (IB.numbered (L := L) 118 _ (ib_take (L := L) qv (by decide) (hB _ (WX hn (by decide)))))) ?_
  refine IB.ite (P := fun S => QV L S = wSend) (F := fun S => oneM E 22 (Qh L 99 (Qn S)).1 (Qh L 99 (Qn S)).2) (fun S hn _ => hE _ (IB.numbered (L := L) 99 _ (WX hn (by decide)))) ?_
  exact IB.ite (P := fun S => QV L S = wSpawn) (F := fun S => (Nd.mk 23 (Qh L 102 (Qn S)).1 0 (WH L E q (Qh L 102 (Qn S)).2).1, (WH L E q (Qh L 102 (Qn S)).2).2)) (H := fun S => (zNd, WQ S)) (fun S hn _ => IB.arg hE q _ (IB.numbered (L := L) 102 _ (WX hn (by decide)))) IB.fail
theorem ib_fun (q : Nat) : IB L (qx L z q) := fun S hS => IB.block (IB.stmt (IB.expr q) q q) q _ (IB.arg (IB.typed q) q _ (IB.numeral (L := L) _ (ib_take (L := L) wFun (by decide) hS)))
theorem IB.ploop {F : Rd1} (hF : IB L F) : ∀ (k : Nat) (o : List Nd), IB L (WT L F k o)
 | 0, o => IB.val
 | k + 1, o => IB.ite (P := fun S => S.bad = false /\ S.p < L.length) (F := fun S => WT L F k (o ++ [(F S).1]) (F S).2) (H := fun S => (o, S)) (fun S _ hS => IB.ploop hF k _ _ (hF S hS)) IB.val
theorem prog_in (q : Nat) : (qr L z q).2.p <= L.length := IB.ploop (ib_fun q) q [] _ (IB.numeral (L := L) _ (ib_take (L := L) ZR (by decide) (Nat.zero_le _)))
end
end Go.Proofs
end
section
namespace Go.Proofs
open Go.Av
variable {G : Nat -> DV}
attribute [local irreducible] OpSem Za Zv qc ACalls AEnd AClose RV
open Go.Bl
abbrev zP : Nd := .mk 4 0 0 []
theorem elx (hG1 : G 1 = spaceT) (L : Zq) (hL : OkL L) (q r : Nat) (h : r + 2 <= q) : ElC G 176 L (Wz L zP q) r := fun Q hQ => expr_rc hG1 L hL q Q (by omega)
theorem jX (L : Zq) (z : Nd) (q : Nat) : ∀ i c, J i c (Wz L z q) (Wz L z q) := fun i c => J.expr (Ag.refl L i) q c
theorem loop_len (L : Zq) (E : Rd1) : ∀ (k : Nat) (o : List Nd) (S : RS), (We L E k o S).1.length <= o.length + k
 | 0, o, S => by rw [We]; show o.length <= o.length + 0; omega
 | k + 1, o, S => by
  rw [We]
  split
  ·have := loop_len L E k (o ++ [(E (Qn S)).1]) (E (Qn S)).2
   simp only [List.length_append, List.length_cons, List.length_nil] at this
   omega
  ·show o.length <= o.length + (k + 1); omega
theorem args_len (L : Zq) (E : Rd1) (k : Nat) (S : RS) : (WH L E k S).1.length <= k + 1 := by
 unfold WH
 split
 ·simp
 ·unfold Zx
  have := loop_len L E k [(E (QU L [40] S)).1] (E (QU L [40] S)).2
  simp only [List.length_cons, List.length_nil] at this
  show (We L E k [(E (QU L [40] S)).1] (E (QU L [40] S)).2).1.length <= k + 1
  omega
theorem fun_rc (hG1 : G 1 = spaceT) (L : Zq) (hL : OkL L) (q : Nat) (hq : L.length + 3 <= q) (hq2 : q <= 2000000) (S : RS) :
  CE Tryz.prog G 61 (fun p g => [.ptr p g 0]) (rdC L S) (.agg (Enc.enc (qx L zP q S).1)) (rdC L (qx L zP q S).2) := fun g B hg => by
 have hrl : ∀ Q : RS, rM L Q <= L.length := fun Q => by unfold rM; split <;> omega
 unfold qx funM
 dsimp only
 have htk := take_c (G := G) L S hL wFun (by decide)
 generalize QU L wFun S = S1 at *
 have hnm := qj (G := G) L S1 hL
 generalize (Qw L S1).1 = v at *
 generalize (Qw L S1).2 = S2 at *
 have htel : ElC G 110 L (WB L q) L.length := fun Q hQ => typed_rc L hL q Q (by omega)
 have hargs := args_rc (G := G) 110 L (WB L q) L.length q hL htel S2 (hrl S2) (by have := hrl S2; omega)
 have hal := args_len L (WB L q) q S2
 generalize (WH L (WB L q) q S2).1 = axs at *
 generalize (WH L (WB L q) q S2).2 = S3 at *
 have hst : ElC G 152 L (WA L (Wz L zP q) q q) L.length := fun Q hQ =>
  ⟨stmt_rc L hL (Wz L zP q) (jX L zP q) q L.length (elx hG1 L hL q _ (by omega)) (by omega) q Q (by omega) (by omega), (jr (fun i => jS (jX L zP q) q q i True) Q).1⟩
 obtain ⟨q', rfl⟩ : ∃ q', q = q' + 1 := ⟨q - 1, by omega⟩
 have hblk := block_rc (G := G) L hL (WA L (Wz L zP (q' + 1)) (q' + 1) (q' + 1)) L.length (q' + 1) hst (eats_st (jX L zP (q' + 1)) (q' + 1) q') S3 (by have := hrl S3; omega) (by have := hrl S3; omega)
 generalize (Wi L (WA L (Wz L zP (q' + 1)) (q' + 1) (q' + 1)) (q' + 1) S3).1 = xb at *
 generalize (Wi L (WA L (Wz L zP (q' + 1)) (q' + 1) (q' + 1)) (q' + 1) S3).2 = S4 at *
 clear hst htel hrl
 refine Qa Tryz.func61 rfl Tryz.ntmps61 rfl (t := [(0, .ptr 0 g 0)]) rfl fun E0 hE1 => ?_
 (repeat' first | (refine Qg ?_; (first | refine QJ rfl ?_ | refine WL rfl rfl ?_ | (refine Qt ?_; (first | refine Zt (z := xb) rfl rfl rfl rfl rfl rfl rfl (by first | omega | (simp; omega)) (by first | omega | (simp; omega)) (fun _ => rfl) (fun _ _ => ?_) | refine Q4 0 (htk) rfl rfl rfl rfl ?_ | refine Q4 0 (hnm) rfl rfl rfl rfl ?_ | refine Q4 0 (hblk) rfl rfl rfl rfl ?_ | refine s_co 0 (hargs) (by first | exact .id | exact .node rfl rfl rfl) rfl rfl rfl rfl (QC _) (fun _ _ => ?_))) | (refine Wg ?_; (first | refine WD rfl rfl rfl rfl ?_ | refine QZ rfl rfl rfl rfl (by rfl) (by rfl) (by rfl) ?_)) | refine Qd rfl rfl ?_ | refine QA rfl rfl ?_ | refine QH rfl rfl ?_ | refine Qu (fun _ _ => ?_))) | (refine Qk ?_; (first | refine Qi ?_ | refine QK rfl ?_ | refine QR ?_)) | (refine Qj ?_; (first | refine Ql ?_ | refine Qb ?_ | (refine WF ?_; first | (rename_i g2 hg2 gn hgn ga hga; refine Qv (fun p => p.1 :: .row g2 [.i 0, .i 0, .i 0, .nil] :: .row gn [.i 26, .i v, .i 0, .ref 3 ga 0 axs.length 4] :: p.2 :: []) 7 [(0, true), (1, true), (2, true), (3, false), (4, true), (5, false), (6, true), (7, false)] (by rfl) (by rfl) (by kernel_rfl) (by decide +kernel) (by decide +kernel) ⟨(_, _), rfl⟩ ?_) | (refine Qv (fun p => p.1 :: p.2 :: []) 100 [(0, true)] (by rfl) (by rfl) (by kernel_rfl) (by decide +kernel) (by decide +kernel) ⟨(_, _), rfl⟩ ?_) | refine Wm (by rfl) (by kernel_rfl) (by kernel_rfl) ?_ | refine Wl (by kernel_rfl) (by kernel_rfl) ?_) | refine Qy ?_)) | (refine W6 ?_; (first | refine ZG ?_ | refine i_z0 ?_ | refine i_st rfl rfl (fun _ => (by (repeat' first | (refine Qg ?_; (first | refine QJ rfl ?_ | refine Qc rfl rfl rfl ?_ | refine Q3 (z := xb) rfl rfl (by decide) ?_ | refine Qd rfl rfl ?_)) | exact ⟨rfl, rfl⟩))) ?_ | refine i_ef rfl ?_)) | refine And.intro (Exists.intro ((_, _)) rfl) ?_)
 exact e_1 (Tryz.results61) (Qz (size := 4) rfl rfl rfl rfl) (Zi (D := fun d => .agg [.i 26, .i v, .i 0, d]) (k := 2) (.node rfl rfl rfl) rfl (by rw [QS]; rfl) (by rw [QQ]; rfl) rfl)
theorem eats_fun (L : Zq) (z : Nd) (q : Nat) : Eats L (qx L z q) := fun S hb => by
 have h1 : mM L (QU L wFun S) < mM L S := by
  have h := (mm_take (L := L) (S := S) wFun (by decide)).1
  have : rM L S < mM L S := by unfold rM mM; rw [hb]; simp
  omega
 have h2 : ∀ i, J i True (fun Q => (fun v : Int × RS => (fun a : List Nd × RS => (Nd.mk 26 v.1 0 (a.1 ++ [(Wi L (WA L (Wz L z q) q q) q a.2).1]), (Wi L (WA L (Wz L z q) q q) q a.2).2)) (WH L (WB L q) q v.2)) (Qw L Q)) (fun Q => (fun v : Int × RS => (fun a : List Nd × RS => (Nd.mk 26 v.1 0 (a.1 ++ [(Wi L (WA L (Wz L z q) q q) q a.2).1]), (Wi L (WA L (Wz L z q) q q) q a.2).2)) (WH L (WB L q) q v.2)) (Qw L Q)) := fun i => by
  refine (J.numeral (Ag.refl L i)).bind (K := fun v S => (Nd.mk 26 v 0 ((WH L (WB L q) q S).1 ++ [(Wi L (WA L (Wz L z q) q q) q (WH L (WB L q) q S).2).1]), (Wi L (WA L (Wz L z q) q q) q (WH L (WB L q) q S).2).2)) (K' := fun v S => (Nd.mk 26 v 0 ((WH L (WB L q) q S).1 ++ [(Wi L (WA L (Wz L z q) q q) q (WH L (WB L q) q S).2).1]), (Wi L (WA L (Wz L z q) q q) q (WH L (WB L q) q S).2).2)) fun v v' => ?_
  refine (J.arg (Ag.refl L i) (fun c => J.typed (Ag.refl L i) q c) q).bind (K := fun a S => (Nd.mk 26 v 0 (a ++ [(Wi L (WA L (Wz L z q) q q) q S).1]), (Wi L (WA L (Wz L z q) q q) q S).2)) (K' := fun a S => (Nd.mk 26 v' 0 (a ++ [(Wi L (WA L (Wz L z q) q q) q S).1]), (Wi L (WA L (Wz L z q) q q) q S).2)) fun a a' => ?_
  exact (jB (fun i c => jS (jX L z q) q q i c) q i _).map (u := fun x => Nd.mk 26 v 0 (a ++ [x])) (u' := fun x => Nd.mk 26 v' 0 (a' ++ [x])) fun x hc => by rw [hc.2, hc.1.2]
 exact Nat.lt_of_le_of_lt (jr h2 (QU L wFun S)).2 h1
theorem s_sub_as {P : Program} {G : Nat -> DV} {B : Nat} {f : Operand -> DV} {σ : List ABlk} {K : DV -> List ABlk -> Prop} {dst : Option Tmp} {type : TypeId} {pos : String} {after : Array Edge} {gd : Option (Nat × Bool)} {t t' : TypeId} {x y : Operand} {a b c : Int} (hx : f x = .sc (.int .i64 a)) (hy : f y = .sc (.int .i64 b)) (hc : a - b = c) (h : -9223372036854775808 <= c /\ c <= 9223372036854775807)
  (k : K (.sc (.int .i64 c)) σ) : OpSem P G B ⟨dst, .binOp .sub t x y t', type, pos, after, gd⟩ f σ K :=
 Zj hx hy (by rw [hc]; exact h) (by rw [hc]; exact k)
theorem funFits_c (k n m : Int) (ks : List Nd) (hl : ks.length <= 1048576) (hn : 0 <= n /\ n <= 3) (hx : ∀ x ∈ ks, ∀ w, Go.Av.Pure Tryz.prog G 75 [.agg (Enc.enc x), .i w] (.b (Q2 x w))) :
  Go.Av.Pure Tryz.prog G 123 [.agg [.i k, .i n, .i m, QW ks]] (.b (funB n (ks.map Q2))) := fun B => by
 have hml : (ks.map Q2).length = ks.length := List.length_map _
 by_cases h0 : ks.length = 0
 ·have hF : funB n (ks.map Q2) = false := by
   unfold funB
   rw [hml, decide_eq_false (by omega : ¬ n <= (ks.length : Int) - 1)]; rfl
  have hvs : (ks.length : Int) - 1 = -1 := by omega
  rw [hF]
  refine Qa Tryz.func123 rfl Tryz.ntmps123 rfl (t := [(0, .agg [.i k, .i n, .i m, QW ks])]) rfl fun E hE => ?_
  (repeat' first | (refine Qg ?_; (first | refine QJ rfl ?_ | refine QN rfl ?_ | refine Qc rfl rfl rfl ?_ | (refine Qo ?_; (first | refine s_sub_as rfl rfl hvs ⟨by omega, by omega⟩ ?_ | refine QX rfl rfl ?_)) | refine QI rfl ?_ | refine W1 rfl rfl ?_ | refine Qd rfl rfl ?_ | refine Q9 rfl rfl (fun _ _ => ?_))) | (refine Qk ?_; (first | refine Qi ?_ | refine QK rfl ?_ | refine W7 rfl rfl rfl rfl ?_ | refine Wc rfl rfl (by omega) ?_)) | (refine Qj ?_; (first | refine Ql ?_ | refine Qb ?_ | refine Qq rfl ?_ | refine Qy ?_)))
  exact e_1 (Tryz.results123) (Qx rfl) (WW (σ := []) (r := [_]) ⟨rfl, rfl⟩)
 obtain ⟨v, hv⟩ : ∃ v : Nat, ks.length = v + 1 := ⟨ks.length - 1, by omega⟩
 have hvs : (ks.length : Int) - 1 = (v : Int) := by omega
 have hvk : v < ks.length := by omega
 have hfl : (ks.map Q2).getD v noF = Q2 ks[v] := ZB ks Q2 hvk
 have hlast := hx _ (List.getElem_mem hvk) 6
 have hfun : funB n (ks.map Q2) = (((decide (n <= (v : Int)) && decide ((v : Int) <= 6)) && Q2 ks[v] 6) && allI (fun i => (ks.map Q2).getD i noF (if (i : Int) < n then 3 else 2)) v) := by
  unfold funB
  rw [hml, hvs, show ks.length - 1 = v by omega, hfl]
 by_cases hc : n <= (v : Int) /\ (v : Int) <= 6
 case neg =>
  have hF : funB n (ks.map Q2) = false := by
   rw [hfun]
   rcases Classical.not_and_iff_not_or_not.1 hc with h | h
   ·rw [decide_eq_false h]; rfl
   ·rw [decide_eq_false h, Bool.and_false]; rfl
  rw [hF]
  refine Qa Tryz.func123 rfl Tryz.ntmps123 rfl (t := [(0, .agg [.i k, .i n, .i m, QW ks])]) rfl fun E hE => ?_
  (repeat' first | (refine Qg ?_; (first | refine QJ rfl ?_ | refine QN rfl ?_ | refine Qc rfl rfl rfl ?_ | (refine Qo ?_; (first | refine s_sub_as rfl rfl hvs ⟨by omega, by omega⟩ ?_ | refine QX rfl rfl ?_ | refine ZJ rfl rfl ?_)) | refine QI rfl ?_ | (refine Q8 ?_; (first | refine W1 rfl rfl ?_ | refine WO rfl rfl ?_)) | refine Qd rfl rfl ?_ | refine Q9 rfl rfl (fun _ _ => ?_))) | (refine Qk ?_; (first | refine Qi ?_ | refine QK rfl ?_ | refine WM rfl rfl rfl rfl ?_ | refine W7 rfl rfl rfl rfl ?_ | refine Wc rfl rfl (by omega) ?_ | refine qw rfl rfl (fun _ => ?_) (fun _ => ?_))) | (refine Qj ?_; (first | refine Ql ?_ | refine Qb ?_ | refine Qq rfl ?_ | refine Qy ?_)))
  all_goals exact e_1 (Tryz.results123) (Qx rfl) (WW (σ := []) (r := [_]) ⟨rfl, rfl⟩)
 cases hb : Q2 ks[v] 6 with
 | false =>
  have hF : funB n (ks.map Q2) = false := by rw [hfun, hb]; simp
  rw [hF]
  rw [hb] at hlast
  refine Qa Tryz.func123 rfl Tryz.ntmps123 rfl (t := [(0, .agg [.i k, .i n, .i m, QW ks])]) rfl fun E hE => ?_
  (repeat' first | (refine Qg ?_; (first | refine QJ rfl ?_ | refine QN rfl ?_ | (refine QG ?_; (first | refine QO rfl ?_ | refine Qc rfl rfl rfl ?_)) | refine QM rfl rfl (by first | assumption | omega | (simp; done) | (simp; omega)) ?_ | (refine Qo ?_; (first | refine s_sub_as rfl rfl hvs ⟨by omega, by omega⟩ ?_ | refine QX rfl rfl ?_ | refine ZJ rfl rfl ?_)) | (refine Qt ?_; (first | refine QI rfl ?_ | refine WR rfl rfl (hlast) ?_)) | refine WO rfl rfl ?_ | refine W2 rfl ?_ | refine Qd rfl rfl ?_ | refine Q9 rfl rfl (fun _ _ => ?_))) | (refine Qk ?_; (first | refine Qi ?_ | refine QK rfl ?_ | refine WM rfl rfl rfl rfl ?_ | refine Q5 rfl rfl (by omega) ?_)) | (refine Qj ?_; (first | refine Ql ?_ | refine Qb ?_ | refine Qq rfl ?_ | refine Qy ?_)))
  all_goals exact e_1 (Tryz.results123) (Qx rfl) (WW (σ := []) (r := [_]) ⟨rfl, rfl⟩)
 | true =>
  rw [hb] at hlast
  rw [hfun, hb, decide_eq_true hc.1, decide_eq_true hc.2, Bool.and_true, Bool.and_true, Bool.true_and]
  have hl2 : ∀ (i : Nat) (h : i < (ks.take v).length), ∀ w, Go.Av.Pure Tryz.prog G 75 [.agg (Enc.enc (ks.take v)[i]), .i w] (.b ((ks.map Q2).getD i noF w)) := fun i h w => by
   have hi : i < ks.length := by rw [List.length_take] at h; omega
   rw [ZB ks Q2 hi, List.getElem_take]
   exact hx _ (List.getElem_mem hi) w
  have htl : (ks.take v).length = v := by rw [List.length_take]; omega
  clear hx hfun hfl
  generalize (fun (i : Nat) (w : Int) => (ks.map Q2).getD i noF w) = ff at *
  refine Qa Tryz.func123 rfl Tryz.ntmps123 rfl (t := [(0, .agg [.i k, .i n, .i m, QW ks])]) rfl fun E hE => ?_
  (repeat' first | (refine Qg ?_; (first | refine QJ rfl ?_ | refine QN rfl ?_ | (refine QG ?_; (first | refine QO rfl ?_ | refine Qc rfl rfl rfl ?_)) | refine QM rfl rfl (by first | assumption | omega | (simp; done) | (simp; omega)) ?_ | (refine Qo ?_; (first | refine s_sub_as rfl rfl hvs ⟨by omega, by omega⟩ ?_ | refine QX rfl rfl ?_ | refine ZJ rfl rfl ?_)) | (refine Qt ?_; (first | refine QI rfl ?_ | refine WR rfl rfl (hlast) ?_)) | refine WO rfl rfl ?_ | refine W2 rfl ?_ | refine Qd rfl rfl ?_ | refine s_slice_hn rfl rfl (by omega) ?_ | refine Q9 rfl rfl (fun _ _ => ?_))) | (refine Qk ?_; (first | refine Qi ?_ | refine QK rfl ?_ | refine WM rfl rfl rfl rfl ?_ | refine Q5 rfl rfl (by omega) ?_)) | (refine Qj ?_; (first | refine Ql ?_ | refine Qb ?_ | refine Qe ?_ | refine QB ?_ | refine Qs rfl ?_)))
  rename_i g1 hg1
  generalize hfs : ks.map Q2 = fs at *
  generalize hlt : ks.take v = l at *
  refine ZZ (fun (i : Nat) => ⟨[(1, .ptr 0 g1 0), (2, .b false), (31, QW l), (32, .i l.length), (33, .i i)], [.row g1 [.i k, .i n, .i m, QW ks]]⟩) (fun i => i <= v /\ ∀ j, j < i -> fs.getD j noF (if (j : Int) < n then 3 else 2) = true) (fun i => v - i) 0 ?_ ⟨by omega, fun j hj => by omega⟩ ?_
  ·exact zal rfl
  intro i ⟨hi, hall⟩
  by_cases hil : i < v
  ·by_cases hin : (i : Int) < n
   ·have hfi := hl2 i (by omega) 3
    cases hbi : fs.getD i noF 3 with
    | false =>
     have hA : allI (fun i => fs.getD i noF (if (i : Int) < n then 3 else 2)) v = false := by
      rw [Bool.eq_false_iff]
      intro h
      have := allI_iff.1 h i hil
      rw [if_pos hin, hbi] at this; cases this
     rw [hA]
     rw [hbi] at hfi
     clear hl2
     (repeat' first | (refine Qg ?_; (first | refine QJ rfl ?_ | refine QN rfl ?_ | (refine QG ?_; (first | refine WL rfl rfl ?_ | refine QO rfl ?_ | refine Qc rfl rfl rfl ?_)) | refine QM rfl rfl (by first | assumption | omega | (simp; done) | (simp; omega)) ?_ | refine QX rfl rfl ?_ | refine WR rfl rfl (hfi) ?_ | refine WD rfl rfl rfl rfl ?_ | refine W2 rfl ?_ | refine Qd rfl rfl ?_ | refine Qu (fun _ _ => ?_))) | (refine Qk ?_; (first | refine Qi ?_ | refine QK rfl ?_ | refine QR ?_)) | (refine Qj ?_; (first | refine Ql ?_ | refine Qb ?_ | refine Qe ?_ | refine QB ?_ | refine Qq rfl ?_ | refine Qm rfl (by omega) ?_ | refine Qy ?_)))
     all_goals exact e_1 (Tryz.results123) (Qx rfl) (WW (σ := []) ⟨rfl, rfl⟩)
    | true =>
     rw [hbi] at hfi
     clear hl2
     (repeat' first | (refine Qg ?_; (first | refine QJ rfl ?_ | refine QN rfl ?_ | (refine QG ?_; (first | refine WL rfl rfl ?_ | refine QO rfl ?_ | refine Qc rfl rfl rfl ?_)) | refine QM rfl rfl (by first | assumption | omega | (simp; done) | (simp; omega)) ?_ | (refine Qo ?_; (first | refine QX rfl rfl ?_ | refine W3 rfl rfl (by omega) ?_)) | refine WR rfl rfl (hfi) ?_ | refine WD rfl rfl rfl rfl ?_ | refine W2 rfl ?_ | refine Qd rfl rfl ?_ | refine Qu (fun _ _ => ?_))) | (refine Qk ?_; (first | refine Qi ?_ | refine QK rfl ?_ | refine QR ?_)) | (refine Qj ?_; (first | refine Ql ?_ | refine Qb ?_ | refine Qe ?_ | refine QB ?_ | refine Qs rfl ?_ | refine Qm rfl (by omega) ?_)))
     refine ⟨i + 1, ⟨by omega, fun j hj => ?_⟩, by omega, ?_⟩
     ·rcases Nat.lt_or_ge j i with h | h
      ·exact hall j h
      ·have : j = i := by omega
       subst this; rw [if_pos hin]; exact hbi
     ·exact zal rfl
   ·have hfi := hl2 i (by omega) 2
    cases hbi : fs.getD i noF 2 with
    | false =>
     have hA : allI (fun i => fs.getD i noF (if (i : Int) < n then 3 else 2)) v = false := by
      rw [Bool.eq_false_iff]
      intro h
      have := allI_iff.1 h i hil
      rw [if_neg hin, hbi] at this; cases this
     rw [hA]
     rw [hbi] at hfi
     clear hl2
     (repeat' first | (refine Qg ?_; (first | refine QJ rfl ?_ | refine QN rfl ?_ | (refine QG ?_; (first | refine WL rfl rfl ?_ | refine QO rfl ?_ | refine Qc rfl rfl rfl ?_)) | refine QM rfl rfl (by first | assumption | omega | (simp; done) | (simp; omega)) ?_ | refine QX rfl rfl ?_ | refine WR rfl rfl (hfi) ?_ | refine WD rfl rfl rfl rfl ?_ | refine W2 rfl ?_ | refine Qd rfl rfl ?_ | refine Qu (fun _ _ => ?_))) | (refine Qk ?_; (first | refine Qi ?_ | refine QK rfl ?_ | refine QR ?_)) | (refine Qj ?_; (first | refine Ql ?_ | refine Qb ?_ | refine Qe ?_ | refine QB ?_ | refine Qq rfl ?_ | refine Qm rfl (by omega) ?_ | refine Qf rfl (by omega) ?_ | refine Qy ?_)))
     all_goals exact e_1 (Tryz.results123) (Qx rfl) (WW (σ := []) ⟨rfl, rfl⟩)
    | true =>
     rw [hbi] at hfi
     clear hl2
     (repeat' first | (refine Qg ?_; (first | refine QJ rfl ?_ | refine QN rfl ?_ | (refine QG ?_; (first | refine WL rfl rfl ?_ | refine QO rfl ?_ | refine Qc rfl rfl rfl ?_)) | refine QM rfl rfl (by first | assumption | omega | (simp; done) | (simp; omega)) ?_ | (refine Qo ?_; (first | refine QX rfl rfl ?_ | refine W3 rfl rfl (by omega) ?_)) | refine WR rfl rfl (hfi) ?_ | refine WD rfl rfl rfl rfl ?_ | refine W2 rfl ?_ | refine Qd rfl rfl ?_ | refine Qu (fun _ _ => ?_))) | (refine Qk ?_; (first | refine Qi ?_ | refine QK rfl ?_ | refine QR ?_)) | (refine Qj ?_; (first | refine Ql ?_ | refine Qb ?_ | refine Qe ?_ | refine QB ?_ | refine Qs rfl ?_ | refine Qm rfl (by omega) ?_ | refine Qf rfl (by omega) ?_)))
     refine ⟨i + 1, ⟨by omega, fun j hj => ?_⟩, by omega, ?_⟩
     ·rcases Nat.lt_or_ge j i with h | h
      ·exact hall j h
      ·have : j = i := by omega
       subst this; rw [if_neg hin]; exact hbi
     ·exact zal rfl
  ·have hiv : i = v := by omega
   subst hiv
   have hA : allI (fun j => fs.getD j noF (if (j : Int) < n then 3 else 2)) i = true := allI_iff.2 hall
   rw [hA]
   clear hl2
   (repeat' first | (refine Qg ?_; (first | refine QN rfl ?_ | refine QX rfl rfl ?_)) | (refine Qk ?_; (first | refine Qi ?_ | refine QK rfl ?_)) | (refine Qj ?_; (first | refine Ql ?_ | refine Qb ?_ | refine Qf rfl (by omega) ?_ | refine WC rfl ?_ | refine Qy ?_)))
   exact e_1 (Tryz.results123) (Qx rfl) (WW (σ := []) (r := [_]) ⟨rfl, rfl⟩)
instance : Enc Sh where
 enc s := [.i s.is, .i s.low, .i s.high, .i s.last, QW s.kids, .i s.more, .i s.least, .i s.som]
 es := 8
 len _ := rfl
 one _ d hd := by
  simp only [List.mem_cons, List.not_mem_nil, or_false] at hd
  rcases hd with rfl | rfl | rfl | rfl | rfl | rfl | rfl | rfl <;> rfl
 clo r d hd := by
  simp only [List.mem_cons, List.not_mem_nil, or_false] at hd
  rcases hd with rfl | rfl | rfl | rfl | rfl | rfl | rfl | rfl <;> first | exact Wh | exact Wu _
 pos := by decide
def shapesT : DV := .ep (Ws shapesL)
theorem shape_at {k : Int} (h0 : 0 <= k) (h1 : k < 28) : ∃ is low high last kids more least som, shapesL.getD k.toNat noSh = ⟨is, low, high, last, kids, more, least, som⟩ /\ kids.length <= 3 /\ (k = 26 -> is = 1 /\ low = 0 /\ high = 3 /\ last = 0) /\
  partD ((Ws shapesL).drop (k.toNat * 8)) 0 8 = some [.i is, .i low, .i high, .i last, QW kids, .i more, .i least, .i som] := by
 have : k = 0 \/ k = 1 \/ k = 2 \/ k = 3 \/ k = 4 \/ k = 5 \/ k = 6 \/ k = 7 \/ k = 8 \/ k = 9 \/ k = 10 \/ k = 11 \/ k = 12 \/ k = 13 \/ k = 14 \/ k = 15 \/ k = 16 \/ k = 17 \/ k = 18 \/ k = 19 \/ k = 20 \/ k = 21 \/ k = 22 \/ k = 23 \/ k = 24 \/ k = 25 \/ k = 26 \/ k = 27 := by omega
 rcases this with rfl | rfl | rfl | rfl | rfl | rfl | rfl | rfl | rfl | rfl | rfl | rfl | rfl | rfl | rfl | rfl | rfl | rfl | rfl | rfl | rfl | rfl | rfl | rfl | rfl | rfl | rfl | rfl <;> exact ⟨_, _, _, _, _, _, _, _, rfl, by decide, by decide, rfl⟩
theorem fits_c (hG0 : G 0 = shapesT) (t : Nd) : Qr t <= 1000000 -> ∀ w, Go.Av.Pure Tryz.prog G 75 [.agg (Enc.enc t), .i w] (.b (Q2 t w)) := by
 induction t using Nd.ind with
 | h k n m ks ih =>
 intro hsz w B
 have hse : Qr (.mk k n m ks) = 1 + QD ks := by rw [Qr]
 rw [hse] at hsz
 have hln := WU ks
 have hx : ∀ x ∈ ks, ∀ w, Go.Av.Pure Tryz.prog G 75 [.agg (Enc.enc x), .i w] (.b (Q2 x w)) := fun x hx w => ih x hx (by have := Wf hx; omega) w
 clear ih
 rw [Q2, fitsF_eq, QQ]
 have hml : (ks.map Q2).length = ks.length := List.length_map _
 by_cases hk : 0 <= k /\ k < 28
 case neg =>
  rw [if_neg hk]
  clear hx
  refine Qa Tryz.func75 rfl Tryz.ntmps75 rfl (t := [(0, .agg [.i k, .i n, .i m, QW ks]), (1, .i w)]) rfl fun E hE => ?_
  (repeat' first | (refine Qg ?_; (first | refine QJ rfl ?_ | refine QN rfl ?_ | refine Qc rfl rfl rfl ?_ | (refine Qo ?_; (first | refine QX rfl rfl ?_ | refine W4 rfl rfl ?_)) | (refine Q8 ?_; (first | refine W1 rfl rfl ?_ | refine WO rfl rfl ?_)) | refine Qd rfl rfl ?_ | refine Q9 rfl rfl (fun _ _ => ?_))) | (refine Qk ?_; (first | refine Qi ?_ | refine QK rfl ?_ | refine WM rfl rfl rfl rfl ?_ | refine W7 rfl rfl rfl rfl ?_ | refine qw rfl rfl (fun _ => ?_) (fun _ => ?_))) | (refine Qj ?_; (first | refine Ql ?_ | refine Qb ?_ | refine Qq rfl ?_ | refine Qm rfl (by omega) ?_ | refine Qy ?_)))
  all_goals exact e_1 (Tryz.results75) (Qx rfl) (WW (σ := []) (r := [_]) ⟨rfl, rfl⟩)
 rw [if_pos hk]
 obtain ⟨is, low, high, last, kids, more, least, som, hs, hkl, h26, hpart⟩ := shape_at hk.1 hk.2
 rw [hs]
 clear hs
 by_cases hI : isB ⟨is, low, high, last, kids, more, least, som⟩ w = true
 case neg =>
  have hI2 : is ≠ w /\ ¬ (is = 3 /\ w = 2) /\ ¬ (is = 6 /\ w = 5) := by
   have : ¬ ((is = w \/ (is = 3 /\ w = 2)) \/ (is = 6 /\ w = 5)) := by simpa [isB] using hI
   omega
  rw [show isB ⟨is, low, high, last, kids, more, least, som⟩ w = false by simpa using hI, Bool.false_and, Bool.false_and]
  clear hx hI h26
  refine Qa Tryz.func75 rfl Tryz.ntmps75 rfl (t := [(0, .agg [.i k, .i n, .i m, QW ks]), (1, .i w)]) rfl fun E hE => ?_
  (repeat' first | (refine Qg ?_; (first | refine QJ rfl ?_ | refine QN rfl ?_ | (refine QG ?_; (first | refine Zs rfl hpart rfl ?_ | refine Qc rfl rfl rfl ?_)) | refine Z3 (cs := Ws shapesL) hG0 rfl (by omega) (by omega) ?_ | (refine Qo ?_; (first | refine QX rfl rfl ?_ | refine W4 rfl rfl ?_ | refine Q1 rfl rfl ?_)) | (refine Q8 ?_; (first | refine W1 rfl rfl ?_ | refine WO rfl rfl ?_)) | refine WD rfl rfl rfl rfl ?_ | (refine g_unOp ?_; (first | refine s_not_d rfl ?_ | refine W2 rfl ?_)) | refine Qd rfl rfl ?_ | refine Qu (fun _ _ => ?_) | refine Q9 rfl rfl (fun _ _ => ?_))) | (refine Qk ?_; (first | refine Qi ?_ | refine QK rfl ?_ | refine QR ?_ | refine WM rfl rfl rfl rfl ?_ | refine W7 rfl rfl rfl rfl ?_ | refine Wc rfl rfl (by omega) ?_ | refine Q5 rfl rfl (by omega) ?_ | refine qw rfl rfl (fun _ => ?_) (fun _ => ?_))) | (refine Qj ?_; (first | refine Ql ?_ | refine Qb ?_ | refine QB ?_ | refine Qq rfl ?_ | refine Qf rfl (by omega) ?_ | refine Qy ?_)))
  all_goals exact e_1 (Tryz.results75) (Qx rfl) (WW (σ := []) (r := [_, _]) ⟨rfl, rfl⟩)
 rw [hI, Bool.true_and]
 have hI3 : is = w \/ (is ≠ w /\ is = 3 /\ w = 2) \/ (is ≠ w /\ is ≠ 3 /\ is = 6 /\ w = 5) := by
  have : (is = w \/ (is = 3 /\ w = 2)) \/ (is = 6 /\ w = 5) := by simpa [isB] using hI
  omega
 clear hI
 have hrng : rngB ⟨is, low, high, last, kids, more, least, som⟩ n m = true ↔ (low <= n /\ n <= high) /\ 0 <= m /\ m <= last := by simp [rngB]
 have hcnt : cntB ⟨is, low, high, last, kids, more, least, som⟩ ks.length = true ↔ least <= (ks.length : Int) - (kids.length : Int) /\ (ks.length : Int) - (kids.length : Int) <= more := by simp [cntB]
 have hkd : kidsB ⟨is, low, high, last, kids, more, least, som⟩ (ks.map Q2) = allI (fun i => (ks.map Q2).getD i noF (if i < kids.length then kids.getD i 0 else som)) ks.length := by unfold kidsB; rw [hml]; rfl
 have hfun0 := fun (h : 0 <= n /\ n <= 3) => funFits_c (G := G) k n m ks (by omega) h hx
 have hl2 : ∀ (i : Nat) (h : i < ks.length), ∀ w, Go.Av.Pure Tryz.prog G 75 [.agg (Enc.enc ks[i]), .i w] (.b ((ks.map Q2).getD i noF w)) := fun i h w => by
  rw [ZB ks Q2 h]
  exact hx _ (List.getElem_mem h) w
 clear hx
 generalize ks.map Q2 = fs at *
 rcases hI3 with hI3 | hI3 | hI3
 ·by_cases hr : (low <= n /\ n <= high) /\ 0 <= m /\ m <= last
  case neg =>
   rw [show rngB ⟨is, low, high, last, kids, more, least, som⟩ n m = false from Bool.eq_false_iff.2 fun h => hr (hrng.1 h), Bool.false_and]
   clear hl2 hfun0 hrng hcnt hkd h26
   refine Qa Tryz.func75 rfl Tryz.ntmps75 rfl (t := [(0, .agg [.i k, .i n, .i m, QW ks]), (1, .i w)]) rfl fun E hE => ?_
   (repeat' first | (refine Qg ?_; (first | refine QJ rfl ?_ | refine QN rfl ?_ | (refine QG ?_; (first | refine Zs rfl hpart rfl ?_ | refine Qc rfl rfl rfl ?_)) | refine Z3 (cs := Ws shapesL) hG0 rfl (by omega) (by omega) ?_ | (refine Qo ?_; (first | refine QX rfl rfl ?_ | refine ZJ rfl rfl ?_ | refine W4 rfl rfl ?_ | refine Q1 rfl rfl ?_)) | (refine Q8 ?_; (first | refine W1 rfl rfl ?_ | refine WO rfl rfl ?_)) | refine WD rfl rfl rfl rfl ?_ | refine W2 rfl ?_ | refine Qd rfl rfl ?_ | refine Qu (fun _ _ => ?_) | refine Q9 rfl rfl (fun _ _ => ?_))) | (refine Qk ?_; (first | refine Qi ?_ | refine QK rfl ?_ | refine QR ?_ | refine WM rfl rfl rfl rfl ?_ | refine W7 rfl rfl rfl rfl ?_ | refine o_gu rfl rfl rfl rfl rfl ?_ | refine Wc rfl rfl (by omega) ?_ | refine Q5 rfl rfl (by omega) ?_ | refine qw rfl rfl (fun _ => ?_) (fun _ => ?_))) | (refine Qj ?_; (first | refine Ql ?_ | refine Qb ?_ | refine QB ?_ | refine Qq rfl ?_ | refine Qm rfl (by omega) ?_ | refine Qf rfl (by omega) ?_ | refine Qy ?_)))
   all_goals exact e_1 (Tryz.results75) (Qx rfl) (WW (σ := []) (r := [_, _]) ⟨rfl, rfl⟩)
  rw [hrng.2 hr, Bool.true_and]
  by_cases k26 : k = 26
  ·rw [if_pos k26]
   obtain ⟨e1, e2, e3, e4⟩ := h26 k26
   have hfun := hfun0 ⟨by omega, by omega⟩
   clear hl2 hfun0 hrng hcnt hkd h26
   refine Qa Tryz.func75 rfl Tryz.ntmps75 rfl (t := [(0, .agg [.i k, .i n, .i m, QW ks]), (1, .i w)]) rfl fun E hE => ?_
   (repeat' first | (refine Qg ?_; (first | refine QJ rfl ?_ | refine QN rfl ?_ | (refine QG ?_; (first | refine WL rfl rfl ?_ | refine Zs rfl hpart rfl ?_ | refine Qc rfl rfl rfl ?_)) | refine Z3 (cs := Ws shapesL) hG0 rfl (by omega) (by omega) ?_ | (refine Qo ?_; (first | refine QX rfl rfl ?_ | refine ZJ rfl rfl ?_ | refine W4 rfl rfl ?_ | refine Q1 rfl rfl ?_)) | refine WR rfl rfl (hfun) ?_ | (refine Q8 ?_; (first | refine W1 rfl rfl ?_ | refine WO rfl rfl ?_)) | refine WD rfl rfl rfl rfl ?_ | refine W2 rfl ?_ | refine Qd rfl rfl ?_ | refine Qu (fun _ _ => ?_) | refine Q9 rfl rfl (fun _ _ => ?_))) | (refine Qk ?_; (first | refine Qi ?_ | refine QK rfl ?_ | refine QR ?_ | refine WM rfl rfl rfl rfl ?_ | refine W7 rfl rfl rfl rfl ?_ | refine o_gu rfl rfl rfl rfl rfl ?_ | refine Wc rfl rfl (by omega) ?_ | refine Q5 rfl rfl (by omega) ?_)) | (refine Qj ?_; (first | refine Ql ?_ | refine Qb ?_ | refine QB ?_ | refine Qm rfl (by omega) ?_ | refine Qf rfl (by omega) ?_ | refine Qy ?_)))
   exact e_1 (Tryz.results75) (Qx rfl) (WW (σ := []) (r := [_, _]) ⟨rfl, rfl⟩)
  rw [if_neg k26]
  by_cases hc : least <= (ks.length : Int) - (kids.length : Int) /\ (ks.length : Int) - (kids.length : Int) <= more
  case neg =>
   rw [show cntB ⟨is, low, high, last, kids, more, least, som⟩ ks.length = false from Bool.eq_false_iff.2 fun h => hc (hcnt.1 h), Bool.false_and]
   clear hl2 hfun0 hrng hcnt hkd h26
   refine Qa Tryz.func75 rfl Tryz.ntmps75 rfl (t := [(0, .agg [.i k, .i n, .i m, QW ks]), (1, .i w)]) rfl fun E hE => ?_
   (repeat' first | (refine Qg ?_; (first | refine QJ rfl ?_ | refine QN rfl ?_ | (refine QG ?_; (first | refine Zs rfl hpart rfl ?_ | refine Qc rfl rfl rfl ?_)) | refine Z3 (cs := Ws shapesL) hG0 rfl (by omega) (by omega) ?_ | (refine Qo ?_; (first | refine QX rfl rfl ?_ | refine ZJ rfl rfl ?_ | refine W4 rfl rfl ?_ | refine Q1 rfl rfl ?_ | refine Zj rfl rfl (by omega) ?_)) | refine QI rfl ?_ | (refine Q8 ?_; (first | refine W1 rfl rfl ?_ | refine WO rfl rfl ?_)) | refine WD rfl rfl rfl rfl ?_ | refine W2 rfl ?_ | refine Qd rfl rfl ?_ | refine Qu (fun _ _ => ?_) | refine Q9 rfl rfl (fun _ _ => ?_))) | (refine Qk ?_; (first | refine Qi ?_ | refine QK rfl ?_ | refine QR ?_ | refine WM rfl rfl rfl rfl ?_ | refine W7 rfl rfl rfl rfl ?_ | refine o_gu rfl rfl rfl rfl rfl ?_ | refine Wc rfl rfl (by omega) ?_ | refine Q5 rfl rfl (by omega) ?_ | refine qw rfl rfl (fun _ => ?_) (fun _ => ?_))) | (refine Qj ?_; (first | refine Ql ?_ | refine Qb ?_ | refine QB ?_ | refine Qq rfl ?_ | refine Qm rfl (by omega) ?_ | refine Qf rfl (by omega) ?_ | refine Qy ?_)))
   all_goals exact e_1 (Tryz.results75) (Qx rfl) (WW (σ := []) (r := [_, _]) ⟨rfl, rfl⟩)
  rw [hcnt.2 hc, Bool.true_and, hkd]
  clear hfun0 hrng hcnt hkd h26
  refine Qa Tryz.func75 rfl Tryz.ntmps75 rfl (t := [(0, .agg [.i k, .i n, .i m, QW ks]), (1, .i w)]) rfl fun E hE => ?_
  (repeat' first | (refine Qg ?_; (first | refine QJ rfl ?_ | refine QN rfl ?_ | (refine QG ?_; (first | refine Zs rfl hpart rfl ?_ | refine Qc rfl rfl rfl ?_)) | refine Z3 (cs := Ws shapesL) hG0 rfl (by omega) (by omega) ?_ | (refine Qo ?_; (first | refine QX rfl rfl ?_ | refine ZJ rfl rfl ?_ | refine W4 rfl rfl ?_ | refine Q1 rfl rfl ?_ | refine Zj rfl rfl (by omega) ?_)) | refine QI rfl ?_ | (refine Q8 ?_; (first | refine W1 rfl rfl ?_ | refine WO rfl rfl ?_)) | refine WD rfl rfl rfl rfl ?_ | refine W2 rfl ?_ | refine Qd rfl rfl ?_ | refine Qu (fun _ _ => ?_) | refine Q9 rfl rfl (fun _ _ => ?_))) | (refine Qk ?_; (first | refine Qi ?_ | refine QK rfl ?_ | refine QR ?_ | refine WM rfl rfl rfl rfl ?_ | refine W7 rfl rfl rfl rfl ?_ | refine o_gu rfl rfl rfl rfl rfl ?_ | refine Wc rfl rfl (by omega) ?_ | refine Q5 rfl rfl (by omega) ?_)) | (refine Qj ?_; (first | refine Ql ?_ | refine Qb ?_ | refine Qe ?_ | refine QB ?_ | refine Qf rfl (by omega) ?_)))
  rename_i g1 hg1 g2 hg2
  refine ZZ (fun (i : Nat) => ⟨[(2, .ptr 0 g1 0), (4, .b false), (5, .ptr 1 g2 0), (96, QW ks), (97, .i ks.length), (98, .i i)], [.row g1 [.i k, .i n, .i m, QW ks], .row g2 [.i is, .i low, .i high, .i last, QW kids, .i more, .i least, .i som]]⟩) (fun i => i <= ks.length /\ ∀ j, j < i -> fs.getD j noF (if j < kids.length then kids.getD j 0 else som) = true) (fun i => ks.length - i) 0 ?_ ⟨by omega, fun j hj => by omega⟩ ?_
  ·exact zal rfl
  intro i ⟨hi, hall⟩
  by_cases hil : i < ks.length
  ·by_cases hik : i < kids.length
   ·have hgd : kids.getD i 0 = kids[i] := by rw [List.getD_eq_getElem?_getD, List.getElem?_eq_getElem hik]; rfl
    have hfi := hl2 i hil kids[i]
    cases hbi : fs.getD i noF kids[i] with
    | false =>
     have hA : allI (fun i => fs.getD i noF (if i < kids.length then kids.getD i 0 else som)) ks.length = false := by
      rw [Bool.eq_false_iff]
      intro h
      have := allI_iff.1 h i hil
      rw [if_pos hik, hgd, hbi] at this; cases this
     rw [hA]
     rw [hbi] at hfi
     clear hl2 hall
     (repeat' first | (refine Qg ?_; (first | refine QJ rfl ?_ | refine QN rfl ?_ | (refine QG ?_; (first | refine WL rfl rfl ?_ | refine Wa rfl ?_ | refine QO rfl ?_ | refine Qc rfl rfl rfl ?_)) | refine QM rfl rfl (by first | assumption | omega | (simp; done) | (simp; omega)) ?_ | refine QX rfl rfl ?_ | (refine Qt ?_; (first | refine QI rfl ?_ | refine WR rfl rfl (hfi) ?_)) | refine WD rfl rfl rfl rfl ?_ | refine W2 rfl ?_ | refine Qd rfl rfl ?_ | refine Qu (fun _ _ => ?_))) | (refine Qk ?_; (first | refine Qi ?_ | refine QK rfl ?_ | refine QR ?_)) | (refine Qj ?_; (first | refine Ql ?_ | refine Qb ?_ | refine Qe ?_ | refine QB ?_ | refine Qq rfl ?_ | refine Qm rfl (by omega) ?_ | refine Qy ?_)))
     all_goals exact e_1 (Tryz.results75) (Qx rfl) (WW (σ := []) ⟨rfl, rfl⟩)
    | true =>
     rw [hbi] at hfi
     clear hl2
     (repeat' first | (refine Qg ?_; (first | refine QJ rfl ?_ | refine QN rfl ?_ | (refine QG ?_; (first | refine WL rfl rfl ?_ | refine Wa rfl ?_ | refine QO rfl ?_ | refine Qc rfl rfl rfl ?_)) | refine QM rfl rfl (by first | assumption | omega | (simp; done) | (simp; omega)) ?_ | (refine Qo ?_; (first | refine QX rfl rfl ?_ | refine W3 rfl rfl (by omega) ?_)) | (refine Qt ?_; (first | refine QI rfl ?_ | refine WR rfl rfl (hfi) ?_)) | refine WD rfl rfl rfl rfl ?_ | refine W2 rfl ?_ | refine Qd rfl rfl ?_ | refine Qu (fun _ _ => ?_))) | (refine Qk ?_; (first | refine Qi ?_ | refine QK rfl ?_ | refine QR ?_)) | (refine Qj ?_; (first | refine Ql ?_ | refine Qb ?_ | refine Qe ?_ | refine QB ?_ | refine Qs rfl ?_ | refine Qm rfl (by omega) ?_)))
     refine ⟨i + 1, ⟨by omega, fun j hj => ?_⟩, by omega, ?_⟩
     ·rcases Nat.lt_or_ge j i with h | h
      ·exact hall j h
      ·have : j = i := by omega
       subst this; rw [if_pos hik, hgd]; exact hbi
     ·exact zal rfl
   ·have hfi := hl2 i hil som
    cases hbi : fs.getD i noF som with
    | false =>
     have hA : allI (fun i => fs.getD i noF (if i < kids.length then kids.getD i 0 else som)) ks.length = false := by
      rw [Bool.eq_false_iff]
      intro h
      have := allI_iff.1 h i hil
      rw [if_neg hik, hbi] at this; cases this
     rw [hA]
     rw [hbi] at hfi
     clear hl2 hall
     (repeat' first | (refine Qg ?_; (first | refine QJ rfl ?_ | refine QN rfl ?_ | (refine QG ?_; (first | refine WL rfl rfl ?_ | refine QO rfl ?_ | refine Qc rfl rfl rfl ?_)) | refine QM rfl rfl (by first | assumption | omega | (simp; done) | (simp; omega)) ?_ | refine QX rfl rfl ?_ | (refine Qt ?_; (first | refine QI rfl ?_ | refine WR rfl rfl (hfi) ?_)) | refine WD rfl rfl rfl rfl ?_ | refine W2 rfl ?_ | refine Qd rfl rfl ?_ | refine Qu (fun _ _ => ?_))) | (refine Qk ?_; (first | refine Qi ?_ | refine QK rfl ?_ | refine QR ?_)) | (refine Qj ?_; (first | refine Ql ?_ | refine Qb ?_ | refine Qe ?_ | refine QB ?_ | refine Qq rfl ?_ | refine Qm rfl (by omega) ?_ | refine Qf rfl (by omega) ?_ | refine Qy ?_)))
     all_goals exact e_1 (Tryz.results75) (Qx rfl) (WW (σ := []) ⟨rfl, rfl⟩)
    | true =>
     rw [hbi] at hfi
     clear hl2
     (repeat' first | (refine Qg ?_; (first | refine QJ rfl ?_ | refine QN rfl ?_ | (refine QG ?_; (first | refine WL rfl rfl ?_ | refine QO rfl ?_ | refine Qc rfl rfl rfl ?_)) | refine QM rfl rfl (by first | assumption | omega | (simp; done) | (simp; omega)) ?_ | (refine Qo ?_; (first | refine QX rfl rfl ?_ | refine W3 rfl rfl (by omega) ?_)) | (refine Qt ?_; (first | refine QI rfl ?_ | refine WR rfl rfl (hfi) ?_)) | refine WD rfl rfl rfl rfl ?_ | refine W2 rfl ?_ | refine Qd rfl rfl ?_ | refine Qu (fun _ _ => ?_))) | (refine Qk ?_; (first | refine Qi ?_ | refine QK rfl ?_ | refine QR ?_)) | (refine Qj ?_; (first | refine Ql ?_ | refine Qb ?_ | refine Qe ?_ | refine QB ?_ | refine Qs rfl ?_ | refine Qm rfl (by omega) ?_ | refine Qf rfl (by omega) ?_)))
     refine ⟨i + 1, ⟨by omega, fun j hj => ?_⟩, by omega, ?_⟩
     ·rcases Nat.lt_or_ge j i with h | h
      ·exact hall j h
      ·have : j = i := by omega
       subst this; rw [if_neg hik]; exact hbi
     ·exact zal rfl
  ·have hiv : i = ks.length := by omega
   subst hiv
   have hA : allI (fun i => fs.getD i noF (if i < kids.length then kids.getD i 0 else som)) ks.length = true := allI_iff.2 hall
   rw [hA]
   clear hl2 hall
   (repeat' first | (refine Qg ?_; (first | refine QN rfl ?_ | refine QX rfl rfl ?_)) | (refine Qk ?_; (first | refine Qi ?_ | refine QK rfl ?_)) | (refine Qj ?_; (first | refine Ql ?_ | refine Qb ?_ | refine Qf rfl (by omega) ?_ | refine WC rfl ?_ | refine Qy ?_)))
   exact e_1 (Tryz.results75) (Qx rfl) (WW (σ := []) (r := [_, _]) ⟨rfl, rfl⟩)
 ·by_cases hr : (low <= n /\ n <= high) /\ 0 <= m /\ m <= last
  case neg =>
   rw [show rngB ⟨is, low, high, last, kids, more, least, som⟩ n m = false from Bool.eq_false_iff.2 fun h => hr (hrng.1 h), Bool.false_and]
   clear hl2 hfun0 hrng hcnt hkd h26
   refine Qa Tryz.func75 rfl Tryz.ntmps75 rfl (t := [(0, .agg [.i k, .i n, .i m, QW ks]), (1, .i w)]) rfl fun E hE => ?_
   (repeat' first | (refine Qg ?_; (first | refine QJ rfl ?_ | refine QN rfl ?_ | (refine QG ?_; (first | refine Zs rfl hpart rfl ?_ | refine Qc rfl rfl rfl ?_)) | refine Z3 (cs := Ws shapesL) hG0 rfl (by omega) (by omega) ?_ | (refine Qo ?_; (first | refine QX rfl rfl ?_ | refine ZJ rfl rfl ?_ | refine W4 rfl rfl ?_ | refine Q1 rfl rfl ?_)) | (refine Q8 ?_; (first | refine W1 rfl rfl ?_ | refine WO rfl rfl ?_)) | refine WD rfl rfl rfl rfl ?_ | refine W2 rfl ?_ | refine Qd rfl rfl ?_ | refine Qu (fun _ _ => ?_) | refine Q9 rfl rfl (fun _ _ => ?_))) | (refine Qk ?_; (first | refine Qi ?_ | refine QK rfl ?_ | refine QR ?_ | refine WM rfl rfl rfl rfl ?_ | refine W7 rfl rfl rfl rfl ?_ | refine o_gu rfl rfl rfl rfl rfl ?_ | refine Wc rfl rfl (by omega) ?_ | refine Q5 rfl rfl (by omega) ?_ | refine qw rfl rfl (fun _ => ?_) (fun _ => ?_))) | (refine Qj ?_; (first | refine Ql ?_ | refine Qb ?_ | refine QB ?_ | refine Qq rfl ?_ | refine Qm rfl (by omega) ?_ | refine Qf rfl (by omega) ?_ | refine Qy ?_)))
   all_goals exact e_1 (Tryz.results75) (Qx rfl) (WW (σ := []) (r := [_, _]) ⟨rfl, rfl⟩)
  rw [hrng.2 hr, Bool.true_and]
  by_cases k26 : k = 26
  ·rw [if_pos k26]
   exfalso
   have := h26 k26
   omega
  rw [if_neg k26]
  by_cases hc : least <= (ks.length : Int) - (kids.length : Int) /\ (ks.length : Int) - (kids.length : Int) <= more
  case neg =>
   rw [show cntB ⟨is, low, high, last, kids, more, least, som⟩ ks.length = false from Bool.eq_false_iff.2 fun h => hc (hcnt.1 h), Bool.false_and]
   clear hl2 hfun0 hrng hcnt hkd h26
   refine Qa Tryz.func75 rfl Tryz.ntmps75 rfl (t := [(0, .agg [.i k, .i n, .i m, QW ks]), (1, .i w)]) rfl fun E hE => ?_
   (repeat' first | (refine Qg ?_; (first | refine QJ rfl ?_ | refine QN rfl ?_ | (refine QG ?_; (first | refine Zs rfl hpart rfl ?_ | refine Qc rfl rfl rfl ?_)) | refine Z3 (cs := Ws shapesL) hG0 rfl (by omega) (by omega) ?_ | (refine Qo ?_; (first | refine QX rfl rfl ?_ | refine ZJ rfl rfl ?_ | refine W4 rfl rfl ?_ | refine Q1 rfl rfl ?_ | refine Zj rfl rfl (by omega) ?_)) | refine QI rfl ?_ | (refine Q8 ?_; (first | refine W1 rfl rfl ?_ | refine WO rfl rfl ?_)) | refine WD rfl rfl rfl rfl ?_ | refine W2 rfl ?_ | refine Qd rfl rfl ?_ | refine Qu (fun _ _ => ?_) | refine Q9 rfl rfl (fun _ _ => ?_))) | (refine Qk ?_; (first | refine Qi ?_ | refine QK rfl ?_ | refine QR ?_ | refine WM rfl rfl rfl rfl ?_ | refine W7 rfl rfl rfl rfl ?_ | refine o_gu rfl rfl rfl rfl rfl ?_ | refine Wc rfl rfl (by omega) ?_ | refine Q5 rfl rfl (by omega) ?_ | refine qw rfl rfl (fun _ => ?_) (fun _ => ?_))) | (refine Qj ?_; (first | refine Ql ?_ | refine Qb ?_ | refine QB ?_ | refine Qq rfl ?_ | refine Qm rfl (by omega) ?_ | refine Qf rfl (by omega) ?_ | refine Qy ?_)))
   all_goals exact e_1 (Tryz.results75) (Qx rfl) (WW (σ := []) (r := [_, _]) ⟨rfl, rfl⟩)
  rw [hcnt.2 hc, Bool.true_and, hkd]
  clear hfun0 hrng hcnt hkd h26
  refine Qa Tryz.func75 rfl Tryz.ntmps75 rfl (t := [(0, .agg [.i k, .i n, .i m, QW ks]), (1, .i w)]) rfl fun E hE => ?_
  (repeat' first | (refine Qg ?_; (first | refine QJ rfl ?_ | refine QN rfl ?_ | (refine QG ?_; (first | refine Zs rfl hpart rfl ?_ | refine Qc rfl rfl rfl ?_)) | refine Z3 (cs := Ws shapesL) hG0 rfl (by omega) (by omega) ?_ | (refine Qo ?_; (first | refine QX rfl rfl ?_ | refine ZJ rfl rfl ?_ | refine W4 rfl rfl ?_ | refine Q1 rfl rfl ?_ | refine Zj rfl rfl (by omega) ?_)) | refine QI rfl ?_ | (refine Q8 ?_; (first | refine W1 rfl rfl ?_ | refine WO rfl rfl ?_)) | refine WD rfl rfl rfl rfl ?_ | refine W2 rfl ?_ | refine Qd rfl rfl ?_ | refine Qu (fun _ _ => ?_) | refine Q9 rfl rfl (fun _ _ => ?_))) | (refine Qk ?_; (first | refine Qi ?_ | refine QK rfl ?_ | refine QR ?_ | refine WM rfl rfl rfl rfl ?_ | refine W7 rfl rfl rfl rfl ?_ | refine o_gu rfl rfl rfl rfl rfl ?_ | refine Wc rfl rfl (by omega) ?_ | refine Q5 rfl rfl (by omega) ?_)) | (refine Qj ?_; (first | refine Ql ?_ | refine Qb ?_ | refine Qe ?_ | refine QB ?_ | refine Qf rfl (by omega) ?_)))
  rename_i g1 hg1 g2 hg2
  refine ZZ (fun (i : Nat) => ⟨[(2, .ptr 0 g1 0), (4, .b false), (5, .ptr 1 g2 0), (96, QW ks), (97, .i ks.length), (98, .i i)], [.row g1 [.i k, .i n, .i m, QW ks], .row g2 [.i is, .i low, .i high, .i last, QW kids, .i more, .i least, .i som]]⟩) (fun i => i <= ks.length /\ ∀ j, j < i -> fs.getD j noF (if j < kids.length then kids.getD j 0 else som) = true) (fun i => ks.length - i) 0 ?_ ⟨by omega, fun j hj => by omega⟩ ?_
  ·exact zal rfl
  intro i ⟨hi, hall⟩
  by_cases hil : i < ks.length
  ·by_cases hik : i < kids.length
   ·have hgd : kids.getD i 0 = kids[i] := by rw [List.getD_eq_getElem?_getD, List.getElem?_eq_getElem hik]; rfl
    have hfi := hl2 i hil kids[i]
    cases hbi : fs.getD i noF kids[i] with
    | false =>
     have hA : allI (fun i => fs.getD i noF (if i < kids.length then kids.getD i 0 else som)) ks.length = false := by
      rw [Bool.eq_false_iff]
      intro h
      have := allI_iff.1 h i hil
      rw [if_pos hik, hgd, hbi] at this; cases this
     rw [hA]
     rw [hbi] at hfi
     clear hl2 hall
     (repeat' first | (refine Qg ?_; (first | refine QJ rfl ?_ | refine QN rfl ?_ | (refine QG ?_; (first | refine WL rfl rfl ?_ | refine Wa rfl ?_ | refine QO rfl ?_ | refine Qc rfl rfl rfl ?_)) | refine QM rfl rfl (by first | assumption | omega | (simp; done) | (simp; omega)) ?_ | refine QX rfl rfl ?_ | (refine Qt ?_; (first | refine QI rfl ?_ | refine WR rfl rfl (hfi) ?_)) | refine WD rfl rfl rfl rfl ?_ | refine W2 rfl ?_ | refine Qd rfl rfl ?_ | refine Qu (fun _ _ => ?_))) | (refine Qk ?_; (first | refine Qi ?_ | refine QK rfl ?_ | refine QR ?_)) | (refine Qj ?_; (first | refine Ql ?_ | refine Qb ?_ | refine Qe ?_ | refine QB ?_ | refine Qq rfl ?_ | refine Qm rfl (by omega) ?_ | refine Qy ?_)))
     all_goals exact e_1 (Tryz.results75) (Qx rfl) (WW (σ := []) ⟨rfl, rfl⟩)
    | true =>
     rw [hbi] at hfi
     clear hl2
     (repeat' first | (refine Qg ?_; (first | refine QJ rfl ?_ | refine QN rfl ?_ | (refine QG ?_; (first | refine WL rfl rfl ?_ | refine Wa rfl ?_ | refine QO rfl ?_ | refine Qc rfl rfl rfl ?_)) | refine QM rfl rfl (by first | assumption | omega | (simp; done) | (simp; omega)) ?_ | (refine Qo ?_; (first | refine QX rfl rfl ?_ | refine W3 rfl rfl (by omega) ?_)) | (refine Qt ?_; (first | refine QI rfl ?_ | refine WR rfl rfl (hfi) ?_)) | refine WD rfl rfl rfl rfl ?_ | refine W2 rfl ?_ | refine Qd rfl rfl ?_ | refine Qu (fun _ _ => ?_))) | (refine Qk ?_; (first | refine Qi ?_ | refine QK rfl ?_ | refine QR ?_)) | (refine Qj ?_; (first | refine Ql ?_ | refine Qb ?_ | refine Qe ?_ | refine QB ?_ | refine Qs rfl ?_ | refine Qm rfl (by omega) ?_)))
     refine ⟨i + 1, ⟨by omega, fun j hj => ?_⟩, by omega, ?_⟩
     ·rcases Nat.lt_or_ge j i with h | h
      ·exact hall j h
      ·have : j = i := by omega
       subst this; rw [if_pos hik, hgd]; exact hbi
     ·exact zal rfl
   ·have hfi := hl2 i hil som
    cases hbi : fs.getD i noF som with
    | false =>
     have hA : allI (fun i => fs.getD i noF (if i < kids.length then kids.getD i 0 else som)) ks.length = false := by
      rw [Bool.eq_false_iff]
      intro h
      have := allI_iff.1 h i hil
      rw [if_neg hik, hbi] at this; cases this
     rw [hA]
     rw [hbi] at hfi
     clear hl2 hall
     (repeat' first | (refine Qg ?_; (first | refine QJ rfl ?_ | refine QN rfl ?_ | (refine QG ?_; (first | refine WL rfl rfl ?_ | refine QO rfl ?_ | refine Qc rfl rfl rfl ?_)) | refine QM rfl rfl (by first | assumption | omega | (simp; done) | (simp; omega)) ?_ | refine QX rfl rfl ?_ | (refine Qt ?_; (first | refine QI rfl ?_ | refine WR rfl rfl (hfi) ?_)) | refine WD rfl rfl rfl rfl ?_ | refine W2 rfl ?_ | refine Qd rfl rfl ?_ | refine Qu (fun _ _ => ?_))) | (refine Qk ?_; (first | refine Qi ?_ | refine QK rfl ?_ | refine QR ?_)) | (refine Qj ?_; (first | refine Ql ?_ | refine Qb ?_ | refine Qe ?_ | refine QB ?_ | refine Qq rfl ?_ | refine Qm rfl (by omega) ?_ | refine Qf rfl (by omega) ?_ | refine Qy ?_)))
     all_goals exact e_1 (Tryz.results75) (Qx rfl) (WW (σ := []) ⟨rfl, rfl⟩)
    | true =>
     rw [hbi] at hfi
     clear hl2
     (repeat' first | (refine Qg ?_; (first | refine QJ rfl ?_ | refine QN rfl ?_ | (refine QG ?_; (first | refine WL rfl rfl ?_ | refine QO rfl ?_ | refine Qc rfl rfl rfl ?_)) | refine QM rfl rfl (by first | assumption | omega | (simp; done) | (simp; omega)) ?_ | (refine Qo ?_; (first | refine QX rfl rfl ?_ | refine W3 rfl rfl (by omega) ?_)) | (refine Qt ?_; (first | refine QI rfl ?_ | refine WR rfl rfl (hfi) ?_)) | refine WD rfl rfl rfl rfl ?_ | refine W2 rfl ?_ | refine Qd rfl rfl ?_ | refine Qu (fun _ _ => ?_))) | (refine Qk ?_; (first | refine Qi ?_ | refine QK rfl ?_ | refine QR ?_)) | (refine Qj ?_; (first | refine Ql ?_ | refine Qb ?_ | refine Qe ?_ | refine QB ?_ | refine Qs rfl ?_ | refine Qm rfl (by omega) ?_ | refine Qf rfl (by omega) ?_)))
     refine ⟨i + 1, ⟨by omega, fun j hj => ?_⟩, by omega, ?_⟩
     ·rcases Nat.lt_or_ge j i with h | h
      ·exact hall j h
      ·have : j = i := by omega
       subst this; rw [if_neg hik]; exact hbi
     ·exact zal rfl
  ·have hiv : i = ks.length := by omega
   subst hiv
   have hA : allI (fun i => fs.getD i noF (if i < kids.length then kids.getD i 0 else som)) ks.length = true := allI_iff.2 hall
   rw [hA]
   clear hl2 hall
   (repeat' first | (refine Qg ?_; (first | refine QN rfl ?_ | refine QX rfl rfl ?_)) | (refine Qk ?_; (first | refine Qi ?_ | refine QK rfl ?_)) | (refine Qj ?_; (first | refine Ql ?_ | refine Qb ?_ | refine Qf rfl (by omega) ?_ | refine WC rfl ?_ | refine Qy ?_)))
   exact e_1 (Tryz.results75) (Qx rfl) (WW (σ := []) (r := [_, _]) ⟨rfl, rfl⟩)
 ·by_cases hr : (low <= n /\ n <= high) /\ 0 <= m /\ m <= last
  case neg =>
   rw [show rngB ⟨is, low, high, last, kids, more, least, som⟩ n m = false from Bool.eq_false_iff.2 fun h => hr (hrng.1 h), Bool.false_and]
   clear hl2 hfun0 hrng hcnt hkd h26
   refine Qa Tryz.func75 rfl Tryz.ntmps75 rfl (t := [(0, .agg [.i k, .i n, .i m, QW ks]), (1, .i w)]) rfl fun E hE => ?_
   (repeat' first | (refine Qg ?_; (first | refine QJ rfl ?_ | refine QN rfl ?_ | (refine QG ?_; (first | refine Zs rfl hpart rfl ?_ | refine Qc rfl rfl rfl ?_)) | refine Z3 (cs := Ws shapesL) hG0 rfl (by omega) (by omega) ?_ | (refine Qo ?_; (first | refine QX rfl rfl ?_ | refine ZJ rfl rfl ?_ | refine W4 rfl rfl ?_ | refine Q1 rfl rfl ?_)) | (refine Q8 ?_; (first | refine W1 rfl rfl ?_ | refine WO rfl rfl ?_)) | refine WD rfl rfl rfl rfl ?_ | refine s_not_d rfl ?_ | refine Qd rfl rfl ?_ | refine Qu (fun _ _ => ?_) | refine Q9 rfl rfl (fun _ _ => ?_))) | (refine Qk ?_; (first | refine Qi ?_ | refine QK rfl ?_ | refine QR ?_ | refine WM rfl rfl rfl rfl ?_ | refine W7 rfl rfl rfl rfl ?_ | refine Wc rfl rfl (by omega) ?_ | refine Q5 rfl rfl (by omega) ?_ | refine qw rfl rfl (fun _ => ?_) (fun _ => ?_))) | (refine Qj ?_; (first | refine Ql ?_ | refine Qb ?_ | refine QB ?_ | refine Qq rfl ?_ | refine Qm rfl (by omega) ?_ | refine Qf rfl (by omega) ?_ | refine Qy ?_)))
   all_goals exact e_1 (Tryz.results75) (Qx rfl) (WW (σ := []) (r := [_, _]) ⟨rfl, rfl⟩)
  rw [hrng.2 hr, Bool.true_and]
  by_cases k26 : k = 26
  ·rw [if_pos k26]
   exfalso
   have := h26 k26
   omega
  rw [if_neg k26]
  by_cases hc : least <= (ks.length : Int) - (kids.length : Int) /\ (ks.length : Int) - (kids.length : Int) <= more
  case neg =>
   rw [show cntB ⟨is, low, high, last, kids, more, least, som⟩ ks.length = false from Bool.eq_false_iff.2 fun h => hc (hcnt.1 h), Bool.false_and]
   clear hl2 hfun0 hrng hcnt hkd h26
   refine Qa Tryz.func75 rfl Tryz.ntmps75 rfl (t := [(0, .agg [.i k, .i n, .i m, QW ks]), (1, .i w)]) rfl fun E hE => ?_
   (repeat' first | (refine Qg ?_; (first | refine QJ rfl ?_ | refine QN rfl ?_ | (refine QG ?_; (first | refine Zs rfl hpart rfl ?_ | refine Qc rfl rfl rfl ?_)) | refine Z3 (cs := Ws shapesL) hG0 rfl (by omega) (by omega) ?_ | (refine Qo ?_; (first | refine QX rfl rfl ?_ | refine ZJ rfl rfl ?_ | refine W4 rfl rfl ?_ | refine Q1 rfl rfl ?_ | refine Zj rfl rfl (by omega) ?_)) | refine QI rfl ?_ | (refine Q8 ?_; (first | refine W1 rfl rfl ?_ | refine WO rfl rfl ?_)) | refine WD rfl rfl rfl rfl ?_ | refine s_not_d rfl ?_ | refine Qd rfl rfl ?_ | refine Qu (fun _ _ => ?_) | refine Q9 rfl rfl (fun _ _ => ?_))) | (refine Qk ?_; (first | refine Qi ?_ | refine QK rfl ?_ | refine QR ?_ | refine WM rfl rfl rfl rfl ?_ | refine W7 rfl rfl rfl rfl ?_ | refine Wc rfl rfl (by omega) ?_ | refine Q5 rfl rfl (by omega) ?_ | refine qw rfl rfl (fun _ => ?_) (fun _ => ?_))) | (refine Qj ?_; (first | refine Ql ?_ | refine Qb ?_ | refine QB ?_ | refine Qq rfl ?_ | refine Qm rfl (by omega) ?_ | refine Qf rfl (by omega) ?_ | refine Qy ?_)))
   all_goals exact e_1 (Tryz.results75) (Qx rfl) (WW (σ := []) (r := [_, _]) ⟨rfl, rfl⟩)
  rw [hcnt.2 hc, Bool.true_and, hkd]
  clear hfun0 hrng hcnt hkd h26
  refine Qa Tryz.func75 rfl Tryz.ntmps75 rfl (t := [(0, .agg [.i k, .i n, .i m, QW ks]), (1, .i w)]) rfl fun E hE => ?_
  (repeat' first | (refine Qg ?_; (first | refine QJ rfl ?_ | refine QN rfl ?_ | (refine QG ?_; (first | refine Zs rfl hpart rfl ?_ | refine Qc rfl rfl rfl ?_)) | refine Z3 (cs := Ws shapesL) hG0 rfl (by omega) (by omega) ?_ | (refine Qo ?_; (first | refine QX rfl rfl ?_ | refine ZJ rfl rfl ?_ | refine W4 rfl rfl ?_ | refine Q1 rfl rfl ?_ | refine Zj rfl rfl (by omega) ?_)) | refine QI rfl ?_ | (refine Q8 ?_; (first | refine W1 rfl rfl ?_ | refine WO rfl rfl ?_)) | refine WD rfl rfl rfl rfl ?_ | refine s_not_d rfl ?_ | refine Qd rfl rfl ?_ | refine Qu (fun _ _ => ?_) | refine Q9 rfl rfl (fun _ _ => ?_))) | (refine Qk ?_; (first | refine Qi ?_ | refine QK rfl ?_ | refine QR ?_ | refine WM rfl rfl rfl rfl ?_ | refine W7 rfl rfl rfl rfl ?_ | refine Wc rfl rfl (by omega) ?_ | refine Q5 rfl rfl (by omega) ?_)) | (refine Qj ?_; (first | refine Ql ?_ | refine Qb ?_ | refine Qe ?_ | refine QB ?_ | refine Qf rfl (by omega) ?_)))
  rename_i g1 hg1 g2 hg2
  refine ZZ (fun (i : Nat) => ⟨[(2, .ptr 0 g1 0), (4, .b false), (5, .ptr 1 g2 0), (96, QW ks), (97, .i ks.length), (98, .i i)], [.row g1 [.i k, .i n, .i m, QW ks], .row g2 [.i is, .i low, .i high, .i last, QW kids, .i more, .i least, .i som]]⟩) (fun i => i <= ks.length /\ ∀ j, j < i -> fs.getD j noF (if j < kids.length then kids.getD j 0 else som) = true) (fun i => ks.length - i) 0 ?_ ⟨by omega, fun j hj => by omega⟩ ?_
  ·exact zal rfl
  intro i ⟨hi, hall⟩
  by_cases hil : i < ks.length
  ·by_cases hik : i < kids.length
   ·have hgd : kids.getD i 0 = kids[i] := by rw [List.getD_eq_getElem?_getD, List.getElem?_eq_getElem hik]; rfl
    have hfi := hl2 i hil kids[i]
    cases hbi : fs.getD i noF kids[i] with
    | false =>
     have hA : allI (fun i => fs.getD i noF (if i < kids.length then kids.getD i 0 else som)) ks.length = false := by
      rw [Bool.eq_false_iff]
      intro h
      have := allI_iff.1 h i hil
      rw [if_pos hik, hgd, hbi] at this; cases this
     rw [hA]
     rw [hbi] at hfi
     clear hl2 hall
     (repeat' first | (refine Qg ?_; (first | refine QJ rfl ?_ | refine QN rfl ?_ | (refine QG ?_; (first | refine WL rfl rfl ?_ | refine Wa rfl ?_ | refine QO rfl ?_ | refine Qc rfl rfl rfl ?_)) | refine QM rfl rfl (by first | assumption | omega | (simp; done) | (simp; omega)) ?_ | refine QX rfl rfl ?_ | (refine Qt ?_; (first | refine QI rfl ?_ | refine WR rfl rfl (hfi) ?_)) | refine WD rfl rfl rfl rfl ?_ | refine W2 rfl ?_ | refine Qd rfl rfl ?_ | refine Qu (fun _ _ => ?_))) | (refine Qk ?_; (first | refine Qi ?_ | refine QK rfl ?_ | refine QR ?_)) | (refine Qj ?_; (first | refine Ql ?_ | refine Qb ?_ | refine Qe ?_ | refine QB ?_ | refine Qq rfl ?_ | refine Qm rfl (by omega) ?_ | refine Qy ?_)))
     all_goals exact e_1 (Tryz.results75) (Qx rfl) (WW (σ := []) ⟨rfl, rfl⟩)
    | true =>
     rw [hbi] at hfi
     clear hl2
     (repeat' first | (refine Qg ?_; (first | refine QJ rfl ?_ | refine QN rfl ?_ | (refine QG ?_; (first | refine WL rfl rfl ?_ | refine Wa rfl ?_ | refine QO rfl ?_ | refine Qc rfl rfl rfl ?_)) | refine QM rfl rfl (by first | assumption | omega | (simp; done) | (simp; omega)) ?_ | (refine Qo ?_; (first | refine QX rfl rfl ?_ | refine W3 rfl rfl (by omega) ?_)) | (refine Qt ?_; (first | refine QI rfl ?_ | refine WR rfl rfl (hfi) ?_)) | refine WD rfl rfl rfl rfl ?_ | refine W2 rfl ?_ | refine Qd rfl rfl ?_ | refine Qu (fun _ _ => ?_))) | (refine Qk ?_; (first | refine Qi ?_ | refine QK rfl ?_ | refine QR ?_)) | (refine Qj ?_; (first | refine Ql ?_ | refine Qb ?_ | refine Qe ?_ | refine QB ?_ | refine Qs rfl ?_ | refine Qm rfl (by omega) ?_)))
     refine ⟨i + 1, ⟨by omega, fun j hj => ?_⟩, by omega, ?_⟩
     ·rcases Nat.lt_or_ge j i with h | h
      ·exact hall j h
      ·have : j = i := by omega
       subst this; rw [if_pos hik, hgd]; exact hbi
     ·exact zal rfl
   ·have hfi := hl2 i hil som
    cases hbi : fs.getD i noF som with
    | false =>
     have hA : allI (fun i => fs.getD i noF (if i < kids.length then kids.getD i 0 else som)) ks.length = false := by
      rw [Bool.eq_false_iff]
      intro h
      have := allI_iff.1 h i hil
      rw [if_neg hik, hbi] at this; cases this
     rw [hA]
     rw [hbi] at hfi
     clear hl2 hall
     (repeat' first | (refine Qg ?_; (first | refine QJ rfl ?_ | refine QN rfl ?_ | (refine QG ?_; (first | refine WL rfl rfl ?_ | refine QO rfl ?_ | refine Qc rfl rfl rfl ?_)) | refine QM rfl rfl (by first | assumption | omega | (simp; done) | (simp; omega)) ?_ | refine QX rfl rfl ?_ | (refine Qt ?_; (first | refine QI rfl ?_ | refine WR rfl rfl (hfi) ?_)) | refine WD rfl rfl rfl rfl ?_ | refine W2 rfl ?_ | refine Qd rfl rfl ?_ | refine Qu (fun _ _ => ?_))) | (refine Qk ?_; (first | refine Qi ?_ | refine QK rfl ?_ | refine QR ?_)) | (refine Qj ?_; (first | refine Ql ?_ | refine Qb ?_ | refine Qe ?_ | refine QB ?_ | refine Qq rfl ?_ | refine Qm rfl (by omega) ?_ | refine Qf rfl (by omega) ?_ | refine Qy ?_)))
     all_goals exact e_1 (Tryz.results75) (Qx rfl) (WW (σ := []) ⟨rfl, rfl⟩)
    | true =>
     rw [hbi] at hfi
     clear hl2
     (repeat' first | (refine Qg ?_; (first | refine QJ rfl ?_ | refine QN rfl ?_ | (refine QG ?_; (first | refine WL rfl rfl ?_ | refine QO rfl ?_ | refine Qc rfl rfl rfl ?_)) | refine QM rfl rfl (by first | assumption | omega | (simp; done) | (simp; omega)) ?_ | (refine Qo ?_; (first | refine QX rfl rfl ?_ | refine W3 rfl rfl (by omega) ?_)) | (refine Qt ?_; (first | refine QI rfl ?_ | refine WR rfl rfl (hfi) ?_)) | refine WD rfl rfl rfl rfl ?_ | refine W2 rfl ?_ | refine Qd rfl rfl ?_ | refine Qu (fun _ _ => ?_))) | (refine Qk ?_; (first | refine Qi ?_ | refine QK rfl ?_ | refine QR ?_)) | (refine Qj ?_; (first | refine Ql ?_ | refine Qb ?_ | refine Qe ?_ | refine QB ?_ | refine Qs rfl ?_ | refine Qm rfl (by omega) ?_ | refine Qf rfl (by omega) ?_)))
     refine ⟨i + 1, ⟨by omega, fun j hj => ?_⟩, by omega, ?_⟩
     ·rcases Nat.lt_or_ge j i with h | h
      ·exact hall j h
      ·have : j = i := by omega
       subst this; rw [if_neg hik]; exact hbi
     ·exact zal rfl
  ·have hiv : i = ks.length := by omega
   subst hiv
   have hA : allI (fun i => fs.getD i noF (if i < kids.length then kids.getD i 0 else som)) ks.length = true := allI_iff.2 hall
   rw [hA]
   clear hl2 hall
   (repeat' first | (refine Qg ?_; (first | refine QN rfl ?_ | refine QX rfl rfl ?_)) | (refine Qk ?_; (first | refine Qi ?_ | refine QK rfl ?_)) | (refine Qj ?_; (first | refine Ql ?_ | refine Qb ?_ | refine Qf rfl (by omega) ?_ | refine WC rfl ?_ | refine Qy ?_)))
   exact e_1 (Tryz.results75) (Qx rfl) (WW (σ := []) (r := [_, _]) ⟨rfl, rfl⟩)
theorem valid_c (hG0 : G 0 = shapesT) (t : Nd) (hsz : Qr t <= 1000000) : Go.Av.Pure Tryz.prog G 31 [.agg (Enc.enc t)] (.b (validM t)) := fun B => by
 have hsiz := trSize_c (G := G) t (by omega)
 have hdep := trDepth_c (G := G) t (by omega)
 have hfit := fits_c hG0 t hsz 0
 unfold validM
 by_cases h1 : Qr t <= 256
 ·by_cases h2 : Wj t <= 16
  ·rw [decide_eq_true h1, decide_eq_true h2, Bool.true_and, Bool.true_and]
   refine Qa Tryz.func31 rfl Tryz.ntmps31 rfl (t := [(0, .agg (Enc.enc t))]) rfl fun E hE => ?_
   (repeat' first | (refine Qg ?_; (first | refine QJ rfl ?_ | refine QN rfl ?_ | refine WL rfl rfl ?_ | refine Zb rfl rfl ?_ | (refine Qt ?_; (first | refine WR rfl rfl (hsiz) ?_ | refine WR rfl rfl (hdep) ?_ | refine WR rfl rfl (hfit) ?_)) | refine W1 rfl rfl ?_ | refine Q9 rfl rfl (fun _ _ => ?_))) | (refine Qk ?_; (first | refine Qi ?_ | refine QK rfl ?_ | refine WM rfl rfl rfl rfl ?_ | refine Wc rfl rfl (by omega) ?_)) | (refine Qj ?_; (first | refine Ql ?_ | refine Qb ?_ | refine Qy ?_)))
   all_goals exact e_1 (Tryz.results31) (Qx rfl) (WW (σ := []) (r := [_]) ⟨rfl, rfl⟩)
  ·rw [decide_eq_true h1, decide_eq_false h2, Bool.true_and, Bool.false_and]
   refine Qa Tryz.func31 rfl Tryz.ntmps31 rfl (t := [(0, .agg (Enc.enc t))]) rfl fun E hE => ?_
   (repeat' first | (refine Qg ?_; (first | refine QJ rfl ?_ | refine QN rfl ?_ | refine WL rfl rfl ?_ | refine Zb rfl rfl ?_ | (refine Qt ?_; (first | refine WR rfl rfl (hsiz) ?_ | refine WR rfl rfl (hdep) ?_)) | (refine Q8 ?_; (first | refine W1 rfl rfl ?_ | refine WO rfl rfl ?_)) | refine Q9 rfl rfl (fun _ _ => ?_))) | (refine Qk ?_; (first | refine Qi ?_ | refine QK rfl ?_ | refine WM rfl rfl rfl rfl ?_ | refine W7 rfl rfl rfl rfl ?_ | refine Wc rfl rfl (by omega) ?_ | refine Q5 rfl rfl (by omega) ?_)) | (refine Qj ?_; (first | refine Ql ?_ | refine Qb ?_ | refine Qy ?_)))
   all_goals exact e_1 (Tryz.results31) (Qx rfl) (WW (σ := []) (r := [_]) ⟨rfl, rfl⟩)
 ·rw [decide_eq_false h1, Bool.false_and, Bool.false_and]
  refine Qa Tryz.func31 rfl Tryz.ntmps31 rfl (t := [(0, .agg (Enc.enc t))]) rfl fun E hE => ?_
  (repeat' first | (refine Qg ?_; (first | refine QJ rfl ?_ | refine QN rfl ?_ | refine WL rfl rfl ?_ | refine Zb rfl rfl ?_ | refine WR rfl rfl (hsiz) ?_ | refine WO rfl rfl ?_ | refine Q9 rfl rfl (fun _ _ => ?_))) | (refine Qk ?_; (first | refine Qi ?_ | refine QK rfl ?_ | refine W7 rfl rfl rfl rfl ?_ | refine Q5 rfl rfl (by omega) ?_)) | (refine Qj ?_; (first | refine Ql ?_ | refine Qb ?_ | refine Qy ?_)))
  all_goals exact e_1 (Tryz.results31) (Qx rfl) (WW (σ := []) (r := [_]) ⟨rfl, rfl⟩)
def parseM (z : Nd) (s : List UInt8) : Nd × Int :=
 if 8192 < s.length then (zNd, 8192)
 else if (qr (Zo s 0).1 z ((Zo s 0).1.length + 3)).2.bad = true then
  (if h : (qr (Zo s 0).1 z ((Zo s 0).1.length + 3)).2.p < (Zo s 0).1.length then (zNd, ((Zo s 0).1[(qr (Zo s 0).1 z ((Zo s 0).1.length + 3)).2.p].2 : Int)) else (zNd, ((Zo s 0).2 : Int)))
 else if (Zo s 0).2 < s.length then (zNd, ((Zo s 0).2 : Int))
 else if validM (qr (Zo s 0).1 z ((Zo s 0).1.length + 3)).1 = true then ((qr (Zo s 0).1 z ((Zo s 0).1.length + 3)).1, -1) else (zNd, 0)
theorem tup_nil {L : Lay} {a b c d : DV} {es : Nat} {v : Value} (h : VRep L (.tup [.agg [a, b, c, .sc (.slice none 0 0)], d]) v) : VRep L (.tup [.agg [a, b, c, .sl es []], d]) v := by
 cases h with | tup _ vs hl hg =>
 refine .tup _ _ hl fun j e hj => ?_
 match j with
 | 0 => simp at hj; subst hj; exact agg4_nil (hg 0 _ rfl)
 | j + 1 => exact hg (j + 1) e hj
theorem scan_ok (s : List UInt8) (hs : s.length <= 8192) : OkL (Zo s 0).1 /\ (Zo s 0).2 <= s.length /\ (Zo s 0).1.length <= s.length /\ ∀ x ∈ (Zo s 0).1, x.2 <= s.length := by
 have key : ∀ (n : Nat) (u : List UInt8) (a : Nat), u.length = n -> ((Zo u a).2 <= a + u.length /\ (Zo u a).1.length <= u.length /\ ∀ x ∈ (Zo u a).1, x.1 ≠ [] /\ x.1.length <= u.length /\ x.2 <= a + u.length) := by
  intro n
  induction n using Nat.strongRecOn with
  | _ n ih =>
  intro u a hu
  have hd := (List.dropWhile_sublist (l := u) spB).length_le
  by_cases hf : Zy (u.dropWhile spB) = []
  ·rw [scan_nil hf]
   refine ⟨by show a + (u.length - (u.dropWhile spB).length) <= a + u.length; omega, Nat.zero_le _, fun x hx => by cases hx⟩
  ·have hle := firstM_le (u.dropWhile spB)
   have hpos : 1 <= (Zy (u.dropWhile spB)).length := by
    cases hq : Zy (u.dropWhile spB) with
    | nil => exact absurd hq hf
    | cons b q => simp
   rw [scan_cons rfl rfl hf rfl]
   have hdl : ((u.dropWhile spB).drop (Zy (u.dropWhile spB)).length).length = (u.dropWhile spB).length - (Zy (u.dropWhile spB)).length := List.length_drop
   obtain ⟨i1, i2, i3⟩ := ih _ (by rw [hdl]; omega) ((u.dropWhile spB).drop (Zy (u.dropWhile spB)).length) (a + (u.length - (u.dropWhile spB).length) + (Zy (u.dropWhile spB)).length) rfl
   rw [hdl] at i1 i2 i3
   refine ⟨by dsimp only; omega, by rw [List.length_cons]; omega, fun x hx => ?_⟩
   rcases List.mem_cons.1 hx with rfl | hx
   ·exact ⟨hf, by dsimp only; omega, by dsimp only; omega⟩
   ·obtain ⟨j1, j2, j3⟩ := i3 x hx
    exact ⟨j1, by omega, by omega⟩
 obtain ⟨h1, h2, h3⟩ := key _ s 0 rfl
 exact ⟨⟨by omega, fun x hx => ⟨(h3 x hx).1, by have := (h3 x hx).2.1; omega⟩⟩, by omega, h2, fun x hx => by have := (h3 x hx).2.2; omega⟩
theorem parse_c (hG0 : G 0 = shapesT) (hG1 : G 1 = spaceT) (s : List UInt8) (hsl : s.length <= 1000000000) : Go.Av.Pure Tryz.prog G 23 [WS s] (.tup [.agg (Enc.enc (parseM zP s).1), .i (parseM zP s).2]) := fun B => by
 unfold parseM
 by_cases h8 : 8192 < s.length
 ·rw [if_pos h8]
  refine Qa Tryz.func23 rfl Tryz.ntmps23 rfl (t := [(0, WS s)]) rfl fun E hE => ?_
  (repeat' first | (refine Qg ?_; (first | refine QJ rfl ?_ | refine QN rfl ?_ | refine ZJ rfl rfl ?_ | refine Wn rfl ?_ | refine WD rfl rfl rfl rfl ?_ | refine QA rfl rfl ?_ | refine Qu (fun _ _ => ?_))) | (refine Qk ?_; (first | refine Qi ?_ | refine QK rfl ?_ | refine QR ?_)) | (refine Qj ?_; (first | refine Ql ?_ | refine Qb ?_ | refine Qm rfl (by omega) ?_ | refine Qy ?_)))
  exact e_2 (Tryz.results23) (Qz (size := 4) rfl rfl rfl rfl) (Qx rfl) (c_conv (d2 := .tup [.agg [.i 0, .i 0, .i 0, .sl 4 []], .i 8192]) (fun L v h => tup_nil h) (QY (by show _ = DV.tup [.agg (Enc.enc zNd), .i 8192]; unfold zNd; rw [QQ]; rfl)))
 rw [if_neg h8]
 have hscan := scan_c (G := G) hG1 s (by omega)
 obtain ⟨hL, he, hlen, hat⟩ := scan_ok s (by omega)
 generalize (Zo s 0).2 = e at *
 generalize (Zo s 0).1 = L at *
 obtain ⟨q, hqq⟩ : ∃ q, q = L.length + 3 := ⟨_, rfl⟩
 rw [<- hqq]
 have hq : L.length + 3 <= q := by omega
 have hfn := fun Q => fun_rc (G := G) hG1 L hL q hq (by omega) Q
 have hea := eats_fun L zP q
 have hkw := kw_fun (L := L) (z := zP) q
 have hps := fun h => Nat.le_trans (prog_size (L := L) (z := zP) q h) (prog_in q)
 have hpa : qr L zP q = (Nd.mk 27 (Qw L (QU L ZR ⟨0, false⟩)).1 0 (WT L (qx L zP q) q [] (Qw L (QU L ZR ⟨0, false⟩)).2).1, (WT L (qx L zP q) q [] (Qw L (QU L ZR ⟨0, false⟩)).2).2) := rfl
 rw [hpa] at hps ⊢
 clear hpa
 generalize qx L zP q = F at *
 have htk := take_c (G := G) L ⟨0, false⟩ hL ZR (by decide)
 have hmt := (mm_take (L := L) (S := ⟨0, false⟩) ZR (by decide)).1
 have hr0 : rM L ⟨0, false⟩ = L.length := by unfold rM; simp
 generalize QU L ZR ⟨0, false⟩ = S1 at *
 have hnm := qj (G := G) L S1 hL
 have hmn := (jr (L := L) (F := Qw L) (fun i => J.numeral (Ag.refl L i)) S1).2
 generalize (Qw L S1).1 = v at *
 generalize (Qw L S1).2 = S2 at *
 have htl : (tks L).length = L.length := by simp [tks]
 dsimp only at hps ⊢
 refine Qa Tryz.func23 rfl Tryz.ntmps23 rfl (t := [(0, WS s)]) rfl fun E hE => ?_
 (repeat' first | (refine Qg ?_; (first | refine QJ rfl ?_ | refine QN rfl ?_ | refine ZJ rfl rfl ?_ | (refine Qt ?_; (first | refine Wn rfl ?_ | refine WR rfl rfl (hscan) ?_ | refine Q4 1 (htk) rfl rfl rfl rfl ?_ | refine Q4 1 (hnm) rfl rfl rfl rfl ?_)) | refine WD rfl rfl rfl rfl ?_ | refine ZP rfl rfl rfl ?_ | refine QA rfl rfl ?_ | refine Qu (fun _ _ => ?_) | refine Q9 rfl rfl (fun _ _ => ?_))) | (refine Qk ?_; (first | refine Qi ?_ | refine QK rfl ?_ | refine QR ?_)) | (refine Qj ?_; (first | refine Ql ?_ | refine Qb ?_ | refine Qe ?_ | refine QB ?_ | refine Qf rfl (by omega) ?_)))
 rename_i g2 hg2 gr hgr gn hgn
 refine r_ownin 2 3 4 rfl rfl (fun _ => rfl) (fun gk hgk => ?_)
 refine r_loop3n (fun (o : List Nd) (Q : RS) (gg : Nat) => ⟨[(0, WS s), (2, .ptr 0 g2 0), (4, QW (tks L)), (5, .i e), (6, .ptr 1 gr 0), (7, .ptr 2 gn 0)], [.row g2 [.i 0, .i 0, .i 0, .nil], .row gr (rdC L Q), .row gn [.i 27, .i v, .i 0, .ref 3 gg 0 o.length 4], .row gg (Ws o)]⟩) (fun o Q gg => E.N < gg /\ o.length + mM L Q <= L.length /\ ∃ k', WT L F q [] S2 = WT L F k' o Q /\ mM L Q + 1 <= k') (fun o Q gg => mM L Q) [] S2 gk ?_ ⟨hgk, by simp; omega, q, rfl, by omega⟩ ?_
 ·exact zal rfl
 intro o Q gg ⟨hgg, hq2, k', hk1, hk2⟩
 have hol : o.length <= 2000000 := by omega
 rw [hk1] at hps ⊢
 have c1 := QS o
 cases hb : Q.bad with
 | true =>
  have hend : WT L F k' o Q = (o, Q) := by
   cases k' with
   | zero => rfl
   | succ k2 => rw [WT, if_neg (by rw [hb]; simp)]
  rw [hend]
  dsimp only
  rw [if_pos hb]
  clear hps hk1 hend hfn hkw hea
  have ecell : rdC L Q = [QW (tks L), .i (Q.p : Nat), .i (Q.p : Nat)] := by unfold rdC badI; rw [if_pos hb]
  rw [ecell]
  by_cases hpl : Q.p < L.length
  ·rw [dif_pos hpl]
   have hpl2 : Q.p < (tks L).length := by omega
   have hta : ((tks L)[Q.p].a : Int) = (L[Q.p].2 : Int) := by rw [tks_get hpl]
   (repeat' first | (refine Qg ?_; (first | refine QJ rfl ?_ | refine QN rfl ?_ | refine Qc rfl rfl rfl ?_ | (refine Qo ?_; (first | refine QX rfl rfl ?_ | refine W4 rfl rfl ?_)) | refine QI rfl ?_ | (refine Q8 ?_; (first | refine W1 rfl rfl ?_ | refine WO rfl rfl ?_)) | refine WD rfl rfl rfl rfl ?_ | refine Qd rfl rfl ?_ | refine Qp rfl rfl ?_)) | (refine Qk ?_; (first | refine Qi ?_ | refine QK rfl ?_ | refine WM rfl rfl rfl rfl ?_ | refine W7 rfl rfl rfl rfl ?_)) | (refine Qj ?_; (first | refine Ql ?_ | refine Qb ?_ | refine Qe ?_ | (refine WF ?_; first | (refine Qv (fun p => p.1 :: .row gr [QW (tks L), .i (Q.p : Nat), .i (Q.p : Nat)] :: p.2) 100 [(1, true), (2, true), (3, true), (4, true), (5, true), (6, true), (7, true), (8, true), (0, true), (9, false), (10, true)] (by rfl) (by rfl) (by kernel_rfl) (by decide +kernel) (by decide +kernel) ⟨(_, _), rfl⟩ ?_) | (refine Qv (fun p => .row g2 [.i 0, .i 0, .i 0, .nil] :: p.1 :: .row gn [.i 27, .i v, .i 0, .ref 3 gg 0 o.length 4] :: p.2) 7 [(0, true), (1, true), (2, true), (3, false), (4, true), (5, false), (6, true), (7, false)] (by rfl) (by rfl) (by kernel_rfl) (by decide +kernel) (by decide +kernel) ⟨(_, _), rfl⟩ ?_) | refine Wm (by rfl) (by kernel_rfl) (by kernel_rfl) ?_ | refine Wl (by kernel_rfl) (by kernel_rfl) ?_) | refine Qs rfl ?_ | refine Qm rfl (by omega) ?_ | refine WC rfl ?_ | refine Qy ?_)) | (refine W6 ?_; (first | refine ZG ?_ | refine i_st rfl rfl (fun _ => (by (repeat' first | (refine Qg ?_; (first | refine QJ rfl ?_ | refine QN rfl ?_ | (refine QG ?_; (first | refine Wa rfl ?_ | refine Qc rfl rfl rfl ?_)) | refine QM rfl rfl (by first | assumption | omega | (simp; done) | (simp; omega)) ?_ | (refine g_fieldAddr ?_; (first | refine Qd rfl rfl ?_ | refine s_fld_ep rfl rfl ?_)) | refine QA rfl rfl ?_ | refine Qp rfl rfl ?_)) | exact ⟨rfl, rfl⟩))) ?_ | refine i_ef0 ?_)) | refine And.intro (Exists.intro ((_, _)) rfl) ?_)
   exact e_2 (Tryz.results23) (Qz (size := 4) rfl rfl rfl rfl) (Qx rfl) (c_conv (d2 := .tup [.agg [.i 0, .i 0, .i 0, .sl 4 []], .i (tks L)[Q.p].a]) (fun L v h => tup_nil h) (QY (by rw [hta]; show _ = DV.tup [.agg (Enc.enc zNd), _]; unfold zNd; rw [QQ]; rfl)))
  ·rw [dif_neg hpl]
   (repeat' first | (refine Qg ?_; (first | refine QJ rfl ?_ | refine QN rfl ?_ | refine Qc rfl rfl rfl ?_ | (refine Qo ?_; (first | refine QX rfl rfl ?_ | refine W4 rfl rfl ?_)) | refine QI rfl ?_ | (refine Q8 ?_; (first | refine W1 rfl rfl ?_ | refine WO rfl rfl ?_)) | refine WD rfl rfl rfl rfl ?_ | refine Qd rfl rfl ?_ | refine QA rfl rfl ?_ | refine Qp rfl rfl ?_)) | (refine Qk ?_; (first | refine Qi ?_ | refine QK rfl ?_ | refine QR ?_ | refine WM rfl rfl rfl rfl ?_ | refine W7 rfl rfl rfl rfl ?_)) | (refine Qj ?_; (first | refine Ql ?_ | refine Qb ?_ | refine Qe ?_ | refine Qq rfl ?_ | refine Qs rfl ?_ | refine Qf rfl (by omega) ?_ | refine WC rfl ?_ | refine Qy ?_)))
   exact e_2 (Tryz.results23) (Qz (size := 4) rfl rfl rfl rfl) (Qx rfl) (c_conv (d2 := .tup [.agg [.i 0, .i 0, .i 0, .sl 4 []], .i e]) (fun L v h => tup_nil h) (QY (by show _ = DV.tup [.agg (Enc.enc zNd), _]; unfold zNd; rw [QQ]; rfl)))
 | false =>
  have hbi := bad_neg hb
  match k', hk1, hk2 with
  | k2 + 1, hk1, hk2 =>
  by_cases hpl : Q.p < L.length
  ·have hrec : WT L F (k2 + 1) o Q = WT L F k2 (o ++ [(F Q).1]) (F Q).2 := by rw [WT, if_pos ⟨hb, hpl⟩]
   have hlt := hea Q hb
   have hfun := hfn Q
   clear hps hk1 hfn hkw hea
   generalize hx2 : (F Q).1 = xb at *
   generalize hS2 : (F Q).2 = S3 at *
   (repeat' first | (refine Qg ?_; (first | refine QJ rfl ?_ | refine Qc rfl rfl rfl ?_ | refine QX rfl rfl ?_ | (refine Qt ?_; (first | refine Zt (z := xb) rfl rfl rfl rfl rfl rfl rfl (by first | omega | (simp; omega)) (by first | omega | (simp; omega)) (fun _ => rfl) (fun _ _ => ?_) | refine QI rfl ?_ | refine Q4 1 (hfun) rfl rfl rfl rfl ?_)) | refine W1 rfl rfl ?_ | refine QZ rfl rfl rfl rfl (by rfl) (by rfl) (by rfl) ?_ | refine Qd rfl rfl ?_ | refine Qp rfl rfl ?_)) | (refine Qk ?_; (first | refine Qi ?_ | refine QK rfl ?_ | refine WM rfl rfl rfl rfl ?_ | refine Wc rfl rfl (by omega) ?_)) | (refine Qj ?_; (first | refine Ql ?_ | refine Qb ?_ | refine Qe ?_ | (refine WF ?_; first | (refine Qv (fun p => p.1 :: .row gr [QW (tks L), .i (Q.p : Nat), .i (Q.p : Nat)] :: p.2) 100 [(1, true), (2, true), (3, true), (4, true), (5, true), (6, true), (7, true), (8, true), (0, true), (9, false), (10, true)] (by rfl) (by rfl) (by kernel_rfl) (by decide +kernel) (by decide +kernel) ⟨(_, _), rfl⟩ ?_) | (refine Qv (fun p => .row g2 [.i 0, .i 0, .i 0, .nil] :: p.1 :: .row gn [.i 27, .i v, .i 0, .ref 3 gg 0 o.length 4] :: p.2) 7 [(0, true), (1, true), (2, true), (3, false), (4, true), (5, false), (6, true), (7, false)] (by rfl) (by rfl) (by kernel_rfl) (by decide +kernel) (by decide +kernel) ⟨(_, _), rfl⟩ ?_) | refine Wm (by rfl) (by kernel_rfl) (by kernel_rfl) ?_ | refine Wl (by kernel_rfl) (by kernel_rfl) ?_) | refine QB ?_ | refine Qm rfl (by omega) ?_)) | (refine W6 ?_; (first | refine ZG ?_ | refine i_z0 ?_ | refine i_st rfl rfl (fun _ => (by (repeat' first | (refine Qg ?_; (first | refine QJ rfl ?_ | refine Qc rfl rfl rfl ?_ | refine Q3 (z := xb) rfl rfl (by decide) ?_ | refine Qd rfl rfl ?_)) | exact ⟨rfl, rfl⟩))) ?_ | refine i_ef rfl ?_)) | refine And.intro (Exists.intro ((_, _)) rfl) ?_)
   refine ⟨o ++ [xb], S3, _, ⟨by assumption, by simp; omega, k2, hrec, by omega⟩, by omega, ?_⟩
   exact zal rfl
  ·have hend : WT L F (k2 + 1) o Q = (o, Q) := by rw [WT, if_neg (by rw [hb]; simp; omega)]
   rw [hend] at hps ⊢
   dsimp only at hps ⊢
   rw [if_neg (by rw [hb]; decide)]
   have hsz : Qr (.mk 27 v 0 o) <= 1000000 := by
    have := hps hb
    omega
   have hval := valid_c hG0 (.mk 27 v 0 o) hsz
   rw [QQ] at hval
   clear hps hk1 hend hfn hkw hea
   refine r_pubin 2 3 rfl rfl rfl c1.symm rfl rfl ?_
   by_cases hes : e < s.length
   ·rw [if_pos hes]
    (repeat' first | (refine Qg ?_; (first | refine QJ rfl ?_ | refine QN rfl ?_ | refine Qc rfl rfl rfl ?_ | (refine Qo ?_; (first | refine QX rfl rfl ?_ | refine W4 rfl rfl ?_)) | (refine Qt ?_; (first | refine QI rfl ?_ | refine Wn rfl ?_)) | (refine Q8 ?_; (first | refine W1 rfl rfl ?_ | refine WO rfl rfl ?_)) | refine WD rfl rfl rfl rfl ?_ | refine Qd rfl rfl ?_ | refine QA rfl rfl ?_ | refine Qp rfl rfl ?_)) | (refine Qk ?_; (first | refine Qi ?_ | refine QK rfl ?_ | refine QR ?_ | refine WM rfl rfl rfl rfl ?_ | refine W7 rfl rfl rfl rfl ?_ | refine Wc rfl rfl (by omega) ?_ | refine Q5 rfl rfl (by omega) ?_)) | (refine Qj ?_; (first | refine Ql ?_ | refine Qb ?_ | refine Qe ?_ | refine Qs rfl ?_ | refine Qm rfl (by omega) ?_ | refine Qf rfl (by omega) ?_ | refine WC rfl ?_ | refine Qy ?_)))
    exact e_2 (Tryz.results23) (Qz (size := 4) rfl rfl rfl rfl) (Qx rfl) (c_conv (d2 := .tup [.agg [.i 0, .i 0, .i 0, .sl 4 []], .i e]) (fun L v h => tup_nil h) (QY (by show _ = DV.tup [.agg (Enc.enc zNd), _]; unfold zNd; rw [QQ]; rfl)))
   ·rw [if_neg hes]
    cases hvv : validM (.mk 27 v 0 o) with
    | true =>
     rw [hvv] at hval
     rw [if_pos rfl]
     (repeat' first | (refine Qg ?_; (first | refine QJ rfl ?_ | refine QN rfl ?_ | (refine QG ?_; (first | refine WL rfl rfl ?_ | refine Qc rfl rfl rfl ?_)) | (refine Qo ?_; (first | refine QX rfl rfl ?_ | refine W4 rfl rfl ?_)) | (refine Qt ?_; (first | refine QI rfl ?_ | refine Wn rfl ?_ | refine WR rfl rfl (hval) ?_)) | (refine Q8 ?_; (first | refine W1 rfl rfl ?_ | refine WO rfl rfl ?_)) | refine WD rfl rfl rfl rfl ?_ | refine W2 rfl ?_ | refine Qd rfl rfl ?_ | refine Qp rfl rfl ?_)) | (refine Qk ?_; (first | refine Qi ?_ | refine QK rfl ?_ | refine QR ?_ | refine WM rfl rfl rfl rfl ?_ | refine W7 rfl rfl rfl rfl ?_ | refine Wc rfl rfl (by omega) ?_ | refine Q5 rfl rfl (by omega) ?_)) | (refine Qj ?_; (first | refine Ql ?_ | refine Qb ?_ | refine Qe ?_ | refine QB ?_ | refine Qs rfl ?_ | refine Qf rfl (by omega) ?_ | refine WC rfl ?_ | refine Qy ?_)))
     exact e_2 (Tryz.results23) (Qz (size := 4) rfl rfl rfl rfl) (Qx rfl) (QY (by rw [QQ]; rfl))
    | false =>
     rw [hvv] at hval
     rw [if_neg (by decide)]
     (repeat' first | (refine Qg ?_; (first | refine QJ rfl ?_ | refine QN rfl ?_ | (refine QG ?_; (first | refine WL rfl rfl ?_ | refine Qc rfl rfl rfl ?_)) | (refine Qo ?_; (first | refine QX rfl rfl ?_ | refine W4 rfl rfl ?_)) | (refine Qt ?_; (first | refine QI rfl ?_ | refine Wn rfl ?_ | refine WR rfl rfl (hval) ?_)) | (refine Q8 ?_; (first | refine W1 rfl rfl ?_ | refine WO rfl rfl ?_)) | refine WD rfl rfl rfl rfl ?_ | refine W2 rfl ?_ | refine Qd rfl rfl ?_ | refine QA rfl rfl ?_ | refine Qp rfl rfl ?_)) | (refine Qk ?_; (first | refine Qi ?_ | refine QK rfl ?_ | refine QR ?_ | refine WM rfl rfl rfl rfl ?_ | refine W7 rfl rfl rfl rfl ?_ | refine Wc rfl rfl (by omega) ?_ | refine Q5 rfl rfl (by omega) ?_)) | (refine Qj ?_; (first | refine Ql ?_ | refine Qb ?_ | refine Qe ?_ | refine Qq rfl ?_ | refine Qs rfl ?_ | refine Qf rfl (by omega) ?_ | refine WC rfl ?_ | refine Qy ?_)))
     exact e_2 (Tryz.results23) (Qz (size := 4) rfl rfl rfl rfl) (Qx rfl) (c_conv (d2 := .tup [.agg [.i 0, .i 0, .i 0, .sl 4 []], .i 0]) (fun L v h => tup_nil h) (QY (by show _ = DV.tup [.agg (Enc.enc zNd), _]; unfold zNd; rw [QQ]; rfl)))
theorem s_sub_as2 {P : Program} {G : Nat -> DV} {B : Nat} {f : Operand -> DV} {σ : List ABlk} {K : DV -> List ABlk -> Prop} {dst : Option Tmp} {type : TypeId} {pos : String} {after : Array Edge} {gd : Option (Nat × Bool)} {t t' : TypeId} {x y : Operand} {a b c : Int} (hx : f x = .sc (.int .i64 a)) (hy : f y = .sc (.int .i64 b)) (hc : a - b = c) (h : -9223372036854775808 <= c /\ c <= 9223372036854775807)
  (k : K (.sc (.int .i64 c)) σ) : OpSem P G B ⟨dst, .binOp .sub t x y t', type, pos, after, gd⟩ f σ K :=
 Zj hx hy (by rw [hc]; exact h) (by rw [hc]; exact k)
def arnd (n most : Int) : Int := (if n < 0 then -(n + 1) else n) % most
theorem arnd_bound (n : Int) {most : Int} (h : 0 < most) : 0 <= arnd n most /\ arnd n most < most := by
 unfold arnd
 exact ⟨Int.emod_nonneg _ (by omega), Int.emod_lt_of_pos _ h⟩
theorem around_c (n most : Int) (hn : -9223372036854775808 <= n /\ n <= 9223372036854775807) (hm : 0 < most /\ most <= 9223372036854775807) : Go.Av.Pure Tryz.prog G 14 [.i n, .i most] (.i (arnd n most)) := fun B => by
 have hb := arnd_bound n hm.1
 unfold arnd at hb ⊢
 by_cases h : n < 0
 ·rw [if_pos h] at hb ⊢
  refine Qa Tryz.func14 rfl Tryz.ntmps14 rfl (t := [(0, .i n), (1, .i most)]) rfl fun E hE => ?_
  (repeat' first | (refine Qg ?_; (first | refine QJ rfl ?_ | refine QN rfl ?_ | (refine Qo ?_; (first | refine QX rfl rfl ?_ | refine W3 rfl rfl (by omega) ?_ | refine s_rem rfl rfl (by first | omega | exact nn_shr (by omega)) (by omega) ?_)) | refine s_neg rfl (by omega) ?_)) | (refine Qk ?_; (first | refine Qi ?_ | refine QK rfl ?_)) | (refine Qj ?_; (first | refine Ql ?_ | refine Qb ?_ | refine Qm rfl (by omega) ?_ | refine Qy ?_)))
  refine e_1 Tryz.results14 (Qx rfl) (QY ?_)
  rfl
 ·rw [if_neg h] at hb ⊢
  refine Qa Tryz.func14 rfl Tryz.ntmps14 rfl (t := [(0, .i n), (1, .i most)]) rfl fun E hE => ?_
  (repeat' first | (refine Qg ?_; (first | refine QJ rfl ?_ | refine QN rfl ?_ | (refine Qo ?_; (first | refine QX rfl rfl ?_ | refine s_rem rfl rfl (by first | omega | exact nn_shr (by omega)) (by omega) ?_)))) | (refine Qk ?_; (first | refine Qi ?_ | refine QK rfl ?_)) | (refine Qj ?_; (first | refine Ql ?_ | refine Qb ?_ | refine QB ?_ | refine Qf rfl (by omega) ?_ | refine Qy ?_)))
  refine e_1 Tryz.results14 (Qx rfl) (QY ?_)
  rfl
def atI (l : List Int) (i most : Int) : Int := if 0 <= i /\ i.toNat < l.length then arnd (l.getD i.toNat 0) most else 0
theorem QT (l : List Int) (i : Int) {most : Int} (h : 0 < most) : 0 <= atI l i most /\ atI l i most < most := by
 unfold atI
 split
 ·exact arnd_bound _ h
 ·omega
def OkI (l : List Int) : Prop := l.length <= 9223372036854775807 /\ ∀ x ∈ l, -9223372036854775808 <= x /\ x <= 9223372036854775807
theorem r01At_c (l : List Int) (hl : OkI l) (i most : Int) (hm : 0 < most /\ most <= 9223372036854775807) : Go.Av.Pure Tryz.prog G 34 [QW l, .i i, .i most] (.i (atI l i most)) := fun B => by
 unfold atI
 by_cases h : 0 <= i /\ i.toNat < l.length
 ·rw [if_pos h]
  have hgd : l.getD i.toNat 0 = l[i.toNat] := by rw [List.getD_eq_getElem?_getD, List.getElem?_eq_getElem h.2]; rfl
  rw [hgd]
  have har := around_c (G := G) l[i.toNat] most (hl.2 _ (List.getElem_mem h.2)) hm
  obtain ⟨h0, h1⟩ := h
  refine Qa Tryz.func34 rfl Tryz.ntmps34 rfl (t := [(0, QW l), (1, .i i), (2, .i most)]) rfl fun E hE => ?_
  (repeat' first | (refine Qg ?_; (first | refine QJ rfl ?_ | refine QN rfl ?_ | refine Wa rfl ?_ | refine s_idx_sl rfl rfl (by omega) (by first | assumption | omega | (simp; done) | (simp; omega)) ?_ | (refine Qo ?_; (first | refine QX rfl rfl ?_ | refine W4 rfl rfl ?_)) | (refine Qt ?_; (first | refine QI rfl ?_ | refine WR rfl rfl (har) ?_)) | refine WO rfl rfl ?_)) | (refine Qk ?_; (first | refine Qi ?_ | refine QK rfl ?_ | refine WM rfl rfl rfl rfl ?_ | refine Q5 rfl rfl (by omega) ?_)) | (refine Qj ?_; (first | refine Ql ?_ | refine Qb ?_ | refine QB ?_ | refine Qf rfl (by omega) ?_ | refine Qy ?_)))
  refine e_1 Tryz.results34 (Qx rfl) (QY ?_)
  rfl
 ·rw [if_neg h]
  refine Qa Tryz.func34 rfl Tryz.ntmps34 rfl (t := [(0, QW l), (1, .i i), (2, .i most)]) rfl fun E hE => ?_
  (repeat' first | (refine Qg ?_; (first | refine QJ rfl ?_ | refine QN rfl ?_ | (refine Qo ?_; (first | refine QX rfl rfl ?_ | refine W4 rfl rfl ?_)) | refine QI rfl ?_ | (refine Q8 ?_; (first | refine W1 rfl rfl ?_ | refine WO rfl rfl ?_)))) | (refine Qk ?_; (first | refine Qi ?_ | refine QK rfl ?_ | refine WM rfl rfl rfl rfl ?_ | refine W7 rfl rfl rfl rfl ?_ | refine qw rfl rfl (fun _ => ?_) (fun _ => ?_))) | (refine Qj ?_; (first | refine Ql ?_ | refine Qb ?_ | refine Qq rfl ?_ | refine Qm rfl (by omega) ?_ | refine Qy ?_)))
  all_goals
   refine e_1 Tryz.results34 (Qx rfl) (QY ?_)
   rfl
abbrev genC (l : List Int) (a r : Int) : List DV := [QW l, .i a, .i r]
theorem Wo (l : List Int) (hl : OkI l) (a r most : Int) (ha : 0 <= a /\ a <= 9000000000000000000) (hm : 0 < most /\ most <= 9223372036854775807) : CE Tryz.prog G 35 (fun p g => [.ptr p g 0, .i most]) (genC l a r) (.i (atI l a most)) (genC l (a + 1) r) := fun g B hg => by
 have hat := r01At_c (G := G) l hl a most hm
 refine Qa Tryz.func35 rfl Tryz.ntmps35 rfl (t := [(0, .ptr 0 g 0), (1, .i most)]) rfl fun E hE => ?_
 (repeat' first | (refine Qg ?_; (first | refine QJ rfl ?_ | refine QN rfl ?_ | refine Qc rfl rfl rfl ?_ | refine W3 rfl rfl (by omega) ?_ | refine QZ rfl rfl rfl rfl (by rfl) (by rfl) (by rfl) ?_ | refine Qd rfl rfl ?_ | refine Qp rfl rfl ?_)) | (refine Qk ?_; (first | refine Qi ?_ | refine QK rfl ?_ | refine QR ?_)) | (refine Qj ?_; (first | refine Ql ?_ | refine Qb ?_ | (refine WF ?_; first | refine Wm (by rfl) (by kernel_rfl) (by kernel_rfl) ?_ | refine Wl (by kernel_rfl) (by kernel_rfl) ?_) | refine Qy ?_)) | (refine g_lex ?_; (first | refine x_op rfl (by (repeat' first | (refine Qg ?_; (first | refine QJ rfl ?_ | refine QN rfl ?_ | refine Qc rfl rfl rfl ?_ | refine WR rfl rfl (hat) ?_ | refine Qd rfl rfl ?_ | refine Qp rfl rfl ?_)) | exact ⟨rfl, rfl⟩)) ?_ | refine x_nil ?_)))
 all_goals exact e_1 (Tryz.results35) (Qx rfl) (c_ce rfl rfl)
end Go.Proofs
end
section
namespace Go.Proofs
open Go.Av Go.Bl
theorem funT_len2 (t : Nd) (hok : okN t) (hs : Qr t <= 256) : (funT t).length <= 3000 * Qr t := by
 obtain ⟨k, n, m, ks⟩ := t
 rw [okN] at hok
 rw [Qr] at hs ⊢
 have hn := Zh hok.1.2.1
 rw [funT]
 split
 ·rename_i h
  have hk : 0 < ks.length := by simp at h; omega
  have hl := sizeL_last hk
  have hb := (st_len _ (WJ hok.2 (last_mem hk)) 0).2
  have hc := qa typT (M := 30) ks (ks.length - 1) fun x hx => typT_len x (WJ hok.2 hx)
  generalize ks.getD (ks.length - 1) (.mk 0 0 0 []) = b at *
  have hb2 : (6 * (0 + Qr b) + 100) * (Qr b - 1) <= 3000 * (Qr b - 1) := Nat.mul_le_mul (by omega) (Nat.le_refl _)
  simp only [List.length_append, Q7, List.length_cons, List.length_nil]
  omega
 ·simp
theorem funs_len2 : ∀ (ks : List Nd), okL ks -> QD ks <= 256 -> ((ks.map funT).flatten).length <= 3000 * QD ks
 | [], _, _ => by simp
 | x :: r, h, hs => by
  rw [okL] at h
  rw [QD] at hs
  have h1 := funT_len2 x h.1 (by omega)
  have h2 := funs_len2 r h.2 (by omega)
  rw [List.map_cons, List.flatten_cons, List.length_append, QD, Nat.mul_add]; omega
theorem prT_len2 (t : Nd) (hok : okN t) (hs : Qr t <= 256) : (prT t).length <= 3000 * Qr t := by
 have h1 := typT_len t hok
 have h2 := exT_len t hok
 have h3 := (st_len t hok 0).1
 have h4 := funT_len2 t hok hs
 have hb : bnd 0 (Qr t) <= 3000 * Qr t := by
  unfold bnd
  exact Nat.mul_le_mul (by omega) (Nat.le_refl _)
 obtain ⟨k, n, m, ks⟩ := t
 rw [prT]
 rw [okN] at hok
 have hn := Zh hok.1.2.1
 have hse : Qr (.mk k n m ks) = 1 + QD ks := by rw [Qr]
 have hf := funs_len2 ks hok.2 (by omega)
 repeat' split
 ·rw [List.length_append, Q7, List.length_append, hse]
  simp only [List.length_cons, List.length_nil]; omega
 ·exact h4
 ·omega
 ·omega
 ·omega
theorem print_len2 (t : Nd) (hok : okN t) (hs : Qr t <= 256) : (Wb t).length <= 768000 := by
 unfold Wb
 split
 ·have := prT_len2 t hok hs; omega
 ·simp
theorem valid_ok {t : Nd} (h : validM t = true) : okN t /\ Qr t <= 256 /\ prOk t = true := by
 have hp := valid_pr h
 unfold validM at h
 simp only [Bool.and_eq_true, decide_eq_true_eq] at h
 exact ⟨fit_ok t 0 h.2, h.1.1, hp⟩
end Go.Proofs
end
section
namespace Go.Proofs
open Go.Av
variable {G : Nat -> DV}
attribute [local irreducible] OpSem Za Zv qc ACalls AEnd AClose RV
open Go.Bl
theorem nan_c (a : Int) : Go.Av.Pure Tryz.prog G 124 [.i a] (.b false) := fun B => by
 refine Qa Tryz.func124 rfl Tryz.ntmps124 rfl (t := [(0, .i a)]) rfl fun E hE => ?_
 (repeat' first | (refine Qg ?_; (first | refine QJ rfl ?_ | refine QN rfl ?_ | refine s_neq rfl rfl ?_)) | (refine Qk ?_; (first | refine Qi ?_ | refine QK rfl ?_)) | (refine Qj ?_; (first | refine Ql ?_ | refine Qb ?_ | refine Qy ?_)))
 refine e_1 Tryz.results124 (Qx rfl) (QY ?_)
 simp
theorem cmpI_c (a : Int) : Go.Av.Pure Tryz.prog G 77 [.i a, .i a] (.i 0) := fun B => by
 refine Qa Tryz.func77 rfl Tryz.ntmps77 rfl (t := [(0, .i a), (1, .i a)]) rfl fun E hE => ?_
 (repeat' first | (refine Qg ?_; (first | refine QJ rfl ?_ | refine QN rfl ?_ | (refine Qo ?_; (first | refine QX rfl rfl ?_ | refine ZJ rfl rfl ?_)) | refine WR rfl rfl (nan_c _) ?_)) | (refine Qk ?_; (first | refine Qi ?_ | refine QK rfl ?_)) | (refine Qj ?_; (first | refine Ql ?_ | refine Qb ?_ | refine QB ?_ | refine Qs rfl ?_ | refine Qf rfl (by omega) ?_ | refine Qy ?_)))
 refine e_1 Tryz.results77 (Qx rfl) (QY ?_)
 rfl
theorem or_c (l : List Int) (hl : l.length <= 4) (h : ∀ x ∈ l, x = 0) : Go.Av.Pure Tryz.prog G 76 [QW l] (.i 0) := fun B => by
 refine Qa Tryz.func76 rfl Tryz.ntmps76 rfl (t := [(0, QW l)]) rfl fun E hE => ?_
 (repeat' first | (refine Qg ?_; (first | refine QJ rfl ?_ | refine QN rfl ?_ | refine QI rfl ?_)) | (refine Qk ?_; (first | refine Qi ?_ | refine QK rfl ?_)) | (refine Qj ?_; (first | refine Ql ?_ | refine Qb ?_ | refine Qe ?_)))
 refine ZZ (fun (i : Nat) => ⟨[(3, .i 0), (6, QW l), (7, .i l.length), (8, .i i)], []⟩) (fun i => i <= l.length) (fun i => l.length - i) 0 ?_ (by omega) ?_
 ·exact zal rfl
 intro i hi
 by_cases hil : i < l.length
 ·have h0 := h _ (List.getElem_mem hil)
  (repeat' first | (refine Qg ?_; (first | refine QJ rfl ?_ | refine QN rfl ?_ | refine Wa rfl ?_ | refine QM rfl rfl (by first | assumption | omega | (simp; done) | (simp; omega)) ?_ | (refine Qo ?_; (first | refine QX rfl rfl ?_ | refine s_neq rfl rfl ?_ | refine W3 rfl rfl (by omega) ?_)))) | (refine Qk ?_; (first | refine Qi ?_ | refine QK rfl ?_)) | (refine Qj ?_; (first | refine Ql ?_ | refine Qb ?_ | refine Qe ?_ | refine QB ?_ | refine Qm rfl (by omega) ?_ | refine Qf rfl (by omega) ?_)))
  refine ⟨i + 1, by omega, by omega, ?_⟩
  exact zal rfl
 ·(repeat' first | (refine Qg ?_; (first | refine QJ rfl ?_ | refine QN rfl ?_ | refine QX rfl rfl ?_)) | (refine Qk ?_; (first | refine Qi ?_ | refine QK rfl ?_)) | (refine Qj ?_; (first | refine Ql ?_ | refine Qb ?_ | refine Qf rfl (by omega) ?_ | refine WC rfl ?_ | refine Qy ?_)))
  refine e_1 Tryz.results76 (Qx rfl) (QY ?_)
  rfl
theorem cmpF_c (l : List Nd) (hl : l.length <= 1000000) (h : ∀ x ∈ l, Go.Av.Pure Tryz.prog G 32 [.agg (Enc.enc x), .agg (Enc.enc x)] (.i 0)) : Go.Av.Pure Tryz.prog G 78 [QW l, QW l, .fn (.func 32) [] []] (.i 0) := fun B => by
 refine Qa Tryz.func78 rfl Tryz.ntmps78 rfl (t := [(0, QW l), (1, QW l), (2, .fn (.func 32) [] [])]) rfl fun E hE => ?_
 (repeat' first | (refine Qg ?_; (first | refine QJ rfl ?_ | refine QN rfl ?_ | refine QI rfl ?_)) | (refine Qk ?_; (first | refine Qi ?_ | refine QK rfl ?_)) | (refine Qj ?_; (first | refine Ql ?_ | refine Qb ?_ | refine Qe ?_)))
 refine ZZ (fun (i : Nat) => ⟨[(0, QW l), (1, QW l), (2, .fn (.func 32) [] []), (11, QW l), (12, .i l.length), (13, .i i)], []⟩) (fun i => i <= l.length) (fun i => l.length - i) 0 ?_ (by omega) ?_
 ·exact zal rfl
 intro i hi
 by_cases hil : i < l.length
 ·have hfi := h _ (List.getElem_mem hil)
  clear h
  (repeat' first | (refine Qg ?_; (first | refine QJ rfl ?_ | refine QN rfl ?_ | (refine QG ?_; (first | refine WL rfl rfl ?_ | refine QO rfl ?_)) | refine QM rfl rfl (by first | assumption | omega | (simp; done) | (simp; omega)) ?_ | (refine Qo ?_; (first | refine QX rfl rfl ?_ | refine W4 rfl rfl ?_ | refine s_neq rfl rfl ?_ | refine W3 rfl rfl (by omega) ?_)) | (refine Qt ?_; (first | refine QI rfl ?_ | refine Z4 rfl (hfi) (by repeat' first | exact Wh | exact Wu _ | exact Wt (QC _) | exact QC _ | refine ZI ?_ ?_ | refine Zu ?_ | refine WV ?_ | refine WK ?_ | exact W0 | refine Wp ?_ ?_ | refine Wt ?_) ?_)) | refine WD rfl rfl rfl rfl ?_ | refine Qu (fun _ _ => ?_))) | (refine Qk ?_; (first | refine Qi ?_ | refine QK rfl ?_ | refine QR ?_)) | (refine Qj ?_; (first | refine Ql ?_ | refine Qb ?_ | refine Qe ?_ | refine QB ?_ | refine Qs rfl ?_ | refine Qm rfl (by omega) ?_ | refine Qf rfl (by omega) ?_)))
  refine ⟨i + 1, by omega, by omega, ?_⟩
  exact zal rfl
 ·clear h
  (repeat' first | (refine Qg ?_; (first | refine QJ rfl ?_ | refine QN rfl ?_ | refine QX rfl rfl ?_ | refine QI rfl ?_)) | (refine Qk ?_; (first | refine Qi ?_ | refine QK rfl ?_)) | (refine Qj ?_; (first | refine Ql ?_ | refine Qb ?_ | refine QB ?_ | refine Qf rfl (by omega) ?_ | refine WC rfl ?_ | refine Qy ?_)))
  refine e_1 Tryz.results78 (Qx rfl) (QY ?_)
  rfl
theorem trCompare_c (t : Nd) : Qr t <= 1000000 -> Go.Av.Pure Tryz.prog G 32 [.agg (Enc.enc t), .agg (Enc.enc t)] (.i 0) := by
 induction t using Nd.ind with
 | h k n m ks ih =>
 intro hsz B
 have hse : Qr (.mk k n m ks) = 1 + QD ks := by rw [Qr]
 rw [hse] at hsz
 have hln := WU ks
 have hcf := cmpF_c (G := G) ks (by omega) fun x hx => ih x hx (by have := Wf hx; omega)
 have h4 : ∀ x ∈ [(0 : Int), 0, 0, 0], x = 0 := by decide
 clear ih
 rw [QQ]
 refine Qa Tryz.func32 rfl Tryz.ntmps32 rfl (t := [(0, .agg [.i k, .i n, .i m, QW ks]), (1, .agg [.i k, .i n, .i m, QW ks])]) rfl fun E hE => ?_
 (repeat' first | (refine Qg ?_; (first | refine QN rfl ?_ | refine Q9 rfl rfl (fun _ _ => ?_))) | (refine Qk ?_; (first | refine Qi ?_ | refine QK rfl ?_)) | (refine Qj ?_; (first | refine Ql ?_ | refine Qb ?_ | (refine WF ?_; first | refine Wm (by rfl) (by kernel_rfl) (by kernel_rfl) ?_ | refine Wl (by kernel_rfl) (by kernel_rfl) ?_) | refine Qy ?_)) | (refine g_lex ?_; (first | refine x_op rfl (by (repeat' first | (refine Qg ?_; (first | refine QN rfl ?_ | refine Qc rfl rfl rfl ?_ | (refine Qt ?_; (first | refine WR rfl rfl (cmpI_c _) ?_ | refine WR rfl rfl (or_c _ (by decide) h4) ?_ | refine WR rfl rfl (hcf) ?_)) | refine Zk (cs := Ws [(0 : Int), 0, 0, 0]) rfl rfl (by decide) rfl ?_ | refine Qd rfl rfl ?_)) | exact ⟨rfl, rfl⟩)) ?_ | refine x_nil ?_)))
 all_goals exact e_1 (Tryz.results32) (Qx rfl) (QY rfl)
theorem sign_c (a : Int) : Go.Av.Pure Tryz.prog G 120 [.i a, .i a] (.i 0) := fun B => by
 refine Qa Tryz.func120 rfl Tryz.ntmps120 rfl (t := [(0, .i a), (1, .i a)]) rfl fun E hE => ?_
 (repeat' first | (refine Qg ?_; (first | refine QJ rfl ?_ | refine QN rfl ?_ | (refine Qo ?_; (first | refine QX rfl rfl ?_ | refine ZJ rfl rfl ?_)))) | (refine Qk ?_; (first | refine Qi ?_ | refine QK rfl ?_)) | (refine Qj ?_; (first | refine Ql ?_ | refine Qb ?_ | refine QB ?_ | refine Qf rfl (by omega) ?_ | refine Qy ?_)))
 refine e_1 Tryz.results120 (Qx rfl) (QY ?_)
 rfl
theorem r05Compare_c (t : Nd) : Qr t <= 1000000 -> Go.Av.Pure Tryz.prog G 66 [.agg (Enc.enc t), .agg (Enc.enc t)] (.i 0) := by
 induction t using Nd.ind with
 | h k n m ks ih =>
 intro hsz B
 have hse : Qr (.mk k n m ks) = 1 + QD ks := by rw [Qr]
 rw [hse] at hsz
 have hln := WU ks
 have hx : ∀ x ∈ ks, Go.Av.Pure Tryz.prog G 66 [.agg (Enc.enc x), .agg (Enc.enc x)] (.i 0) := fun x hx => ih x hx (by have := Wf hx; omega)
 clear ih
 rw [QQ]
 refine Qa Tryz.func66 rfl Tryz.ntmps66 rfl (t := [(0, .agg [.i k, .i n, .i m, QW ks]), (1, .agg [.i k, .i n, .i m, QW ks])]) rfl fun E hE => ?_
 (repeat' first | (refine Qg ?_; (first | refine QN rfl ?_ | refine Qc rfl rfl rfl ?_ | refine Zk (cs := Ws [(k : Int), n, m]) rfl rfl (by decide) rfl ?_ | refine Qd rfl rfl ?_ | refine Q9 rfl rfl (fun _ _ => ?_))) | (refine Qk ?_; (first | refine Qi ?_ | refine QK rfl ?_)) | (refine Qj ?_; (first | refine Ql ?_ | refine Qb ?_ | refine Qe ?_)))
 rename_i g2 hg2 g3 hg3
 generalize hxs : [k, n, m] = xs at *
 have hxl : xs.length = 3 := by rw [<- hxs]; rfl
 refine ZZ (fun (i : Nat) => ⟨[(2, .ptr 0 g2 0), (3, .ptr 1 g3 0), (5, QW xs), (6, QW xs), (7, .i i)], [.row g2 [.i k, .i n, .i m, QW ks], .row g3 [.i k, .i n, .i m, QW ks]]⟩) (fun i => i <= 3) (fun i => 3 - i) 0 ?_ (by omega) ?_
 ·exact zal rfl
 intro i hi
 by_cases hil : i < 3
 ·have hil2 : i < xs.length := by omega
  (repeat' first | (refine Qg ?_; (first | refine QJ rfl ?_ | refine QN rfl ?_ | (refine Qo ?_; (first | refine QX rfl rfl ?_ | refine W3 rfl rfl (by omega) ?_)))) | (refine Qk ?_; (first | refine Qi ?_ | refine QK rfl ?_)) | (refine Qj ?_; (first | refine Ql ?_ | refine Qb ?_ | refine Qe ?_ | (refine WF ?_; first | refine Wm (by rfl) (by kernel_rfl) (by kernel_rfl) ?_ | refine Wl (by kernel_rfl) (by kernel_rfl) ?_) | refine QB ?_ | refine Qm rfl (by omega) ?_ | refine Qf rfl (by omega) ?_)) | (refine g_lex ?_; (first | refine x_op rfl (by (repeat' first | (refine Qg ?_; (first | refine QJ rfl ?_ | refine Wa rfl ?_ | refine QM rfl rfl (by first | assumption | omega | (simp; done) | (simp; omega)) ?_ | refine s_neq rfl rfl ?_)) | exact ⟨rfl, rfl⟩)) ?_ | refine x_nil ?_)))
  all_goals
   refine ⟨i + 1, by omega, by omega, ?_⟩
   exact zal rfl
 ·(repeat' first | (refine Qg ?_; (first | refine QJ rfl ?_ | refine QN rfl ?_ | refine QX rfl rfl ?_)) | (refine Qk ?_; (first | refine Qi ?_ | refine QK rfl ?_)) | (refine Qj ?_; (first | refine Ql ?_ | refine Qb ?_ | refine Qe ?_ | refine Qf rfl (by omega) ?_ | refine WC rfl ?_)))
  refine ZZ (fun (i : Nat) => ⟨[(2, .ptr 0 g2 0), (3, .ptr 1 g3 0), (8, .i i)], [.row g2 [.i k, .i n, .i m, QW ks], .row g3 [.i k, .i n, .i m, QW ks]]⟩) (fun i => i <= ks.length) (fun i => ks.length - i) 0 ?_ (by omega) ?_
  ·exact zal rfl
  intro i hi
  by_cases hil : i < ks.length
  ·have hi1 := hx _ (List.getElem_mem hil)
   clear hx
   (repeat' first | (refine Qg ?_; (first | refine QJ rfl ?_ | refine QN rfl ?_ | refine Qc rfl rfl rfl ?_ | (refine Qo ?_; (first | refine QX rfl rfl ?_ | refine s_neq rfl rfl ?_ | refine W3 rfl rfl (by omega) ?_)) | refine QI rfl ?_ | refine W1 rfl rfl ?_ | refine Qd rfl rfl ?_)) | (refine Qk ?_; (first | refine Qi ?_ | refine QK rfl ?_ | refine WM rfl rfl rfl rfl ?_ | refine Wc rfl rfl (by omega) ?_)) | (refine Qj ?_; (first | refine Ql ?_ | refine Qb ?_ | refine Qe ?_ | (refine WF ?_; first | refine Wm (by rfl) (by kernel_rfl) (by kernel_rfl) ?_ | refine Wl (by kernel_rfl) (by kernel_rfl) ?_) | refine QB ?_ | refine Qs rfl ?_ | refine Qm rfl (by omega) ?_)) | (refine g_lex ?_; (first | refine x_op rfl (by (repeat' first | (refine Qg ?_; (first | refine QJ rfl ?_ | refine QN rfl ?_ | (refine QG ?_; (first | refine QO rfl ?_ | refine Qc rfl rfl rfl ?_)) | refine QM rfl rfl (by first | assumption | omega | (simp; done) | (simp; omega)) ?_ | refine WR rfl rfl (hi1) ?_ | refine Qd rfl rfl ?_)) | exact ⟨rfl, rfl⟩)) ?_ | refine x_nil ?_)))
   all_goals
    refine ⟨i + 1, by omega, by omega, ?_⟩
    exact zal rfl
  ·clear hx
   (repeat' first | (refine Qg ?_; (first | refine QJ rfl ?_ | refine QN rfl ?_ | refine Qc rfl rfl rfl ?_ | refine QX rfl rfl ?_ | (refine Qt ?_; (first | refine QI rfl ?_ | refine WR rfl rfl (sign_c _) ?_)) | refine WO rfl rfl ?_ | refine Qd rfl rfl ?_)) | (refine Qk ?_; (first | refine Qi ?_ | refine QK rfl ?_ | refine W7 rfl rfl rfl rfl ?_ | refine Q5 rfl rfl (by omega) ?_)) | (refine Qj ?_; (first | refine Ql ?_ | refine Qb ?_ | refine Qs rfl ?_ | refine WC rfl ?_ | refine Qy ?_)))
   all_goals exact e_1 (Tryz.results66) (Qx rfl) (QY rfl)
theorem r05Same_c (t : Nd) (hsz : Qr t <= 1000000) : Go.Av.Pure Tryz.prog G 25 [.agg (Enc.enc t), .agg (Enc.enc t)] (.b true) := fun B => by
 have hcc := r05Compare_c (G := G) t hsz
 refine Qa Tryz.func25 rfl Tryz.ntmps25 rfl (t := [(0, .agg (Enc.enc t)), (1, .agg (Enc.enc t))]) rfl fun E hE => ?_
 (repeat' first | (refine Qg ?_; (first | refine QN rfl ?_ | refine WL rfl rfl ?_ | refine Q1 rfl rfl ?_ | refine WR rfl rfl (hcc) ?_ | refine Q9 rfl rfl (fun _ _ => ?_))) | (refine Qk ?_; (first | refine Qi ?_ | refine QK rfl ?_)) | (refine Qj ?_; (first | refine Ql ?_ | refine Qb ?_ | refine Qy ?_)))
 all_goals exact e_1 (Tryz.results25) (Qx rfl) (QY rfl)
end Go.Proofs
end
section
namespace Go.Av
open Go.Bl
inductive DSub : DV -> DV -> Prop
 | refl (d : DV) : DSub d d
 | nil (es : Nat) : DSub (.sc (.slice none 0 0)) (.sl es [])
 | sl (es : Nat) (cs cs' : List DV) : cs.length = cs'.length -> (∀ (j : Nat) (d d' : DV), cs[j]? = some d -> cs'[j]? = some d' -> DSub d d') -> DSub (.sl es cs) (.sl es cs')
 | agg (cs cs' : List DV) : cs.length = cs'.length -> (∀ (j : Nat) (d d' : DV), cs[j]? = some d -> cs'[j]? = some d' -> DSub d d') -> DSub (.agg cs) (.agg cs')
 | tup (cs cs' : List DV) : cs.length = cs'.length -> (∀ (j : Nat) (d d' : DV), cs[j]? = some d -> cs'[j]? = some d' -> DSub d d') -> DSub (.tup cs) (.tup cs')
theorem DSub.one {d d' : DV} (h : DSub d d') : d.one = true -> d'.one = true := by
 cases h with
 | refl => exact id
 | nil => intro _; rfl
 | sl => intro _; rfl
 | agg => intro h; cases h
 | tup => intro h; cases h
theorem dsub_get {cs cs' : List DV} (hl : cs.length = cs'.length) (j : Nat) (d' : DV) (hj : cs'[j]? = some d') : ∃ d, cs[j]? = some d := ⟨cs[j]'(by rw [hl]; exact (List.getElem?_eq_some_iff.1 hj).1), List.getElem?_eq_getElem _⟩
theorem DSub.rep {L : Lay} {d d' : DV} (h : DSub d d') : ∀ {v : Value}, VRep L d v -> VRep L d' v := by
 induction h with
 | refl => exact id
 | nil es => intro v hv; exact nil_str hv
 | sl es cs cs' hl hs ih =>
  intro v hv
  obtain ⟨a, len, cap, f, rfl, h1, h2, h3, h4, h5⟩ := hv.sl_inv
  refine .sl _ _ _ _ _ f (by rw [h1, hl]) h2 (fun d' hd => ?_) ?_ (fun j d' hj => ?_)
  ·obtain ⟨j, hj⟩ := List.mem_iff_getElem?.1 hd
   obtain ⟨d, hd0⟩ := dsub_get hl j d' hj
   exact (hs j d d' hd0 hj).one (h3 d (List.mem_of_getElem? hd0))
  ·rcases h4 with h4 | ⟨b, o, h6, h7⟩
   ·left
    subst h4
    exact List.eq_nil_of_length_eq_zero hl.symm
   ·right
    exact ⟨b, o, h6, fun j hj => h7 j (by rw [hl]; exact hj)⟩
  ·obtain ⟨d, hd0⟩ := dsub_get hl j d' hj
   exact ih j d d' hd0 hj (h5 j d hd0)
 | agg cs cs' hl hs ih =>
  intro v hv
  cases hv with | agg _ vs h1 h2 h3 =>
  refine .agg _ _ (by rw [h1, hl]) (fun d' hd => ?_) fun j d' hj => ?_
  ·obtain ⟨j, hj⟩ := List.mem_iff_getElem?.1 hd
   obtain ⟨d, hd0⟩ := dsub_get hl j d' hj
   exact (hs j d d' hd0 hj).one (h2 d (List.mem_of_getElem? hd0))
  ·obtain ⟨d, hd0⟩ := dsub_get hl j d' hj
   exact ih j d d' hd0 hj (h3 j d hd0)
 | tup cs cs' hl hs ih =>
  intro v hv
  cases hv with | tup _ vs h1 h3 =>
  refine .tup _ _ (by rw [h1, hl]) fun j d' hj => ?_
  obtain ⟨d, hd0⟩ := dsub_get hl j d' hj
  exact ih j d d' hd0 hj (h3 j d hd0)
theorem dsub_nil : ∀ (j : Nat) (e e' : DV), ([] : List DV)[j]? = some e -> ([] : List DV)[j]? = some e' -> DSub e e' := fun j e e' h => by simp at h
theorem qm {d d' : DV} {r r' : List DV} (h : DSub d d') (k : ∀ (j : Nat) (e e' : DV), r[j]? = some e -> r'[j]? = some e' -> DSub e e') : ∀ (j : Nat) (e e' : DV), (d :: r)[j]? = some e -> (d' :: r')[j]? = some e' -> DSub e e' := fun j e e' h1 h2 => by
 cases j with
 | zero => simp at h1 h2; subst h1 h2; exact h
 | succ j => exact k j e e' (by simpa using h1) (by simpa using h2)
section
variable {E : AX} {R : DV -> List ABlk -> Prop}
theorem c_sub {d d2 : DV} {σ : List ABlk} (h : DSub d d2) (k : AClose E R d2 σ) : AClose E R d σ := c_conv (fun L v hv => h.rep hv) k
end
end Go.Av
end
section
namespace Go.Proofs
open Go.Av
variable {G : Nat -> DV}
attribute [local irreducible] OpSem Za Zv qc ACalls AEnd AClose RV
open Go.Bl
def exN : Nd := .mk 27 0 0 [.mk 26 1 0 [.mk 0 0 0 [], .mk 13 0 0 [.mk 14 0 0 [.mk 9 0 0 [.mk 6 0 0 [], .mk 4 1 0 []]], .mk 19 0 0 [.mk 6 0 0 []]]]]
def sEx1 : List UInt8 := [112, 114, 111, 103, 114, 97, 109, 32, 48, 10, 102, 117, 110, 32, 49, 32, 40, 105, 110, 116, 41, 32, 123, 10, 32, 32, 118, 48, 32, 61, 32, 40, 118, 48, 32, 43, 32, 49, 41, 10, 32, 32, 114, 101, 116, 117, 114, 110, 32, 118, 48, 10, 125, 10]
def sEx2 : List UInt8 := [112, 114, 111, 103, 114, 97, 109, 32, 48, 32, 102, 117, 110, 32, 49, 32, 40, 105, 110, 116, 41, 32, 123, 32, 114, 101, 116, 117, 114, 110, 32, 40, 118, 48, 41, 32, 125]
theorem ex_par1 : parseM zP sEx1 = (exN, -1) := by kernel_rfl
theorem ex_par2 : (parseM zP sEx2).2 = 34 := by decide +kernel
theorem ex_pr : Wb exN = sEx1 := by decide +kernel
theorem ex_l1 : lineM exN [0, 1, 0, 0] = 3 := by kernel_rfl
theorem ex_l2 : lineM exN [0, 1, 2] = 0 := by kernel_rfl
theorem example_c : Go.Av.Pure Tryz.prog G 57 [] (.agg (Enc.enc exN)) := fun B => by
 refine Qa Tryz.func57 rfl Tryz.ntmps57 rfl (t := []) rfl fun E hE => ?_
 (repeat' first | (refine Qg ?_; (first | refine WL rfl rfl ?_ | refine WD rfl rfl rfl rfl ?_ | refine Zk rfl rfl (by decide) rfl ?_ | refine QA rfl rfl ?_ | refine Qu (fun _ _ => ?_))) | (refine Qk ?_; (first | refine Qi ?_ | refine QK rfl ?_ | refine QR ?_)) | (refine Qj ?_; (first | refine Ql ?_ | refine Qb ?_ | refine Qy ?_)))
 refine e_1 (Tryz.results57) (Qz (size := 4) rfl rfl rfl rfl) (c_sub ?_ (QY rfl))
 unfold exN
 repeat' first | exact .refl _ | exact .nil _ | exact dsub_nil | refine qm ?_ ?_ | refine .agg _ _ rfl ?_ | refine .sl _ _ _ rfl ?_
theorem lives_c (hG0 : G 0 = shapesT) (hG1 : G 1 = spaceT) (hG : G 6 = pow10T) : Go.Av.Pure Tryz.prog G 20 [] (.b true) := fun B => by
 have hex := example_c (G := G)
 have hp1 := parse_c hG0 hG1 sEx1 (by decide)
 rw [ex_par1] at hp1
 have hp2 := parse_c hG0 hG1 sEx2 (by decide)
 rw [ex_par2] at hp2
 have hok : okN exN := by unfold exN; simp [okN, okL, i64]
 have hsz : Qr exN <= 1000000 := by decide +kernel
 have hpr := print_c hG hG1 exN hok hsz
 rw [ex_pr] at hpr
 have hsm := r05Same_c (G := G) exN hsz
 have hl1 := line_c1 hG hG1 exN hok hsz [0, 1, 0, 0] (by decide)
 rw [ex_l1] at hl1
 have hl2 := line_c1 hG hG1 exN hok hsz [0, 1, 2] (by decide)
 rw [ex_l2] at hl2
 have hd : decide (sEx1 = sEx1) = true := decide_eq_true rfl
 generalize (parseM zP sEx2).1 = x2 at *
 refine Qa Tryz.func20 rfl Tryz.ntmps20 rfl (t := []) rfl fun E hE => ?_
 (repeat' first | (refine Qg ?_; (first | refine QJ rfl ?_ | refine QN rfl ?_ | refine WL rfl rfl ?_ | (refine Qo ?_; (first | refine Q1 rfl rfl ?_ | refine Wx rfl rfl ?_)) | (refine Qt ?_; (first | refine Z5 rfl rfl hex (WK (Enc.clo _)) ?_ | refine Z5 rfl rfl hp1 (WV (Wp (WK (Enc.clo _)) (Wp Wh W0))) ?_ | refine Z5 rfl rfl hp2 (WV (Wp (WK (Enc.clo _)) (Wp Wh W0))) ?_ | refine WR rfl rfl (hpr) ?_ | refine WR rfl rfl (hsm) ?_ | refine WR rfl rfl (hl1) ?_ | refine WR rfl rfl (hl2) ?_)) | refine W1 rfl rfl ?_ | refine WD rfl rfl rfl rfl ?_ | (refine Zl ?_; (first | refine Zk (cs := Ws [(0 : Int), 1, 0, 0]) rfl rfl (by decide) rfl ?_ | refine Zk (cs := Ws [(0 : Int), 1, 2]) rfl rfl (by decide) rfl ?_)) | refine ZP rfl rfl rfl ?_ | refine Qu (fun _ _ => ?_))) | (refine Qk ?_; (first | refine Qi ?_ | refine QK rfl ?_ | refine QR ?_ | refine WM rfl rfl rfl rfl ?_)) | (refine Qj ?_; (first | refine Ql ?_ | refine Qb ?_ | refine Qy ?_)))
 all_goals exact e_1 (Tryz.results20) (Qx rfl) (QY (by simp))
end Go.Proofs
end
section
namespace Go.Av
theorem r_loop5 {P : Program} {G : Nat -> DV} {E : AX} {n : Nat} {N : ASt -> Prop} {xs : List (Nat × (ASt -> Prop))} {R : ASt -> Prop} {st : ASt} {c : Code} {α β γ δ ε : Type} (I : α -> β -> γ -> δ -> ε -> ASt) (pre : α -> β -> γ -> δ -> ε -> Prop) (μ : α -> β -> γ -> δ -> ε -> Nat) (x0 : α) (y0 : β) (z0 : γ) (u0 : δ) (v0 : ε) (h0 : ALe st (I x0 y0 z0 u0 v0)) (hp0 : pre x0 y0 z0 u0 v0)
  (round : ∀ x y z u v, pre x y z u v -> Za P G E n c (fun st' => ∃ x' y' z' u' v', pre x' y' z' u' v' /\ μ x' y' z' u' v' < μ x y z u v /\ ALe st' (I x' y' z' u' v')) xs R (I x y z u v)) : Za P G E n (.loop c) N xs R st :=
 ZZ (fun s : α × β × γ × δ × ε => I s.1 s.2.1 s.2.2.1 s.2.2.2.1 s.2.2.2.2) (fun s => pre s.1 s.2.1 s.2.2.1 s.2.2.2.1 s.2.2.2.2) (fun s => μ s.1 s.2.1 s.2.2.1 s.2.2.2.1 s.2.2.2.2) (x0, y0, z0, u0, v0) h0 hp0 fun s hs a w hr => wp_mono (round s.1 s.2.1 s.2.2.1 s.2.2.2.1 s.2.2.2.2 hs a w hr) fun e a' w' ⟨st', hr', hq⟩ => ⟨st', hr', by
  cases e with
  | normal => obtain ⟨x', y', z', u', v', h1, h2, h3⟩ := hq; exact ⟨(x', y', z', u', v'), h1, h2, h3⟩
  | exit id => exact hq
  | ret => exact hq
  | goto l => exact hq
  | _ => exact hq⟩
end Go.Av
end
