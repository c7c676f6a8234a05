/-
  Part 6 of the proof: GB AvB3 GC GD AvD3 SA SB SS S3 S4 BW OJ RT.
-/
import Derived.Test.YtnppaoeijmgneaaGreatDoorRows
import Derived.ProofKit
import Derived.LaidMore
import Derived.LaidHandle
import Derived.LaidSub
import Derived.MakeChecks
import Derived.OpenShut
import Derived.Deep.Strs
import Derived.Stop.Joined
import Derived.Test.YtnppaoeijmgneaaGreatDoorZB1
import Derived.Test.YtnppaoeijmgneaaGreatDoorZB2
import Derived.Test.YtnppaoeijmgneaaGreatDoorZB4
import Derived.Test.YtnppaoeijmgneaaGreatDoorZB5
set_option linter.unusedSimpArgs false
set_option linter.unusedVariables false
set_option maxRecDepth 100000
set_option maxHeartbeats 4000000
section
namespace Go.Proofs
open Go.Av
variable {G : Nat -> DV}
attribute [local irreducible] OpSem Za Zv qc ACalls AEnd AClose RV
open Go.Bl
def preE (a L : Int) : Prop := 0 <= a /\ a + 4 * L <= 1000000000 /\ -100 <= L /\ L <= 500
structure QE (w : Int) (dep : Nat) (c1 c : Int) (v : Nd) (a L a' L' : Int) : Prop where
 fit : Q2 v w = true
 dep : Wj v <= dep
 size : L' + (Qr v : Int) <= L
 low : L - c1 <= L' \/ -c <= L'
 mono : a <= a'
 used : a' + 4 * L' <= a + 4 * L
structure QL (w : Int) (dep : Nat) (n c : Int) (ks : List Nd) (a L a' L' : Int) : Prop where
 fit : ∀ x ∈ ks, Q2 x w = true
 dep : ∀ x ∈ ks, Wj x <= dep
 size : L' + (QD ks : Int) <= L
 low : L - n <= L' \/ -(c + n - 1) <= L'
 mono : a <= a'
 used : a' + 4 * L' <= a + 4 * L
theorem run_q {E : GenF} {w : Int} {dep : Nat} {c : Int} (hc : 0 <= c /\ c <= 40) (hE : ∀ a L, preE a L -> QE w dep 1 c (E a L).1 a L (E a L).2.1 (E a L).2.2) : ∀ (n : Nat) (a L : Int), n <= 10 -> preE a L -> -50 <= L - n -> QL w dep n c (runM E n a L).1 a L (runM E n a L).2.1 (runM E n a L).2.2
 | 0, a, L, _, h, _ => by
  rw [runM]
  exact ⟨fun x hx => (by cases hx), fun x hx => (by cases hx), by simp [QD], .inl (by simp), by simp, by simp⟩
 | n + 1, a, L, hn, h, h50 => by
  have h1 := hE a L h
  obtain ⟨p1, p2, p3, p4⟩ := h
  have hs := Q6 (E a L).1
  have q1 := h1.low
  have q2 := h1.mono
  have q3 := h1.used
  have q4 := h1.size
  have ih := run_q hc hE n (E a L).2.1 (E a L).2.2 (by omega) ⟨by omega, by omega, by omega, by omega⟩ (by omega)
  have r1 := ih.low
  have r2 := ih.mono
  have r3 := ih.used
  have r4 := ih.size
  rw [runM]
  generalize runM E n (E a L).2.1 (E a L).2.2 = R at *
  generalize E a L = e at *
  refine ⟨fun x hx => ?_, fun x hx => ?_, ?_, ?_, ?_, ?_⟩
  ·rcases List.mem_cons.1 hx with rfl | hx
   ·exact h1.fit
   ·exact ih.fit x hx
  ·rcases List.mem_cons.1 hx with rfl | hx
   ·exact h1.dep
   ·exact ih.dep x hx
  ·rw [QD]; dsimp only; omega
  ·dsimp only; omega
  ·dsimp only; omega
  ·dsimp only; omega
theorem chLeaf (l : List Int) (hl : OkI l) (dd a L : Int) (h : preE a L) (hd : dd <= 0 \/ (0 < dd /\ L - 1 <= 0)) (hd2 : -10 <= dd /\ dd <= 10) :
  ∃ t : Nd × Int × Int, QE 4 1 1 0 t.1 a L t.2.1 t.2.2 /\ CE Tryz.prog G 125 (fun p g => [.ptr p g 0, .i dd]) (genC l a L) (.agg (Enc.enc t.1)) (genC l t.2.1 t.2.2) := by
 obtain ⟨p1, p2, p3, p4⟩ := h
 have bx := QT l a (most := 12) (by decide)
 have b16 := QT l (a + 1) (most := 16) (by decide)
 have b2 := QT l (a + 1) (most := 2) (by decide)
 have b6 := QT l (a + 1) (most := 6) (by decide)
 have b3 := QT l (a + 1) (most := 3) (by decide)
 have b14 := QT l (a + 1) (most := 14) (by decide)
 have b32 := QT l (a + 1 + 1) (most := 3) (by decide)
 have b4 := QT l (a + 1 + 1) (most := 4) (by decide)
 have hx : atI l a 12 % 4 = 0 \/ atI l a 12 % 4 = 1 \/ atI l a 12 % 4 = 2 \/ atI l a 12 % 4 = 3 := by omega
 rcases hd with hd | hd
 ·rcases hx with hx | hx | hx | hx
  ·refine ⟨((.mk 4 (atI l (a + 1) 16 - 8) (0) []), a + 1 + 1, L - 1), ?_, fun g B hg => ?_⟩
   ·refine ⟨W8 ⟨4, -8, 7, 0, [], 0, 0, 0⟩ rfl (by decide) (by decide) (by dsimp only; omega) (by dsimp only; omega) (by first | (simp; done) | (simp; omega)) (kids0), ?_, ?_, ?_, ?_, ?_⟩
    ·rw [Wj]; (try simp only [Wk, qd, qn]); omega
    ·rw [Qr]; (try simp only [QD]); omega
    ·dsimp only; omega
    ·dsimp only; omega
    ·dsimp only; omega
   ·refine Qa Tryz.func125 rfl Tryz.ntmps125 rfl (t := [(0, .ptr 0 g 0), (1, .i dd)]) rfl fun E0 hE0 => ?_
    (repeat' first | (refine Qg ?_; (first | refine QJ rfl ?_ | refine QN rfl ?_ | refine Qc rfl rfl rfl ?_ | (refine Qo ?_; (first | refine Zj rfl rfl (by omega) ?_ | refine Zb rfl rfl ?_ | refine Q1 rfl rfl ?_ | refine s_rem rfl rfl (by first | omega | exact nn_shr (by omega)) (by omega) ?_)) | refine Q4 0 (Wo l hl _ _ _ (by omega) (by omega)) rfl rfl rfl rfl ?_ | refine W1 rfl rfl ?_ | (refine Wg ?_; (first | refine WD rfl rfl rfl rfl ?_ | refine QZ rfl rfl rfl rfl (by rfl) (by rfl) (by rfl) ?_)) | refine Qd rfl rfl ?_ | refine QA rfl rfl ?_ | refine Qp rfl rfl ?_ | refine Qu (fun _ _ => ?_))) | (refine Qk ?_; (first | refine Qi ?_ | refine QK rfl ?_ | refine QR ?_ | refine W7 rfl rfl rfl rfl ?_ | refine Wc rfl rfl (by omega) ?_)) | (refine Qj ?_; (first | refine Ql ?_ | refine Qb ?_ | refine Qe ?_ | refine Qq rfl ?_ | refine Qm rfl (by omega) ?_ | refine Qy ?_)))
    exact e_1 (Tryz.results125) (Qz (size := 4) rfl rfl rfl rfl) (WN (es := 4) (.node rfl rfl rfl) (by show _ = DV.agg (Enc.enc (Nd.mk _ _ _ [])); rw [QQ]; rfl) rfl)
  ·refine ⟨((.mk 5 (atI l (a + 1) 2) (0) []), a + 1 + 1, L - 1), ?_, fun g B hg => ?_⟩
   ·refine ⟨W8 ⟨4, 0, 1, 0, [], 0, 0, 0⟩ rfl (by decide) (by decide) (by dsimp only; omega) (by dsimp only; omega) (by first | (simp; done) | (simp; omega)) (kids0), ?_, ?_, ?_, ?_, ?_⟩
    ·rw [Wj]; (try simp only [Wk, qd, qn]); omega
    ·rw [Qr]; (try simp only [QD]); omega
    ·dsimp only; omega
    ·dsimp only; omega
    ·dsimp only; omega
   ·refine Qa Tryz.func125 rfl Tryz.ntmps125 rfl (t := [(0, .ptr 0 g 0), (1, .i dd)]) rfl fun E0 hE0 => ?_
    (repeat' first | (refine Qg ?_; (first | refine QJ rfl ?_ | refine QN rfl ?_ | refine Qc rfl rfl rfl ?_ | (refine Qo ?_; (first | refine Zj rfl rfl (by omega) ?_ | refine Zb rfl rfl ?_ | refine Q1 rfl rfl ?_ | refine s_rem rfl rfl (by first | omega | exact nn_shr (by omega)) (by omega) ?_)) | refine Q4 0 (Wo l hl _ _ _ (by omega) (by omega)) rfl rfl rfl rfl ?_ | refine W1 rfl rfl ?_ | (refine Wg ?_; (first | refine WD rfl rfl rfl rfl ?_ | refine QZ rfl rfl rfl rfl (by rfl) (by rfl) (by rfl) ?_)) | refine Qd rfl rfl ?_ | refine QA rfl rfl ?_ | refine Qp rfl rfl ?_ | refine Qu (fun _ _ => ?_))) | (refine Qk ?_; (first | refine Qi ?_ | refine QK rfl ?_ | refine QR ?_ | refine W7 rfl rfl rfl rfl ?_ | refine Wc rfl rfl (by omega) ?_)) | (refine Qj ?_; (first | refine Ql ?_ | refine Qb ?_ | refine Qe ?_ | refine Qq rfl ?_ | refine Qm rfl (by omega) ?_ | refine Qf rfl (by omega) ?_ | refine Qy ?_)))
    exact e_1 (Tryz.results125) (Qz (size := 4) rfl rfl rfl rfl) (WN (es := 4) (.node rfl rfl rfl) (by show _ = DV.agg (Enc.enc (Nd.mk _ _ _ [])); rw [QQ]; rfl) rfl)
  ·refine ⟨((.mk 6 (atI l (a + 1) 6) (0) []), a + 1 + 1, L - 1), ?_, fun g B hg => ?_⟩
   ·refine ⟨W8 ⟨4, 0, 5, 0, [], 0, 0, 0⟩ rfl (by decide) (by decide) (by dsimp only; omega) (by dsimp only; omega) (by first | (simp; done) | (simp; omega)) (kids0), ?_, ?_, ?_, ?_, ?_⟩
    ·rw [Wj]; (try simp only [Wk, qd, qn]); omega
    ·rw [Qr]; (try simp only [QD]); omega
    ·dsimp only; omega
    ·dsimp only; omega
    ·dsimp only; omega
   ·refine Qa Tryz.func125 rfl Tryz.ntmps125 rfl (t := [(0, .ptr 0 g 0), (1, .i dd)]) rfl fun E0 hE0 => ?_
    (repeat' first | (refine Qg ?_; (first | refine QJ rfl ?_ | refine QN rfl ?_ | refine Qc rfl rfl rfl ?_ | (refine Qo ?_; (first | refine Zj rfl rfl (by omega) ?_ | refine Zb rfl rfl ?_ | refine Q1 rfl rfl ?_ | refine s_rem rfl rfl (by first | omega | exact nn_shr (by omega)) (by omega) ?_)) | refine Q4 0 (Wo l hl _ _ _ (by omega) (by omega)) rfl rfl rfl rfl ?_ | refine W1 rfl rfl ?_ | (refine Wg ?_; (first | refine WD rfl rfl rfl rfl ?_ | refine QZ rfl rfl rfl rfl (by rfl) (by rfl) (by rfl) ?_)) | refine Qd rfl rfl ?_ | refine QA rfl rfl ?_ | refine Qp rfl rfl ?_ | refine Qu (fun _ _ => ?_))) | (refine Qk ?_; (first | refine Qi ?_ | refine QK rfl ?_ | refine QR ?_ | refine W7 rfl rfl rfl rfl ?_ | refine Wc rfl rfl (by omega) ?_)) | (refine Qj ?_; (first | refine Ql ?_ | refine Qb ?_ | refine Qe ?_ | refine Qq rfl ?_ | refine Qm rfl (by omega) ?_ | refine Qf rfl (by omega) ?_ | refine Qy ?_)))
    exact e_1 (Tryz.results125) (Qz (size := 4) rfl rfl rfl rfl) (WN (es := 4) (.node rfl rfl rfl) (by show _ = DV.agg (Enc.enc (Nd.mk _ _ _ [])); rw [QQ]; rfl) rfl)
  ·refine ⟨((.mk 12 (atI l (a + 1) 3) (0) []), a + 1 + 1, L - 1), ?_, fun g B hg => ?_⟩
   ·refine ⟨W8 ⟨4, 0, 2, 0, [], 0, 0, 0⟩ rfl (by decide) (by decide) (by dsimp only; omega) (by dsimp only; omega) (by first | (simp; done) | (simp; omega)) (kids0), ?_, ?_, ?_, ?_, ?_⟩
    ·rw [Wj]; (try simp only [Wk, qd, qn]); omega
    ·rw [Qr]; (try simp only [QD]); omega
    ·dsimp only; omega
    ·dsimp only; omega
    ·dsimp only; omega
   ·refine Qa Tryz.func125 rfl Tryz.ntmps125 rfl (t := [(0, .ptr 0 g 0), (1, .i dd)]) rfl fun E0 hE0 => ?_
    (repeat' first | (refine Qg ?_; (first | refine QJ rfl ?_ | refine QN rfl ?_ | refine Qc rfl rfl rfl ?_ | (refine Qo ?_; (first | refine Zj rfl rfl (by omega) ?_ | refine Zb rfl rfl ?_ | refine Q1 rfl rfl ?_ | refine s_rem rfl rfl (by first | omega | exact nn_shr (by omega)) (by omega) ?_)) | refine Q4 0 (Wo l hl _ _ _ (by omega) (by omega)) rfl rfl rfl rfl ?_ | refine W1 rfl rfl ?_ | (refine Wg ?_; (first | refine WD rfl rfl rfl rfl ?_ | refine QZ rfl rfl rfl rfl (by rfl) (by rfl) (by rfl) ?_)) | refine Qd rfl rfl ?_ | refine QA rfl rfl ?_ | refine Qp rfl rfl ?_ | refine Qu (fun _ _ => ?_))) | (refine Qk ?_; (first | refine Qi ?_ | refine QK rfl ?_ | refine QR ?_ | refine W7 rfl rfl rfl rfl ?_ | refine Wc rfl rfl (by omega) ?_)) | (refine Qj ?_; (first | refine Ql ?_ | refine Qb ?_ | refine Qe ?_ | refine Qq rfl ?_ | refine Qm rfl (by omega) ?_ | refine Qf rfl (by omega) ?_ | refine Qy ?_)))
    exact e_1 (Tryz.results125) (Qz (size := 4) rfl rfl rfl rfl) (WN (es := 4) (.node rfl rfl rfl) (by show _ = DV.agg (Enc.enc (Nd.mk _ _ _ [])); rw [QQ]; rfl) rfl)
 ·rcases hx with hx | hx | hx | hx
  ·refine ⟨((.mk 4 (atI l (a + 1) 16 - 8) (0) []), a + 1 + 1, L - 1), ?_, fun g B hg => ?_⟩
   ·refine ⟨W8 ⟨4, -8, 7, 0, [], 0, 0, 0⟩ rfl (by decide) (by decide) (by dsimp only; omega) (by dsimp only; omega) (by first | (simp; done) | (simp; omega)) (kids0), ?_, ?_, ?_, ?_, ?_⟩
    ·rw [Wj]; (try simp only [Wk, qd, qn]); omega
    ·rw [Qr]; (try simp only [QD]); omega
    ·dsimp only; omega
    ·dsimp only; omega
    ·dsimp only; omega
   ·refine Qa Tryz.func125 rfl Tryz.ntmps125 rfl (t := [(0, .ptr 0 g 0), (1, .i dd)]) rfl fun E0 hE0 => ?_
    (repeat' first | (refine Qg ?_; (first | refine QJ rfl ?_ | refine QN rfl ?_ | refine Qc rfl rfl rfl ?_ | (refine Qo ?_; (first | refine Zj rfl rfl (by omega) ?_ | refine Zb rfl rfl ?_ | refine Q1 rfl rfl ?_ | refine s_rem rfl rfl (by first | omega | exact nn_shr (by omega)) (by omega) ?_)) | refine Q4 0 (Wo l hl _ _ _ (by omega) (by omega)) rfl rfl rfl rfl ?_ | refine WO rfl rfl ?_ | (refine Wg ?_; (first | refine WD rfl rfl rfl rfl ?_ | refine QZ rfl rfl rfl rfl (by rfl) (by rfl) (by rfl) ?_)) | refine Qd rfl rfl ?_ | refine QA rfl rfl ?_ | refine Qp rfl rfl ?_ | refine Qu (fun _ _ => ?_))) | (refine Qk ?_; (first | refine Qi ?_ | refine QK rfl ?_ | refine QR ?_ | refine WM rfl rfl rfl rfl ?_ | refine Q5 rfl rfl (by omega) ?_)) | (refine Qj ?_; (first | refine Ql ?_ | refine Qb ?_ | refine Qe ?_ | refine Qm rfl (by omega) ?_ | refine Qy ?_)))
    exact e_1 (Tryz.results125) (Qz (size := 4) rfl rfl rfl rfl) (WN (es := 4) (.node rfl rfl rfl) (by show _ = DV.agg (Enc.enc (Nd.mk _ _ _ [])); rw [QQ]; rfl) rfl)
  ·refine ⟨((.mk 5 (atI l (a + 1) 2) (0) []), a + 1 + 1, L - 1), ?_, fun g B hg => ?_⟩
   ·refine ⟨W8 ⟨4, 0, 1, 0, [], 0, 0, 0⟩ rfl (by decide) (by decide) (by dsimp only; omega) (by dsimp only; omega) (by first | (simp; done) | (simp; omega)) (kids0), ?_, ?_, ?_, ?_, ?_⟩
    ·rw [Wj]; (try simp only [Wk, qd, qn]); omega
    ·rw [Qr]; (try simp only [QD]); omega
    ·dsimp only; omega
    ·dsimp only; omega
    ·dsimp only; omega
   ·refine Qa Tryz.func125 rfl Tryz.ntmps125 rfl (t := [(0, .ptr 0 g 0), (1, .i dd)]) rfl fun E0 hE0 => ?_
    (repeat' first | (refine Qg ?_; (first | refine QJ rfl ?_ | refine QN rfl ?_ | refine Qc rfl rfl rfl ?_ | (refine Qo ?_; (first | refine Zj rfl rfl (by omega) ?_ | refine Zb rfl rfl ?_ | refine Q1 rfl rfl ?_ | refine s_rem rfl rfl (by first | omega | exact nn_shr (by omega)) (by omega) ?_)) | refine Q4 0 (Wo l hl _ _ _ (by omega) (by omega)) rfl rfl rfl rfl ?_ | refine WO rfl rfl ?_ | (refine Wg ?_; (first | refine WD rfl rfl rfl rfl ?_ | refine QZ rfl rfl rfl rfl (by rfl) (by rfl) (by rfl) ?_)) | refine Qd rfl rfl ?_ | refine QA rfl rfl ?_ | refine Qp rfl rfl ?_ | refine Qu (fun _ _ => ?_))) | (refine Qk ?_; (first | refine Qi ?_ | refine QK rfl ?_ | refine QR ?_ | refine WM rfl rfl rfl rfl ?_ | refine Q5 rfl rfl (by omega) ?_)) | (refine Qj ?_; (first | refine Ql ?_ | refine Qb ?_ | refine Qe ?_ | refine Qm rfl (by omega) ?_ | refine Qf rfl (by omega) ?_ | refine Qy ?_)))
    exact e_1 (Tryz.results125) (Qz (size := 4) rfl rfl rfl rfl) (WN (es := 4) (.node rfl rfl rfl) (by show _ = DV.agg (Enc.enc (Nd.mk _ _ _ [])); rw [QQ]; rfl) rfl)
  ·refine ⟨((.mk 6 (atI l (a + 1) 6) (0) []), a + 1 + 1, L - 1), ?_, fun g B hg => ?_⟩
   ·refine ⟨W8 ⟨4, 0, 5, 0, [], 0, 0, 0⟩ rfl (by decide) (by decide) (by dsimp only; omega) (by dsimp only; omega) (by first | (simp; done) | (simp; omega)) (kids0), ?_, ?_, ?_, ?_, ?_⟩
    ·rw [Wj]; (try simp only [Wk, qd, qn]); omega
    ·rw [Qr]; (try simp only [QD]); omega
    ·dsimp only; omega
    ·dsimp only; omega
    ·dsimp only; omega
   ·refine Qa Tryz.func125 rfl Tryz.ntmps125 rfl (t := [(0, .ptr 0 g 0), (1, .i dd)]) rfl fun E0 hE0 => ?_
    (repeat' first | (refine Qg ?_; (first | refine QJ rfl ?_ | refine QN rfl ?_ | refine Qc rfl rfl rfl ?_ | (refine Qo ?_; (first | refine Zj rfl rfl (by omega) ?_ | refine Zb rfl rfl ?_ | refine Q1 rfl rfl ?_ | refine s_rem rfl rfl (by first | omega | exact nn_shr (by omega)) (by omega) ?_)) | refine Q4 0 (Wo l hl _ _ _ (by omega) (by omega)) rfl rfl rfl rfl ?_ | refine WO rfl rfl ?_ | (refine Wg ?_; (first | refine WD rfl rfl rfl rfl ?_ | refine QZ rfl rfl rfl rfl (by rfl) (by rfl) (by rfl) ?_)) | refine Qd rfl rfl ?_ | refine QA rfl rfl ?_ | refine Qp rfl rfl ?_ | refine Qu (fun _ _ => ?_))) | (refine Qk ?_; (first | refine Qi ?_ | refine QK rfl ?_ | refine QR ?_ | refine WM rfl rfl rfl rfl ?_ | refine Q5 rfl rfl (by omega) ?_)) | (refine Qj ?_; (first | refine Ql ?_ | refine Qb ?_ | refine Qe ?_ | refine Qm rfl (by omega) ?_ | refine Qf rfl (by omega) ?_ | refine Qy ?_)))
    exact e_1 (Tryz.results125) (Qz (size := 4) rfl rfl rfl rfl) (WN (es := 4) (.node rfl rfl rfl) (by show _ = DV.agg (Enc.enc (Nd.mk _ _ _ [])); rw [QQ]; rfl) rfl)
  ·refine ⟨((.mk 12 (atI l (a + 1) 3) (0) []), a + 1 + 1, L - 1), ?_, fun g B hg => ?_⟩
   ·refine ⟨W8 ⟨4, 0, 2, 0, [], 0, 0, 0⟩ rfl (by decide) (by decide) (by dsimp only; omega) (by dsimp only; omega) (by first | (simp; done) | (simp; omega)) (kids0), ?_, ?_, ?_, ?_, ?_⟩
    ·rw [Wj]; (try simp only [Wk, qd, qn]); omega
    ·rw [Qr]; (try simp only [QD]); omega
    ·dsimp only; omega
    ·dsimp only; omega
    ·dsimp only; omega
   ·refine Qa Tryz.func125 rfl Tryz.ntmps125 rfl (t := [(0, .ptr 0 g 0), (1, .i dd)]) rfl fun E0 hE0 => ?_
    (repeat' first | (refine Qg ?_; (first | refine QJ rfl ?_ | refine QN rfl ?_ | refine Qc rfl rfl rfl ?_ | (refine Qo ?_; (first | refine Zj rfl rfl (by omega) ?_ | refine Zb rfl rfl ?_ | refine Q1 rfl rfl ?_ | refine s_rem rfl rfl (by first | omega | exact nn_shr (by omega)) (by omega) ?_)) | refine Q4 0 (Wo l hl _ _ _ (by omega) (by omega)) rfl rfl rfl rfl ?_ | refine WO rfl rfl ?_ | (refine Wg ?_; (first | refine WD rfl rfl rfl rfl ?_ | refine QZ rfl rfl rfl rfl (by rfl) (by rfl) (by rfl) ?_)) | refine Qd rfl rfl ?_ | refine QA rfl rfl ?_ | refine Qp rfl rfl ?_ | refine Qu (fun _ _ => ?_))) | (refine Qk ?_; (first | refine Qi ?_ | refine QK rfl ?_ | refine QR ?_ | refine WM rfl rfl rfl rfl ?_ | refine Q5 rfl rfl (by omega) ?_)) | (refine Qj ?_; (first | refine Ql ?_ | refine Qb ?_ | refine Qe ?_ | refine Qm rfl (by omega) ?_ | refine Qf rfl (by omega) ?_ | refine Qy ?_)))
    exact e_1 (Tryz.results125) (Qz (size := 4) rfl rfl rfl rfl) (WN (es := 4) (.node rfl rfl rfl) (by show _ = DV.agg (Enc.enc (Nd.mk _ _ _ [])); rw [QQ]; rfl) rfl)
theorem chSome (l : List Int) (hl : OkI l) (d : Nat) (hd : d <= 10) (E : GenF) (hE : ∀ a L, preE a L -> QE 4 (d + 1) 1 (2 * d) (E a L).1 a L (E a L).2.1 (E a L).2.2 /\ CE Tryz.prog G 125 (fun p g => [.ptr p g 0, .i d]) (genC l a L) (.agg (Enc.enc (E a L).1)) (genC l (E a L).2.1 (E a L).2.2)) (a L : Int) (h : preE (a + 1) L) (ha : 0 <= a) (h50 : -40 <= L) :
  CE Tryz.prog G 126 (fun p g => [.ptr p g 0, .i 3, .i ((d : Int) + 1)]) (genC l a L) (QW (runM E (atI l a 4).toNat (a + 1) L).1) (genC l (runM E (atI l a 4).toNat (a + 1) L).2.1 (runM E (atI l a 4).toNat (a + 1) L).2.2) := fun g B hg => by
 have b4 := QT l a (most := 4) (by decide)
 obtain ⟨p1, p2, p3, p4⟩ := h
 obtain ⟨N, hN⟩ : ∃ N : Nat, atI l a 4 = (N : Int) := ⟨(atI l a 4).toNat, by omega⟩
 have hnum := Wo (G := G) l hl a L 4 (by omega) (by omega)
 rw [hN] at hnum b4 ⊢
 rw [show ((N : Int)).toNat = N by omega]
 generalize hT : runM E N (a + 1) L = T at *
 refine Qa Tryz.func126 rfl Tryz.ntmps126 rfl (t := [(0, .ptr 0 g 0), (1, .i 3), (2, .i ((d : Int) + 1))]) rfl fun E0 hE1 => ?_
 (repeat' first | (refine Qg ?_; (first | refine QJ rfl ?_ | refine QN rfl ?_ | refine W3 rfl rfl (by omega) ?_ | refine Q4 0 (hnum) rfl rfl rfl rfl ?_)) | (refine Qk ?_; (first | refine Qi ?_ | refine QK rfl ?_)) | (refine Qj ?_; (first | refine Ql ?_ | refine Qb ?_ | refine Qe ?_)))
 refine r_own 7 4 rfl fun gk hgk => ?_
 refine r_loop5 (fun (i : Nat) (o : List Nd) (b M : Int) (gg : Nat) => ⟨[(0, .ptr 0 g 0), (2, .i ((d : Int) + 1)), (7, .ref 1 gg 0 o.length 4), (8, .i N), (9, .i i)], [.row g (genC l b M), .row gg (Ws o)]⟩) (fun i o b M gg => i <= N /\ o.length = i /\ E0.N < gg /\ o ++ (runM E (N - i) b M).1 = T.1 /\ (runM E (N - i) b M).2 = T.2 /\ preE b M /\ -50 <= M - ((N : Int) - i)) (fun i _ _ _ _ => N - i) 0 [] (a + 1) L gk ?_ ⟨by omega, rfl, hgk, by rw [Nat.sub_zero, hT]; rfl, by rw [Nat.sub_zero, hT], ⟨p1, p2, p3, p4⟩, by omega⟩ ?_
 ·exact zal rfl
 intro i o b M gg ⟨hi, hol, hgg, h1, h2, hp, h50⟩
 by_cases hiN : i < N
 ·obtain ⟨hq, hE1⟩ := hE b M hp
  rw [show N - i = (N - (i + 1)) + 1 by omega, runM] at h1 h2
  have q1 := hq.low
  have q2 := hq.mono
  have q3 := hq.used
  have q4 := hq.size
  obtain ⟨p1, p2, p3, p4⟩ := hp
  have hd1 : (d : Int) + 1 - 1 = (d : Int) := by omega
  generalize E b M = e at *
  obtain ⟨v1, b1, M1⟩ := e
  dsimp only at *
  have hs := Q6 v1
  clear hE
  (repeat' first | (refine Qg ?_; (first | refine QJ rfl ?_ | refine QN rfl ?_ | (refine Qo ?_; (first | refine s_sub_as2 rfl rfl hd1 ⟨by omega, by omega⟩ ?_ | refine QX rfl rfl ?_ | refine W3 rfl rfl (by omega) ?_)) | (refine Qt ?_; (first | refine Zt (z := v1) rfl rfl rfl rfl rfl rfl rfl (by first | omega | (simp; omega)) (by first | omega | (simp; omega)) (fun _ => rfl) (fun _ _ => ?_) | refine Q4 0 (hE1) rfl rfl rfl rfl ?_)) | refine Q3 (z := v1) rfl rfl (by decide) ?_)) | (refine Qk ?_; (first | refine Qi ?_ | refine QK rfl ?_)) | (refine Qj ?_; (first | refine Ql ?_ | refine Qb ?_ | refine Qe ?_ | refine QB ?_ | refine Qm rfl (by omega) ?_)))
  refine ⟨i + 1, o ++ [v1], b1, M1, _, ⟨by omega, by simp [hol], by assumption, by rw [List.append_assoc]; exact h1, h2, ⟨by omega, by omega, by omega, by omega⟩, by omega⟩, by omega, ?_⟩
  exact zal rfl
 ·have hie : N - i = 0 := by omega
  rw [hie, runM] at h1 h2
  dsimp only at h1 h2
  rw [List.append_nil] at h1
  rw [<- h1, <- h2]
  clear hE
  (repeat' first | (refine Qg ?_; (first | refine QJ rfl ?_ | refine QN rfl ?_ | refine QX rfl rfl ?_)) | (refine Qk ?_; (first | refine Qi ?_ | refine QK rfl ?_)) | (refine Qj ?_; (first | refine Ql ?_ | refine Qb ?_ | refine Qf rfl (by omega) ?_ | refine WC rfl ?_ | refine Qy ?_)))
  exact e_1 (Tryz.results126) (Qx rfl) (Zi (D := fun d => d) (k := 0) .id rfl (by rw [QS]; rfl) rfl rfl)
theorem chExpr (l : List Int) (hl : OkI l) : ∀ (d : Nat), d <= 10 -> ∃ E : GenF, ∀ a L, preE a L -> QE 4 (d + 1) 1 (2 * d) (E a L).1 a L (E a L).2.1 (E a L).2.2 /\ CE Tryz.prog G 125 (fun p g => [.ptr p g 0, .i d]) (genC l a L) (.agg (Enc.enc (E a L).1)) (genC l (E a L).2.1 (E a L).2.2) := by
 intro d
 induction d with
 | zero =>
  intro _
  refine gen_skolem (pre := preE) (R := fun a L t => QE 4 (0 + 1) 1 (2 * (0 : Nat)) t.1 a L t.2.1 t.2.2 /\ CE Tryz.prog G 125 (fun p g => [.ptr p g 0, .i (0 : Nat)]) (genC l a L) (.agg (Enc.enc t.1)) (genC l t.2.1 t.2.2)) fun a L h => ?_
  obtain ⟨t, hq, hc⟩ := chLeaf (G := G) l hl 0 a L h (.inl (by decide)) (by decide)
  exact ⟨t, hq, hc⟩
 | succ d ih =>
 intro hd10
 obtain ⟨E, hE⟩ := ih (by omega)
 refine gen_skolem (pre := preE) (R := fun a L t => QE 4 (d + 1 + 1) 1 (2 * (d + 1 : Nat)) t.1 a L t.2.1 t.2.2 /\ CE Tryz.prog G 125 (fun p g => [.ptr p g 0, .i (d + 1 : Nat)]) (genC l a L) (.agg (Enc.enc t.1)) (genC l t.2.1 t.2.2)) fun a L h => ?_
 by_cases hlf : L - 1 <= 0
 ·obtain ⟨t, hq, hc⟩ := chLeaf (G := G) l hl ((d + 1 : Nat) : Int) a L h (.inr ⟨by omega, hlf⟩) (by omega)
  have q1 := hq.low
  have q2 := hq.dep
  exact ⟨t, ⟨hq.fit, by omega, hq.size, by omega, hq.mono, hq.used⟩, hc⟩
 obtain ⟨p1, p2, p3, p4⟩ := h
 have hd1 : ((d + 1 : Nat) : Int) - 1 = (d : Int) := by omega
 have hsm := chSome (G := G) l hl d (by omega) E hE
 have hrq := run_q (E := E) (w := 4) (dep := d + 1) (c := 2 * d) (by omega) fun a L h => (hE a L h).1
 have bx := QT l a (most := 12) (by decide)
 have b16 := QT l (a + 1) (most := 16) (by decide)
 have b2 := QT l (a + 1) (most := 2) (by decide)
 have b6 := QT l (a + 1) (most := 6) (by decide)
 have b3 := QT l (a + 1) (most := 3) (by decide)
 have b14 := QT l (a + 1) (most := 14) (by decide)
 have b32 := QT l (a + 1 + 1) (most := 3) (by decide)
 have b4 := QT l (a + 1 + 1) (most := 4) (by decide)
 generalize hdd : ((d + 1 : Nat) : Int) = dd at *
 have hx : atI l a 12 = 0 \/ atI l a 12 = 1 \/ atI l a 12 = 2 \/ atI l a 12 = 3 \/ atI l a 12 = 4 \/ atI l a 12 = 5 \/ atI l a 12 = 6 \/ atI l a 12 = 7 \/ 8 <= atI l a 12 := by omega
 rcases hx with hx | hx | hx | hx | hx | hx | hx | hx | hx
 ·clear hE hrq hsm
  refine ⟨((.mk 4 (atI l (a + 1) 16 - 8) (0) []), a + 1 + 1, L - 1), ?_, fun g B hg => ?_⟩
  ·refine ⟨W8 ⟨4, -8, 7, 0, [], 0, 0, 0⟩ rfl (by decide) (by decide) (by dsimp only; omega) (by dsimp only; omega) (by first | (simp; done) | (simp; omega)) (kids0), ?_, ?_, ?_, ?_, ?_⟩
   ·rw [Wj]; (try simp only [Wk, qd, qn]); omega
   ·rw [Qr]; (try simp only [QD]); omega
   ·dsimp only; omega
   ·dsimp only; omega
   ·dsimp only; omega
  ·refine Qa Tryz.func125 rfl Tryz.ntmps125 rfl (t := [(0, .ptr 0 g 0), (1, .i dd)]) rfl fun E0 hE0 => ?_
   (repeat' first | (refine Qg ?_; (first | refine QJ rfl ?_ | refine QN rfl ?_ | refine Qc rfl rfl rfl ?_ | (refine Qo ?_; (first | refine Zj rfl rfl (by omega) ?_ | refine Zb rfl rfl ?_ | refine Q1 rfl rfl ?_)) | refine Q4 0 (Wo l hl _ _ _ (by omega) (by omega)) rfl rfl rfl rfl ?_ | refine WO rfl rfl ?_ | (refine Wg ?_; (first | refine WD rfl rfl rfl rfl ?_ | refine QZ rfl rfl rfl rfl (by rfl) (by rfl) (by rfl) ?_)) | refine Qd rfl rfl ?_ | refine QA rfl rfl ?_ | refine Qp rfl rfl ?_ | refine Qu (fun _ _ => ?_))) | (refine Qk ?_; (first | refine Qi ?_ | refine QK rfl ?_ | refine QR ?_ | refine WM rfl rfl rfl rfl ?_ | refine Q5 rfl rfl (by omega) ?_)) | (refine Qj ?_; (first | refine Ql ?_ | refine Qb ?_ | refine Qe ?_ | refine QB ?_ | refine Qm rfl (by omega) ?_ | refine Qf rfl (by omega) ?_ | refine Qy ?_)))
   exact e_1 (Tryz.results125) (Qz (size := 4) rfl rfl rfl rfl) (WN (es := 4) (.node rfl rfl rfl) (by show _ = DV.agg (Enc.enc (Nd.mk _ _ _ [])); rw [QQ]; rfl) rfl)
 ·clear hE hrq hsm
  refine ⟨((.mk 5 (atI l (a + 1) 2) (0) []), a + 1 + 1, L - 1), ?_, fun g B hg => ?_⟩
  ·refine ⟨W8 ⟨4, 0, 1, 0, [], 0, 0, 0⟩ rfl (by decide) (by decide) (by dsimp only; omega) (by dsimp only; omega) (by first | (simp; done) | (simp; omega)) (kids0), ?_, ?_, ?_, ?_, ?_⟩
   ·rw [Wj]; (try simp only [Wk, qd, qn]); omega
   ·rw [Qr]; (try simp only [QD]); omega
   ·dsimp only; omega
   ·dsimp only; omega
   ·dsimp only; omega
  ·refine Qa Tryz.func125 rfl Tryz.ntmps125 rfl (t := [(0, .ptr 0 g 0), (1, .i dd)]) rfl fun E0 hE0 => ?_
   (repeat' first | (refine Qg ?_; (first | refine QJ rfl ?_ | refine QN rfl ?_ | refine Qc rfl rfl rfl ?_ | (refine Qo ?_; (first | refine Zj rfl rfl (by omega) ?_ | refine Zb rfl rfl ?_ | refine Q1 rfl rfl ?_)) | refine Q4 0 (Wo l hl _ _ _ (by omega) (by omega)) rfl rfl rfl rfl ?_ | refine WO rfl rfl ?_ | (refine Wg ?_; (first | refine WD rfl rfl rfl rfl ?_ | refine QZ rfl rfl rfl rfl (by rfl) (by rfl) (by rfl) ?_)) | refine Qd rfl rfl ?_ | refine QA rfl rfl ?_ | refine Qp rfl rfl ?_ | refine Qu (fun _ _ => ?_))) | (refine Qk ?_; (first | refine Qi ?_ | refine QK rfl ?_ | refine QR ?_ | refine WM rfl rfl rfl rfl ?_ | refine Q5 rfl rfl (by omega) ?_)) | (refine Qj ?_; (first | refine Ql ?_ | refine Qb ?_ | refine Qe ?_ | refine QB ?_ | refine Qm rfl (by omega) ?_ | refine Qf rfl (by omega) ?_ | refine Qy ?_)))
   exact e_1 (Tryz.results125) (Qz (size := 4) rfl rfl rfl rfl) (WN (es := 4) (.node rfl rfl rfl) (by show _ = DV.agg (Enc.enc (Nd.mk _ _ _ [])); rw [QQ]; rfl) rfl)
 ·clear hE hrq hsm
  refine ⟨((.mk 6 (atI l (a + 1) 6) (0) []), a + 1 + 1, L - 1), ?_, fun g B hg => ?_⟩
  ·refine ⟨W8 ⟨4, 0, 5, 0, [], 0, 0, 0⟩ rfl (by decide) (by decide) (by dsimp only; omega) (by dsimp only; omega) (by first | (simp; done) | (simp; omega)) (kids0), ?_, ?_, ?_, ?_, ?_⟩
   ·rw [Wj]; (try simp only [Wk, qd, qn]); omega
   ·rw [Qr]; (try simp only [QD]); omega
   ·dsimp only; omega
   ·dsimp only; omega
   ·dsimp only; omega
  ·refine Qa Tryz.func125 rfl Tryz.ntmps125 rfl (t := [(0, .ptr 0 g 0), (1, .i dd)]) rfl fun E0 hE0 => ?_
   (repeat' first | (refine Qg ?_; (first | refine QJ rfl ?_ | refine QN rfl ?_ | refine Qc rfl rfl rfl ?_ | (refine Qo ?_; (first | refine Zj rfl rfl (by omega) ?_ | refine Zb rfl rfl ?_ | refine Q1 rfl rfl ?_)) | refine Q4 0 (Wo l hl _ _ _ (by omega) (by omega)) rfl rfl rfl rfl ?_ | refine WO rfl rfl ?_ | (refine Wg ?_; (first | refine WD rfl rfl rfl rfl ?_ | refine QZ rfl rfl rfl rfl (by rfl) (by rfl) (by rfl) ?_)) | refine Qd rfl rfl ?_ | refine QA rfl rfl ?_ | refine Qp rfl rfl ?_ | refine Qu (fun _ _ => ?_))) | (refine Qk ?_; (first | refine Qi ?_ | refine QK rfl ?_ | refine QR ?_ | refine WM rfl rfl rfl rfl ?_ | refine Q5 rfl rfl (by omega) ?_)) | (refine Qj ?_; (first | refine Ql ?_ | refine Qb ?_ | refine Qe ?_ | refine QB ?_ | refine Qm rfl (by omega) ?_ | refine Qf rfl (by omega) ?_ | refine Qy ?_)))
   exact e_1 (Tryz.results125) (Qz (size := 4) rfl rfl rfl rfl) (WN (es := 4) (.node rfl rfl rfl) (by show _ = DV.agg (Enc.enc (Nd.mk _ _ _ [])); rw [QQ]; rfl) rfl)
 ·clear hE hrq hsm
  refine ⟨((.mk 12 (atI l (a + 1) 3) (0) []), a + 1 + 1, L - 1), ?_, fun g B hg => ?_⟩
  ·refine ⟨W8 ⟨4, 0, 2, 0, [], 0, 0, 0⟩ rfl (by decide) (by decide) (by dsimp only; omega) (by dsimp only; omega) (by first | (simp; done) | (simp; omega)) (kids0), ?_, ?_, ?_, ?_, ?_⟩
   ·rw [Wj]; (try simp only [Wk, qd, qn]); omega
   ·rw [Qr]; (try simp only [QD]); omega
   ·dsimp only; omega
   ·dsimp only; omega
   ·dsimp only; omega
  ·refine Qa Tryz.func125 rfl Tryz.ntmps125 rfl (t := [(0, .ptr 0 g 0), (1, .i dd)]) rfl fun E0 hE0 => ?_
   (repeat' first | (refine Qg ?_; (first | refine QJ rfl ?_ | refine QN rfl ?_ | refine Qc rfl rfl rfl ?_ | (refine Qo ?_; (first | refine Zj rfl rfl (by omega) ?_ | refine Zb rfl rfl ?_ | refine Q1 rfl rfl ?_)) | refine Q4 0 (Wo l hl _ _ _ (by omega) (by omega)) rfl rfl rfl rfl ?_ | refine WO rfl rfl ?_ | (refine Wg ?_; (first | refine WD rfl rfl rfl rfl ?_ | refine QZ rfl rfl rfl rfl (by rfl) (by rfl) (by rfl) ?_)) | refine Qd rfl rfl ?_ | refine QA rfl rfl ?_ | refine Qp rfl rfl ?_ | refine Qu (fun _ _ => ?_))) | (refine Qk ?_; (first | refine Qi ?_ | refine QK rfl ?_ | refine QR ?_ | refine WM rfl rfl rfl rfl ?_ | refine Q5 rfl rfl (by omega) ?_)) | (refine Qj ?_; (first | refine Ql ?_ | refine Qb ?_ | refine Qe ?_ | refine QB ?_ | refine Qm rfl (by omega) ?_ | refine Qf rfl (by omega) ?_ | refine Qy ?_)))
   exact e_1 (Tryz.results125) (Qz (size := 4) rfl rfl rfl rfl) (WN (es := 4) (.node rfl rfl rfl) (by show _ = DV.agg (Enc.enc (Nd.mk _ _ _ [])); rw [QQ]; rfl) rfl)
 ·clear hrq hsm
  obtain ⟨hq1, hE1⟩ := hE (a + 1 + 1) (L - 1) ⟨by omega, by omega, by omega, by omega⟩
  obtain ⟨f1, d1, s1, w1, m1, u1⟩ := hq1
  generalize E (a + 1 + 1) (L - 1) = e1 at *
  obtain ⟨v1, b1, M1⟩ := e1
  dsimp only at *
  have sp1 := Q6 v1
  clear hE
  refine ⟨((.mk 7 (atI l (a + 1) 6) (0) [v1]), b1, M1), ?_, fun g B hg => ?_⟩
  ·refine ⟨W8 ⟨4, 0, 5, 0, [4], 0, 0, 0⟩ rfl (by decide) (by decide) (by dsimp only; omega) (by dsimp only; omega) (by first | (simp; done) | (simp; omega)) (kids1 f1), ?_, ?_, ?_, ?_, ?_⟩
   ·rw [Wj]; (try simp only [Wk, qd, qn]); omega
   ·rw [Qr]; (try simp only [QD]); omega
   ·dsimp only; omega
   ·dsimp only; omega
   ·dsimp only; omega
  ·refine Qa Tryz.func125 rfl Tryz.ntmps125 rfl (t := [(0, .ptr 0 g 0), (1, .i dd)]) rfl fun E0 hE0 => ?_
   (repeat' first | (refine Qg ?_; (first | refine QJ rfl ?_ | refine QN rfl ?_ | refine Qc rfl rfl rfl ?_ | (refine Qo ?_; (first | refine s_sub_as2 rfl rfl hd1 ⟨by omega, by omega⟩ ?_ | refine Zj rfl rfl (by omega) ?_ | refine Zb rfl rfl ?_ | refine Q1 rfl rfl ?_)) | (refine Qt ?_; (first | refine Q4 0 (Wo l hl _ _ _ (by omega) (by omega)) rfl rfl rfl rfl ?_ | refine Q4 0 (hE1) rfl rfl rfl rfl ?_)) | refine WO rfl rfl ?_ | (refine Wg ?_; (first | refine WD rfl rfl rfl rfl ?_ | refine QZ rfl rfl rfl rfl (by rfl) (by rfl) (by rfl) ?_)) | refine Q3 (z := v1) rfl rfl (by decide) ?_ | refine Qd rfl rfl ?_ | refine QA rfl rfl ?_ | refine Qp rfl rfl ?_ | refine Qu (fun _ _ => ?_))) | (refine Qk ?_; (first | refine Qi ?_ | refine QK rfl ?_ | refine QR ?_ | refine WM rfl rfl rfl rfl ?_ | refine Q5 rfl rfl (by omega) ?_)) | (refine Qj ?_; (first | refine Ql ?_ | refine Qb ?_ | refine Qe ?_ | refine QB ?_ | refine Qm rfl (by omega) ?_ | refine Qf rfl (by omega) ?_ | refine Qy ?_)))
   refine e_1 (Tryz.results125) (Qz (size := 4) rfl rfl rfl rfl) ?_
   rw [QQ]
   exact c_ce (by first | rfl | (simp [QW, Ws]; try rfl)) rfl
 ·clear hE hrq hsm
  refine ⟨((.mk 8 (atI l (a + 1) 6) (atI l (a + 1 + 1) 3) []), a + 1 + 1 + 1, L - 1), ?_, fun g B hg => ?_⟩
  ·refine ⟨W8 ⟨4, 0, 5, 2, [], 0, 0, 0⟩ rfl (by decide) (by decide) (by dsimp only; omega) (by dsimp only; omega) (by first | (simp; done) | (simp; omega)) (kids0), ?_, ?_, ?_, ?_, ?_⟩
   ·rw [Wj]; (try simp only [Wk, qd, qn]); omega
   ·rw [Qr]; (try simp only [QD]); omega
   ·dsimp only; omega
   ·dsimp only; omega
   ·dsimp only; omega
  ·refine Qa Tryz.func125 rfl Tryz.ntmps125 rfl (t := [(0, .ptr 0 g 0), (1, .i dd)]) rfl fun E0 hE0 => ?_
   (repeat' first | (refine Qg ?_; (first | refine QJ rfl ?_ | refine QN rfl ?_ | refine Qc rfl rfl rfl ?_ | (refine Qo ?_; (first | refine Zj rfl rfl (by omega) ?_ | refine Zb rfl rfl ?_ | refine Q1 rfl rfl ?_)) | refine Q4 0 (Wo l hl _ _ _ (by omega) (by omega)) rfl rfl rfl rfl ?_ | refine WO rfl rfl ?_ | (refine Wg ?_; (first | refine WD rfl rfl rfl rfl ?_ | refine QZ rfl rfl rfl rfl (by rfl) (by rfl) (by rfl) ?_)) | refine Qd rfl rfl ?_ | refine QA rfl rfl ?_ | refine Qp rfl rfl ?_ | refine Qu (fun _ _ => ?_))) | (refine Qk ?_; (first | refine Qi ?_ | refine QK rfl ?_ | refine QR ?_ | refine WM rfl rfl rfl rfl ?_ | refine Q5 rfl rfl (by omega) ?_)) | (refine Qj ?_; (first | refine Ql ?_ | refine Qb ?_ | refine Qe ?_ | refine QB ?_ | refine Qm rfl (by omega) ?_ | refine Qf rfl (by omega) ?_ | refine Qy ?_)))
   exact e_1 (Tryz.results125) (Qz (size := 4) rfl rfl rfl rfl) (WN (es := 4) (.node rfl rfl rfl) (by show _ = DV.agg (Enc.enc (Nd.mk _ _ _ [])); rw [QQ]; rfl) rfl)
 ·clear hrq hsm
  obtain ⟨hq1, hE1⟩ := hE (a + 1) (L - 1) ⟨by omega, by omega, by omega, by omega⟩
  obtain ⟨f1, d1, s1, w1, m1, u1⟩ := hq1
  generalize E (a + 1) (L - 1) = e1 at *
  obtain ⟨v1, b1, M1⟩ := e1
  dsimp only at *
  have sp1 := Q6 v1
  clear hE
  refine ⟨((.mk 10 (0) (0) [v1]), b1, M1), ?_, fun g B hg => ?_⟩
  ·refine ⟨W8 ⟨4, 0, 0, 0, [4], 0, 0, 0⟩ rfl (by decide) (by decide) (by dsimp only; omega) (by dsimp only; omega) (by first | (simp; done) | (simp; omega)) (kids1 f1), ?_, ?_, ?_, ?_, ?_⟩
   ·rw [Wj]; (try simp only [Wk, qd, qn]); omega
   ·rw [Qr]; (try simp only [QD]); omega
   ·dsimp only; omega
   ·dsimp only; omega
   ·dsimp only; omega
  ·refine Qa Tryz.func125 rfl Tryz.ntmps125 rfl (t := [(0, .ptr 0 g 0), (1, .i dd)]) rfl fun E0 hE0 => ?_
   (repeat' first | (refine Qg ?_; (first | refine QJ rfl ?_ | refine QN rfl ?_ | refine Qc rfl rfl rfl ?_ | (refine Qo ?_; (first | refine s_sub_as2 rfl rfl hd1 ⟨by omega, by omega⟩ ?_ | refine Zj rfl rfl (by omega) ?_ | refine Zb rfl rfl ?_ | refine Q1 rfl rfl ?_)) | (refine Qt ?_; (first | refine Q4 0 (Wo l hl _ _ _ (by omega) (by omega)) rfl rfl rfl rfl ?_ | refine Q4 0 (hE1) rfl rfl rfl rfl ?_)) | refine WO rfl rfl ?_ | (refine Wg ?_; (first | refine WD rfl rfl rfl rfl ?_ | refine QZ rfl rfl rfl rfl (by rfl) (by rfl) (by rfl) ?_)) | refine Q3 (z := v1) rfl rfl (by decide) ?_ | refine Qd rfl rfl ?_ | refine QA rfl rfl ?_ | refine Qp rfl rfl ?_ | refine Qu (fun _ _ => ?_))) | (refine Qk ?_; (first | refine Qi ?_ | refine QK rfl ?_ | refine QR ?_ | refine WM rfl rfl rfl rfl ?_ | refine Q5 rfl rfl (by omega) ?_)) | (refine Qj ?_; (first | refine Ql ?_ | refine Qb ?_ | refine Qe ?_ | refine QB ?_ | refine Qm rfl (by omega) ?_ | refine Qf rfl (by omega) ?_ | refine Qy ?_)))
   refine e_1 (Tryz.results125) (Qz (size := 4) rfl rfl rfl rfl) ?_
   rw [QQ]
   exact c_ce (by first | rfl | (simp [QW, Ws]; try rfl)) rfl
 ·have hS1 := hsm (a + 1 + 1) (L - 1) ⟨by omega, by omega, by omega, by omega⟩ (by omega) (by omega)
  have hb := QT l (a + 1 + 1) (most := 4) (by decide)
  obtain ⟨N, hN⟩ : ∃ N : Nat, atI l (a + 1 + 1) 4 = (N : Int) := ⟨(atI l (a + 1 + 1) 4).toNat, by omega⟩
  rw [hN, show ((N : Int)).toNat = N by omega] at hS1
  have hq := hrq N (a + 1 + 1 + 1) (L - 1) (by omega) ⟨by omega, by omega, by omega, by omega⟩ (by omega)
  have hln := runM_len E N (a + 1 + 1 + 1) (L - 1)
  obtain ⟨f1, d1, s1, w1, m1, u1⟩ := hq
  generalize runM E N (a + 1 + 1 + 1) (L - 1) = T at *
  obtain ⟨ks, b1, M1⟩ := T
  dsimp only at *
  have hdl := depthL_le d1
  rw [show (d : Int) + 1 = dd by omega] at hS1
  clear hE hrq hsm
  refine ⟨((.mk 11 (atI l (a + 1) 6) (0) ks), b1, M1), ?_, fun g B hg => ?_⟩
  ·refine ⟨W8 ⟨4, 0, 5, 0, [], 3, 0, 4⟩ rfl (by decide) (by decide) (by dsimp only; omega) (by dsimp only; omega) (by first | (simp; done) | (simp; omega)) (kidsA rfl f1), ?_, ?_, ?_, ?_, ?_⟩
   ·rw [Wj]; (try simp only [Wk, qd, qn]); omega
   ·rw [Qr]; (try simp only [QD]); omega
   ·dsimp only; omega
   ·dsimp only; omega
   ·dsimp only; omega
  ·refine Qa Tryz.func125 rfl Tryz.ntmps125 rfl (t := [(0, .ptr 0 g 0), (1, .i dd)]) rfl fun E0 hE0 => ?_
   (repeat' first | (refine Qg ?_; (first | refine QJ rfl ?_ | refine QN rfl ?_ | refine Qc rfl rfl rfl ?_ | (refine Qo ?_; (first | refine Zj rfl rfl (by omega) ?_ | refine Zb rfl rfl ?_ | refine Q1 rfl rfl ?_)) | (refine Qt ?_; (first | refine Q4 0 (Wo l hl _ _ _ (by omega) (by omega)) rfl rfl rfl rfl ?_ | refine Q4 0 (hS1) rfl rfl rfl rfl ?_)) | refine WO rfl rfl ?_ | (refine Wg ?_; (first | refine WD rfl rfl rfl rfl ?_ | refine QZ rfl rfl rfl rfl (by rfl) (by rfl) (by rfl) ?_)) | refine Qd rfl rfl ?_ | refine QA rfl rfl ?_ | refine Qp rfl rfl ?_ | refine Qu (fun _ _ => ?_))) | (refine Qk ?_; (first | refine Qi ?_ | refine QK rfl ?_ | refine QR ?_ | refine WM rfl rfl rfl rfl ?_ | refine Q5 rfl rfl (by omega) ?_)) | (refine Qj ?_; (first | refine Ql ?_ | refine Qb ?_ | refine Qe ?_ | refine QB ?_ | refine Qm rfl (by omega) ?_ | refine Qf rfl (by omega) ?_ | refine Qy ?_)))
   refine e_1 (Tryz.results125) (Qz (size := 4) rfl rfl rfl rfl) ?_
   rw [QQ]
   exact c_ce (by first | rfl | (simp [QW, Ws]; try rfl)) rfl
 ·clear hrq hsm
  obtain ⟨hq1, hE1⟩ := hE (a + 1 + 1) (L - 1) ⟨by omega, by omega, by omega, by omega⟩
  obtain ⟨f1, d1, s1, w1, m1, u1⟩ := hq1
  generalize E (a + 1 + 1) (L - 1) = e1 at *
  obtain ⟨v1, b1, M1⟩ := e1
  dsimp only at *
  have sp1 := Q6 v1
  obtain ⟨hq2, hE2⟩ := hE (b1) (M1) ⟨by omega, by omega, by omega, by omega⟩
  obtain ⟨f2, d2, s2, w2, m2, u2⟩ := hq2
  generalize E (b1) (M1) = e2 at *
  obtain ⟨v2, b2, M2⟩ := e2
  dsimp only at *
  have sp2 := Q6 v2
  clear hE
  refine ⟨((.mk 9 (atI l (a + 1) 14) (0) [v1, v2]), b2, M2), ?_, fun g B hg => ?_⟩
  ·refine ⟨W8 ⟨4, 0, 13, 0, [4, 4], 0, 0, 0⟩ rfl (by decide) (by decide) (by dsimp only; omega) (by dsimp only; omega) (by first | (simp; done) | (simp; omega)) (kids2 f1 f2), ?_, ?_, ?_, ?_, ?_⟩
   ·rw [Wj]; (try simp only [Wk, qd, qn]); omega
   ·rw [Qr]; (try simp only [QD]); omega
   ·dsimp only; omega
   ·dsimp only; omega
   ·dsimp only; omega
  ·refine Qa Tryz.func125 rfl Tryz.ntmps125 rfl (t := [(0, .ptr 0 g 0), (1, .i dd)]) rfl fun E0 hE0 => ?_
   (repeat' first | (refine Qg ?_; (first | refine QJ rfl ?_ | refine QN rfl ?_ | refine Qc rfl rfl rfl ?_ | (refine Qo ?_; (first | refine s_sub_as2 rfl rfl hd1 ⟨by omega, by omega⟩ ?_ | refine Zj rfl rfl (by omega) ?_ | refine Zb rfl rfl ?_ | refine Q1 rfl rfl ?_)) | (refine Qt ?_; (first | refine Q4 0 (Wo l hl _ _ _ (by omega) (by omega)) rfl rfl rfl rfl ?_ | refine Q4 0 (hE1) rfl rfl rfl rfl ?_ | refine Q4 0 (hE2) rfl rfl rfl rfl ?_)) | refine WO rfl rfl ?_ | (refine Wg ?_; (first | refine WD rfl rfl rfl rfl ?_ | refine QZ rfl rfl rfl rfl (by rfl) (by rfl) (by rfl) ?_)) | refine ZD (y := v1) (z := v2) rfl rfl (by decide) ?_ | refine Qd rfl rfl ?_ | refine QA rfl rfl ?_ | refine Qp rfl rfl ?_ | refine Qu (fun _ _ => ?_))) | (refine Qk ?_; (first | refine Qi ?_ | refine QK rfl ?_ | refine QR ?_ | refine WM rfl rfl rfl rfl ?_ | refine Q5 rfl rfl (by omega) ?_)) | (refine Qj ?_; (first | refine Ql ?_ | refine Qb ?_ | refine Qe ?_ | refine QB ?_ | refine Qf rfl (by omega) ?_ | refine Qy ?_)))
   refine e_1 (Tryz.results125) (Qz (size := 4) rfl rfl rfl rfl) ?_
   rw [QQ]
   exact c_ce (by first | rfl | (simp [QW, Ws]; try rfl)) rfl
end Go.Proofs
end
section
namespace Go.Av
open Classical
theorem spliceD_mid : ∀ (l1 l rest : List DV) (d : DV) (ds : List DV), l.length = (d :: ds).length -> Zd (l1 ++ (l ++ rest)) l1.length (d :: ds) = some (l1 ++ ((d :: ds) ++ rest))
 | [], l, rest, d, ds, h => spliceD_pre l (d :: ds) rest h
 | x :: r, l, rest, d, ds, h => by
  have ih := spliceD_mid r l rest d ds h
  show (match Zd (r ++ (l ++ rest)) r.length (d :: ds) with | some r' => some (x :: r') | none => none) = _
  rw [ih]; rfl
theorem fill_three {zs : List Value} {cs ds es : List DV} {n : Nat} (h1 : zs.length = n) (h2 : cs.length = n) (h3 : ds.length = n) (h4 : es.length = n) (h0 : 0 < n) : fillD (fun i => some (i * n, n)) (WG zs 3) [(0, .agg cs), (1, .agg ds), (2, .agg es)] = some (cs ++ (ds ++ es)) := by
 have hz : WG zs 3 = WG zs 1 ++ (WG zs 1 ++ WG zs 1) := by simp [WG, List.replicate]
 have hz1 : (WG zs 1).length = n := by rw [qg, h1]; omega
 cases cs with
 | nil => simp at h2; omega
 | cons e r =>
 cases ds with
 | nil => simp at h3; omega
 | cons e2 r2 =>
 cases es with
 | nil => simp at h4; omega
 | cons e3 r3 =>
  have hb : Nat.beq (e :: r).length n = true := by rw [h2]; exact Nat.beq_refl n
  have hb2 : Nat.beq (e2 :: r2).length n = true := by rw [h3]; exact Nat.beq_refl n
  have hb3 : Nat.beq (e3 :: r3).length n = true := by rw [h4]; exact Nat.beq_refl n
  have s1 : Zd (WG zs 1 ++ (WG zs 1 ++ WG zs 1)) 0 (e :: r) = some ((e :: r) ++ (WG zs 1 ++ WG zs 1)) := spliceD_pre (WG zs 1) (e :: r) _ (by rw [hz1, h2])
  have s2 : Zd ((e :: r) ++ (WG zs 1 ++ WG zs 1)) n (e2 :: r2) = some ((e :: r) ++ ((e2 :: r2) ++ WG zs 1)) := by
   have := spliceD_mid (e :: r) (WG zs 1) (WG zs 1) e2 r2 (by rw [hz1, h3])
   rwa [h2] at this
  have s3 : Zd ((e :: r) ++ ((e2 :: r2) ++ WG zs 1)) (2 * n) (e3 :: r3) = some ((e :: r) ++ ((e2 :: r2) ++ (e3 :: r3))) := by
   have := spliceD_at ((e :: r) ++ (e2 :: r2)) (WG zs 1) e3 r3 (by rw [hz1, h4])
   rw [List.append_assoc, List.append_assoc, List.length_append, h2, h3, show n + n = 2 * n by omega] at this
   exact this
  rw [hz]
  simp only [fillD, dcells, hb, hb2, hb3, Nat.zero_mul, Nat.one_mul, s1, s2, s3]
  exact forceD_same _
theorem s_bslice_three {P : Program} {G : Nat -> DV} {B : Nat} {f : Operand -> DV} {σ : List ABlk} {K : DV -> List ABlk -> Prop} {dst : Option Tmp} {type : TypeId} {pos : String} {after : Array Edge} {gd : Option (Nat × Bool)} {α : Type} [Enc α] {x y z : α} {t e : Nat} {g1 g2 : Bool} {z1 : Nat} {td : TypeDesc} {zs : List Value} {ps : List (Nat × Operand)} [ht : TyI P t (.slice e) g1 z1] [he : TyI P e td g2 (Enc.es α)] [hz : TyZ P e zs] (hzl : zs.length = Enc.es α) (hp : partsD f ps = some [(0, .agg (Enc.enc x)), (1, .agg (Enc.enc y)), (2, .agg (Enc.enc z))]) (hn : 3 * Enc.es α <= 16777216)
  (k : K (QW [x, y, z]) σ) : OpSem P G B ⟨dst, .buildSlice t 3 ps.toArray, type, pos, after, gd⟩ f σ K := by
 refine Zk hzl hp hn (fill_three hzl (Enc.len x) (Enc.len y) (Enc.len z) Enc.pos) ?_
 have e1 : QW [x, y, z] = .sl (Enc.es α) (Enc.enc x ++ (Enc.enc y ++ Enc.enc z)) := by simp [QW, Ws]
 rwa [<- e1]
end Go.Av
end
section
namespace Go.Proofs
open Go.Av
variable {G : Nat -> DV}
attribute [local irreducible] OpSem Za Zv qc ACalls AEnd AClose RV
open Go.Bl
def preS (a L : Int) : Prop := 0 <= a /\ a + 4 * L <= 1000000000 /\ 1 <= L /\ L <= 500
def preB (a L : Int) : Prop := 0 <= a /\ a + 4 * L <= 1000000000 /\ -50 <= L /\ L <= 500
structure QP (dep : Nat) (c : Int) (ks : List Nd) (a L a' L' : Int) : Prop where
 fit : ∀ x ∈ ks, Q2 x 5 = true
 dep : ∀ x ∈ ks, Wj x <= dep
 size : L' + (QD ks : Int) <= L
 low : L <= L' \/ -c <= L'
 mono : a <= a'
 used : a' + 4 * L' <= a + 4 * L
theorem run_p {S : GenF} {dep : Nat} {c : Int} (hc : 4 <= c /\ c <= 40) (hS : ∀ a L, preS a L -> QE 5 dep 5 c (S a L).1 a L (S a L).2.1 (S a L).2.2) : ∀ (n : Nat) (a L : Int), 0 <= a -> a + 4 * L <= 1000000000 -> L <= 500 -> QP dep c (runP S n a L).1 a L (runP S n a L).2.1 (runP S n a L).2.2
 | 0, a, L, _, _, _ => by
  rw [runP]
  exact ⟨fun x hx => (by cases hx), fun x hx => (by cases hx), by simp [QD], .inl (by simp), by simp, by simp⟩
 | n + 1, a, L, p1, p2, p3 => by
  rw [runP]
  by_cases hL : 0 < L
  ·rw [if_pos hL]
   have h1 := hS a L ⟨p1, p2, by omega, p3⟩
   have hs := Q6 (S a L).1
   have q1 := h1.low
   have q2 := h1.mono
   have q3 := h1.used
   have q4 := h1.size
   have ih := run_p hc hS n (S a L).2.1 (S a L).2.2 (by omega) (by omega) (by omega)
   have r1 := ih.low
   have r2 := ih.mono
   have r3 := ih.used
   have r4 := ih.size
   generalize runP S n (S a L).2.1 (S a L).2.2 = R at *
   generalize S a L = e at *
   refine ⟨fun x hx => ?_, fun x hx => ?_, ?_, ?_, ?_, ?_⟩
   ·rcases List.mem_cons.1 hx with rfl | hx
    ·exact h1.fit
    ·exact ih.fit x hx
   ·rcases List.mem_cons.1 hx with rfl | hx
    ·exact h1.dep
    ·exact ih.dep x hx
   ·rw [QD]; dsimp only; omega
   ·dsimp only; omega
   ·dsimp only; omega
   ·dsimp only; omega
  ·rw [if_neg hL]
   exact ⟨fun x hx => (by cases hx), fun x hx => (by cases hx), by simp [QD], .inl (by simp), by simp, by simp⟩
theorem partD_nd0 (v : Nd) : partD (Enc.enc v) 0 4 = some (Enc.enc v) := by cases v; rw [QQ]; rfl
theorem chBlock (l : List Int) (hl : OkI l) (e : Nat) (he : e <= 8) (S : GenF) (hS : ∀ a L, preS a L -> QE 5 (2 * e + 4) 5 (7 + e) (S a L).1 a L (S a L).2.1 (S a L).2.2 /\ CE Tryz.prog G 79 (fun p g => [.ptr p g 0, .i ((e : Int) - 1)]) (genC l a L) (.agg (Enc.enc (S a L).1)) (genC l (S a L).2.1 (S a L).2.2)) :
  ∃ Bk : GenF, ∀ a L, preB a L -> QE 6 (2 * e + 5) 1 (7 + e) (Bk a L).1 a L (Bk a L).2.1 (Bk a L).2.2 /\ CE Tryz.prog G 37 (fun p g => [.ptr p g 0, .i (e : Nat)]) (genC l a L) (.agg (Enc.enc (Bk a L).1)) (genC l (Bk a L).2.1 (Bk a L).2.2) := by
 refine gen_skolem (pre := preB) (R := fun a L t => QE 6 (2 * e + 5) 1 (7 + e) t.1 a L t.2.1 t.2.2 /\ CE Tryz.prog G 37 (fun p g => [.ptr p g 0, .i (e : Nat)]) (genC l a L) (.agg (Enc.enc t.1)) (genC l t.2.1 t.2.2)) fun a L h => ?_
 obtain ⟨p1, p2, p3, p4⟩ := h
 have b4 := QT l a (most := 4) (by decide)
 obtain ⟨N, hN⟩ : ∃ N : Nat, atI l a 4 = (N : Int) := ⟨(atI l a 4).toNat, by omega⟩
 have hq := run_p (S := S) (dep := 2 * e + 4) (c := 7 + e) (by omega) (fun a L h => (hS a L h).1) N (a + 1) (L - 1) (by omega) (by omega) (by omega)
 have hln := runP_len S N (a + 1) (L - 1)
 refine ⟨(.mk 13 0 0 (runP S N (a + 1) (L - 1)).1, (runP S N (a + 1) (L - 1)).2), ?_, fun g B hg => ?_⟩
 ·have q1 := hq.low
  have q2 := hq.mono
  have q3 := hq.used
  have q4 := hq.size
  have q5 := depthL_le hq.dep
  refine ⟨W8 ⟨6, 0, 0, 0, [], 8, 0, 5⟩ rfl (by decide) (by decide) (by decide) (by decide) (by dsimp only; simp; omega) (kidsA rfl hq.fit), ?_, ?_, ?_, ?_, ?_⟩
  ·rw [Wj]; omega
  ·rw [Qr]; dsimp only; omega
  ·dsimp only; omega
  ·dsimp only; omega
  ·dsimp only; omega
 clear hq
 have hnum := Wo (G := G) l hl a (L - 1) 4 (by omega) (by omega)
 rw [hN] at hnum b4
 generalize hT : runP S N (a + 1) (L - 1) = T at *
 refine Qa Tryz.func37 rfl Tryz.ntmps37 rfl (t := [(0, .ptr 0 g 0), (1, .i (e : Nat))]) rfl fun E0 hE0 => ?_
 (repeat' first | (refine Qg ?_; (first | refine QJ rfl ?_ | refine QN rfl ?_ | refine Qc rfl rfl rfl ?_ | refine Zj rfl rfl (by omega) ?_ | refine Q4 0 (hnum) rfl rfl rfl rfl ?_ | (refine Wg ?_; (first | refine WD rfl rfl rfl rfl ?_ | refine QZ rfl rfl rfl rfl (by rfl) (by rfl) (by rfl) ?_)) | refine Qd rfl rfl ?_ | refine QA rfl rfl ?_ | refine Qp rfl rfl ?_ | refine Qu (fun _ _ => ?_))) | (refine Qk ?_; (first | refine Qi ?_ | refine QK rfl ?_ | refine QR ?_)) | (refine Qj ?_; (first | refine Ql ?_ | refine Qb ?_ | refine Qe ?_)))
 rename_i g4 hg4 g5 hg5
 refine r_ownin 2 3 4 rfl rfl (fun _ => rfl) (fun gk hgk => ?_)
 refine r_loop5 (fun (i : Nat) (o : List Nd) (b M : Int) (gg : Nat) => ⟨[(0, .ptr 0 g 0), (1, .i (e : Nat)), (4, .ptr 1 g4 0), (5, .ptr 2 g5 0), (6, .i N), (7, .i i)], [.row g (genC l b M), .row g4 [.i 0, .i 0, .i 0, .nil], .row g5 [.i 13, .i 0, .i 0, .ref 3 gg 0 o.length 4], .row gg (Ws o)]⟩) (fun i o b M gg => i <= N /\ o.length <= i /\ E0.N < gg /\ o ++ (runP S (N - i) b M).1 = T.1 /\ (runP S (N - i) b M).2 = T.2 /\ 0 <= b /\ b + 4 * M <= 1000000000 /\ M <= 500 /\ -100 <= M) (fun i _ _ _ _ => N - i) 0 [] (a + 1) (L - 1) gk ?_ ⟨by omega, by simp, hgk, by rw [Nat.sub_zero, hT]; rfl, by rw [Nat.sub_zero, hT], by omega, by omega, by omega, by omega⟩ ?_
 ·exact zal rfl
 intro i o b M gg ⟨hi, hol, hgg, h1, h2, m1, m2, m3, m4⟩
 by_cases hiN : i < N
 ·rw [show N - i = (N - (i + 1)) + 1 by omega, runP] at h1 h2
  by_cases hM : 0 < M
  ·rw [if_pos hM] at h1 h2
   obtain ⟨hq, hE1⟩ := hS b M ⟨m1, m2, by omega, m3⟩
   have q1 := hq.low
   have q2 := hq.mono
   have q3 := hq.used
   have q4 := hq.size
   have hd1 : ((e : Nat) : Int) - 1 = (e : Int) - 1 := rfl
   generalize S b M = t at *
   obtain ⟨v1, b1, M1⟩ := t
   dsimp only at *
   have hs := Q6 v1
   clear hS
   (repeat' first | (refine Qg ?_; (first | refine QJ rfl ?_ | refine QN rfl ?_ | refine Qc rfl rfl rfl ?_ | (refine Qo ?_; (first | refine QX rfl rfl ?_ | refine ZJ rfl rfl ?_ | refine W3 rfl rfl (by omega) ?_)) | (refine Qt ?_; (first | refine Zt (z := v1) rfl rfl rfl rfl rfl rfl rfl (by first | omega | (simp; omega)) (by first | omega | (simp; omega)) (fun _ => rfl) (fun _ _ => ?_) | refine Q4 0 (hE1) rfl rfl rfl rfl ?_)) | refine W1 rfl rfl ?_ | refine QZ rfl rfl rfl rfl (by rfl) (by rfl) (by rfl) ?_ | refine Qd rfl rfl ?_ | refine Qp rfl rfl ?_)) | (refine Qk ?_; (first | refine Qi ?_ | refine QK rfl ?_ | refine WM rfl rfl rfl rfl ?_ | refine Wc rfl rfl (by omega) ?_)) | (refine Qj ?_; (first | refine Ql ?_ | refine Qb ?_ | refine Qe ?_ | (refine WF ?_; first | (rename_i g4 hg4 ge hge; refine Qv (fun p => p :: .row g4 [.i 0, .i 0, .i 0, .nil] :: .row ge (Enc.enc v1) :: []) 6 [(0, true), (1, true), (2, true), (3, false), (4, true), (5, true), (6, false)] (by rfl) (by rfl) (by kernel_rfl) (by decide +kernel) (by decide +kernel) ⟨_, rfl⟩ ?_) | (rename_i g4 hg4 ge hge; refine Qv (fun p => p :: .row g4 [.i 0, .i 0, .i 0, .nil] :: .row ge (Enc.enc v1) :: []) 9 [(0, true), (1, true), (2, true), (4, true), (5, true), (3, false), (6, false), (7, true), (8, true), (9, false)] (by rfl) (by rfl) (by kernel_rfl) (by decide +kernel) (by decide +kernel) ⟨_, rfl⟩ ?_) | (rename_i g4 hg4 ge hge; refine Qv (fun p => p :: .row g4 [.i 0, .i 0, .i 0, .nil] :: .row ge (Enc.enc v1) :: []) 7 [(0, true), (2, true), (4, true), (5, true), (1, false), (3, false), (6, true), (7, false)] (by rfl) (by rfl) (by kernel_rfl) (by decide +kernel) (by decide +kernel) ⟨_, rfl⟩ ?_) | (rename_i g4 hg4 ge hge; refine Qv (fun p => p :: .row g4 [.i 0, .i 0, .i 0, .nil] :: .row ge (Enc.enc v1) :: []) 7 [(0, true), (2, true), (3, true), (1, false), (4, false), (5, true), (6, true), (7, false)] (by rfl) (by rfl) (by kernel_rfl) (by decide +kernel) (by decide +kernel) ⟨_, rfl⟩ ?_) | (rename_i g4 hg4 ge hge; refine Qv (fun p => p :: .row g4 [.i 0, .i 0, .i 0, .nil] :: .row ge (Enc.enc v1) :: []) 5 [(0, true), (2, true), (3, true), (1, false), (4, true), (5, false)] (by rfl) (by rfl) (by kernel_rfl) (by decide +kernel) (by decide +kernel) ⟨_, rfl⟩ ?_) | (refine Qv (fun p => p) 100 [(0, true)] (by rfl) (by rfl) (by kernel_rfl) (by decide +kernel) (by decide +kernel) ⟨_, rfl⟩ ?_) | (refine Qv (fun p => p.1 :: .row g4 [.i 0, .i 0, .i 0, .nil] :: .row g5 [.i 13, .i 0, .i 0, .ref 3 gg 0 o.length 4] :: p.2) 9 [(0, true), (1, true), (2, true), (3, true), (4, true), (5, false), (6, true), (7, false), (8, true), (9, false)] (by rfl) (by rfl) (by kernel_rfl) (by decide +kernel) (by decide +kernel) ⟨(_, _), rfl⟩ ?_) | refine Wm (by rfl) (by kernel_rfl) (by kernel_rfl) ?_ | refine Wl (by kernel_rfl) (by kernel_rfl) ?_) | refine QB ?_ | refine Qm rfl (by omega) ?_)) | (refine W6 ?_; (first | refine ZG ?_ | refine i_z0 ?_ | refine i_st rfl rfl (fun _ => (by (repeat' first | (refine Qg ?_; (first | refine QJ rfl ?_ | refine Qc rfl rfl rfl ?_ | refine s_sub_as2 rfl rfl hd1 ⟨by omega, by omega⟩ ?_ | refine Q3 (z := v1) rfl rfl (by decide) ?_ | refine Qd rfl rfl ?_)) | exact ⟨rfl, rfl⟩))) ?_ | refine i_ef rfl ?_)) | refine And.intro (Exists.intro ((_, _)) rfl) ?_)
   refine ⟨i + 1, o ++ [v1], b1, M1, _, ⟨by omega, by simp; omega, by assumption, by rw [List.append_assoc]; exact h1, h2, by omega, by omega, by omega, by omega⟩, by omega, ?_⟩
   exact zal rfl
  ·rw [if_neg hM] at h1 h2
   dsimp only at h1 h2
   rw [List.append_nil] at h1
   rw [<- h1, <- h2]
   clear hS
   (repeat' first | (refine Qg ?_; (first | refine QJ rfl ?_ | (refine QG ?_; (first | refine WL rfl rfl ?_ | refine Qc rfl rfl rfl ?_)) | (refine Qo ?_; (first | refine QX rfl rfl ?_ | refine ZJ rfl rfl ?_)) | refine W1 rfl rfl ?_ | refine WD rfl rfl rfl rfl ?_ | refine Qd rfl rfl ?_ | refine Qp rfl rfl ?_)) | (refine Qk ?_; (first | refine Qi ?_ | refine QK rfl ?_ | refine QR ?_ | refine WM rfl rfl rfl rfl ?_ | refine Wc rfl rfl (by omega) ?_)) | (refine Qj ?_; (first | refine Ql ?_ | refine Qb ?_ | refine Qf rfl (by omega) ?_ | refine WC rfl ?_ | refine Qy ?_)))
   exact e_1 (Tryz.results37) (Qz (size := 4) rfl rfl rfl rfl) (Zi (D := fun d => .agg [.i 13, .i 0, .i 0, d]) (k := 2) (.node rfl rfl rfl) rfl (by rw [QS]; rfl) (by rw [QQ]; rfl) rfl)
 ·have hie : N - i = 0 := by omega
  rw [hie, runP] at h1 h2
  dsimp only at h1 h2
  rw [List.append_nil] at h1
  rw [<- h1, <- h2]
  clear hS
  (repeat' first | (refine Qg ?_; (first | refine QJ rfl ?_ | refine WL rfl rfl ?_ | refine QX rfl rfl ?_ | refine WO rfl rfl ?_ | refine WD rfl rfl rfl rfl ?_)) | (refine Qk ?_; (first | refine Qi ?_ | refine QK rfl ?_ | refine QR ?_ | refine W7 rfl rfl rfl rfl ?_ | refine Q5 rfl rfl (by omega) ?_)) | (refine Qj ?_; (first | refine Ql ?_ | refine Qb ?_ | refine Qs rfl ?_ | refine WC rfl ?_ | refine Qy ?_)))
  exact e_1 (Tryz.results37) (Qz (size := 4) rfl rfl rfl rfl) (Zi (D := fun d => .agg [.i 13, .i 0, .i 0, d]) (k := 2) (.node rfl rfl rfl) rfl (by rw [QS]; rfl) (by rw [QQ]; rfl) rfl)
theorem chLeafS (l : List Int) (hl : OkI l) (E2 E1 : GenF) (hE2x : ∀ a L, preE a L -> QE 4 3 1 4 (E2 a L).1 a L (E2 a L).2.1 (E2 a L).2.2 /\ CE Tryz.prog G 125 (fun p g => [.ptr p g 0, .i 2]) (genC l a L) (.agg (Enc.enc (E2 a L).1)) (genC l (E2 a L).2.1 (E2 a L).2.2))
  (hE1x : ∀ a L, preE a L -> QE 4 2 1 2 (E1 a L).1 a L (E1 a L).2.1 (E1 a L).2.2 /\ CE Tryz.prog G 125 (fun p g => [.ptr p g 0, .i 1]) (genC l a L) (.agg (Enc.enc (E1 a L).1)) (genC l (E1 a L).2.1 (E1 a L).2.2)) (dd a L x : Int) (h : preS a L)
  (hx : (dd <= 0 /\ atI l a 14 % 10 = x) \/ (0 < dd /\ L - 1 <= 0 /\ atI l a 14 % 10 = x) \/ (0 < dd /\ 0 < L - 1 /\ atI l a 14 = x)) (hx2 : 0 <= x /\ x <= 9) :
  ∃ t : Nd × Int × Int, QE 5 4 5 7 t.1 a L t.2.1 t.2.2 /\ CE Tryz.prog G 79 (fun p g => [.ptr p g 0, .i dd]) (genC l a L) (.agg (Enc.enc t.1)) (genC l t.2.1 t.2.2) := by
 obtain ⟨p1, p2, p3, p4⟩ := h
 have bx := QT l a (most := 14) (by decide)
 have hsm := chSome (G := G) l hl 1 (by decide) E1 hE1x
 have hrq := run_q (E := E1) (w := 4) (dep := 2) (c := 2) (by decide) fun a L h => (hE1x a L h).1
 have hxx : x = 0 \/ x = 1 \/ x = 2 \/ x = 3 \/ x = 4 \/ x = 5 \/ x = 6 \/ x = 7 \/ x = 8 \/ x = 9 := by omega
 rcases hx with hx | hx | hx
 all_goals
  rcases hxx with rfl | rfl | rfl | rfl | rfl | rfl | rfl | rfl | rfl | rfl
  ·obtain ⟨hqv1, hE1⟩ := hE2x (a + 1) (L - 1) ⟨by omega, by omega, by omega, by omega⟩
   obtain ⟨fv1, dv1, sv1, wv1, mv1, uv1⟩ := hqv1
   generalize E2 (a + 1) (L - 1) = tv1 at *
   obtain ⟨v1, b1, M1⟩ := tv1
   dsimp only at *
   have spv1 := Q6 v1
   have n6 := QT l (b1) (most := 6) (by decide)
   clear hE2x hE1x hsm hrq
   refine ⟨(.mk 14 (atI l b1 6) (0) [v1], b1 + 1, M1), ?_, fun g B hg => ?_⟩
   ·refine ⟨W8 ⟨5, 0, 5, 0, [4], 0, 0, 0⟩ rfl (by decide) (by decide) (by dsimp only; omega) (by dsimp only; omega) (by first | (simp; done) | (simp; omega)) (kids1 fv1), ?_, ?_, ?_, ?_, ?_⟩
    ·rw [Wj]; (try simp only [Wk]); omega
    ·rw [Qr]; (try simp only [QD]); omega
    ·dsimp only; omega
    ·dsimp only; omega
    ·dsimp only; omega
   ·refine Qa Tryz.func79 rfl Tryz.ntmps79 rfl (t := [(0, .ptr 0 g 0), (1, .i dd)]) rfl fun E0 hE0 => ?_
    (repeat' first | (refine Qg ?_; (first | refine QJ rfl ?_ | refine QN rfl ?_ | refine Qc rfl rfl rfl ?_ | (refine Qo ?_; (first | refine Zj rfl rfl (by omega) ?_ | refine Zb rfl rfl ?_ | refine Q1 rfl rfl ?_ | refine s_rem rfl rfl (by first | omega | exact nn_shr (by omega)) (by omega) ?_)) | (refine Qt ?_; (first | refine Q4 0 (Wo l hl _ _ _ (by omega) (by omega)) rfl rfl rfl rfl ?_ | refine Q4 0 (hE1) rfl rfl rfl rfl ?_)) | (refine Q8 ?_; (first | refine W1 rfl rfl ?_ | refine WO rfl rfl ?_)) | (refine Wg ?_; (first | refine WD rfl rfl rfl rfl ?_ | refine QZ rfl rfl rfl rfl (by rfl) (by rfl) (by rfl) ?_)) | refine Qd rfl rfl ?_ | refine Qp rfl rfl ?_ | refine Qu (fun _ _ => ?_))) | (refine Qk ?_; (first | refine Qi ?_ | refine QK rfl ?_ | refine QR ?_ | refine WM rfl rfl rfl rfl ?_ | refine W7 rfl rfl rfl rfl ?_ | refine Wc rfl rfl (by omega) ?_ | refine Q5 rfl rfl (by omega) ?_)) | (refine Qj ?_; (first | refine Ql ?_ | refine Qb ?_ | refine Qe ?_ | (refine WF ?_; first | (rename_i g4 hg4 ge hge; refine Qv (fun p => p :: .row g4 [.i 0, .i 0, .i 0, .nil] :: .row ge (Enc.enc v1) :: []) 6 [(0, true), (1, true), (2, true), (3, false), (4, true), (5, true), (6, false)] (by rfl) (by rfl) (by kernel_rfl) (by decide +kernel) (by decide +kernel) ⟨_, rfl⟩ ?_) | (rename_i g4 hg4 ge hge; refine Qv (fun p => p :: .row g4 [.i 0, .i 0, .i 0, .nil] :: .row ge (Enc.enc v1) :: []) 9 [(0, true), (1, true), (2, true), (4, true), (5, true), (3, false), (6, false), (7, true), (8, true), (9, false)] (by rfl) (by rfl) (by kernel_rfl) (by decide +kernel) (by decide +kernel) ⟨_, rfl⟩ ?_) | (rename_i g4 hg4 ge hge; refine Qv (fun p => p :: .row g4 [.i 0, .i 0, .i 0, .nil] :: .row ge (Enc.enc v1) :: []) 7 [(0, true), (2, true), (4, true), (5, true), (1, false), (3, false), (6, true), (7, false)] (by rfl) (by rfl) (by kernel_rfl) (by decide +kernel) (by decide +kernel) ⟨_, rfl⟩ ?_) | (rename_i g4 hg4 ge hge; refine Qv (fun p => p :: .row g4 [.i 0, .i 0, .i 0, .nil] :: .row ge (Enc.enc v1) :: []) 7 [(0, true), (2, true), (3, true), (1, false), (4, false), (5, true), (6, true), (7, false)] (by rfl) (by rfl) (by kernel_rfl) (by decide +kernel) (by decide +kernel) ⟨_, rfl⟩ ?_) | (rename_i g4 hg4 ge hge; refine Qv (fun p => p :: .row g4 [.i 0, .i 0, .i 0, .nil] :: .row ge (Enc.enc v1) :: []) 5 [(0, true), (2, true), (3, true), (1, false), (4, true), (5, false)] (by rfl) (by rfl) (by kernel_rfl) (by decide +kernel) (by decide +kernel) ⟨_, rfl⟩ ?_) | (refine Qv (fun p => p) 100 [(0, true)] (by rfl) (by rfl) (by kernel_rfl) (by decide +kernel) (by decide +kernel) ⟨_, rfl⟩ ?_) | (refine Qv (fun p => p.1 :: .row g4 [.i 0, .i 0, .i 0, .nil] :: .row g5 [.i 13, .i 0, .i 0, .ref 3 gg 0 o.length 4] :: p.2) 9 [(0, true), (1, true), (2, true), (3, true), (4, true), (5, false), (6, true), (7, false), (8, true), (9, false)] (by rfl) (by rfl) (by kernel_rfl) (by decide +kernel) (by decide +kernel) ⟨(_, _), rfl⟩ ?_) | refine Wm (by rfl) (by kernel_rfl) (by kernel_rfl) ?_ | refine Wl (by kernel_rfl) (by kernel_rfl) ?_) | refine QB ?_ | refine Qq rfl ?_ | refine Qm rfl (by omega) ?_ | refine Qf rfl (by omega) ?_ | refine Qy ?_)) | (refine W6 ?_; (first | refine ZG ?_ | refine i_z0 ?_ | refine i_st rfl rfl (fun _ => (by (repeat' first | (refine Qg ?_; (first | refine QJ rfl ?_ | refine WL rfl rfl ?_ | refine Q3 (z := v1) rfl rfl (by decide) ?_ | refine QA rfl rfl ?_)) | exact ⟨rfl, rfl⟩))) ?_ | refine i_ef rfl ?_)) | refine And.intro (Exists.intro (_) rfl) ?_)
    refine e_1 (Tryz.results79) (Qz (size := 4) rfl rfl rfl rfl) ?_
    rw [QQ]
    exact c_ce (by first | rfl | (simp [QW, Ws]; try rfl)) rfl
  ·obtain ⟨hqv1, hE1⟩ := hE2x (a + 1) (L - 1) ⟨by omega, by omega, by omega, by omega⟩
   obtain ⟨fv1, dv1, sv1, wv1, mv1, uv1⟩ := hqv1
   generalize E2 (a + 1) (L - 1) = tv1 at *
   obtain ⟨v1, b1, M1⟩ := tv1
   dsimp only at *
   have spv1 := Q6 v1
   have n6 := QT l (b1) (most := 6) (by decide)
   clear hE2x hE1x hsm hrq
   refine ⟨(.mk 14 (atI l b1 6) (0) [v1], b1 + 1, M1), ?_, fun g B hg => ?_⟩
   ·refine ⟨W8 ⟨5, 0, 5, 0, [4], 0, 0, 0⟩ rfl (by decide) (by decide) (by dsimp only; omega) (by dsimp only; omega) (by first | (simp; done) | (simp; omega)) (kids1 fv1), ?_, ?_, ?_, ?_, ?_⟩
    ·rw [Wj]; (try simp only [Wk]); omega
    ·rw [Qr]; (try simp only [QD]); omega
    ·dsimp only; omega
    ·dsimp only; omega
    ·dsimp only; omega
   ·refine Qa Tryz.func79 rfl Tryz.ntmps79 rfl (t := [(0, .ptr 0 g 0), (1, .i dd)]) rfl fun E0 hE0 => ?_
    (repeat' first | (refine Qg ?_; (first | refine QJ rfl ?_ | refine QN rfl ?_ | refine Qc rfl rfl rfl ?_ | (refine Qo ?_; (first | refine Zj rfl rfl (by omega) ?_ | refine Zb rfl rfl ?_ | refine Q1 rfl rfl ?_ | refine s_rem rfl rfl (by first | omega | exact nn_shr (by omega)) (by omega) ?_)) | (refine Qt ?_; (first | refine Q4 0 (Wo l hl _ _ _ (by omega) (by omega)) rfl rfl rfl rfl ?_ | refine Q4 0 (hE1) rfl rfl rfl rfl ?_)) | (refine Q8 ?_; (first | refine W1 rfl rfl ?_ | refine WO rfl rfl ?_)) | (refine Wg ?_; (first | refine WD rfl rfl rfl rfl ?_ | refine QZ rfl rfl rfl rfl (by rfl) (by rfl) (by rfl) ?_)) | refine Qd rfl rfl ?_ | refine Qp rfl rfl ?_ | refine Qu (fun _ _ => ?_))) | (refine Qk ?_; (first | refine Qi ?_ | refine QK rfl ?_ | refine QR ?_ | refine WM rfl rfl rfl rfl ?_ | refine W7 rfl rfl rfl rfl ?_ | refine Wc rfl rfl (by omega) ?_ | refine Q5 rfl rfl (by omega) ?_)) | (refine Qj ?_; (first | refine Ql ?_ | refine Qb ?_ | refine Qe ?_ | (refine WF ?_; first | (rename_i g4 hg4 ge hge; refine Qv (fun p => p :: .row g4 [.i 0, .i 0, .i 0, .nil] :: .row ge (Enc.enc v1) :: []) 6 [(0, true), (1, true), (2, true), (3, false), (4, true), (5, true), (6, false)] (by rfl) (by rfl) (by kernel_rfl) (by decide +kernel) (by decide +kernel) ⟨_, rfl⟩ ?_) | (rename_i g4 hg4 ge hge; refine Qv (fun p => p :: .row g4 [.i 0, .i 0, .i 0, .nil] :: .row ge (Enc.enc v1) :: []) 9 [(0, true), (1, true), (2, true), (4, true), (5, true), (3, false), (6, false), (7, true), (8, true), (9, false)] (by rfl) (by rfl) (by kernel_rfl) (by decide +kernel) (by decide +kernel) ⟨_, rfl⟩ ?_) | (rename_i g4 hg4 ge hge; refine Qv (fun p => p :: .row g4 [.i 0, .i 0, .i 0, .nil] :: .row ge (Enc.enc v1) :: []) 7 [(0, true), (2, true), (4, true), (5, true), (1, false), (3, false), (6, true), (7, false)] (by rfl) (by rfl) (by kernel_rfl) (by decide +kernel) (by decide +kernel) ⟨_, rfl⟩ ?_) | (rename_i g4 hg4 ge hge; refine Qv (fun p => p :: .row g4 [.i 0, .i 0, .i 0, .nil] :: .row ge (Enc.enc v1) :: []) 7 [(0, true), (2, true), (3, true), (1, false), (4, false), (5, true), (6, true), (7, false)] (by rfl) (by rfl) (by kernel_rfl) (by decide +kernel) (by decide +kernel) ⟨_, rfl⟩ ?_) | (rename_i g4 hg4 ge hge; refine Qv (fun p => p :: .row g4 [.i 0, .i 0, .i 0, .nil] :: .row ge (Enc.enc v1) :: []) 5 [(0, true), (2, true), (3, true), (1, false), (4, true), (5, false)] (by rfl) (by rfl) (by kernel_rfl) (by decide +kernel) (by decide +kernel) ⟨_, rfl⟩ ?_) | (refine Qv (fun p => p) 100 [(0, true)] (by rfl) (by rfl) (by kernel_rfl) (by decide +kernel) (by decide +kernel) ⟨_, rfl⟩ ?_) | (refine Qv (fun p => p.1 :: .row g4 [.i 0, .i 0, .i 0, .nil] :: .row g5 [.i 13, .i 0, .i 0, .ref 3 gg 0 o.length 4] :: p.2) 9 [(0, true), (1, true), (2, true), (3, true), (4, true), (5, false), (6, true), (7, false), (8, true), (9, false)] (by rfl) (by rfl) (by kernel_rfl) (by decide +kernel) (by decide +kernel) ⟨(_, _), rfl⟩ ?_) | refine Wm (by rfl) (by kernel_rfl) (by kernel_rfl) ?_ | refine Wl (by kernel_rfl) (by kernel_rfl) ?_) | refine QB ?_ | refine Qq rfl ?_ | refine Qm rfl (by omega) ?_ | refine Qf rfl (by omega) ?_ | refine Qy ?_)) | (refine W6 ?_; (first | refine ZG ?_ | refine i_z0 ?_ | refine i_st rfl rfl (fun _ => (by (repeat' first | (refine Qg ?_; (first | refine QJ rfl ?_ | refine WL rfl rfl ?_ | refine Q3 (z := v1) rfl rfl (by decide) ?_ | refine QA rfl rfl ?_)) | exact ⟨rfl, rfl⟩))) ?_ | refine i_ef rfl ?_)) | refine And.intro (Exists.intro (_) rfl) ?_)
    refine e_1 (Tryz.results79) (Qz (size := 4) rfl rfl rfl rfl) ?_
    rw [QQ]
    exact c_ce (by first | rfl | (simp [QW, Ws]; try rfl)) rfl
  ·obtain ⟨hqv1, hE1⟩ := hE2x (a + 1) (L - 1) ⟨by omega, by omega, by omega, by omega⟩
   obtain ⟨fv1, dv1, sv1, wv1, mv1, uv1⟩ := hqv1
   generalize E2 (a + 1) (L - 1) = tv1 at *
   obtain ⟨v1, b1, M1⟩ := tv1
   dsimp only at *
   have spv1 := Q6 v1
   obtain ⟨hqv2, hE2⟩ := hE2x (b1 + 1) (M1) ⟨by omega, by omega, by omega, by omega⟩
   obtain ⟨fv2, dv2, sv2, wv2, mv2, uv2⟩ := hqv2
   generalize E2 (b1 + 1) (M1) = tv2 at *
   obtain ⟨v2, b2, M2⟩ := tv2
   dsimp only at *
   have spv2 := Q6 v2
   have n6 := QT l (b1) (most := 6) (by decide)
   clear hE2x hE1x hsm hrq
   refine ⟨(.mk 15 (atI l b1 6) (0) [v1, v2], b2, M2), ?_, fun g B hg => ?_⟩
   ·refine ⟨W8 ⟨5, 0, 5, 0, [4, 4], 0, 0, 0⟩ rfl (by decide) (by decide) (by dsimp only; omega) (by dsimp only; omega) (by first | (simp; done) | (simp; omega)) (kids2 fv1 fv2), ?_, ?_, ?_, ?_, ?_⟩
    ·rw [Wj]; (try simp only [Wk]); omega
    ·rw [Qr]; (try simp only [QD]); omega
    ·dsimp only; omega
    ·dsimp only; omega
    ·dsimp only; omega
   ·refine Qa Tryz.func79 rfl Tryz.ntmps79 rfl (t := [(0, .ptr 0 g 0), (1, .i dd)]) rfl fun E0 hE0 => ?_
    (repeat' first | (refine Qg ?_; (first | refine QJ rfl ?_ | refine QN rfl ?_ | refine Qc rfl rfl rfl ?_ | (refine Qo ?_; (first | refine Zj rfl rfl (by omega) ?_ | refine Zb rfl rfl ?_ | refine Q1 rfl rfl ?_ | refine s_rem rfl rfl (by first | omega | exact nn_shr (by omega)) (by omega) ?_)) | (refine Qt ?_; (first | refine Q4 0 (Wo l hl _ _ _ (by omega) (by omega)) rfl rfl rfl rfl ?_ | refine Q4 0 (hE1) rfl rfl rfl rfl ?_ | refine Q4 0 (hE2) rfl rfl rfl rfl ?_)) | (refine Q8 ?_; (first | refine W1 rfl rfl ?_ | refine WO rfl rfl ?_)) | (refine Wg ?_; (first | refine WD rfl rfl rfl rfl ?_ | refine QZ rfl rfl rfl rfl (by rfl) (by rfl) (by rfl) ?_)) | refine Qd rfl rfl ?_ | refine Qp rfl rfl ?_ | refine Qu (fun _ _ => ?_))) | (refine Qk ?_; (first | refine Qi ?_ | refine QK rfl ?_ | refine QR ?_ | refine WM rfl rfl rfl rfl ?_ | refine W7 rfl rfl rfl rfl ?_ | refine Wc rfl rfl (by omega) ?_ | refine Q5 rfl rfl (by omega) ?_)) | (refine Qj ?_; (first | refine Ql ?_ | refine Qb ?_ | refine Qe ?_ | (refine WF ?_; first | (rename_i g4 hg4 ge hge; refine Qv (fun p => p :: .row g4 [.i 0, .i 0, .i 0, .nil] :: .row ge (Enc.enc v1) :: []) 6 [(0, true), (1, true), (2, true), (3, false), (4, true), (5, true), (6, false)] (by rfl) (by rfl) (by kernel_rfl) (by decide +kernel) (by decide +kernel) ⟨_, rfl⟩ ?_) | (rename_i g4 hg4 ge hge; refine Qv (fun p => p :: .row g4 [.i 0, .i 0, .i 0, .nil] :: .row ge (Enc.enc v1) :: []) 9 [(0, true), (1, true), (2, true), (4, true), (5, true), (3, false), (6, false), (7, true), (8, true), (9, false)] (by rfl) (by rfl) (by kernel_rfl) (by decide +kernel) (by decide +kernel) ⟨_, rfl⟩ ?_) | (rename_i g4 hg4 ge hge; refine Qv (fun p => p :: .row g4 [.i 0, .i 0, .i 0, .nil] :: .row ge (Enc.enc v1) :: []) 7 [(0, true), (2, true), (4, true), (5, true), (1, false), (3, false), (6, true), (7, false)] (by rfl) (by rfl) (by kernel_rfl) (by decide +kernel) (by decide +kernel) ⟨_, rfl⟩ ?_) | (rename_i g4 hg4 ge hge; refine Qv (fun p => p :: .row g4 [.i 0, .i 0, .i 0, .nil] :: .row ge (Enc.enc v1) :: []) 7 [(0, true), (2, true), (3, true), (1, false), (4, false), (5, true), (6, true), (7, false)] (by rfl) (by rfl) (by kernel_rfl) (by decide +kernel) (by decide +kernel) ⟨_, rfl⟩ ?_) | (rename_i g4 hg4 ge hge; refine Qv (fun p => p :: .row g4 [.i 0, .i 0, .i 0, .nil] :: .row ge (Enc.enc v1) :: []) 5 [(0, true), (2, true), (3, true), (1, false), (4, true), (5, false)] (by rfl) (by rfl) (by kernel_rfl) (by decide +kernel) (by decide +kernel) ⟨_, rfl⟩ ?_) | (refine Qv (fun p => p) 100 [(0, true)] (by rfl) (by rfl) (by kernel_rfl) (by decide +kernel) (by decide +kernel) ⟨_, rfl⟩ ?_) | (refine Qv (fun p => p.1 :: .row g4 [.i 0, .i 0, .i 0, .nil] :: .row g5 [.i 13, .i 0, .i 0, .ref 3 gg 0 o.length 4] :: p.2) 9 [(0, true), (1, true), (2, true), (3, true), (4, true), (5, false), (6, true), (7, false), (8, true), (9, false)] (by rfl) (by rfl) (by kernel_rfl) (by decide +kernel) (by decide +kernel) ⟨(_, _), rfl⟩ ?_) | refine Wm (by rfl) (by kernel_rfl) (by kernel_rfl) ?_ | refine Wl (by kernel_rfl) (by kernel_rfl) ?_) | refine QB ?_ | refine Qq rfl ?_ | refine Qm rfl (by omega) ?_ | refine Qf rfl (by omega) ?_ | refine Qy ?_)) | (refine W6 ?_; (first | refine ZG ?_ | refine i_z0 ?_ | refine i_st rfl rfl (fun _ => (by (repeat' first | (refine Qg ?_; (first | refine QJ rfl ?_ | refine WL rfl rfl ?_ | refine ZD (y := v1) (z := v2) rfl rfl (by decide) ?_ | refine QA rfl rfl ?_)) | exact ⟨rfl, rfl⟩))) ?_ | refine i_ef rfl ?_)) | refine And.intro (Exists.intro (_) rfl) ?_)
    refine e_1 (Tryz.results79) (Qz (size := 4) rfl rfl rfl rfl) ?_
    rw [QQ]
    exact c_ce (by first | rfl | (simp [QW, Ws]; try rfl)) rfl
  ·obtain ⟨hqv1, hE1⟩ := hE2x (a + 1) (L - 1) ⟨by omega, by omega, by omega, by omega⟩
   obtain ⟨fv1, dv1, sv1, wv1, mv1, uv1⟩ := hqv1
   generalize E2 (a + 1) (L - 1) = tv1 at *
   obtain ⟨v1, b1, M1⟩ := tv1
   dsimp only at *
   have spv1 := Q6 v1
   have n6 := QT l (b1) (most := 6) (by decide)
   have n3 := QT l (b1 + 1) (most := 3) (by decide)
   clear hE2x hE1x hsm hrq
   refine ⟨(.mk 16 (atI l b1 6) (atI l (b1 + 1) 3) [v1], b1 + 1 + 1, M1), ?_, fun g B hg => ?_⟩
   ·refine ⟨W8 ⟨5, 0, 5, 2, [4], 0, 0, 0⟩ rfl (by decide) (by decide) (by dsimp only; omega) (by dsimp only; omega) (by first | (simp; done) | (simp; omega)) (kids1 fv1), ?_, ?_, ?_, ?_, ?_⟩
    ·rw [Wj]; (try simp only [Wk]); omega
    ·rw [Qr]; (try simp only [QD]); omega
    ·dsimp only; omega
    ·dsimp only; omega
    ·dsimp only; omega
   ·refine Qa Tryz.func79 rfl Tryz.ntmps79 rfl (t := [(0, .ptr 0 g 0), (1, .i dd)]) rfl fun E0 hE0 => ?_
    (repeat' first | (refine Qg ?_; (first | refine QJ rfl ?_ | refine QN rfl ?_ | refine Qc rfl rfl rfl ?_ | (refine Qo ?_; (first | refine Zj rfl rfl (by omega) ?_ | refine Zb rfl rfl ?_ | refine Q1 rfl rfl ?_ | refine s_rem rfl rfl (by first | omega | exact nn_shr (by omega)) (by omega) ?_)) | (refine Qt ?_; (first | refine Q4 0 (Wo l hl _ _ _ (by omega) (by omega)) rfl rfl rfl rfl ?_ | refine Q4 0 (hE1) rfl rfl rfl rfl ?_)) | (refine Q8 ?_; (first | refine W1 rfl rfl ?_ | refine WO rfl rfl ?_)) | (refine Wg ?_; (first | refine WD rfl rfl rfl rfl ?_ | refine QZ rfl rfl rfl rfl (by rfl) (by rfl) (by rfl) ?_)) | refine Qd rfl rfl ?_ | refine Qp rfl rfl ?_ | refine Qu (fun _ _ => ?_))) | (refine Qk ?_; (first | refine Qi ?_ | refine QK rfl ?_ | refine QR ?_ | refine WM rfl rfl rfl rfl ?_ | refine W7 rfl rfl rfl rfl ?_ | refine Wc rfl rfl (by omega) ?_ | refine Q5 rfl rfl (by omega) ?_)) | (refine Qj ?_; (first | refine Ql ?_ | refine Qb ?_ | refine Qe ?_ | (refine WF ?_; first | (rename_i g4 hg4 ge hge; refine Qv (fun p => p :: .row g4 [.i 0, .i 0, .i 0, .nil] :: .row ge (Enc.enc v1) :: []) 6 [(0, true), (1, true), (2, true), (3, false), (4, true), (5, true), (6, false)] (by rfl) (by rfl) (by kernel_rfl) (by decide +kernel) (by decide +kernel) ⟨_, rfl⟩ ?_) | (rename_i g4 hg4 ge hge; refine Qv (fun p => p :: .row g4 [.i 0, .i 0, .i 0, .nil] :: .row ge (Enc.enc v1) :: []) 9 [(0, true), (1, true), (2, true), (4, true), (5, true), (3, false), (6, false), (7, true), (8, true), (9, false)] (by rfl) (by rfl) (by kernel_rfl) (by decide +kernel) (by decide +kernel) ⟨_, rfl⟩ ?_) | (rename_i g4 hg4 ge hge; refine Qv (fun p => p :: .row g4 [.i 0, .i 0, .i 0, .nil] :: .row ge (Enc.enc v1) :: []) 7 [(0, true), (2, true), (4, true), (5, true), (1, false), (3, false), (6, true), (7, false)] (by rfl) (by rfl) (by kernel_rfl) (by decide +kernel) (by decide +kernel) ⟨_, rfl⟩ ?_) | (rename_i g4 hg4 ge hge; refine Qv (fun p => p :: .row g4 [.i 0, .i 0, .i 0, .nil] :: .row ge (Enc.enc v1) :: []) 7 [(0, true), (2, true), (3, true), (1, false), (4, false), (5, true), (6, true), (7, false)] (by rfl) (by rfl) (by kernel_rfl) (by decide +kernel) (by decide +kernel) ⟨_, rfl⟩ ?_) | (rename_i g4 hg4 ge hge; refine Qv (fun p => p :: .row g4 [.i 0, .i 0, .i 0, .nil] :: .row ge (Enc.enc v1) :: []) 5 [(0, true), (2, true), (3, true), (1, false), (4, true), (5, false)] (by rfl) (by rfl) (by kernel_rfl) (by decide +kernel) (by decide +kernel) ⟨_, rfl⟩ ?_) | (refine Qv (fun p => p) 100 [(0, true)] (by rfl) (by rfl) (by kernel_rfl) (by decide +kernel) (by decide +kernel) ⟨_, rfl⟩ ?_) | (refine Qv (fun p => p.1 :: .row g4 [.i 0, .i 0, .i 0, .nil] :: .row g5 [.i 13, .i 0, .i 0, .ref 3 gg 0 o.length 4] :: p.2) 9 [(0, true), (1, true), (2, true), (3, true), (4, true), (5, false), (6, true), (7, false), (8, true), (9, false)] (by rfl) (by rfl) (by kernel_rfl) (by decide +kernel) (by decide +kernel) ⟨(_, _), rfl⟩ ?_) | refine Wm (by rfl) (by kernel_rfl) (by kernel_rfl) ?_ | refine Wl (by kernel_rfl) (by kernel_rfl) ?_) | refine QB ?_ | refine Qq rfl ?_ | refine Qm rfl (by omega) ?_ | refine Qf rfl (by omega) ?_ | refine Qy ?_)) | (refine W6 ?_; (first | refine ZG ?_ | refine i_z0 ?_ | refine i_st rfl rfl (fun _ => (by (repeat' first | (refine Qg ?_; (first | refine QJ rfl ?_ | refine WL rfl rfl ?_ | refine Q3 (z := v1) rfl rfl (by decide) ?_ | refine QA rfl rfl ?_)) | exact ⟨rfl, rfl⟩))) ?_ | refine i_ef rfl ?_)) | refine And.intro (Exists.intro (_) rfl) ?_)
    refine e_1 (Tryz.results79) (Qz (size := 4) rfl rfl rfl rfl) ?_
    rw [QQ]
    exact c_ce (by first | rfl | (simp [QW, Ws]; try rfl)) rfl
  ·obtain ⟨hqv1, hE1⟩ := hE2x (a + 1) (L - 1) ⟨by omega, by omega, by omega, by omega⟩
   obtain ⟨fv1, dv1, sv1, wv1, mv1, uv1⟩ := hqv1
   generalize E2 (a + 1) (L - 1) = tv1 at *
   obtain ⟨v1, b1, M1⟩ := tv1
   dsimp only at *
   have spv1 := Q6 v1
   clear hE2x hE1x hsm hrq
   refine ⟨(.mk 19 (0) (0) [v1], b1, M1), ?_, fun g B hg => ?_⟩
   ·refine ⟨W8 ⟨5, 0, 0, 0, [4], 0, 0, 0⟩ rfl (by decide) (by decide) (by dsimp only; omega) (by dsimp only; omega) (by first | (simp; done) | (simp; omega)) (kids1 fv1), ?_, ?_, ?_, ?_, ?_⟩
    ·rw [Wj]; (try simp only [Wk]); omega
    ·rw [Qr]; (try simp only [QD]); omega
    ·dsimp only; omega
    ·dsimp only; omega
    ·dsimp only; omega
   ·refine Qa Tryz.func79 rfl Tryz.ntmps79 rfl (t := [(0, .ptr 0 g 0), (1, .i dd)]) rfl fun E0 hE0 => ?_
    (repeat' first | (refine Qg ?_; (first | refine QJ rfl ?_ | refine QN rfl ?_ | (refine QG ?_; (first | refine WL rfl rfl ?_ | refine Qc rfl rfl rfl ?_)) | (refine Qo ?_; (first | refine Zj rfl rfl (by omega) ?_ | refine Zb rfl rfl ?_ | refine Q1 rfl rfl ?_ | refine s_rem rfl rfl (by first | omega | exact nn_shr (by omega)) (by omega) ?_)) | (refine Qt ?_; (first | refine Q4 0 (Wo l hl _ _ _ (by omega) (by omega)) rfl rfl rfl rfl ?_ | refine Q4 0 (hE1) rfl rfl rfl rfl ?_)) | (refine Q8 ?_; (first | refine W1 rfl rfl ?_ | refine WO rfl rfl ?_)) | (refine Wg ?_; (first | refine WD rfl rfl rfl rfl ?_ | refine QZ rfl rfl rfl rfl (by rfl) (by rfl) (by rfl) ?_)) | refine Q3 (z := v1) rfl rfl (by decide) ?_ | refine Qd rfl rfl ?_ | refine QA rfl rfl ?_ | refine Qp rfl rfl ?_ | refine Qu (fun _ _ => ?_))) | (refine Qk ?_; (first | refine Qi ?_ | refine QK rfl ?_ | refine QR ?_ | refine WM rfl rfl rfl rfl ?_ | refine W7 rfl rfl rfl rfl ?_ | refine Wc rfl rfl (by omega) ?_ | refine Q5 rfl rfl (by omega) ?_)) | (refine Qj ?_; (first | refine Ql ?_ | refine Qb ?_ | refine Qe ?_ | refine QB ?_ | refine Qq rfl ?_ | refine Qm rfl (by omega) ?_ | refine Qf rfl (by omega) ?_ | refine Qy ?_)))
    refine e_1 (Tryz.results79) (Qz (size := 4) rfl rfl rfl rfl) ?_
    rw [QQ]
    exact c_ce (by first | rfl | (simp [QW, Ws]; try rfl)) rfl
  ·obtain ⟨hqv1, hE1⟩ := hE2x (a + 1) (L - 1) ⟨by omega, by omega, by omega, by omega⟩
   obtain ⟨fv1, dv1, sv1, wv1, mv1, uv1⟩ := hqv1
   generalize E2 (a + 1) (L - 1) = tv1 at *
   obtain ⟨v1, b1, M1⟩ := tv1
   dsimp only at *
   have spv1 := Q6 v1
   clear hE2x hE1x hsm hrq
   refine ⟨(.mk 20 (0) (0) [v1], b1, M1), ?_, fun g B hg => ?_⟩
   ·refine ⟨W8 ⟨5, 0, 0, 0, [4], 0, 0, 0⟩ rfl (by decide) (by decide) (by dsimp only; omega) (by dsimp only; omega) (by first | (simp; done) | (simp; omega)) (kids1 fv1), ?_, ?_, ?_, ?_, ?_⟩
    ·rw [Wj]; (try simp only [Wk]); omega
    ·rw [Qr]; (try simp only [QD]); omega
    ·dsimp only; omega
    ·dsimp only; omega
    ·dsimp only; omega
   ·refine Qa Tryz.func79 rfl Tryz.ntmps79 rfl (t := [(0, .ptr 0 g 0), (1, .i dd)]) rfl fun E0 hE0 => ?_
    (repeat' first | (refine Qg ?_; (first | refine QJ rfl ?_ | refine QN rfl ?_ | (refine QG ?_; (first | refine WL rfl rfl ?_ | refine Qc rfl rfl rfl ?_)) | (refine Qo ?_; (first | refine Zj rfl rfl (by omega) ?_ | refine Zb rfl rfl ?_ | refine Q1 rfl rfl ?_ | refine s_rem rfl rfl (by first | omega | exact nn_shr (by omega)) (by omega) ?_)) | (refine Qt ?_; (first | refine Q4 0 (Wo l hl _ _ _ (by omega) (by omega)) rfl rfl rfl rfl ?_ | refine Q4 0 (hE1) rfl rfl rfl rfl ?_)) | (refine Q8 ?_; (first | refine W1 rfl rfl ?_ | refine WO rfl rfl ?_)) | (refine Wg ?_; (first | refine WD rfl rfl rfl rfl ?_ | refine QZ rfl rfl rfl rfl (by rfl) (by rfl) (by rfl) ?_)) | refine Q3 (z := v1) rfl rfl (by decide) ?_ | refine Qd rfl rfl ?_ | refine QA rfl rfl ?_ | refine Qp rfl rfl ?_ | refine Qu (fun _ _ => ?_))) | (refine Qk ?_; (first | refine Qi ?_ | refine QK rfl ?_ | refine QR ?_ | refine WM rfl rfl rfl rfl ?_ | refine W7 rfl rfl rfl rfl ?_ | refine Wc rfl rfl (by omega) ?_ | refine Q5 rfl rfl (by omega) ?_)) | (refine Qj ?_; (first | refine Ql ?_ | refine Qb ?_ | refine Qe ?_ | refine QB ?_ | refine Qq rfl ?_ | refine Qm rfl (by omega) ?_ | refine Qf rfl (by omega) ?_ | refine Qy ?_)))
    refine e_1 (Tryz.results79) (Qz (size := 4) rfl rfl rfl rfl) ?_
    rw [QQ]
    exact c_ce (by first | rfl | (simp [QW, Ws]; try rfl)) rfl
  ·obtain ⟨hqv1, hE1⟩ := hE2x (a + 1) (L - 1) ⟨by omega, by omega, by omega, by omega⟩
   obtain ⟨fv1, dv1, sv1, wv1, mv1, uv1⟩ := hqv1
   generalize E2 (a + 1) (L - 1) = tv1 at *
   obtain ⟨v1, b1, M1⟩ := tv1
   dsimp only at *
   have spv1 := Q6 v1
   have n3 := QT l (b1) (most := 3) (by decide)
   clear hE2x hE1x hsm hrq
   refine ⟨(.mk 22 (atI l b1 3) (0) [v1], b1 + 1, M1), ?_, fun g B hg => ?_⟩
   ·refine ⟨W8 ⟨5, 0, 2, 0, [4], 0, 0, 0⟩ rfl (by decide) (by decide) (by dsimp only; omega) (by dsimp only; omega) (by first | (simp; done) | (simp; omega)) (kids1 fv1), ?_, ?_, ?_, ?_, ?_⟩
    ·rw [Wj]; (try simp only [Wk]); omega
    ·rw [Qr]; (try simp only [QD]); omega
    ·dsimp only; omega
    ·dsimp only; omega
    ·dsimp only; omega
   ·refine Qa Tryz.func79 rfl Tryz.ntmps79 rfl (t := [(0, .ptr 0 g 0), (1, .i dd)]) rfl fun E0 hE0 => ?_
    (repeat' first | (refine Qg ?_; (first | refine QJ rfl ?_ | refine QN rfl ?_ | refine Qc rfl rfl rfl ?_ | (refine Qo ?_; (first | refine Zj rfl rfl (by omega) ?_ | refine Zb rfl rfl ?_ | refine Q1 rfl rfl ?_ | refine s_rem rfl rfl (by first | omega | exact nn_shr (by omega)) (by omega) ?_)) | (refine Qt ?_; (first | refine Q4 0 (Wo l hl _ _ _ (by omega) (by omega)) rfl rfl rfl rfl ?_ | refine Q4 0 (hE1) rfl rfl rfl rfl ?_)) | (refine Q8 ?_; (first | refine W1 rfl rfl ?_ | refine WO rfl rfl ?_)) | (refine Wg ?_; (first | refine WD rfl rfl rfl rfl ?_ | refine QZ rfl rfl rfl rfl (by rfl) (by rfl) (by rfl) ?_)) | refine Qd rfl rfl ?_ | refine Qp rfl rfl ?_ | refine Qu (fun _ _ => ?_))) | (refine Qk ?_; (first | refine Qi ?_ | refine QK rfl ?_ | refine QR ?_ | refine WM rfl rfl rfl rfl ?_ | refine W7 rfl rfl rfl rfl ?_ | refine Wc rfl rfl (by omega) ?_ | refine Q5 rfl rfl (by omega) ?_)) | (refine Qj ?_; (first | refine Ql ?_ | refine Qb ?_ | refine Qe ?_ | (refine WF ?_; first | (rename_i g4 hg4 ge hge; refine Qv (fun p => p :: .row g4 [.i 0, .i 0, .i 0, .nil] :: .row ge (Enc.enc v1) :: []) 6 [(0, true), (1, true), (2, true), (3, false), (4, true), (5, true), (6, false)] (by rfl) (by rfl) (by kernel_rfl) (by decide +kernel) (by decide +kernel) ⟨_, rfl⟩ ?_) | (rename_i g4 hg4 ge hge; refine Qv (fun p => p :: .row g4 [.i 0, .i 0, .i 0, .nil] :: .row ge (Enc.enc v1) :: []) 9 [(0, true), (1, true), (2, true), (4, true), (5, true), (3, false), (6, false), (7, true), (8, true), (9, false)] (by rfl) (by rfl) (by kernel_rfl) (by decide +kernel) (by decide +kernel) ⟨_, rfl⟩ ?_) | (rename_i g4 hg4 ge hge; refine Qv (fun p => p :: .row g4 [.i 0, .i 0, .i 0, .nil] :: .row ge (Enc.enc v1) :: []) 7 [(0, true), (2, true), (4, true), (5, true), (1, false), (3, false), (6, true), (7, false)] (by rfl) (by rfl) (by kernel_rfl) (by decide +kernel) (by decide +kernel) ⟨_, rfl⟩ ?_) | (rename_i g4 hg4 ge hge; refine Qv (fun p => p :: .row g4 [.i 0, .i 0, .i 0, .nil] :: .row ge (Enc.enc v1) :: []) 7 [(0, true), (2, true), (3, true), (1, false), (4, false), (5, true), (6, true), (7, false)] (by rfl) (by rfl) (by kernel_rfl) (by decide +kernel) (by decide +kernel) ⟨_, rfl⟩ ?_) | (rename_i g4 hg4 ge hge; refine Qv (fun p => p :: .row g4 [.i 0, .i 0, .i 0, .nil] :: .row ge (Enc.enc v1) :: []) 5 [(0, true), (2, true), (3, true), (1, false), (4, true), (5, false)] (by rfl) (by rfl) (by kernel_rfl) (by decide +kernel) (by decide +kernel) ⟨_, rfl⟩ ?_) | (refine Qv (fun p => p) 100 [(0, true)] (by rfl) (by rfl) (by kernel_rfl) (by decide +kernel) (by decide +kernel) ⟨_, rfl⟩ ?_) | (refine Qv (fun p => p.1 :: .row g4 [.i 0, .i 0, .i 0, .nil] :: .row g5 [.i 13, .i 0, .i 0, .ref 3 gg 0 o.length 4] :: p.2) 9 [(0, true), (1, true), (2, true), (3, true), (4, true), (5, false), (6, true), (7, false), (8, true), (9, false)] (by rfl) (by rfl) (by kernel_rfl) (by decide +kernel) (by decide +kernel) ⟨(_, _), rfl⟩ ?_) | refine Wm (by rfl) (by kernel_rfl) (by kernel_rfl) ?_ | refine Wl (by kernel_rfl) (by kernel_rfl) ?_) | refine QB ?_ | refine Qq rfl ?_ | refine Qm rfl (by omega) ?_ | refine Qf rfl (by omega) ?_ | refine Qy ?_)) | (refine W6 ?_; (first | refine ZG ?_ | refine i_z0 ?_ | refine i_st rfl rfl (fun _ => (by (repeat' first | (refine Qg ?_; (first | refine QJ rfl ?_ | refine WL rfl rfl ?_ | refine Q3 (z := v1) rfl rfl (by decide) ?_ | refine QA rfl rfl ?_)) | exact ⟨rfl, rfl⟩))) ?_ | refine i_ef rfl ?_)) | refine And.intro (Exists.intro (_) rfl) ?_)
    refine e_1 (Tryz.results79) (Qz (size := 4) rfl rfl rfl rfl) ?_
    rw [QQ]
    exact c_ce (by first | rfl | (simp [QW, Ws]; try rfl)) rfl
  ·obtain ⟨hqv1, hE1⟩ := hE2x (a + 1) (L - 1) ⟨by omega, by omega, by omega, by omega⟩
   obtain ⟨fv1, dv1, sv1, wv1, mv1, uv1⟩ := hqv1
   generalize E2 (a + 1) (L - 1) = tv1 at *
   obtain ⟨v1, b1, M1⟩ := tv1
   dsimp only at *
   have spv1 := Q6 v1
   have hS1 := hsm (b1 + 1) M1 ⟨by omega, by omega, by omega, by omega⟩ (by omega) (by omega)
   have hb := QT l (b1 + 1) (most := 4) (by decide)
   obtain ⟨N, hN⟩ : ∃ N : Nat, atI l (b1 + 1) 4 = (N : Int) := ⟨(atI l (b1 + 1) 4).toNat, by omega⟩
   rw [hN, show ((N : Int)).toNat = N by omega, show ((1 : Nat) : Int) + 1 = 2 from rfl] at hS1
   have hq := hrq N (b1 + 1 + 1) M1 (by omega) ⟨by omega, by omega, by omega, by omega⟩ (by omega)
   have hln := runM_len E1 N (b1 + 1 + 1) M1
   obtain ⟨f2, d2, s2, w2, m2, u2⟩ := hq
   generalize runM E1 N (b1 + 1 + 1) M1 = T at *
   obtain ⟨ks, b2, M2⟩ := T
   dsimp only at *
   have hdl := depthL_le d2
   have n6 := QT l (b1) (most := 6) (by decide)
   clear hE2x hE1x hsm hrq
   refine ⟨(.mk 23 (atI l b1 6) (0) ks, b2, M2), ?_, fun g B hg => ?_⟩
   ·refine ⟨W8 ⟨5, 0, 5, 0, [], 3, 0, 4⟩ rfl (by decide) (by decide) (by dsimp only; omega) (by dsimp only; omega) (by first | (simp; done) | (simp; omega)) (kidsA rfl f2), ?_, ?_, ?_, ?_, ?_⟩
    ·rw [Wj]; (try simp only [Wk]); omega
    ·rw [Qr]; (try simp only [QD]); omega
    ·dsimp only; omega
    ·dsimp only; omega
    ·dsimp only; omega
   ·refine Qa Tryz.func79 rfl Tryz.ntmps79 rfl (t := [(0, .ptr 0 g 0), (1, .i dd)]) rfl fun E0 hE0 => ?_
    (repeat' first | (refine Qg ?_; (first | refine QJ rfl ?_ | refine QN rfl ?_ | refine Qc rfl rfl rfl ?_ | (refine Qo ?_; (first | refine Zj rfl rfl (by omega) ?_ | refine Zb rfl rfl ?_ | refine Q1 rfl rfl ?_ | refine s_rem rfl rfl (by first | omega | exact nn_shr (by omega)) (by omega) ?_)) | (refine Qt ?_; (first | refine Q4 0 (Wo l hl _ _ _ (by omega) (by omega)) rfl rfl rfl rfl ?_ | refine Q4 0 (hE1) rfl rfl rfl rfl ?_ | refine Q4 0 (hS1) rfl rfl rfl rfl ?_)) | (refine Q8 ?_; (first | refine W1 rfl rfl ?_ | refine WO rfl rfl ?_)) | (refine Wg ?_; (first | refine WD rfl rfl rfl rfl ?_ | refine QZ rfl rfl rfl rfl (by rfl) (by rfl) (by rfl) ?_)) | refine Qd rfl rfl ?_ | refine QA rfl rfl ?_ | refine Qp rfl rfl ?_ | refine Qu (fun _ _ => ?_))) | (refine Qk ?_; (first | refine Qi ?_ | refine QK rfl ?_ | refine QR ?_ | refine WM rfl rfl rfl rfl ?_ | refine W7 rfl rfl rfl rfl ?_ | refine Wc rfl rfl (by omega) ?_ | refine Q5 rfl rfl (by omega) ?_)) | (refine Qj ?_; (first | refine Ql ?_ | refine Qb ?_ | refine Qe ?_ | refine QB ?_ | refine Qq rfl ?_ | refine Qm rfl (by omega) ?_ | refine Qf rfl (by omega) ?_ | refine Qy ?_)))
    refine e_1 (Tryz.results79) (Qz (size := 4) rfl rfl rfl rfl) ?_
    rw [QQ]
    exact c_ce (by first | rfl | (simp [QW, Ws]; try rfl)) rfl
  ·obtain ⟨hqv1, hE1⟩ := hE2x (a + 1) (L - 1) ⟨by omega, by omega, by omega, by omega⟩
   obtain ⟨fv1, dv1, sv1, wv1, mv1, uv1⟩ := hqv1
   generalize E2 (a + 1) (L - 1) = tv1 at *
   obtain ⟨v1, b1, M1⟩ := tv1
   dsimp only at *
   have spv1 := Q6 v1
   clear hE2x hE1x hsm hrq
   refine ⟨(.mk 24 (0) (0) [v1], b1, M1), ?_, fun g B hg => ?_⟩
   ·refine ⟨W8 ⟨5, 0, 0, 0, [4], 0, 0, 0⟩ rfl (by decide) (by decide) (by dsimp only; omega) (by dsimp only; omega) (by first | (simp; done) | (simp; omega)) (kids1 fv1), ?_, ?_, ?_, ?_, ?_⟩
    ·rw [Wj]; (try simp only [Wk]); omega
    ·rw [Qr]; (try simp only [QD]); omega
    ·dsimp only; omega
    ·dsimp only; omega
    ·dsimp only; omega
   ·refine Qa Tryz.func79 rfl Tryz.ntmps79 rfl (t := [(0, .ptr 0 g 0), (1, .i dd)]) rfl fun E0 hE0 => ?_
    (repeat' first | (refine Qg ?_; (first | refine QJ rfl ?_ | refine QN rfl ?_ | (refine QG ?_; (first | refine WL rfl rfl ?_ | refine Qc rfl rfl rfl ?_)) | (refine Qo ?_; (first | refine Zj rfl rfl (by omega) ?_ | refine Zb rfl rfl ?_ | refine Q1 rfl rfl ?_ | refine s_rem rfl rfl (by first | omega | exact nn_shr (by omega)) (by omega) ?_)) | (refine Qt ?_; (first | refine Q4 0 (Wo l hl _ _ _ (by omega) (by omega)) rfl rfl rfl rfl ?_ | refine Q4 0 (hE1) rfl rfl rfl rfl ?_)) | (refine Q8 ?_; (first | refine W1 rfl rfl ?_ | refine WO rfl rfl ?_)) | (refine Wg ?_; (first | refine WD rfl rfl rfl rfl ?_ | refine QZ rfl rfl rfl rfl (by rfl) (by rfl) (by rfl) ?_)) | refine Q3 (z := v1) rfl rfl (by decide) ?_ | refine Qd rfl rfl ?_ | refine QA rfl rfl ?_ | refine Qp rfl rfl ?_ | refine Qu (fun _ _ => ?_))) | (refine Qk ?_; (first | refine Qi ?_ | refine QK rfl ?_ | refine QR ?_ | refine WM rfl rfl rfl rfl ?_ | refine W7 rfl rfl rfl rfl ?_ | refine Wc rfl rfl (by omega) ?_ | refine Q5 rfl rfl (by omega) ?_)) | (refine Qj ?_; (first | refine Ql ?_ | refine Qb ?_ | refine Qe ?_ | refine QB ?_ | refine Qq rfl ?_ | refine Qm rfl (by omega) ?_ | refine Qf rfl (by omega) ?_ | refine Qy ?_)))
    refine e_1 (Tryz.results79) (Qz (size := 4) rfl rfl rfl rfl) ?_
    rw [QQ]
    exact c_ce (by first | rfl | (simp [QW, Ws]; try rfl)) rfl
  ·obtain ⟨hqv1, hE1⟩ := hE2x (a + 1) (L - 1) ⟨by omega, by omega, by omega, by omega⟩
   obtain ⟨fv1, dv1, sv1, wv1, mv1, uv1⟩ := hqv1
   generalize E2 (a + 1) (L - 1) = tv1 at *
   obtain ⟨v1, b1, M1⟩ := tv1
   dsimp only at *
   have spv1 := Q6 v1
   clear hE2x hE1x hsm hrq
   refine ⟨(.mk 25 (0) (0) [], b1, M1), ?_, fun g B hg => ?_⟩
   ·refine ⟨W8 ⟨5, 0, 0, 0, [], 0, 0, 0⟩ rfl (by decide) (by decide) (by dsimp only; omega) (by dsimp only; omega) (by first | (simp; done) | (simp; omega)) (kids0), ?_, ?_, ?_, ?_, ?_⟩
    ·rw [Wj]; (try simp only [Wk]); omega
    ·rw [Qr]; (try simp only [QD]); omega
    ·dsimp only; omega
    ·dsimp only; omega
    ·dsimp only; omega
   ·refine Qa Tryz.func79 rfl Tryz.ntmps79 rfl (t := [(0, .ptr 0 g 0), (1, .i dd)]) rfl fun E0 hE0 => ?_
    (repeat' first | (refine Qg ?_; (first | refine QJ rfl ?_ | refine QN rfl ?_ | refine Qc rfl rfl rfl ?_ | (refine Qo ?_; (first | refine Zj rfl rfl (by omega) ?_ | refine Zb rfl rfl ?_ | refine Q1 rfl rfl ?_ | refine s_rem rfl rfl (by first | omega | exact nn_shr (by omega)) (by omega) ?_)) | (refine Qt ?_; (first | refine Q4 0 (Wo l hl _ _ _ (by omega) (by omega)) rfl rfl rfl rfl ?_ | refine Q4 0 (hE1) rfl rfl rfl rfl ?_)) | (refine Q8 ?_; (first | refine W1 rfl rfl ?_ | refine WO rfl rfl ?_)) | (refine Wg ?_; (first | refine WD rfl rfl rfl rfl ?_ | refine QZ rfl rfl rfl rfl (by rfl) (by rfl) (by rfl) ?_)) | refine Qd rfl rfl ?_ | refine QA rfl rfl ?_ | refine Qp rfl rfl ?_ | refine Qu (fun _ _ => ?_))) | (refine Qk ?_; (first | refine Qi ?_ | refine QK rfl ?_ | refine QR ?_ | refine WM rfl rfl rfl rfl ?_ | refine W7 rfl rfl rfl rfl ?_ | refine Wc rfl rfl (by omega) ?_ | refine Q5 rfl rfl (by omega) ?_)) | (refine Qj ?_; (first | refine Ql ?_ | refine Qb ?_ | refine Qe ?_ | refine QB ?_ | refine Qq rfl ?_ | refine Qm rfl (by omega) ?_ | refine Qf rfl (by omega) ?_ | refine Qy ?_)))
    exact e_1 (Tryz.results79) (Qz (size := 4) rfl rfl rfl rfl) (WN (es := 4) (.node rfl rfl rfl) (by show _ = DV.agg (Enc.enc (Nd.mk _ _ _ [])); rw [QQ]; rfl) rfl)
theorem chStmt (l : List Int) (hl : OkI l) : ∀ (e : Nat), e <= 8 -> ∃ S : GenF, ∀ a L, preS a L -> QE 5 (2 * e + 4) 5 (7 + e) (S a L).1 a L (S a L).2.1 (S a L).2.2 /\ CE Tryz.prog G 79 (fun p g => [.ptr p g 0, .i ((e : Int) - 1)]) (genC l a L) (.agg (Enc.enc (S a L).1)) (genC l (S a L).2.1 (S a L).2.2) := by
 obtain ⟨E2, hE2x⟩ := chExpr (G := G) l hl 2 (by decide)
 obtain ⟨E1, hE1x⟩ := chExpr (G := G) l hl 1 (by decide)
 intro e
 induction e with
 | zero =>
  intro _
  refine gen_skolem (pre := preS) (R := fun a L t => QE 5 (2 * 0 + 4) 5 (7 + (0 : Nat)) t.1 a L t.2.1 t.2.2 /\ CE Tryz.prog G 79 (fun p g => [.ptr p g 0, .i (((0 : Nat) : Int) - 1)]) (genC l a L) (.agg (Enc.enc t.1)) (genC l t.2.1 t.2.2)) fun a L h => ?_
  have bx := QT l a (most := 14) (by decide)
  exact chLeafS l hl E2 E1 hE2x hE1x (((0 : Nat) : Int) - 1) a L (atI l a 14 % 10) h (.inl ⟨by decide, rfl⟩) (by omega)
 | succ e ih =>
 intro he
 obtain ⟨S, hS⟩ := ih (by omega)
 refine gen_skolem (pre := preS) (R := fun a L t => QE 5 (2 * (e + 1) + 4) 5 (7 + (e + 1 : Nat)) t.1 a L t.2.1 t.2.2 /\ CE Tryz.prog G 79 (fun p g => [.ptr p g 0, .i (((e + 1 : Nat) : Int) - 1)]) (genC l a L) (.agg (Enc.enc t.1)) (genC l t.2.1 t.2.2)) fun a L h => ?_
 have bx := QT l a (most := 14) (by decide)
 have lift : (∃ t : Nd × Int × Int, QE 5 4 5 7 t.1 a L t.2.1 t.2.2 /\ CE Tryz.prog G 79 (fun p g => [.ptr p g 0, .i (((e + 1 : Nat) : Int) - 1)]) (genC l a L) (.agg (Enc.enc t.1)) (genC l t.2.1 t.2.2)) -> ∃ t : Nd × Int × Int, QE 5 (2 * (e + 1) + 4) 5 (7 + (e + 1 : Nat)) t.1 a L t.2.1 t.2.2 /\ CE Tryz.prog G 79 (fun p g => [.ptr p g 0, .i (((e + 1 : Nat) : Int) - 1)]) (genC l a L) (.agg (Enc.enc t.1)) (genC l t.2.1 t.2.2) := fun ⟨t, hq, hc⟩ => by
  have q1 := hq.low
  have q2 := hq.dep
  exact ⟨t, ⟨hq.fit, by omega, hq.size, by omega, hq.mono, hq.used⟩, hc⟩
 by_cases hd0 : ((e + 1 : Nat) : Int) - 1 <= 0
 ·exact lift (chLeafS l hl E2 E1 hE2x hE1x _ a L (atI l a 14 % 10) h (.inl ⟨hd0, rfl⟩) (by omega))
 by_cases hlf : L - 1 <= 0
 ·exact lift (chLeafS l hl E2 E1 hE2x hE1x _ a L (atI l a 14 % 10) h (.inr (.inl ⟨by omega, hlf, rfl⟩)) (by omega))
 by_cases hx9 : atI l a 14 <= 9
 ·exact lift (chLeafS l hl E2 E1 hE2x hE1x _ a L (atI l a 14) h (.inr (.inr ⟨by omega, by omega, rfl⟩)) (by omega))
 clear lift
 obtain ⟨Bk, hBk⟩ := chBlock (G := G) l hl e (by omega) S hS
 obtain ⟨p1, p2, p3, p4⟩ := h
 have hed : ((e + 1 : Nat) : Int) - 1 = (e : Nat) := by omega
 rw [hed] at hd0 ⊢
 have hxx : atI l a 14 = 10 \/ atI l a 14 = 11 \/ atI l a 14 = 12 \/ atI l a 14 = 13 := by omega
 generalize hdd : ((e : Nat) : Int) = dd at *
 rcases hxx with hx | hx | hx | hx
 ·obtain ⟨hqv1, hE1⟩ := hE2x (a + 1) (L - 1) ⟨by omega, by omega, by omega, by omega⟩
  obtain ⟨fv1, dv1, sv1, wv1, mv1, uv1⟩ := hqv1
  generalize E2 (a + 1) (L - 1) = tv1 at *
  obtain ⟨v1, b1, M1⟩ := tv1
  dsimp only at *
  have spv1 := Q6 v1
  obtain ⟨hqw1, hB1⟩ := hBk (b1) (M1) ⟨by omega, by omega, by omega, by omega⟩
  obtain ⟨fw1, dw1, sw1, ww1, mw1, uw1⟩ := hqw1
  generalize Bk (b1) (M1) = tw1 at *
  obtain ⟨w1, c1, K1⟩ := tw1
  dsimp only at *
  have spw1 := Q6 w1
  obtain ⟨hqw2, hB2⟩ := hBk (c1) (K1) ⟨by omega, by omega, by omega, by omega⟩
  obtain ⟨fw2, dw2, sw2, ww2, mw2, uw2⟩ := hqw2
  generalize Bk (c1) (K1) = tw2 at *
  obtain ⟨w2, c2, K2⟩ := tw2
  dsimp only at *
  have spw2 := Q6 w2
  clear hE2x hE1x hS hBk ih
  refine ⟨(.mk 17 (0) (0) [v1, w1, w2], c2, K2), ?_, fun g B hg => ?_⟩
  ·refine ⟨W8 ⟨5, 0, 0, 0, [4, 6, 6], 0, 0, 0⟩ rfl (by decide) (by decide) (by dsimp only; omega) (by dsimp only; omega) (by first | (simp; done) | (simp; omega)) (kids3 fv1 fw1 fw2), ?_, ?_, ?_, ?_, ?_⟩
   ·rw [Wj]; (try simp only [Wk]); omega
   ·rw [Qr]; (try simp only [QD]); omega
   ·dsimp only; omega
   ·dsimp only; omega
   ·dsimp only; omega
  ·refine Qa Tryz.func79 rfl Tryz.ntmps79 rfl (t := [(0, .ptr 0 g 0), (1, .i dd)]) rfl fun E0 hE0 => ?_
   (repeat' first | (refine Qg ?_; (first | refine QJ rfl ?_ | refine QN rfl ?_ | refine Qc rfl rfl rfl ?_ | (refine Qo ?_; (first | refine Zj rfl rfl (by omega) ?_ | refine Zb rfl rfl ?_ | refine Q1 rfl rfl ?_)) | (refine Qt ?_; (first | refine Q4 0 (Wo l hl _ _ _ (by omega) (by omega)) rfl rfl rfl rfl ?_ | refine Q4 0 (hE1) rfl rfl rfl rfl ?_ | refine Q4 0 (hB1) rfl rfl rfl rfl ?_ | refine Q4 0 (hB2) rfl rfl rfl rfl ?_)) | refine WO rfl rfl ?_ | (refine Wg ?_; (first | refine WD rfl rfl rfl rfl ?_ | refine QZ rfl rfl rfl rfl (by rfl) (by rfl) (by rfl) ?_)) | refine Qd rfl rfl ?_ | refine Qp rfl rfl ?_ | refine Qu (fun _ _ => ?_))) | (refine Qk ?_; (first | refine Qi ?_ | refine QK rfl ?_ | refine QR ?_ | refine WM rfl rfl rfl rfl ?_ | refine Q5 rfl rfl (by omega) ?_)) | (refine Qj ?_; (first | refine Ql ?_ | refine Qb ?_ | refine Qe ?_ | (refine WF ?_; first | (rename_i g4 hg4 ge hge; refine Qv (fun p => p :: .row g4 [.i 0, .i 0, .i 0, .nil] :: .row ge (Enc.enc v1) :: []) 6 [(0, true), (1, true), (2, true), (3, false), (4, true), (5, true), (6, false)] (by rfl) (by rfl) (by kernel_rfl) (by decide +kernel) (by decide +kernel) ⟨_, rfl⟩ ?_) | (rename_i g4 hg4 ge hge; refine Qv (fun p => p :: .row g4 [.i 0, .i 0, .i 0, .nil] :: .row ge (Enc.enc v1) :: []) 9 [(0, true), (1, true), (2, true), (4, true), (5, true), (3, false), (6, false), (7, true), (8, true), (9, false)] (by rfl) (by rfl) (by kernel_rfl) (by decide +kernel) (by decide +kernel) ⟨_, rfl⟩ ?_) | (rename_i g4 hg4 ge hge; refine Qv (fun p => p :: .row g4 [.i 0, .i 0, .i 0, .nil] :: .row ge (Enc.enc v1) :: []) 7 [(0, true), (2, true), (4, true), (5, true), (1, false), (3, false), (6, true), (7, false)] (by rfl) (by rfl) (by kernel_rfl) (by decide +kernel) (by decide +kernel) ⟨_, rfl⟩ ?_) | (rename_i g4 hg4 ge hge; refine Qv (fun p => p :: .row g4 [.i 0, .i 0, .i 0, .nil] :: .row ge (Enc.enc v1) :: []) 7 [(0, true), (2, true), (3, true), (1, false), (4, false), (5, true), (6, true), (7, false)] (by rfl) (by rfl) (by kernel_rfl) (by decide +kernel) (by decide +kernel) ⟨_, rfl⟩ ?_) | (rename_i g4 hg4 ge hge; refine Qv (fun p => p :: .row g4 [.i 0, .i 0, .i 0, .nil] :: .row ge (Enc.enc v1) :: []) 5 [(0, true), (2, true), (3, true), (1, false), (4, true), (5, false)] (by rfl) (by rfl) (by kernel_rfl) (by decide +kernel) (by decide +kernel) ⟨_, rfl⟩ ?_) | (refine Qv (fun p => p) 100 [(0, true)] (by rfl) (by rfl) (by kernel_rfl) (by decide +kernel) (by decide +kernel) ⟨_, rfl⟩ ?_) | (refine Qv (fun p => p.1 :: .row g4 [.i 0, .i 0, .i 0, .nil] :: .row g5 [.i 13, .i 0, .i 0, .ref 3 gg 0 o.length 4] :: p.2) 9 [(0, true), (1, true), (2, true), (3, true), (4, true), (5, false), (6, true), (7, false), (8, true), (9, false)] (by rfl) (by rfl) (by kernel_rfl) (by decide +kernel) (by decide +kernel) ⟨(_, _), rfl⟩ ?_) | refine Wm (by rfl) (by kernel_rfl) (by kernel_rfl) ?_ | refine Wl (by kernel_rfl) (by kernel_rfl) ?_) | refine QB ?_ | refine Qm rfl (by omega) ?_ | refine Qf rfl (by omega) ?_ | refine Qy ?_)) | (refine W6 ?_; (first | refine ZG ?_ | refine i_z0 ?_ | refine i_st rfl rfl (fun _ => (by (repeat' first | (refine Qg ?_; (first | refine QJ rfl ?_ | refine WL rfl rfl ?_ | refine s_bslice_three (x := v1) (y := w1) (z := w2) rfl rfl (by decide) ?_ | refine QA rfl rfl ?_)) | exact ⟨rfl, rfl⟩))) ?_ | refine i_ef rfl ?_)) | refine And.intro (Exists.intro (_) rfl) ?_)
   refine e_1 (Tryz.results79) (Qz (size := 4) rfl rfl rfl rfl) ?_
   rw [QQ]
   exact c_ce (by first | rfl | (simp [QW, Ws]; try rfl)) rfl
 ·obtain ⟨hqv1, hE1⟩ := hE2x (a + 1) (L - 1) ⟨by omega, by omega, by omega, by omega⟩
  obtain ⟨fv1, dv1, sv1, wv1, mv1, uv1⟩ := hqv1
  generalize E2 (a + 1) (L - 1) = tv1 at *
  obtain ⟨v1, b1, M1⟩ := tv1
  dsimp only at *
  have spv1 := Q6 v1
  obtain ⟨hqw1, hB1⟩ := hBk (b1) (M1) ⟨by omega, by omega, by omega, by omega⟩
  obtain ⟨fw1, dw1, sw1, ww1, mw1, uw1⟩ := hqw1
  generalize Bk (b1) (M1) = tw1 at *
  obtain ⟨w1, c1, K1⟩ := tw1
  dsimp only at *
  have spw1 := Q6 w1
  clear hE2x hE1x hS hBk ih
  refine ⟨(.mk 18 (0) (0) [v1, w1], c1, K1), ?_, fun g B hg => ?_⟩
  ·refine ⟨W8 ⟨5, 0, 0, 0, [4, 6], 0, 0, 0⟩ rfl (by decide) (by decide) (by dsimp only; omega) (by dsimp only; omega) (by first | (simp; done) | (simp; omega)) (kids2 fv1 fw1), ?_, ?_, ?_, ?_, ?_⟩
   ·rw [Wj]; (try simp only [Wk]); omega
   ·rw [Qr]; (try simp only [QD]); omega
   ·dsimp only; omega
   ·dsimp only; omega
   ·dsimp only; omega
  ·refine Qa Tryz.func79 rfl Tryz.ntmps79 rfl (t := [(0, .ptr 0 g 0), (1, .i dd)]) rfl fun E0 hE0 => ?_
   (repeat' first | (refine Qg ?_; (first | refine QJ rfl ?_ | refine QN rfl ?_ | refine Qc rfl rfl rfl ?_ | (refine Qo ?_; (first | refine Zj rfl rfl (by omega) ?_ | refine Zb rfl rfl ?_ | refine Q1 rfl rfl ?_)) | (refine Qt ?_; (first | refine Q4 0 (Wo l hl _ _ _ (by omega) (by omega)) rfl rfl rfl rfl ?_ | refine Q4 0 (hE1) rfl rfl rfl rfl ?_ | refine Q4 0 (hB1) rfl rfl rfl rfl ?_)) | refine WO rfl rfl ?_ | (refine Wg ?_; (first | refine WD rfl rfl rfl rfl ?_ | refine QZ rfl rfl rfl rfl (by rfl) (by rfl) (by rfl) ?_)) | refine Qd rfl rfl ?_ | refine Qp rfl rfl ?_ | refine Qu (fun _ _ => ?_))) | (refine Qk ?_; (first | refine Qi ?_ | refine QK rfl ?_ | refine QR ?_ | refine WM rfl rfl rfl rfl ?_ | refine Q5 rfl rfl (by omega) ?_)) | (refine Qj ?_; (first | refine Ql ?_ | refine Qb ?_ | refine Qe ?_ | (refine WF ?_; first | (rename_i g4 hg4 ge hge; refine Qv (fun p => p :: .row g4 [.i 0, .i 0, .i 0, .nil] :: .row ge (Enc.enc v1) :: []) 6 [(0, true), (1, true), (2, true), (3, false), (4, true), (5, true), (6, false)] (by rfl) (by rfl) (by kernel_rfl) (by decide +kernel) (by decide +kernel) ⟨_, rfl⟩ ?_) | (rename_i g4 hg4 ge hge; refine Qv (fun p => p :: .row g4 [.i 0, .i 0, .i 0, .nil] :: .row ge (Enc.enc v1) :: []) 9 [(0, true), (1, true), (2, true), (4, true), (5, true), (3, false), (6, false), (7, true), (8, true), (9, false)] (by rfl) (by rfl) (by kernel_rfl) (by decide +kernel) (by decide +kernel) ⟨_, rfl⟩ ?_) | (rename_i g4 hg4 ge hge; refine Qv (fun p => p :: .row g4 [.i 0, .i 0, .i 0, .nil] :: .row ge (Enc.enc v1) :: []) 7 [(0, true), (2, true), (4, true), (5, true), (1, false), (3, false), (6, true), (7, false)] (by rfl) (by rfl) (by kernel_rfl) (by decide +kernel) (by decide +kernel) ⟨_, rfl⟩ ?_) | (rename_i g4 hg4 ge hge; refine Qv (fun p => p :: .row g4 [.i 0, .i 0, .i 0, .nil] :: .row ge (Enc.enc v1) :: []) 7 [(0, true), (2, true), (3, true), (1, false), (4, false), (5, true), (6, true), (7, false)] (by rfl) (by rfl) (by kernel_rfl) (by decide +kernel) (by decide +kernel) ⟨_, rfl⟩ ?_) | (rename_i g4 hg4 ge hge; refine Qv (fun p => p :: .row g4 [.i 0, .i 0, .i 0, .nil] :: .row ge (Enc.enc v1) :: []) 5 [(0, true), (2, true), (3, true), (1, false), (4, true), (5, false)] (by rfl) (by rfl) (by kernel_rfl) (by decide +kernel) (by decide +kernel) ⟨_, rfl⟩ ?_) | (refine Qv (fun p => p) 100 [(0, true)] (by rfl) (by rfl) (by kernel_rfl) (by decide +kernel) (by decide +kernel) ⟨_, rfl⟩ ?_) | (refine Qv (fun p => p.1 :: .row g4 [.i 0, .i 0, .i 0, .nil] :: .row g5 [.i 13, .i 0, .i 0, .ref 3 gg 0 o.length 4] :: p.2) 9 [(0, true), (1, true), (2, true), (3, true), (4, true), (5, false), (6, true), (7, false), (8, true), (9, false)] (by rfl) (by rfl) (by kernel_rfl) (by decide +kernel) (by decide +kernel) ⟨(_, _), rfl⟩ ?_) | refine Wm (by rfl) (by kernel_rfl) (by kernel_rfl) ?_ | refine Wl (by kernel_rfl) (by kernel_rfl) ?_) | refine QB ?_ | refine Qm rfl (by omega) ?_ | refine Qf rfl (by omega) ?_ | refine Qy ?_)) | (refine W6 ?_; (first | refine ZG ?_ | refine i_z0 ?_ | refine i_st rfl rfl (fun _ => (by (repeat' first | (refine Qg ?_; (first | refine QJ rfl ?_ | refine WL rfl rfl ?_ | refine ZD (y := v1) (z := w1) rfl rfl (by decide) ?_ | refine QA rfl rfl ?_)) | exact ⟨rfl, rfl⟩))) ?_ | refine i_ef rfl ?_)) | refine And.intro (Exists.intro (_) rfl) ?_)
   refine e_1 (Tryz.results79) (Qz (size := 4) rfl rfl rfl rfl) ?_
   rw [QQ]
   exact c_ce (by first | rfl | (simp [QW, Ws]; try rfl)) rfl
 ·obtain ⟨hqv1, hE1⟩ := hE2x (a + 1) (L - 1) ⟨by omega, by omega, by omega, by omega⟩
  obtain ⟨fv1, dv1, sv1, wv1, mv1, uv1⟩ := hqv1
  generalize E2 (a + 1) (L - 1) = tv1 at *
  obtain ⟨v1, b1, M1⟩ := tv1
  dsimp only at *
  have spv1 := Q6 v1
  have n6 := QT l (b1) (most := 6) (by decide)
  obtain ⟨hqw1, hB1⟩ := hBk (b1 + 1) (M1) ⟨by omega, by omega, by omega, by omega⟩
  obtain ⟨fw1, dw1, sw1, ww1, mw1, uw1⟩ := hqw1
  generalize Bk (b1 + 1) (M1) = tw1 at *
  obtain ⟨w1, c1, K1⟩ := tw1
  dsimp only at *
  have spw1 := Q6 w1
  obtain ⟨hqw2, hB2⟩ := hBk (c1) (K1) ⟨by omega, by omega, by omega, by omega⟩
  obtain ⟨fw2, dw2, sw2, ww2, mw2, uw2⟩ := hqw2
  generalize Bk (c1) (K1) = tw2 at *
  obtain ⟨w2, c2, K2⟩ := tw2
  dsimp only at *
  have spw2 := Q6 w2
  clear hE2x hE1x hS hBk ih
  refine ⟨(.mk 21 (atI l b1 6) (0) [w1, w2], c2, K2), ?_, fun g B hg => ?_⟩
  ·refine ⟨W8 ⟨5, 0, 5, 0, [6, 6], 0, 0, 0⟩ rfl (by decide) (by decide) (by dsimp only; omega) (by dsimp only; omega) (by first | (simp; done) | (simp; omega)) (kids2 fw1 fw2), ?_, ?_, ?_, ?_, ?_⟩
   ·rw [Wj]; (try simp only [Wk]); omega
   ·rw [Qr]; (try simp only [QD]); omega
   ·dsimp only; omega
   ·dsimp only; omega
   ·dsimp only; omega
  ·refine Qa Tryz.func79 rfl Tryz.ntmps79 rfl (t := [(0, .ptr 0 g 0), (1, .i dd)]) rfl fun E0 hE0 => ?_
   (repeat' first | (refine Qg ?_; (first | refine QJ rfl ?_ | refine QN rfl ?_ | refine Qc rfl rfl rfl ?_ | (refine Qo ?_; (first | refine Zj rfl rfl (by omega) ?_ | refine Zb rfl rfl ?_ | refine Q1 rfl rfl ?_)) | (refine Qt ?_; (first | refine Q4 0 (Wo l hl _ _ _ (by omega) (by omega)) rfl rfl rfl rfl ?_ | refine Q4 0 (hE1) rfl rfl rfl rfl ?_ | refine Q4 0 (hB1) rfl rfl rfl rfl ?_ | refine Q4 0 (hB2) rfl rfl rfl rfl ?_)) | refine WO rfl rfl ?_ | (refine Wg ?_; (first | refine WD rfl rfl rfl rfl ?_ | refine QZ rfl rfl rfl rfl (by rfl) (by rfl) (by rfl) ?_)) | refine ZD (y := w1) (z := w2) rfl rfl (by decide) ?_ | refine Qd rfl rfl ?_ | refine QA rfl rfl ?_ | refine Qp rfl rfl ?_ | refine Qu (fun _ _ => ?_))) | (refine Qk ?_; (first | refine Qi ?_ | refine QK rfl ?_ | refine QR ?_ | refine WM rfl rfl rfl rfl ?_ | refine Q5 rfl rfl (by omega) ?_)) | (refine Qj ?_; (first | refine Ql ?_ | refine Qb ?_ | refine Qe ?_ | refine QB ?_ | refine Qm rfl (by omega) ?_ | refine Qf rfl (by omega) ?_ | refine Qy ?_)))
   refine e_1 (Tryz.results79) (Qz (size := 4) rfl rfl rfl rfl) ?_
   rw [QQ]
   exact c_ce (by first | rfl | (simp [QW, Ws]; try rfl)) rfl
 ·obtain ⟨hqv1, hE1⟩ := hE2x (a + 1) (L - 1) ⟨by omega, by omega, by omega, by omega⟩
  obtain ⟨fv1, dv1, sv1, wv1, mv1, uv1⟩ := hqv1
  generalize E2 (a + 1) (L - 1) = tv1 at *
  obtain ⟨v1, b1, M1⟩ := tv1
  dsimp only at *
  have spv1 := Q6 v1
  obtain ⟨hqw1, hB1⟩ := hBk (b1) (M1) ⟨by omega, by omega, by omega, by omega⟩
  obtain ⟨fw1, dw1, sw1, ww1, mw1, uw1⟩ := hqw1
  generalize Bk (b1) (M1) = tw1 at *
  obtain ⟨w1, c1, K1⟩ := tw1
  dsimp only at *
  have spw1 := Q6 w1
  clear hE2x hE1x hS hBk ih
  refine ⟨(w1, c1, K1), ⟨fit_block fw1, by dsimp only; omega, by dsimp only; omega, by dsimp only; omega, by dsimp only; omega, by dsimp only; omega⟩, fun g B hg => ?_⟩
  refine Qa Tryz.func79 rfl Tryz.ntmps79 rfl (t := [(0, .ptr 0 g 0), (1, .i dd)]) rfl fun E0 hE0 => ?_
  (repeat' first | (refine Qg ?_; (first | refine QJ rfl ?_ | refine QN rfl ?_ | refine Qc rfl rfl rfl ?_ | (refine Qo ?_; (first | refine Zj rfl rfl (by omega) ?_ | refine Zb rfl rfl ?_ | refine Q1 rfl rfl ?_)) | (refine Qt ?_; (first | refine Q4 0 (Wo l hl _ _ _ (by omega) (by omega)) rfl rfl rfl rfl ?_ | refine Q4 0 (hE1) rfl rfl rfl rfl ?_ | refine Q4 0 (hB1) rfl rfl rfl rfl ?_)) | refine WO rfl rfl ?_ | (refine Wg ?_; (first | refine WD rfl rfl rfl rfl ?_ | refine QZ rfl rfl rfl rfl (by rfl) (by rfl) (by rfl) ?_)) | refine Qd rfl rfl ?_ | refine Qp rfl rfl ?_ | refine Qu (fun _ _ => ?_))) | (refine Qk ?_; (first | refine Qi ?_ | refine QK rfl ?_ | refine QR ?_ | refine WM rfl rfl rfl rfl ?_ | refine Q5 rfl rfl (by omega) ?_)) | (refine Qj ?_; (first | refine Ql ?_ | refine Qb ?_ | refine Qe ?_ | refine QB ?_ | refine Qf rfl (by omega) ?_ | refine Qy ?_)))
  exact e_1 (Tryz.results79) (Qz (size := 4) rfl rfl (partD_nd0 _) (Enc.len _)) (c_ce rfl rfl)
end Go.Proofs
end
section
namespace Go.Av
open Go.Bl
section
variable {P : Program} {G : Nat -> DV} {B : Nat} {f : Operand -> DV} {σ : List ABlk} {K : DV -> List ABlk -> Prop} {dst : Option Tmp} {type : TypeId} {pos : String} {after : Array Edge} {gd : Option (Nat × Bool)}
theorem OpSem.dsub {o : Oper} {K1 : DV -> List ABlk -> Prop} (h : OpSem P G B o f σ K1) (k : ∀ d σ', K1 d σ' -> ∃ d2, DSub d d2 /\ K d2 σ') : OpSem P G B o f σ K := fun X ρ hS hσ hB hG hf => by
 have hh := h X ρ hS hσ hB hG hf
 have ap : ∀ v w', APost X K1 v w' -> APost X K v w' := by
  rintro v w' ⟨Y, h1, h2, h3, d, h4, h5⟩
  obtain ⟨d2, hd, hk⟩ := k d Y.σ h5
  exact ⟨Y, h1, h2, h3, d2, hd.rep h4, hk⟩
 generalize (execOp ρ o).run P X.w = r at *
 match r, hh with
 | .ok (.value v) w', hh => exact ap v w' hh
 | .ok .skip w', hh => exact ap undef w' hh
 | .ok (.enter f args) w', hh => exact ⟨hh.1, hh.2.mono fun e w2 ⟨v, he, hv⟩ => ⟨v, he, ap v w2 hv⟩⟩
theorem s_build_nd {t : TypeId} {pl : List (Nat × Nat)} {zs : List Value} {ps : List (Nat × Operand)} {m : List (Nat × DV)} {k n mm : Int} [ht : TyS P t pl] [hz : TyZ P t zs] (hp : partsD f ps = some m) (hc : fillD (pl[·]?) (zs.map .sc) m = some [.i k, .i n, .i mm, .sc (.slice none 0 0)]) (kk : K (.agg (Enc.enc (Nd.mk k n mm []))) σ) :
  OpSem P G B ⟨dst, .build t ps.toArray, type, pos, after, gd⟩ f σ K := by
 refine (QA (K := fun d σ' => d = .agg [.i k, .i n, .i mm, .sc (.slice none 0 0)] /\ σ' = σ) hp hc ⟨rfl, rfl⟩).dsub ?_
 rintro d σ' ⟨rfl, rfl⟩
 refine ⟨_, ?_, kk⟩
 rw [QQ]
 exact .agg _ _ rfl (qm (.refl _) (qm (.refl _) (qm (.refl _) (qm (.nil 4) dsub_nil))))
end
end Go.Av
end
section
namespace Go.Proofs
open Go.Av
variable {G : Nat -> DV}
attribute [local irreducible] OpSem Za Zv qc ACalls AEnd AClose RV
open Go.Bl
def kindV (l : List Int) (a : Int) : Nd × Int :=
 if atI l a 4 = 0 then (.mk 1 0 0 [], a + 1) else if atI l a 4 = 1 then (.mk 2 (1 + atI l (a + 1) 4) 0 [], a + 1 + 1)
 else if atI l a 4 = 2 then (.mk 3 0 0 [.mk (atI l (a + 1) 2) 0 0 [], .mk (atI l (a + 1 + 1) 2) 0 0 []], a + 1 + 1 + 1) else (.mk 0 0 0 [], a + 1)
theorem fit_plain {k : Int} (h : k = 0 \/ k = 1) {w : Int} (hw : w = 2 \/ w = 3) : Q2 (.mk k 0 0 []) w = true := by
 rcases h with rfl | rfl <;> rcases hw with rfl | rfl <;> decide
theorem kind_ok (l : List Int) (a : Int) : Q2 (kindV l a).1 2 = true /\ Wj (kindV l a).1 <= 2 /\ Qr (kindV l a).1 <= 3 /\ a + 1 <= (kindV l a).2 /\ (kindV l a).2 <= a + 3 := by
 have b4 := QT l (a + 1) (most := 4) (by decide)
 have bA := QT l (a + 1) (most := 2) (by decide)
 have bB := QT l (a + 1 + 1) (most := 2) (by decide)
 unfold kindV
 repeat' split
 ·refine ⟨fit_plain (.inr rfl) (.inl rfl), ?_, ?_, ?_, ?_⟩
  ·simp [Wj, Wk]
  ·simp [Qr, QD]
  ·dsimp only; omega
  ·dsimp only; omega
 ·refine ⟨W8 ⟨2, 1, 4, 0, [], 0, 0, 0⟩ rfl (by decide) (by decide) (by dsimp only; omega) (by decide) (by simp) kids0, ?_, ?_, ?_, ?_⟩
  ·simp [Wj, Wk]
  ·simp [Qr, QD]
  ·dsimp only; omega
  ·dsimp only; omega
 ·refine ⟨W8 ⟨2, 0, 0, 0, [], 3, 1, 3⟩ rfl (by decide) (by decide) (by decide) (by decide) (by simp) (kidsA rfl ?_), ?_, ?_, ?_, ?_⟩
  ·intro x hx
   simp only [List.mem_cons, List.not_mem_nil, or_false] at hx
   rcases hx with rfl | rfl
   ·exact fit_plain (by omega) (.inr rfl)
   ·exact fit_plain (by omega) (.inr rfl)
  ·simp [Wj, Wk]
  ·simp [Qr, QD]
  ·dsimp only; omega
  ·dsimp only; omega
 ·refine ⟨fit_plain (.inl rfl) (.inl rfl), ?_, ?_, ?_, ?_⟩
  ·simp [Wj, Wk]
  ·simp [Qr, QD]
  ·dsimp only; omega
  ·dsimp only; omega
theorem kind_c (l : List Int) (hl : OkI l) (a L : Int) (ha : 0 <= a /\ a <= 1000000000) : CE Tryz.prog G 36 (fun p g => [.ptr p g 0]) (genC l a L) (.agg (Enc.enc (kindV l a).1)) (genC l (kindV l a).2 L) := fun g B hg => by
 have bx := QT l a (most := 4) (by decide)
 have b4 := QT l (a + 1) (most := 4) (by decide)
 unfold kindV
 have hx : atI l a 4 = 0 \/ atI l a 4 = 1 \/ atI l a 4 = 2 \/ atI l a 4 = 3 := by omega
 rcases hx with hx | hx | hx | hx
 ·rw [if_pos hx]
  refine Qa Tryz.func36 rfl Tryz.ntmps36 rfl (t := [(0, .ptr 0 g 0)]) rfl fun E0 hE0 => ?_
  (repeat' first | (refine Qg ?_; (first | refine QJ rfl ?_ | refine QN rfl ?_ | refine Q1 rfl rfl ?_ | refine Q4 0 (Wo l hl _ _ _ (by omega) (by omega)) rfl rfl rfl rfl ?_ | refine WD rfl rfl rfl rfl ?_ | refine QA rfl rfl ?_ | refine Qu (fun _ _ => ?_))) | (refine Qk ?_; (first | refine Qi ?_ | refine QK rfl ?_ | refine QR ?_)) | (refine Qj ?_; (first | refine Ql ?_ | refine Qb ?_ | refine Qe ?_ | refine Qm rfl (by omega) ?_ | refine Qy ?_)))
  exact e_1 (Tryz.results36) (Qz (size := 4) rfl rfl rfl rfl) (WN (es := 4) (.node rfl rfl rfl) (by show _ = DV.agg (Enc.enc (Nd.mk _ _ _ [])); rw [QQ]; rfl) rfl)
 ·rw [if_neg (by omega), if_pos hx]
  refine Qa Tryz.func36 rfl Tryz.ntmps36 rfl (t := [(0, .ptr 0 g 0)]) rfl fun E0 hE0 => ?_
  (repeat' first | (refine Qg ?_; (first | refine QJ rfl ?_ | refine QN rfl ?_ | (refine Qo ?_; (first | refine Q1 rfl rfl ?_ | refine W3 rfl rfl (by omega) ?_)) | refine Q4 0 (Wo l hl _ _ _ (by omega) (by omega)) rfl rfl rfl rfl ?_ | refine WD rfl rfl rfl rfl ?_ | refine QA rfl rfl ?_ | refine Qu (fun _ _ => ?_))) | (refine Qk ?_; (first | refine Qi ?_ | refine QK rfl ?_ | refine QR ?_)) | (refine Qj ?_; (first | refine Ql ?_ | refine Qb ?_ | refine Qe ?_ | refine Qm rfl (by omega) ?_ | refine Qf rfl (by omega) ?_ | refine Qy ?_)))
  exact e_1 (Tryz.results36) (Qz (size := 4) rfl rfl rfl rfl) (WN (es := 4) (.node rfl rfl rfl) (by show _ = DV.agg (Enc.enc (Nd.mk _ _ _ [])); rw [QQ]; rfl) rfl)
 ·rw [if_neg (by omega), if_neg (by omega), if_pos hx]
  have hnumA := Wo (G := G) l hl (a + 1) L 2 (by omega) (by decide)
  have hnumB := Wo (G := G) l hl (a + 1 + 1) L 2 (by omega) (by decide)
  generalize atI l (a + 1) 2 = tyA at *
  generalize atI l (a + 1 + 1) 2 = tyB at *
  refine Qa Tryz.func36 rfl Tryz.ntmps36 rfl (t := [(0, .ptr 0 g 0)]) rfl fun E0 hE0 => ?_
  (repeat' first | (refine Qg ?_; (first | refine QJ rfl ?_ | refine QN rfl ?_ | refine Q1 rfl rfl ?_ | (refine Qt ?_; (first | refine Q4 0 (hnumA) rfl rfl rfl rfl ?_ | refine Q4 0 (hnumB) rfl rfl rfl rfl ?_ | refine Q4 0 (Wo l hl _ _ _ (by omega) (by omega)) rfl rfl rfl rfl ?_)) | refine WD rfl rfl rfl rfl ?_ | (refine g_build ?_; (first | refine s_build_nd (k := tyA) (n := 0) (mm := 0) rfl rfl ?_ | refine s_build_nd (k := tyB) (n := 0) (mm := 0) rfl rfl ?_ | refine QA rfl rfl ?_)) | refine ZD (y := Nd.mk tyA 0 0 []) (z := Nd.mk tyB 0 0 []) rfl rfl (by decide) ?_ | refine Qu (fun _ _ => ?_))) | (refine Qk ?_; (first | refine Qi ?_ | refine QK rfl ?_ | refine QR ?_)) | (refine Qj ?_; (first | refine Ql ?_ | refine Qb ?_ | refine Qe ?_ | refine Qm rfl (by omega) ?_ | refine Qf rfl (by omega) ?_ | refine Qy ?_)))
  refine e_1 (Tryz.results36) (Qz (size := 4) rfl rfl rfl rfl) ?_
  rw [QQ]
  exact c_ce (by first | rfl | (simp [QW, Ws]; try rfl)) rfl
 ·rw [if_neg (by omega), if_neg (by omega), if_neg (by omega)]
  refine Qa Tryz.func36 rfl Tryz.ntmps36 rfl (t := [(0, .ptr 0 g 0)]) rfl fun E0 hE0 => ?_
  (repeat' first | (refine Qg ?_; (first | refine QJ rfl ?_ | refine QN rfl ?_ | refine Q1 rfl rfl ?_ | refine Q4 0 (Wo l hl _ _ _ (by omega) (by omega)) rfl rfl rfl rfl ?_ | refine WD rfl rfl rfl rfl ?_ | refine QA rfl rfl ?_ | refine Qu (fun _ _ => ?_))) | (refine Qk ?_; (first | refine Qi ?_ | refine QK rfl ?_ | refine QR ?_)) | (refine Qj ?_; (first | refine Ql ?_ | refine Qb ?_ | refine Qe ?_ | refine QB ?_ | refine Qf rfl (by omega) ?_ | refine Qy ?_)))
  exact e_1 (Tryz.results36) (Qz (size := 4) rfl rfl rfl rfl) (WN (es := 4) (.node rfl rfl rfl) (by show _ = DV.agg (Enc.enc (Nd.mk _ _ _ [])); rw [QQ]; rfl) rfl)
end Go.Proofs
end
section
namespace Go.Proofs
open Go.Av Go.Bl
def tys0 (l : List Int) (a : Int) (k : Nat) : List Nd := (List.range k).map fun j => .mk (atI l (a + (j : Nat)) 2) 0 0 []
theorem tys0_succ (l : List Int) (a : Int) (k : Nat) : tys0 l a (k + 1) = tys0 l a k ++ [.mk (atI l (a + (k : Nat)) 2) 0 0 []] := by
 unfold tys0; rw [List.range_succ, List.map_append]; rfl
theorem tys0_len (l : List Int) (a : Int) (k : Nat) : (tys0 l a k).length = k := by unfold tys0; simp
theorem tys0_mem {l : List Int} {a : Int} {k : Nat} {x : Nd} (h : x ∈ tys0 l a k) : ∃ t, (t = 0 \/ t = 1) /\ x = .mk t 0 0 [] := by
 unfold tys0 at h
 obtain ⟨j, _, rfl⟩ := List.mem_map.1 h
 have := QT l (a + (j : Nat)) (most := 2) (by decide)
 exact ⟨_, by omega, rfl⟩
def kindG (l : List Int) : GenF := fun a L => ((kindV l a).1, (kindV l a).2, L)
theorem kinds_ok (l : List Int) : ∀ (n : Nat) (a L : Int), (∀ x ∈ (runM (kindG l) n a L).1, Q2 x 2 = true /\ Wj x <= 2) /\ QD (runM (kindG l) n a L).1 <= 3 * n /\ a <= (runM (kindG l) n a L).2.1 /\ (runM (kindG l) n a L).2.1 <= a + 3 * n /\ (runM (kindG l) n a L).2.2 = L
 | 0, a, L => by
  rw [runM]
  exact ⟨fun x hx => (by cases hx), by simp [QD], by simp, by simp, rfl⟩
 | n + 1, a, L => by
  rw [runM]
  obtain ⟨k1, k2, k3, k4, k5⟩ := kind_ok l a
  have ih := kinds_ok l n (kindG l a L).2.1 (kindG l a L).2.2
  obtain ⟨i1, i2, i3, i4, i5⟩ := ih
  have e : (kindG l a L).2.1 = (kindV l a).2 := rfl
  refine ⟨fun x hx => ?_, ?_, ?_, ?_, ?_⟩
  ·rcases List.mem_cons.1 hx with rfl | hx
   ·exact ⟨k1, k2⟩
   ·exact i1 x hx
  ·rw [QD]
   have : Qr (kindG l a L).1 <= 3 := k3
   omega
  ·(try dsimp only); omega
  ·(try dsimp only); omega
  ·exact i5
def funT0 (l : List Int) (a : Int) : List Nd × Int × Int := runM (kindG l) (atI l (a + 1 + (atI l a 4).toNat) 3).toNat (a + 1 + (atI l a 4).toNat + 1) 40
def funG (l : List Int) (Bk : GenF) : GenF := fun a _ =>
 (.mk 26 (atI l a 4) 0 (tys0 l (a + 1) (atI l a 4).toNat ++ (funT0 l a).1 ++ [(Bk (funT0 l a).2.1 40).1]), (Bk (funT0 l a).2.1 40).2.1, (Bk (funT0 l a).2.1 40).2.2)
theorem fit_fun {n m : Int} {tl : List Nd} {b : Nd} (hn : 0 <= n /\ n <= 3) (hm : m = 0) (hl : n <= (tl.length : Int) /\ tl.length <= 6) (hb : Q2 b 6 = true) (ht : ∀ i (h : i < tl.length), Q2 tl[i] (if (i : Int) < n then 3 else 2) = true) : Q2 (.mk 26 n m (tl ++ [b])) 1 = true := by
 subst hm
 rw [Q2, if_pos (by decide), if_pos rfl, fitsF_eq]
 have h0 : isB (shapesL.getD (26 : Int).toNat noSh) 1 = true := by decide
 have h1 : rngB (shapesL.getD (26 : Int).toNat noSh) n 0 = true := by
  show rngB ⟨1, 0, 3, 0, [], 0, 0, 0⟩ n 0 = true
  unfold rngB; simp [hn]
 rw [h0, h1, Bool.true_and, Bool.true_and]
 unfold funB
 have e0 : ((tl ++ [b]).map Q2).length = tl.length + 1 := by simp
 rw [e0]
 have e1 : ((tl ++ [b]).map Q2).getD (tl.length + 1 - 1) noF = Q2 b := by
  rw [ZB (tl ++ [b]) Q2 (by simp)]
  congr 1
  simp
 rw [e1, hb]
 have e2 : decide (n <= ((tl.length + 1 : Nat) : Int) - 1) = true := by simp; omega
 have e3 : decide (((tl.length + 1 : Nat) : Int) - 1 <= 6) = true := by simp; omega
 rw [e2, e3]
 simp only [Bool.true_and, Bool.and_true]
 rw [allI_iff]
 intro i hi
 have hi2 : i < tl.length := by omega
 rw [ZB (tl ++ [b]) Q2 (by simp; omega)]
 rw [List.getElem_append_left hi2]
 exact ht i hi2
structure QF (f : Nd) (a a' : Int) : Prop where
 fit : Q2 f 1 = true
 dep : Wj f <= 14
 size : Qr f <= 72
 mono : a <= a'
 used : a' <= a + 300
theorem sizeL_plain {ks : List Nd} (h : ∀ x ∈ ks, ∃ t, (t = 0 \/ t = 1) /\ x = Nd.mk t 0 0 []) : QD ks = ks.length /\ ∀ x ∈ ks, Wj x <= 2 := by
 induction ks with
 | nil => exact ⟨rfl, fun x hx => by cases hx⟩
 | cons y r ih =>
  obtain ⟨t, _, rfl⟩ := h y (by simp)
  obtain ⟨i1, i2⟩ := ih fun x hx => h x (by simp [hx])
  refine ⟨by rw [QD, i1, Qr, QD, List.length_cons]; omega, fun x hx => ?_⟩
  rcases List.mem_cons.1 hx with rfl | hx
  ·simp [Wj, Wk]
  ·exact i2 x hx
theorem fun_q (l : List Int) (Bk : GenF) (hB : ∀ a L, preB a L -> QE 6 13 1 11 (Bk a L).1 a L (Bk a L).2.1 (Bk a L).2.2) (a L : Int) (ha : 0 <= a /\ a <= 100000) : QF (funG l Bk a L).1 a (funG l Bk a L).2.1 /\ preB (funT0 l a).2.1 40 := by
 have b4 := QT l a (most := 4) (by decide)
 have b3 := QT l (a + 1 + (atI l a 4).toNat) (most := 3) (by decide)
 have hk := kinds_ok l (atI l (a + 1 + (atI l a 4).toNat) 3).toNat (a + 1 + (atI l a 4).toNat + 1) 40
 have hkl := runM_len (kindG l) (atI l (a + 1 + (atI l a 4).toNat) 3).toNat (a + 1 + (atI l a 4).toNat + 1) 40
 have hF : funT0 l a = runM (kindG l) (atI l (a + 1 + (atI l a 4).toNat) 3).toNat (a + 1 + (atI l a 4).toNat + 1) 40 := rfl
 rw [<- hF] at hk hkl
 obtain ⟨k1, k2, k3, k4, k5⟩ := hk
 have hpre : preB (funT0 l a).2.1 40 := ⟨by omega, by omega, by omega, by omega⟩
 refine ⟨?_, hpre⟩
 obtain ⟨q1, q2, q3, q4, q5, q6⟩ := hB _ _ hpre
 unfold funG
 dsimp only
 generalize hT : funT0 l a = T at *
 generalize Bk T.2.1 40 = e at *
 obtain ⟨b, c, K⟩ := e
 dsimp only at *
 have hs := Q6 b
 have ht0 := fun x => tys0_mem (l := l) (a := a + 1) (k := (atI l a 4).toNat) (x := x)
 obtain ⟨p1, p2⟩ := sizeL_plain ht0
 have htl := tys0_len l (a + 1) (atI l a 4).toNat
 generalize tys0 l (a + 1) (atI l a 4).toNat = t0 at *
 refine ⟨fit_fun (by omega) rfl (by rw [List.length_append]; omega) q1 (fun i hi => ?_), ?_, ?_, ?_, ?_⟩
 ·by_cases h0 : i < t0.length
  ·rw [List.getElem_append_left h0, if_pos (by omega)]
   obtain ⟨t, ht, hx⟩ := ht0 _ (List.getElem_mem h0)
   rw [hx]
   exact fit_plain ht (.inr rfl)
  ·rw [List.getElem_append_right (by omega), if_neg (by omega)]
   exact (k1 _ (List.getElem_mem _)).1
 ·rw [Wj, depthL_app, depthL_app, qd]
  have h1 := depthL_le p2
  have h2 : Wk T.1 <= 2 := depthL_le fun x hx => (k1 x hx).2
  omega
 ·rw [Qr, Z2, Z2, sizeL1]
  omega
 ·omega
 ·omega
theorem funs_q (l : List Int) (Bk : GenF) (hB : ∀ a L, preB a L -> QE 6 13 1 11 (Bk a L).1 a L (Bk a L).2.1 (Bk a L).2.2) : ∀ (n : Nat) (a L : Int), 0 <= a -> a + 300 * n <= 100000 -> (∀ x ∈ (runM (funG l Bk) n a L).1, Q2 x 1 = true /\ Wj x <= 14) /\ QD (runM (funG l Bk) n a L).1 <= 72 * n
 | 0, a, L, _, _ => by
  rw [runM]
  exact ⟨fun x hx => (by cases hx), by simp [QD]⟩
 | n + 1, a, L, ha, hb => by
  rw [runM]
  obtain ⟨⟨q1, q2, q3, q4, q5⟩, _⟩ := fun_q l Bk hB a L ⟨ha, by omega⟩
  obtain ⟨i1, i2⟩ := funs_q l Bk hB n (funG l Bk a L).2.1 (funG l Bk a L).2.2 (by omega) (by omega)
  refine ⟨fun x hx => ?_, ?_⟩
  ·rcases List.mem_cons.1 hx with rfl | hx
   ·exact ⟨q1, q2⟩
   ·exact i1 x hx
  ·rw [QD]; omega
theorem prog_valid {n : Int} {fs : List Nd} (hn : 0 <= n /\ n <= 3) (hl : 1 <= fs.length /\ fs.length <= 6) (hf : ∀ x ∈ fs, Q2 x 1 = true /\ Wj x <= 15) (hs : QD fs <= 255) : validM (.mk 27 n 0 fs) = true := by
 have h1 : Q2 (.mk 27 n 0 fs) 0 = true := W8 ⟨0, 0, 3, 0, [], 6, 1, 1⟩ rfl (by decide) (by decide) (by dsimp only; omega) (by decide) (by dsimp only; simp; omega) (kidsA rfl fun x hx => (hf x hx).1)
 have h2 : Qr (.mk 27 n 0 fs) <= 256 := by rw [Qr]; omega
 have h3 : Wj (.mk 27 n 0 fs) <= 16 := by
  rw [Wj]
  have : Wk fs <= 15 := depthL_le fun x hx => (hf x hx).2
  omega
 unfold validM
 rw [h1, decide_eq_true h2, decide_eq_true h3]; rfl
def sampleV (l : List Int) (Bk : GenF) : Nd := .mk 27 (atI l 0 4) 0 (runM (funG l Bk) (1 + atI l 1 3).toNat 2 0).1
theorem sample_ok (l : List Int) (Bk : GenF) (hB : ∀ a L, preB a L -> QE 6 13 1 11 (Bk a L).1 a L (Bk a L).2.1 (Bk a L).2.2) : validM (sampleV l Bk) = true := by
 have b4 := QT l 0 (most := 4) (by decide)
 have b3 := QT l 1 (most := 3) (by decide)
 obtain ⟨h1, h2⟩ := funs_q l Bk hB (1 + atI l 1 3).toNat 2 0 (by decide) (by omega)
 have h3 := runM_len (funG l Bk) (1 + atI l 1 3).toNat 2 0
 exact prog_valid (by omega) (by omega) (fun x hx => ⟨(h1 x hx).1, by have := (h1 x hx).2; omega⟩) (by omega)
end Go.Proofs
end
section
namespace Go.Proofs
open Go.Av
variable {G : Nat -> DV}
attribute [local irreducible] OpSem Za Zv qc ACalls AEnd AClose RV
open Go.Bl
section
variable {P : Program} {G : Nat -> DV} {E : AX} {n : Nat} {N : ASt -> Prop} {xs : List (Nat × (ASt -> Prop))} {R : ASt -> Prop}
theorem r_pubin_at {t : Fr} {σ σ1 σ' : List ABlk} {c : Code} (i m j : Nat) {gm k g len es len0 es0 : Nat} {cs ds : List DV} (hi : Go.Av.look t i = DV.ref k g 0 len0 es0) (hm : σ[m]? = some (.row gm cs)) (hj : cs[j]? = some (DV.ref k g 0 len es)) (hk : σ[k]? = some (.row g ds)) (hl : len * es = ds.length)
  (hσ1 : setA σ k .gone = some σ1) (hσ' : setA σ1 m (.row gm (cs.set j (.sl es ds))) = some σ') (kk : Za P G E n c N xs R ⟨t, σ'⟩) (hne : m ≠ k := by decide) : Za P G E n c N xs R ⟨t, σ⟩ := r_pubin m j hm hj hk hl hσ1 hσ' kk hne
end
theorem sample_c (l : List Int) (hl : OkI l) : ∃ v, validM v = true /\ (∃ n ks, v = .mk 27 n 0 ks) /\ Go.Av.Pure Tryz.prog G 10 [QW l] (.agg (Enc.enc v)) := by
 obtain ⟨S, hS⟩ := chStmt (G := G) l hl 4 (by decide)
 obtain ⟨Bk, hBk⟩ := chBlock (G := G) l hl 4 (by decide) S hS
 have hB1 : ∀ a L, preB a L -> QE 6 13 1 11 (Bk a L).1 a L (Bk a L).2.1 (Bk a L).2.2 := fun a L h => (hBk a L h).1
 have hB2 : ∀ a L, preB a L -> CE Tryz.prog G 37 (fun p g => [.ptr p g 0, .i 4]) (genC l a L) (.agg (Enc.enc (Bk a L).1)) (genC l (Bk a L).2.1 (Bk a L).2.2) := fun a L h => (hBk a L h).2
 have hv := sample_ok l Bk hB1
 clear hBk hS
 refine ⟨sampleV l Bk, hv, ⟨_, _, rfl⟩, fun B => ?_⟩
 clear hv
 unfold sampleV
 have b4 := QT l 0 (most := 4) (by decide)
 have b3 := QT l 1 (most := 3) (by decide)
 have hn0 : atI l (0 + 1) 3 = atI l 1 3 := rfl
 obtain ⟨Nf, hNf⟩ : ∃ Nf : Nat, 1 + atI l 1 3 = (Nf : Int) := ⟨(1 + atI l 1 3).toNat, by omega⟩
 rw [hNf, show ((Nf : Int)).toNat = Nf by omega, QQ]
 generalize hT : runM (funG l Bk) Nf 2 0 = T at *
 refine Qa Tryz.func10 rfl Tryz.ntmps10 rfl (t := [(0, QW l)]) rfl fun E0 hE0 => ?_
 have hnumA := trivial
 have hkd := trivial
 have hblk := trivial
 have hfe := trivial
 (repeat' first | (refine Qg ?_; (first | refine QJ rfl ?_ | refine QN rfl ?_ | refine W3 rfl rfl (by omega) ?_ | refine Q4 1 (Wo l hl _ _ _ (by omega) (by omega)) rfl rfl rfl rfl ?_ | refine WD rfl rfl rfl rfl ?_ | refine QA rfl rfl ?_ | refine Qu (fun _ _ => ?_) | refine Q9 rfl rfl (fun _ _ => ?_))) | (refine Qk ?_; (first | refine Qi ?_ | refine QK rfl ?_ | refine QR ?_)) | (refine Qj ?_; (first | refine Ql ?_ | refine Qb ?_ | refine Qe ?_)))
 rename_i g2 hg2 gc hgc gp hgp
 refine r_ownin 2 3 4 rfl rfl (fun _ => rfl) (fun gk hgk => ?_)
 refine r_loop5 (fun (i : Nat) (o : List Nd) (a Lc : Int) (gg : Nat) => ⟨[(2, .ptr 0 g2 0), (3, .ptr 1 gc 0), (4, .ptr 2 gp 0), (5, .i (1 + atI l (0 + 1) 3)), (6, .i i)], [.row g2 [.i 0, .i 0, .i 0, .nil], .row gc (genC l a Lc), .row gp [.i 27, .i (atI l 0 4), .i 0, .ref 3 gg 0 o.length 4], .row gg (Ws o)]⟩) (fun i o a Lc gg => i <= Nf /\ o.length <= i /\ E0.N < gg /\ o ++ (runM (funG l Bk) (Nf - i) a Lc).1 = T.1 /\ 0 <= a /\ a + 300 * (Nf - i : Int) <= 100000) (fun i _ _ _ _ => Nf - i) 0 [] 2 0 gk ?_ ⟨by omega, by simp, hgk, by rw [Nat.sub_zero, hT]; rfl, by omega, by omega⟩ ?_
 ·exact zal rfl
 intro i o a Lc gg ⟨hi, hol, hgg, h1, m1, m2⟩
 generalize hn00 : atI l 0 4 = n0 at *
 by_cases hiN : i < Nf
 ·rw [show Nf - i = (Nf - (i + 1)) + 1 by omega, runM] at h1
  obtain ⟨⟨_, _, _, u1, u2⟩, hpre⟩ := fun_q l Bk hB1 a Lc ⟨m1, by omega⟩
  have hblk := hB2 _ _ hpre
  generalize hf : funG l Bk a Lc = F at *
  unfold funG at hf
  have c4 := QT l a (most := 4) (by decide)
  obtain ⟨m, hm⟩ : ∃ m : Nat, atI l a 4 = (m : Int) := ⟨(atI l a 4).toNat, by omega⟩
  have hnumA := Wo (G := G) l hl a 40 4 (by omega) (by decide)
  rw [hm] at hnumA hf
  unfold funT0 at hf hblk
  rw [hm] at hf hblk
  rw [show ((m : Int)).toNat = m by omega] at hf hblk
  have c3 := QT l (a + 1 + m) (most := 3) (by decide)
  obtain ⟨K, hK⟩ : ∃ K : Nat, atI l (a + 1 + m) 3 = (K : Int) := ⟨(atI l (a + 1 + m) 3).toNat, by omega⟩
  have hK3 : (K : Int) < 3 := by omega
  have hm3 : (m : Int) < 4 := by omega
  rw [hK] at hf hblk
  rw [show ((K : Int)).toNat = K by omega] at hf hblk
  have hko := kinds_ok l K (a + 1 + m + 1) 40
  generalize hT2 : runM (kindG l) K (a + 1 + m + 1) 40 = T2 at *
  obtain ⟨ks2, a2, l2⟩ := T2
  dsimp only at *
  generalize hv1 : Bk a2 40 = v at *
  obtain ⟨v1, b1, M1⟩ := v
  dsimp only at *
  clear hB2
  have hfe := trivial
  (repeat' first | (refine Qg ?_; (first | refine QJ rfl ?_ | refine QN rfl ?_ | refine QX rfl rfl ?_ | refine Q4 1 (hnumA) rfl rfl rfl rfl ?_ | (refine Wg ?_; (first | refine WD rfl rfl rfl rfl ?_ | refine QZ rfl rfl rfl rfl (by rfl) (by rfl) (by rfl) ?_)) | refine QA rfl rfl ?_ | refine Qd rfl rfl ?_ | refine Qp rfl rfl ?_ | refine Qu (fun _ _ => ?_))) | (refine Qk ?_; (first | refine Qi ?_ | refine QK rfl ?_ | refine QR ?_)) | (refine Qj ?_; (first | refine Ql ?_ | refine Qb ?_ | refine Qe ?_ | refine QB ?_ | refine Qm rfl (by omega) ?_)))
  rename_i g7 hg7
  refine r_ownin 4 3 4 rfl rfl (fun _ => rfl) (fun gk2 hgk2 => ?_)
  refine r_loop5 (fun (k : Nat) (ks : List Nd) (b : Int) (_ : Unit) (gh : Nat) => ⟨[(2, .ptr 0 g2 0), (3, .ptr 1 gc 0), (4, .ptr 2 gp 0), (5, .i (1 + atI l (0 + 1) 3)), (6, .i i), (7, .ptr 4 g7 0), (8, .i k)], [.row g2 [.i 0, .i 0, .i 0, .nil], .row gc (genC l b 40), .row gp [.i 27, .i n0, .i 0, .ref 3 gg 0 o.length 4], .row gg (Ws o), .row g7 [.i 26, .i (m : Nat), .i 0, .ref 5 gh 0 ks.length 4], .row gh (Ws ks)]⟩) (fun k ks b _ gh => k <= m /\ E0.N < gh /\ ks = tys0 l (a + 1) k /\ b = a + 1 + (k : Nat)) (fun k _ _ _ _ => m - k) 0 [] (a + 1) () gk2 ?_ ⟨by omega, hgk2, rfl, by omega⟩ ?_
  ·exact zal rfl
  intro k ks b _ gh ⟨hk, hgh, hks, hb⟩
  by_cases hkm : k < m
  ·have bt := QT l b (most := 2) (by decide)
   have hnumA := Wo (G := G) l hl b 40 2 (by omega) (by decide)
   have hkl : ks.length = k := by rw [hks]; exact tys0_len l (a + 1) k
   have hks2 := tys0_succ l (a + 1) k
   rw [<- hks, <- hb] at hks2
   generalize hty : atI l b 2 = ty0 at *
   have hkd := trivial
   have hblk := trivial
   (repeat' first | (refine Qg ?_; (first | refine QJ rfl ?_ | refine QN rfl ?_ | refine Qc rfl rfl rfl ?_ | (refine Qo ?_; (first | refine QX rfl rfl ?_ | refine W3 rfl rfl (by omega) ?_)) | (refine Qt ?_; (first | refine Zt (z := (Nd.mk ty0 0 0 [])) rfl rfl rfl rfl rfl rfl rfl (by first | omega | (simp; omega)) (by first | omega | (simp; omega)) (fun _ => rfl) (fun _ _ => ?_) | refine Q4 1 (hnumA) rfl rfl rfl rfl ?_)) | refine QZ rfl rfl rfl rfl (by rfl) (by rfl) (by rfl) ?_ | refine Qd rfl rfl ?_)) | (refine Qk ?_; (first | refine Qi ?_ | refine QK rfl ?_)) | (refine Qj ?_; (first | refine Ql ?_ | refine Qb ?_ | refine Qe ?_ | (refine WF ?_; first | (refine Qv (fun p => .row g2 [.i 0, .i 0, .i 0, .nil] :: p.1 :: .row gp [.i 27, .i n0, .i 0, .ref 3 gg 0 o.length 4] :: .row gg (Ws o) :: .row g7 [.i 26, .i (m : Nat), .i 0, .ref 5 gh 0 ks.length 4] :: p.2) 7 [(0, true), (1, true), (2, true), (3, false), (4, true), (5, false), (6, true), (7, false)] (by rfl) (by rfl) (by kernel_rfl) (by decide +kernel) (by decide +kernel) ⟨(_, _), rfl⟩ ?_) | (refine Qv (fun p => .row g2 [.i 0, .i 0, .i 0, .nil] :: p.1 :: .row gp [.i 27, .i n0, .i 0, .ref 3 gg 0 o.length 4] :: .row gg (Ws o) :: .row g7 [.i 26, .i (m : Nat), .i 0, .ref 5 gh 0 ks.length 4] :: p.2) 8 [(0, true), (1, true), (2, true), (3, false), (4, true), (5, true), (6, false), (7, true), (8, false)] (by rfl) (by rfl) (by kernel_rfl) (by decide +kernel) (by decide +kernel) ⟨(_, _), rfl⟩ ?_) | refine Wm (by rfl) (by kernel_rfl) (by kernel_rfl) ?_ | refine Wl (by kernel_rfl) (by kernel_rfl) ?_) | refine QB ?_ | refine Qm rfl (by omega) ?_)) | (refine W6 ?_; (first | refine ZG ?_ | refine i_z0 ?_ | refine i_st rfl rfl (fun _ => (by (repeat' first | (refine Qg ?_; (first | refine QJ rfl ?_ | refine Qc rfl rfl rfl ?_ | refine s_build_nd (k := ty0) (n := 0) (mm := 0) rfl rfl ?_ | refine Q3 (z := Nd.mk ty0 0 0 []) rfl rfl (by decide) ?_ | refine Qd rfl rfl ?_)) | exact ⟨rfl, rfl⟩))) ?_ | refine i_ef rfl ?_)) | refine And.intro (Exists.intro ((_, _)) rfl) ?_)
   refine ⟨k + 1, ks ++ [.mk ty0 0 0 []], b + 1, (), _, ⟨by omega, by assumption, hks2.symm, by omega⟩, by omega, ?_⟩
   exact zal rfl
  ·have hkm2 : m = k := by omega
   have hkl : ks.length = k := by rw [hks]; exact tys0_len l (a + 1) k
   subst hkm2
   rw [<- hb] at hK
   have hnumA := Wo (G := G) l hl b 40 3 (by omega) (by decide)
   rw [hK] at hnumA
   have hblkS := hblk
   have hblk := trivial
   have hkd := trivial
   (repeat' first | (refine Qg ?_; (first | refine QJ rfl ?_ | refine QN rfl ?_ | refine Qc rfl rfl rfl ?_ | refine QX rfl rfl ?_ | refine Q4 1 (hnumA) rfl rfl rfl rfl ?_ | refine Qd rfl rfl ?_)) | (refine Qk ?_; (first | refine Qi ?_ | refine QK rfl ?_)) | (refine Qj ?_; (first | refine Ql ?_ | refine Qb ?_ | refine Qe ?_ | refine Qf rfl (by omega) ?_ | refine WC rfl ?_)))
   clear hnumA
   refine r_loop5 (fun (j : Nat) (ks : List Nd) (b : Int) (_ : Unit) (gh : Nat) => ⟨[(2, .ptr 0 g2 0), (3, .ptr 1 gc 0), (4, .ptr 2 gp 0), (5, .i (1 + atI l (0 + 1) 3)), (6, .i i), (7, .ptr 4 g7 0), (9, .i K), (10, .i j)], [.row g2 [.i 0, .i 0, .i 0, .nil], .row gc (genC l b 40), .row gp [.i 27, .i n0, .i 0, .ref 3 gg 0 o.length 4], .row gg (Ws o), .row g7 [.i 26, .i (m : Nat), .i 0, .ref 5 gh 0 ks.length 4], .row gh (Ws ks)]⟩) (fun j ks b _ gh => j <= K /\ ks.length <= 4 + j /\ E0.N < gh /\ ks ++ (runM (kindG l) (K - j) b 40).1 = tys0 l (a + 1) m ++ ks2 /\ (runM (kindG l) (K - j) b 40).2.1 = a2 /\ 0 <= b /\ b + 3 * (K - j : Int) <= 200000) (fun j _ _ _ _ => K - j) 0 ks (b + 1) () gh ?_ ⟨by omega, by omega, hgh, by rw [Nat.sub_zero, hb, hT2, hks], by rw [Nat.sub_zero, hb, hT2], by omega, by omega⟩ ?_
   ·exact zal rfl
   intro j ks b _ gh ⟨hj, hkl, hgh, h3, h4, n1, n2⟩
   by_cases hjK : j < K
   ·rw [show K - j = (K - (j + 1)) + 1 by omega, runM] at h3 h4
    have hkd := kind_c (G := G) l hl b 40 (by omega)
    obtain ⟨_, _, _, w1, w2⟩ := kind_ok l b
    unfold kindG at h3 h4
    dsimp only at h3 h4
    generalize kindV l b = w at *
    obtain ⟨v1, c1⟩ := w
    dsimp only at *
    have hnumA := trivial
    clear hblkS
    (repeat' first | (refine Qg ?_; (first | refine QJ rfl ?_ | refine QN rfl ?_ | (refine Qo ?_; (first | refine QX rfl rfl ?_ | refine W3 rfl rfl (by omega) ?_)) | (refine Qt ?_; (first | refine Zt (z := v1) rfl rfl rfl rfl rfl rfl rfl (by first | omega | (simp; omega)) (by first | omega | (simp; omega)) (fun _ => rfl) (fun _ _ => ?_) | refine Q4 1 (hkd) rfl rfl rfl rfl ?_)) | refine QZ rfl rfl rfl rfl (by rfl) (by rfl) (by rfl) ?_)) | (refine Qk ?_; (first | refine Qi ?_ | refine QK rfl ?_)) | (refine Qj ?_; (first | refine Ql ?_ | refine Qb ?_ | refine Qe ?_ | (refine WF ?_; first | (refine Qv (fun p => .row g2 [.i 0, .i 0, .i 0, .nil] :: p.1 :: .row gp [.i 27, .i n0, .i 0, .ref 3 gg 0 o.length 4] :: .row gg (Ws o) :: .row g7 [.i 26, .i (m : Nat), .i 0, .ref 5 gh 0 ks.length 4] :: p.2) 7 [(0, true), (1, true), (2, true), (3, false), (4, true), (5, false), (6, true), (7, false)] (by rfl) (by rfl) (by kernel_rfl) (by decide +kernel) (by decide +kernel) ⟨(_, _), rfl⟩ ?_) | (refine Qv (fun p => .row g2 [.i 0, .i 0, .i 0, .nil] :: p.1 :: .row gp [.i 27, .i n0, .i 0, .ref 3 gg 0 o.length 4] :: .row gg (Ws o) :: .row g7 [.i 26, .i (m : Nat), .i 0, .ref 5 gh 0 ks.length 4] :: p.2) 8 [(0, true), (1, true), (2, true), (3, false), (4, true), (5, true), (6, false), (7, true), (8, false)] (by rfl) (by rfl) (by kernel_rfl) (by decide +kernel) (by decide +kernel) ⟨(_, _), rfl⟩ ?_) | refine Wm (by rfl) (by kernel_rfl) (by kernel_rfl) ?_ | refine Wl (by kernel_rfl) (by kernel_rfl) ?_) | refine QB ?_ | refine Qm rfl (by omega) ?_)) | (refine W6 ?_; (first | refine ZG ?_ | refine i_z0 ?_ | refine i_st rfl rfl (fun _ => (by (repeat' first | (refine Qg ?_; (first | refine QJ rfl ?_ | refine Qc rfl rfl rfl ?_ | refine Q3 (z := v1) rfl rfl (by decide) ?_ | refine Qd rfl rfl ?_)) | exact ⟨rfl, rfl⟩))) ?_ | refine i_ef rfl ?_)) | refine And.intro (Exists.intro ((_, _)) rfl) ?_)
    refine ⟨j + 1, ks ++ [v1], c1, (), _, ⟨by omega, by simp; omega, by assumption, by rw [List.append_assoc]; exact h3, h4, by omega, by omega⟩, by omega, ?_⟩
    exact zal rfl
   ·have hje : K - j = 0 := by omega
    rw [hje, runM] at h3 h4
    dsimp only at h3 h4
    rw [List.append_nil] at h3
    subst h4
    have hblk := hblkS
    have hnumA := trivial
    have hkd := trivial
    obtain ⟨fN, hfN⟩ : ∃ fN, fN = Nd.mk 26 (m : Nat) 0 (ks ++ [v1]) := ⟨_, rfl⟩
    have hfe : Enc.enc fN = [.i 26, .i (m : Nat), .i 0, QW (ks ++ [v1])] := by rw [hfN, QQ]
    rw [<- h3, <- hfN] at hf
    subst hf
    dsimp only at *
    (repeat' first | (refine Qg ?_; (first | refine QJ rfl ?_ | refine QN rfl ?_ | (refine QG ?_; (first | refine WL rfl rfl ?_ | refine Qc rfl rfl rfl ?_)) | (refine Qo ?_; (first | refine QX rfl rfl ?_ | refine W3 rfl rfl (by omega) ?_)) | (refine Qt ?_; (first | refine Zt (z := v1) rfl rfl rfl rfl rfl rfl rfl (by first | omega | (simp; omega)) (by first | omega | (simp; omega)) (fun _ => rfl) (fun _ _ => ?_) | refine Zt (z := fN) rfl rfl rfl rfl rfl rfl rfl (by first | omega | (simp; omega)) (by first | omega | (simp; omega)) (fun _ => rfl) (fun _ _ => ?_) | refine Q4 1 (hblk) rfl rfl rfl rfl ?_)) | refine QZ rfl rfl rfl rfl (by rfl) (by rfl) (by rfl) ?_ | refine Q3 (z := fN) rfl (by rw [hfe]; rfl) (by decide) ?_ | refine Qd rfl rfl ?_)) | (refine Qk ?_; (first | refine Qi ?_ | refine QK rfl ?_ | refine QR ?_)) | (refine Qj ?_; (first | refine r_pubin_at 64 4 3 rfl rfl rfl rfl (by first | exact (QS _).symm | rfl) rfl rfl ?_ | refine Ql ?_ | refine Qb ?_ | (refine WF ?_; first | (refine Qv (fun p => .row g2 [.i 0, .i 0, .i 0, .nil] :: p.1 :: .row gp [.i 27, .i n0, .i 0, .ref 3 gg 0 o.length 4] :: .row gg (Ws o) :: .row g7 [.i 26, .i (m : Nat), .i 0, .ref 5 gh 0 ks.length 4] :: p.2) 7 [(0, true), (1, true), (2, true), (3, false), (4, true), (5, false), (6, true), (7, false)] (by rfl) (by rfl) (by kernel_rfl) (by decide +kernel) (by decide +kernel) ⟨(_, _), rfl⟩ ?_) | (refine Qv (fun p => .row g2 [.i 0, .i 0, .i 0, .nil] :: p.1 :: .row gp [.i 27, .i n0, .i 0, .ref 3 gg 0 o.length 4] :: .row gg (Ws o) :: .row g7 [.i 26, .i (m : Nat), .i 0, .ref 5 gh 0 ks.length 4] :: p.2) 8 [(0, true), (1, true), (2, true), (3, false), (4, true), (5, true), (6, false), (7, true), (8, false)] (by rfl) (by rfl) (by kernel_rfl) (by decide +kernel) (by decide +kernel) ⟨(_, _), rfl⟩ ?_) | refine Wm (by rfl) (by kernel_rfl) (by kernel_rfl) ?_ | refine Wl (by kernel_rfl) (by kernel_rfl) ?_) | refine Qf rfl (by omega) ?_ | refine WC rfl ?_)) | (refine W6 ?_; (first | refine ZG ?_ | refine i_z0 ?_ | refine i_st rfl rfl (fun _ => (by (repeat' first | (refine Qg ?_; (first | refine QJ rfl ?_ | refine Qc rfl rfl rfl ?_ | refine Q3 (z := v1) rfl rfl (by decide) ?_ | refine Qd rfl rfl ?_)) | exact ⟨rfl, rfl⟩))) ?_ | refine i_ef rfl ?_)) | refine And.intro (Exists.intro ((_, _)) rfl) ?_)
    refine ⟨i + 1, o ++ [fN], b1, M1, _, ⟨by omega, by simp; omega, by assumption, by rw [List.append_assoc]; exact h1, by omega, by omega⟩, by omega, ?_⟩
    exact zal rfl
 ·have hie : Nf - i = 0 := by omega
  rw [hie, runM] at h1
  dsimp only at h1
  rw [List.append_nil] at h1
  rw [<- h1]
  have hnumA := trivial
  have hkd := trivial
  have hblk := trivial
  have hfe := trivial
  clear hB2
  refine r_pubin 2 3 rfl rfl rfl (QS _).symm rfl rfl ?_
  (repeat' first | (refine Qg ?_; (first | refine QJ rfl ?_ | refine WL rfl rfl ?_ | refine QX rfl rfl ?_ | refine WD rfl rfl rfl rfl ?_)) | (refine Qk ?_; (first | refine Qi ?_ | refine QK rfl ?_ | refine QR ?_)) | (refine Qj ?_; (first | refine Ql ?_ | refine Qb ?_ | refine Qf rfl (by omega) ?_ | refine WC rfl ?_ | refine Qy ?_)))
  exact e_1 (Tryz.results10) (Qz (size := 4) rfl rfl rfl rfl) (QY rfl)
section
variable {P : Program} {G : Nat -> DV} {B : Nat} {f : Operand -> DV} {σ : List ABlk} {K : DV -> List ABlk -> Prop} {dst : Option Tmp} {type : TypeId} {pos : String} {after : Array Edge} {gd : Option (Nat × Bool)}
end
section
variable {P : Program} {G : Nat -> DV} {B : Nat} {f : Operand -> DV} {σ : List ABlk} {K : DV -> List ABlk -> Prop} {dst : Option Tmp} {type : TypeId} {pos : String} {after : Array Edge} {gd : Option (Nat × Bool)}
end
theorem Pure.dsub {P : Program} {f : FuncId} {args args' : List DV} {d : DV} (h : Go.Av.Pure P G f args' d) (hl : args.length = args'.length) (hs : ∀ (j : Nat) (e e' : DV), args[j]? = some e -> args'[j]? = some e' -> DSub e e') : Go.Av.Pure P G f args d := fun B => by
 have h1 := h B
 unfold ACalls at h1 ⊢
 exact fun X vs hS hσ hB hG hv => h1 X vs hS hσ hB hG ⟨by rw [hv.1, hl], fun j e' hj => by
  obtain ⟨e, he⟩ := dsub_get hl j e' hj
  exact (hs j e e' he hj).rep (hv.2 j e he)⟩
theorem order_c (hG0 : G 0 = shapesT) (hG1 : G 1 = spaceT) (hG : G 6 = pow10T) (l : List Int) (hl : OkI l) : Go.Av.Pure Tryz.prog G 6 [QW l] (.b true) := fun B => by
 obtain ⟨v, hv, _, hsm⟩ := sample_c (G := G) l hl
 have hlv := lives_c (G := G) hG0 hG1 hG
 have hL := line_l hv
 obtain ⟨hok, hsz, hpk⟩ := valid_ok hv
 have hpr := print_c hG hG1 v hok (by omega)
 have hpl := print_len2 v hok hsz
 have hps := (paths_c (G := G) v (by omega)).read
 have hpn := pathsN_len v
 have hinc := Pure.dsub (args := [.agg (Enc.enc v), .agg (Enc.enc v), .sc (.slice none 0 0)]) (increases_c hG hG1 v hL hok hsz v [] (by obtain ⟨a, b, c, d⟩ := v; rw [ZE]; exact List.mem_cons_self ..) (by rw [subN])) rfl (qm (.refl _) (qm (.refl _) (qm (.nil _) dsub_nil)))
 have hlns : ∀ p ∈ Zp v, Go.Av.Pure Tryz.prog G 26 [.agg (Enc.enc v), QW p] (.i (lineM v p)) /\ 1 <= lineM v p /\ lineM v p <= nlC (Wb v) := fun p hp => ⟨line_c1 (G := G) hG hG1 v hok (by omega) p (by have := paths_lens v p hp; omega), hL.here p hp⟩
 clear hL hpk
 generalize Wb v = s at *
 generalize Zp v = ps at *
 have hln := trivial
 refine Qa Tryz.func6 rfl Tryz.ntmps6 rfl (t := [(0, QW l)]) rfl fun E0 hE0 => ?_
 (repeat' first | (refine Qg ?_; (first | refine QJ rfl ?_ | refine QN rfl ?_ | refine WL rfl rfl ?_ | (refine Qt ?_; (first | refine Z5 rfl rfl hsm (WK (Enc.clo _)) ?_ | refine WR rfl rfl (hpr) ?_)) | refine WD rfl rfl rfl rfl ?_ | refine Qu (fun _ _ => ?_))) | (refine Qk ?_; (first | refine Qi ?_ | refine QK rfl ?_ | refine QR ?_)) | (refine Qj ?_; (first | refine Ql ?_ | refine Qb ?_ | refine Qe ?_)))
 rename_i g3 hg3
 refine ZZ (fun i : Nat => ⟨[(3, .ptr 0 g3 0), (4, WS s), (5, .i (nlC (s.take i) : Nat)), (6, .i i)], [.row g3 (Enc.enc v)]⟩) (fun i => i <= s.length) (fun i => s.length - i) 0 ?_ (by omega) ?_
 ·exact zal rfl
 intro i hi
 by_cases hil : i < s.length
 ·have hsu := nlC_succ hil
  have hnl := nl_le (s.take i)
  rw [List.length_take] at hnl
  have hgd : s.getD i 0 = s[i] := by rw [List.getD_eq_getElem?_getD, List.getElem?_eq_getElem hil]; rfl
  by_cases h10 : ((s.getD i 0).toNat : Int) = 10
  ·have hq : s[i] = 10 := by rw [hgd] at h10; exact UInt8.toNat_inj.1 (by rw [show (10 : UInt8).toNat = 10 from rfl]; omega)
   rw [if_pos hq] at hsu
   have e1 : ((nlC (s.take (i + 1)) : Nat) : Int) = (nlC (s.take i) : Nat) + 1 := by omega
   clear hgd hq hlns
   (repeat' first | (refine Qg ?_; (first | refine QJ rfl ?_ | refine QN rfl ?_ | (refine Qo ?_; (first | refine QX rfl rfl ?_ | refine Q1 rfl rfl ?_ | refine W3 rfl rfl (by omega) ?_)) | refine Wn rfl ?_ | refine WP rfl rfl (by first | assumption | omega | (simp only [List.length_take, List.length_drop]; omega)) ?_)) | (refine Qk ?_; (first | refine Qi ?_ | refine QK rfl ?_)) | (refine Qj ?_; (first | refine Ql ?_ | refine Qb ?_ | refine Qe ?_ | refine QB ?_ | refine Qm rfl (by omega) ?_)))
   refine ⟨i + 1, by omega, by omega, ?_⟩
   rw [e1]
   exact zal rfl
  ·have hq : ¬ s[i] = 10 := fun h => h10 (by rw [hgd, h]; rfl)
   rw [if_neg hq] at hsu
   have e1 : ((nlC (s.take (i + 1)) : Nat) : Int) = (nlC (s.take i) : Nat) := by omega
   clear hgd hq hlns
   (repeat' first | (refine Qg ?_; (first | refine QJ rfl ?_ | refine QN rfl ?_ | (refine Qo ?_; (first | refine QX rfl rfl ?_ | refine Q1 rfl rfl ?_ | refine W3 rfl rfl (by omega) ?_)) | refine Wn rfl ?_ | refine WP rfl rfl (by first | assumption | omega | (simp only [List.length_take, List.length_drop]; omega)) ?_)) | (refine Qk ?_; (first | refine Qi ?_ | refine QK rfl ?_)) | (refine Qj ?_; (first | refine Ql ?_ | refine Qb ?_ | refine Qe ?_ | refine QB ?_ | refine Qm rfl (by omega) ?_ | refine Qf rfl (by omega) ?_)))
   refine ⟨i + 1, by omega, by omega, ?_⟩
   rw [e1]
   exact zal rfl
 ·have hie : i = s.length := by omega
  subst hie
  rw [List.take_length]
  clear hi hil
  have hln := trivial
  (repeat' first | (refine Qg ?_; (first | refine QJ rfl ?_ | refine QN rfl ?_ | refine WL rfl rfl ?_ | refine QX rfl rfl ?_ | (refine Qt ?_; (first | refine WR rfl rfl (hps) ?_ | refine Wn rfl ?_)))) | (refine Qk ?_; (first | refine Qi ?_ | refine QK rfl ?_)) | (refine Qj ?_; (first | refine Ql ?_ | refine Qb ?_ | refine Qe ?_ | refine Qf rfl (by omega) ?_ | refine WC rfl ?_)))
  refine ZZ (fun i : Nat => ⟨[(3, .ptr 0 g3 0), (5, .i (nlC s : Nat)), (7, QW ps), (8, .i i)], [.row g3 (Enc.enc v)]⟩) (fun i => i <= ps.length) (fun i => ps.length - i) 0 ?_ (by omega) ?_
  ·exact zal rfl
  intro i hi
  by_cases hil : i < ps.length
  ·obtain ⟨hln, hl1, hl2⟩ := hlns _ (List.getElem_mem hil)
   clear hlns
   (repeat' first | (refine Qg ?_; (first | refine QJ rfl ?_ | refine QN rfl ?_ | (refine Qo ?_; (first | refine QX rfl rfl ?_ | refine ZJ rfl rfl ?_ | refine W3 rfl rfl (by omega) ?_)) | refine QI rfl ?_ | refine WO rfl rfl ?_)) | (refine Qk ?_; (first | refine Qi ?_ | refine QK rfl ?_ | refine WM rfl rfl rfl rfl ?_ | refine Q5 rfl rfl (by omega) ?_)) | (refine Qj ?_; (first | refine Ql ?_ | refine Qb ?_ | refine Qe ?_ | (refine WF ?_; first | refine Wm (by rfl) (by kernel_rfl) (by kernel_rfl) ?_ | refine Wl (by kernel_rfl) (by kernel_rfl) ?_) | refine QB ?_ | refine Qm rfl (by omega) ?_ | refine Qf rfl (by omega) ?_)) | (refine g_lex ?_; (first | refine x_op rfl (by (repeat' first | (refine Qg ?_; (first | refine QJ rfl ?_ | refine QN rfl ?_ | (refine QG ?_; (first | refine WL rfl rfl ?_ | refine Wa rfl ?_)) | refine QM rfl rfl (by first | assumption | omega | (simp; done) | (simp; omega)) ?_ | refine WR rfl rfl (hln) ?_)) | exact ⟨rfl, rfl⟩)) ?_ | refine x_nil ?_)))
   refine ⟨i + 1, by omega, by omega, ?_⟩
   exact zal rfl
  ·clear hlns
   (repeat' first | (refine Qg ?_; (first | refine QJ rfl ?_ | refine QN rfl ?_ | refine WL rfl rfl ?_ | refine QX rfl rfl ?_ | (refine Qt ?_; (first | refine WR rfl rfl (hinc) ?_ | refine WR rfl rfl (hlv) ?_ | refine QI rfl ?_)) | refine W1 rfl rfl ?_)) | (refine Qk ?_; (first | refine Qi ?_ | refine QK rfl ?_ | refine WM rfl rfl rfl rfl ?_)) | (refine Qj ?_; (first | refine Ql ?_ | refine Qb ?_ | refine Qf rfl (by omega) ?_ | refine WC rfl ?_ | refine Qy ?_)))
   exact e_1 (Tryz.results6) (Qx rfl) (QY rfl)
end Go.Proofs
end
section
namespace Go.Av
open Classical Go.ChangeShapes Go.WideShapes Go.ChangeAt Go.RowKit
theorem law_callsG {P : Program} {G : Nat -> DV} {f : FuncId} {args : List DV} (h : Pure P G f args (.b true)) {W : World} {vs : Array Value} (hv : ∀ L, Sees W L -> VReps L args vs)
  (hG : ∀ L, Sees W L -> ∀ g, (G g).clo = true /\ VRep L (G g) (.pointer (some ⟨g, 0, none⟩))) (hT : ∀ g cs, G g = .ep cs -> ∃ T, W.shape? g = some (T, cs.length)) :
  Calls P f vs W fun e W' => e = .returned (.bool true) /\ Below W.heap.size W W' := by
 let X : AX := { w := W, ρ := fun _ => none, σ := [], N := 0, hid := fun _ => False }
 have hm : ∀ b, ¬ X.mut b := fun b ⟨k, g, n, hl, _⟩ => by simp [AX.live, X] at hl
 have hS : Sto X := {
  inj := fun k k' g g' b n n' hl => by simp [AX.live, X] at hl
  gen := fun k g hl => by simp [AX.live, X] at hl
  hid := fun b hb => absurd hb (hm b)
  hidlt := fun b hb => hb.elim
  holds := fun k B hB => by simp [X] at hB }
 have hL : Sees W X.lay := fun b o v hc => AX.imm_mk (hm b) (fun h => h) hc
 refine (h 0 X vs hS rfl (Nat.le_refl _) (fun g => ⟨⟨(hG X.lay hL g).1, fun cs hc => hT g cs hc⟩, (hG X.lay hL g).2⟩) (hv X.lay hL)).mono ?_
 rintro e w' ⟨v, rfl, Y, hw, hY, hE, d, hr, rfl, _⟩
 subst hw
 rw [VRep.sc_eq hr]
 exact ⟨rfl, hE.os, hE.tape, hE.output, hE.size, fun k hk => (hE.old k hk (hm k)).1⟩
theorem slice_rep {β : Type} [Enc β] {w : World} {a : Addr} {len cap : Nat} (hlc : len <= cap) (y : Fin len -> β)
  (hy : ∀ i, ∃ ci : List Value, ci.length = Enc.es β /\ (∀ r, r < Enc.es β -> w.cell? ((a.add (i.1 * Enc.es β)).add r) = ci[r]?) /\ ∀ L, Sees w L -> ∀ (j : Nat) d, (Enc.enc (y i) : List DV)[j]? = some d -> VRep L d (ci.getD j undef))
  (L : Lay) (hL : Sees w L) : VRep L (QW (List.ofFn y)) (.slice (some a) len cap) := by
 have hp := Enc.pos (α := β)
 have hlen : (Ws (List.ofFn y)).length = len * Enc.es β := by rw [QS, List.length_ofFn]
 let f : Nat -> Value := fun k => if h : k / Enc.es β < len then (Classical.choose (hy ⟨k / Enc.es β, h⟩)).getD (k % Enc.es β) undef else undef
 refine .sl _ _ _ _ _ f hlen.symm hlc (encs_one _) ?_ (fun k d hk => ?_)
 ·by_cases h0 : len = 0
  ·left
   exact List.eq_nil_of_length_eq_zero (by rw [hlen, h0, Nat.zero_mul])
  ·right
   obtain ⟨b, o, sp⟩ := a
   obtain ⟨c0, hc0, hc1, _⟩ := hy ⟨0, by omega⟩
   have hs := hc1 0 hp
   rw [List.getElem?_eq_getElem (by omega)] at hs
   have hsp : sp = none := by simpa [Addr.add] using spot_of hs
   subst hsp
   refine ⟨b, o, rfl, fun k hk => ?_⟩
   rw [hlen] at hk
   have hkd : k / Enc.es β < len := Nat.div_lt_of_lt_mul (by rw [Nat.mul_comm]; exact hk)
   have hfk : f k = (Classical.choose (hy ⟨k / Enc.es β, hkd⟩)).getD (k % Enc.es β) undef := dif_pos hkd
   obtain ⟨h4, h5, _⟩ := Classical.choose_spec (hy ⟨k / Enc.es β, hkd⟩)
   have hm := Nat.mod_lt k hp
   have h6 := h5 (k % Enc.es β) hm
   rw [List.getElem?_eq_getElem (by omega)] at h6
   refine hL b (o + k) (f k) ?_
   rw [hfk, List.getD_eq_getElem?_getD, List.getElem?_eq_getElem (by omega)]
   have hadd : ((⟨b, o, none⟩ : Addr).add (k / Enc.es β * Enc.es β)).add (k % Enc.es β) = ⟨b, o + k, none⟩ := by
    rw [ZM, ZM, Nat.add_assoc, Nat.mul_comm, Nat.div_add_mod]
   rw [hadd] at h6
   exact h6
 ·have hk' := (List.getElem?_eq_some_iff.1 hk).1
  rw [hlen] at hk'
  have hkd : k / Enc.es β < len := Nat.div_lt_of_lt_mul (by rw [Nat.mul_comm]; exact hk')
  have hfk : f k = (Classical.choose (hy ⟨k / Enc.es β, hkd⟩)).getD (k % Enc.es β) undef := dif_pos hkd
  obtain ⟨_, _, h7⟩ := Classical.choose_spec (hy ⟨k / Enc.es β, hkd⟩)
  have hm := Nat.mod_lt k hp
  have := encs_at (List.ofFn y) (k / Enc.es β) (by rw [List.length_ofFn]; exact hkd) (k % Enc.es β) hm
  rw [Nat.mul_comm, Nat.div_add_mod, hk, List.getElem_ofFn] at this
  rw [hfk]
  exact h7 L hL _ d this.symm
theorem ones {A B : Type} (g : B -> A) : ∀ (l : List B) (L : List A), L.length = l.length -> (∀ i b, l[i]? = some b -> (L.drop i).take 1 = [g b]) -> L = l.map g
 | [], L, hl, _ => List.eq_nil_of_length_eq_zero (by simpa using hl)
 | b :: l, L, hl, h => by
  have h0 := h 0 b rfl
  have hr := ones g l (L.drop 1) (by rw [List.length_drop, hl, List.length_cons]; omega) fun i b' hb => by
   have := h (i + 1) b' (by simpa using hb)
   rw [List.drop_drop]
   rwa [show 1 + i = i + 1 by omega]
  rw [List.map_cons, <- hr]
  have : L = L.take 1 ++ L.drop 1 := (List.take_append_drop 1 L).symm
  rw [List.drop_zero] at h0
  rw [h0] at this
  exact this
theorem shape_of_var {P : Program} {W : World} {name : String} {g : Nat} {cs : Array Value} (hg : P.globalNamed name = some g) (hv : W.var? P name = some cs) : ∃ T, W.shape? g = some (T, cs.size) := by
 unfold World.var? at hv
 rw [hg] at hv
 simp only [Option.bind_some] at hv
 split at hv
 ·rename_i h
  cases hv
  exact ⟨_, by unfold World.shape?; rw [h]⟩
 ·cases hv
end Go.Av
namespace Go.Proofs.YtnppaoeijmgneaaGreatDoor
open Go.ChangeShapes Go.WideShapes Go.ChangeAt Go.RowKit Go.Av Go.Proofs
def listD (l : List Int) : DataW Unit := match l with | [] => .nil | _ => .slice (l.map fun z => .lit (.int .i64 z)) []
def shD (s : Sh) : DataW Unit := .agg [.lit (.int .i64 s.is), .lit (.int .i64 s.low), .lit (.int .i64 s.high), .lit (.int .i64 s.last), listD s.kids, .lit (.int .i64 s.more), .lit (.int .i64 s.least), .lit (.int .i64 s.som)]
abbrev tok : TypeId × Value -> Unit := fun _ => ()
theorem cells3 : Tryz.prog.cellsOf 3 = 1 := by kernel_rfl
theorem cells111 : Tryz.prog.cellsOf 111 = 1 := by kernel_rfl
theorem cells128 : Tryz.prog.cellsOf 128 = 1 := by kernel_rfl
theorem cells130 : Tryz.prog.cellsOf 130 = 8 := by kernel_rfl
theorem cells131 : Tryz.prog.cellsOf 131 = 224 := by kernel_rfl
theorem cells5 : Tryz.prog.cellsOf 5 = 1 := by kernel_rfl
theorem cells154 : Tryz.prog.cellsOf 154 = 1 := by kernel_rfl
theorem cells158 : Tryz.prog.cellsOf 158 = 256 := by kernel_rfl
theorem cells194 : Tryz.prog.cellsOf 194 = 20 := by kernel_rfl
theorem gShapes : Tryz.prog.globalNamed "scoria/tree.shapes" = some 0 := by kernel_rfl
theorem tShapes : (Tryz.prog.globals[0]?).map (·.type) = some 131 := by kernel_rfl
theorem gSpace : Tryz.prog.globalNamed "strings.asciiSpace" = some 1 := by kernel_rfl
theorem tSpace : (Tryz.prog.globals[1]?).map (·.type) = some 158 := by kernel_rfl
theorem gPow : Tryz.prog.globalNamed "internal/strconv.uint64pow10" = some 6 := by kernel_rfl
theorem tPow : (Tryz.prog.globals[6]?).map (·.type) = some 194 := by kernel_rfl
theorem shapes_datum : (Rows.laid_scoria_tree_shapes : DataW Unit) = .agg (shapesL.map shD) := rfl
theorem space_datum : (Rows.laid_strings_asciiSpace : DataW Unit) = .agg (Lib.asciiSpaceTab.map fun z => .lit (.int .u8 z)) := rfl
theorem pow_datum : (Rows.laid_internal_strconv_uint64pow10 : DataW Unit) = .agg (Lib.pow10Tab.map fun z => .lit (.int .u64 z)) := rfl
variable {W : World} {l : List (String × DataW Unit)}
theorem kids_of {sp : Nat -> Bool} {b : Nat} {held : Bool} {fuel : Nat} {v : Value} {ks : List Int} {q : List MemPlace} (h : DataW.trod tok Tryz.prog W b sp held fuel 128 [v] = some (listD ks, q)) : ∀ L, Sees W L -> VRep L (QW ks) v := by
 rcases DataW.trod_slice (inferInstance : TyI Tryz.prog 128 (.slice 111) false 1).u h with ⟨e3, ex⟩ | ⟨a, len, cap, elems, rest, n, hn, e3, ex, _, hlc, hcap, hel, hget, _⟩
 ·have e3 : v = _ := List.head_eq_of_cons_eq e3
  have : ks = [] := by
   cases ks with
   | nil => rfl
   | cons x r => simp [listD] at ex
  subst this
  intro L hL
  rw [e3]
  exact .sl _ _ _ _ _ (fun _ => undef) (by simp [Ws]) (Nat.le_refl _) (fun d hd => by simp [Ws] at hd) (.inl rfl) (fun j d hj => by simp [Ws] at hj)
 ·have e3 : v = _ := List.head_eq_of_cons_eq e3
  have ex1 : listD ks = .slice (elems.map (·.1)) (rest.map (·.1)) := (Prod.mk.inj ex).1
  have hks : (elems.map (·.1)) = ks.map fun z => DataW.lit (.int .i64 z) := by
   cases ks with
   | nil => simp [listD] at ex1
   | cons x r => simp only [listD, DataW.slice.injEq] at ex1; exact ex1.1.symm
  have hlen : len = ks.length := by
   have := congrArg List.length hks
   rw [List.length_map, List.length_map] at this
   omega
  subst hlen
  intro L hL
  rw [e3]
  have key := slice_rep (w := W) (a := a) (len := ks.length) (cap := cap) hlc (fun i : Fin ks.length => ks[i]) (fun i => by
   have h1 := hget i.1 i.2
   rw [List.getElem?_eq_getElem (by omega), cells111] at h1
   obtain ⟨ci, h2, h3⟩ := Option.bind_eq_some_iff.1 h1
   obtain ⟨_, h4, h5⟩ := World.cells?_some h2
   obtain ⟨k, e1, e2, _⟩ := DataW.trod_int (inferInstance : TyI Tryz.prog 111 (.int .i64) false 1).u h3
   have hk : (elems.map (·.1))[i.1]? = (ks.map fun z => DataW.lit (.int .i64 z))[i.1]? := by rw [hks]
   rw [List.getElem?_map, List.getElem?_map, List.getElem?_eq_getElem (by omega), List.getElem?_eq_getElem i.2, e2] at hk
   have hk : k = ks[i.1] := by simpa using hk
   subst hk
   refine ⟨ci, h4, h5, fun L hL j d hj => ?_⟩
   rw [e1]
   cases j with
   | zero => cases hj; exact .sc _
   | succ j => simp [Enc.enc] at hj) L hL
  have hof : List.ofFn (fun i : Fin ks.length => ks[i]) = ks := List.ofFn_getElem
  rw [hof] at key
  exact key
theorem int_of {t : TypeId} {z : Nat} [ht : TyI Tryz.prog t (.int .i64) false z] {sp : Nat -> Bool} {b : Nat} {held : Bool} {fuel : Nat} {v : Value} {k : Int} {q : List MemPlace} (h : DataW.trod tok Tryz.prog W b sp held fuel t [v] = some (.lit (.int .i64 k), q)) : v = .int .i64 k := by
 obtain ⟨k', e1, e2, _⟩ := DataW.trod_int ht.u h
 have : k = k' := by simpa using (Prod.mk.inj e2).1
 rw [this]
 exact List.head_eq_of_cons_eq e1
theorem sh_of {sp : Nat -> Bool} {b : Nat} {held : Bool} {fuel : Nat} {c : List Value} {s : Sh} {q : List MemPlace} (h : DataW.trod tok Tryz.prog W b sp held fuel 130 c = some (shD s, q)) : c.length = 8 /\ ∀ L, Sees W L -> ∀ (j : Nat) d, (Enc.enc s : List DV)[j]? = some d -> VRep L d (c.getD j undef) := by
 obtain ⟨xs, n, hn, ex, hl, hxl, hf⟩ := DataW.trod_struct Tryz.underlying130 h
 rw [cells130] at hl
 match xs, hxl, c, hl with
 | [y0, y1, y2, y3, y4, y5, y6, y7], _, [v0, v1, v2, v3, v4, v5, v6, v7], _ =>
 have t0 := hf 0 _ rfl
 have t1 := hf 1 _ rfl
 have t2 := hf 2 _ rfl
 have t3 := hf 3 _ rfl
 have t4 := hf 4 _ rfl
 have t5 := hf 5 _ rfl
 have t6 := hf 6 _ rfl
 have t7 := hf 7 _ rfl
 clear hf h
 have t0 : DataW.trod tok Tryz.prog W b sp held n 111 [v0] = some y0 := by
  have e : (([v0, v1, v2, v3, v4, v5, v6, v7] : List Value).drop 0).take (Tryz.prog.cellsOf 111) = [v0] := by rw [cells111]; rfl
  rw [<- e]; exact t0
 have t1 : DataW.trod tok Tryz.prog W b sp held n 3 [v1] = some y1 := by
  have e : (([v0, v1, v2, v3, v4, v5, v6, v7] : List Value).drop 1).take (Tryz.prog.cellsOf 3) = [v1] := by rw [cells3]; rfl
  rw [<- e]; exact t1
 have t2 : DataW.trod tok Tryz.prog W b sp held n 3 [v2] = some y2 := by
  have e : (([v0, v1, v2, v3, v4, v5, v6, v7] : List Value).drop 2).take (Tryz.prog.cellsOf 3) = [v2] := by rw [cells3]; rfl
  rw [<- e]; exact t2
 have t3 : DataW.trod tok Tryz.prog W b sp held n 3 [v3] = some y3 := by
  have e : (([v0, v1, v2, v3, v4, v5, v6, v7] : List Value).drop 3).take (Tryz.prog.cellsOf 3) = [v3] := by rw [cells3]; rfl
  rw [<- e]; exact t3
 have t4 : DataW.trod tok Tryz.prog W b sp held n 128 [v4] = some y4 := by
  have e : (([v0, v1, v2, v3, v4, v5, v6, v7] : List Value).drop 4).take (Tryz.prog.cellsOf 128) = [v4] := by rw [cells128]; rfl
  rw [<- e]; exact t4
 have t5 : DataW.trod tok Tryz.prog W b sp held n 3 [v5] = some y5 := by
  have e : (([v0, v1, v2, v3, v4, v5, v6, v7] : List Value).drop 5).take (Tryz.prog.cellsOf 3) = [v5] := by rw [cells3]; rfl
  rw [<- e]; exact t5
 have t6 : DataW.trod tok Tryz.prog W b sp held n 3 [v6] = some y6 := by
  have e : (([v0, v1, v2, v3, v4, v5, v6, v7] : List Value).drop 6).take (Tryz.prog.cellsOf 3) = [v6] := by rw [cells3]; rfl
  rw [<- e]; exact t6
 have t7 : DataW.trod tok Tryz.prog W b sp held n 111 [v7] = some y7 := by
  have e : (([v0, v1, v2, v3, v4, v5, v6, v7] : List Value).drop 7).take (Tryz.prog.cellsOf 111) = [v7] := by rw [cells111]; rfl
  rw [<- e]; exact t7
 have ex1 := (Prod.mk.inj ex).1
 simp only [shD, List.map_cons, List.map_nil, DataW.agg.injEq, List.cons.injEq, and_true] at ex1
 obtain ⟨x0, x1, x2, x3, x4, x5, x6, x7⟩ := ex1
 obtain ⟨y0, p0⟩ := y0
 obtain ⟨y1, p1⟩ := y1
 obtain ⟨y2, p2⟩ := y2
 obtain ⟨y3, p3⟩ := y3
 obtain ⟨y4, p4⟩ := y4
 obtain ⟨y5, p5⟩ := y5
 obtain ⟨y6, p6⟩ := y6
 obtain ⟨y7, p7⟩ := y7
 dsimp only at x0 x1 x2 x3 x4 x5 x6 x7
 subst x0 x1 x2 x3 x4 x5 x6 x7
 have e0 := int_of (t := 111) (v := v0) t0
 have e1 := int_of (t := 3) (v := v1) t1
 have e2 := int_of (t := 3) (v := v2) t2
 have e3 := int_of (t := 3) (v := v3) t3
 have e4 := kids_of (v := v4) t4
 have e5 := int_of (t := 3) (v := v5) t5
 have e6 := int_of (t := 3) (v := v6) t6
 have e7 := int_of (t := 111) (v := v7) t7
 subst e0 e1 e2 e3 e5 e6 e7
 refine ⟨rfl, fun L hL j d hj => ?_⟩
 match j, hj with
 | 0, hj => cases hj; exact .sc _
 | 1, hj => cases hj; exact .sc _
 | 2, hj => cases hj; exact .sc _
 | 3, hj => cases hj; exact .sc _
 | 4, hj => cases hj; exact e4 L hL
 | 5, hj => cases hj; exact .sc _
 | 6, hj => cases hj; exact .sc _
 | 7, hj => cases hj; exact .sc _
 | j + 8, hj => simp [Enc.enc] at hj
theorem one_laid {name : String} {d : DataW Unit} {g t : Nat} (hf : l.filter (fun x => x.1 == name) = [(name, d)]) (hh : d.handleName? = none) (hg : Tryz.prog.globalNamed name = some g) (ht : (Tryz.prog.globals[g]?).map (·.type) = some t) (h : laidMetH Tryz.prog l W) :
  ∃ cs f p, W.var? Tryz.prog name = some cs /\ DataW.trod tok Tryz.prog W 0 (fun _ => true) false f t cs.toList = some (d, p) := by
 have h1 := h.filter fun x => x.1 == name
 rw [hf, MakeChecks.laidMetH_plain _ _ _ (by simp [hh])] at h1
 obtain ⟨ps, ⟨g', t', cs, f, p, q, hg', ht', hv, hd, _⟩, _, _⟩ := h1
 obtain rfl := Option.some.inj (hg.symm.trans hg')
 obtain rfl := Option.some.inj (ht.symm.trans ht')
 exact ⟨cs, f, p, hv, hd⟩
theorem shapes_laid (hf : l.filter (fun x => x.1 == "scoria/tree.shapes") = [("scoria/tree.shapes", Rows.laid_scoria_tree_shapes)]) (h : laidMetH Tryz.prog l W) :
  ∃ cs, W.var? Tryz.prog "scoria/tree.shapes" = some cs /\ cs.toList.length = 224 /\ ∀ L, Sees W L -> ∀ (j : Nat) d, (Ws shapesL)[j]? = some d -> VRep L d (cs.toList.getD j undef) := by
 obtain ⟨cs, f, p, hv, hd⟩ := one_laid hf rfl gShapes tShapes h
 rw [shapes_datum] at hd
 obtain ⟨xs, m, _, hx, hl, hn, hel⟩ := DataW.trod_array (inferInstance : TyI Tryz.prog 131 (.array 28 130) true 224).u hd
 rw [cells131] at hl
 have hx2 : (shapesL.map shD) = xs.map (·.1) := by simpa only [DataW.agg.injEq] using (Prod.mk.inj hx).1
 refine ⟨cs, hv, hl, fun L hL j d hj => ?_⟩
 have hj' : j < 224 := by
  have := (List.getElem?_eq_some_iff.1 hj).1
  rw [QS] at this
  exact this
 have hi : j / 8 < 28 := by omega
 have hm : j % 8 < 8 := Nat.mod_lt _ (by decide)
 have h1 := hel (j / 8) hi
 rw [cells130] at h1
 have hxi : (xs.map (·.1))[j / 8]? = (shapesL.map shD)[j / 8]? := by rw [hx2]
 have hsl : shapesL.length = 28 := rfl
 rw [List.getElem?_map, List.getElem?_map, List.getElem?_eq_getElem (show j / 8 < xs.length by omega), List.getElem?_eq_getElem (show j / 8 < shapesL.length by omega)] at hxi
 rw [List.getElem?_eq_getElem (show j / 8 < xs.length by omega)] at h1
 have hxi : (xs[j / 8]'(by omega)).1 = shD (shapesL[j / 8]'(by omega)) := by simpa using hxi
 generalize xs[j / 8]'(by omega) = y at h1 hxi
 obtain ⟨y1, y2⟩ := y
 dsimp only at hxi
 subst hxi
 obtain ⟨hc, hrep⟩ := sh_of h1
 have he := encs_at shapesL (j / 8) (by omega) (j % 8) hm
 have hes : Enc.es Sh = 8 := rfl
 rw [hes, show j / 8 * 8 + j % 8 = j by omega, hj] at he
 have := hrep L hL (j % 8) d he.symm
 rw [List.getD_eq_getElem?_getD, List.getElem?_take, if_pos hm, List.getElem?_drop, show j / 8 * 8 + j % 8 = j by omega, <- List.getD_eq_getElem?_getD] at this
 exact this
theorem ints_laid {name : String} {k : IntKind} {zs : List Int} {g t e : Nat} {N : Nat} [hat : TyI Tryz.prog t (.array N e) true N] [hie : TyI Tryz.prog e (.int k) false 1] (hN : zs.length = N) (hc : Tryz.prog.cellsOf t = N) (hce : Tryz.prog.cellsOf e = 1) (hf : l.filter (fun x => x.1 == name) = [(name, .agg (zs.map fun z => .lit (.int k z)))]) (hg : Tryz.prog.globalNamed name = some g) (ht : (Tryz.prog.globals[g]?).map (·.type) = some t) (h : laidMetH Tryz.prog l W) :
  ∃ cs, W.var? Tryz.prog name = some cs /\ cs.toList = zs.map fun z => .int k z := by
 obtain ⟨cs, f, p, hv, hd⟩ := one_laid hf rfl hg ht h
 obtain ⟨xs, m, _, hx, hl, hn, hel⟩ := DataW.trod_array hat.u hd
 rw [hc] at hl
 have hx2 : (zs.map fun z => DataW.lit (H := Unit) (.int k z)) = xs.map (·.1) := by simpa only [DataW.agg.injEq] using (Prod.mk.inj hx).1
 refine ⟨cs, hv, ones (fun z => .int k z) zs cs.toList (by omega) fun i z hi => ?_⟩
 have hi20 : i < N := by rw [<- hN]; exact (List.getElem?_eq_some_iff.1 hi).1
 have h1 := hel i hi20
 rw [hce, Nat.mul_one] at h1
 have hxi : (xs.map (·.1))[i]? = some (.lit (.int k z)) := by rw [<- hx2, List.getElem?_map, hi]; rfl
 rw [List.getElem?_map] at hxi
 cases hxs : xs[i]? with
 | none => rw [hxs] at hxi; cases hxi
 | some y =>
  rw [hxs] at hxi h1
  obtain ⟨k', e1, e2, _⟩ := DataW.trod_int hie.u h1
  have hy := Option.some.inj hxi
  rw [e2] at hy
  have hk : k' = z := by simpa using hy
  rw [e1, hk]
def G016 : Nat -> DV := fun g => match g with | 0 => shapesT | 1 => spaceT | 6 => pow10T | _ => .any
theorem ints_rep {name : String} {k : IntKind} {zs : List Int} {g : Nat} {cs : Array Value} (hg : Tryz.prog.globalNamed name = some g) (hv : W.var? Tryz.prog name = some cs) (hcs : cs.toList = zs.map fun z => .int k z) (L : Lay) (hL : Sees W L) : VRep L (.ep (zs.map fun z => .sc (.int k z))) (.pointer (some ⟨g, 0, none⟩)) := by
 refine .ep _ g 0 (fun j => (zs.map fun z => Value.int k z).getD j undef) (fun d hd => ?_) (fun j hj => ?_) (fun j d hd => ?_)
 ·obtain ⟨z, _, rfl⟩ := List.mem_map.1 hd; rfl
 ·refine hL _ _ _ ?_
  rw [World.var?_cell hg hv, Nat.zero_add, <- hcs]
  have hj' : j < cs.toList.length := by rw [hcs]; simpa using hj
  rw [List.getD_eq_getElem?_getD, List.getElem?_eq_getElem hj']
  simp
 ·rw [List.getElem?_map] at hd
  cases hz : zs[j]? with
  | none => rw [hz] at hd; cases hd
  | some z =>
   rw [hz] at hd
   cases hd
   rw [List.getD_eq_getElem?_getD, List.getElem?_map, hz]
   exact .sc _
theorem of_laid (hf0 : l.filter (fun x => x.1 == "scoria/tree.shapes") = [("scoria/tree.shapes", Rows.laid_scoria_tree_shapes)]) (hf1 : l.filter (fun x => x.1 == "strings.asciiSpace") = [("strings.asciiSpace", Rows.laid_strings_asciiSpace)])
  (hf6 : l.filter (fun x => x.1 == "internal/strconv.uint64pow10") = [("internal/strconv.uint64pow10", Rows.laid_internal_strconv_uint64pow10)]) (h : laidMetH Tryz.prog l W) :
  (∀ L, Sees W L -> ∀ g, (G016 g).clo = true /\ VRep L (G016 g) (.pointer (some ⟨g, 0, none⟩))) /\ ∀ g cs, G016 g = .ep cs -> ∃ T, W.shape? g = some (T, cs.length) := by
 obtain ⟨c0, v0, n0, r0⟩ := shapes_laid hf0 h
 rw [space_datum] at hf1
 rw [pow_datum] at hf6
 obtain ⟨c1, v1, r1⟩ := ints_laid (t := 158) (e := 5) (N := 256) (by kernel_rfl) cells158 cells5 hf1 gSpace tSpace h
 obtain ⟨c6, v6, r6⟩ := ints_laid (t := 194) (e := 154) (N := 20) (by kernel_rfl) cells194 cells154 hf6 gPow tPow h
 refine ⟨fun L hL g => ?_, fun g cs hg => ?_⟩
 ·match g with
  | 0 =>
   refine ⟨Zu (QC _), ?_⟩
   show VRep L shapesT _
   unfold shapesT
   refine .ep _ 0 0 (fun j => c0.toList.getD j undef) (encs_one _) (fun j hj => ?_) (r0 L hL)
   refine hL _ _ _ ?_
   rw [World.var?_cell gShapes v0, Nat.zero_add]
   have hj' : j < c0.toList.length := by rw [n0]; exact hj
   rw [List.getD_eq_getElem?_getD, List.getElem?_eq_getElem hj']
   simp
  | 1 =>
   refine ⟨?_, ints_rep gSpace v1 r1 L hL⟩
   show spaceT.clo = true
   unfold spaceT
   refine Zu fun d hd => ?_
   obtain ⟨z, _, rfl⟩ := List.mem_map.1 hd
   exact Wh
  | 6 =>
   refine ⟨?_, ints_rep gPow v6 r6 L hL⟩
   show pow10T.clo = true
   unfold pow10T
   refine Zu fun d hd => ?_
   obtain ⟨z, _, rfl⟩ := List.mem_map.1 hd
   exact Wh
  | 2 => exact ⟨by simp [G016, DV.clo], .any _⟩
  | 3 => exact ⟨by simp [G016, DV.clo], .any _⟩
  | 4 => exact ⟨by simp [G016, DV.clo], .any _⟩
  | 5 => exact ⟨by simp [G016, DV.clo], .any _⟩
  | g + 7 => exact ⟨by simp [G016, DV.clo], .any _⟩
 ·match g, hg with
  | 0, hg =>
   obtain ⟨T, hT⟩ := shape_of_var gShapes v0
   refine ⟨T, ?_⟩
   have : Ws shapesL = cs := by simpa [G016, shapesT] using hg
   rw [hT, <- Array.length_toList, n0, <- this]; rfl
  | 1, hg =>
   obtain ⟨T, hT⟩ := shape_of_var gSpace v1
   refine ⟨T, ?_⟩
   have : (Lib.asciiSpaceTab.map fun z => DV.sc (.int .u8 z)) = cs := by simpa [G016, spaceT] using hg
   rw [hT, <- Array.length_toList, r1, <- this, List.length_map, List.length_map]
  | 6, hg =>
   obtain ⟨T, hT⟩ := shape_of_var gPow v6
   refine ⟨T, ?_⟩
   have : (Lib.pow10Tab.map fun z => DV.sc (.int .u64 z)) = cs := by simpa [G016, pow10T] using hg
   rw [hT, <- Array.length_toList, r6, <- this, List.length_map, List.length_map]
  | 2, hg => simp [G016] at hg
  | 3, hg => simp [G016] at hg
  | 4, hg => simp [G016] at hg
  | 5, hg => simp [G016] at hg
  | g + 7, hg => simp [G016] at hg
end Go.Proofs.YtnppaoeijmgneaaGreatDoor
end
