/-
  Part 5 of the proof: GA BN AT LN T7 T9 TB PN TC LI CP AvD2 LV AvL5.
-/
import Derived.WalkKit
import Derived.LoopTactic
import Derived.WalkSmall
import Derived.Laws.RangeString
import Derived.Test.YtnppaoeijmgneaaGreatDoorZC1
import Derived.Test.YtnppaoeijmgneaaGreatDoorZC2
import Derived.Test.YtnppaoeijmgneaaGreatDoorZC3
import Derived.Test.YtnppaoeijmgneaaGreatDoorZC4
set_option linter.unusedSimpArgs false
set_option linter.unusedVariables false
set_option maxRecDepth 10000
set_option maxHeartbeats 4000000
section
namespace Go.Proofs
open Go.Av
variable {G : Nat -> DV}
attribute [local irreducible] OpSem Zs ZH qa ACalls qP AClose RV
open Go.Bl
theorem Zk {P : Program} {G : Nat -> DV} {B : Nat} {f : Operand -> DV} {σ : List ABlk} {K : DV -> List ABlk -> Prop} {dst : Option Tmp} {type : TypeId} {pos : String} {after : Array Edge} {gd : Option (Nat × Bool)} {t t' : TypeId} {x y : Operand} {a b c : Int} (hx : f x = .sc (.int .i64 a)) (hy : f y = .sc (.int .i64 b)) (hc : a - b = c) (h : -9223372036854775808 <= c /\ c <= 9223372036854775807)
  (k : K (.sc (.int .i64 c)) σ) : OpSem P G B ⟨dst, .binOp .sub t x y t', type, pos, after, gd⟩ f σ K :=
 Wt hx hy (by rw [hc]; exact h) (by rw [hc]; exact k)
def arnd (n most : Int) : Int := (if n < 0 then -(n + 1) else n) % most
theorem arnd_bound (n : Int) {most : Int} (h : 0 < most) : 0 <= arnd n most /\ arnd n most < most := by
 unfold arnd
 exact ⟨Int.emod_nonneg _ (by omega), Int.emod_lt_of_pos _ h⟩
theorem around_c (n most : Int) (hn : -9223372036854775808 <= n /\ n <= 9223372036854775807) (hm : 0 < most /\ most <= 9223372036854775807) : Go.Av.Pure Tryz.prog G 14 [.i n, .i most] (.i (arnd n most)) := fun B => by
 have hb := arnd_bound n hm.1
 unfold arnd at hb ⊢
 by_cases h : n < 0
 ·rw [if_pos h] at hb ⊢
  refine Qa Tryz.func14 rfl Tryz.ntmps14 rfl (t := [(0, .i n), (1, .i most)]) rfl fun E hE => ?_
  (repeat' first | (refine Qi ?_; (first | refine QM rfl ?_ | refine QR rfl ?_ | (refine Qj ?_; (first | refine Q9 rfl rfl ?_ | refine Zh rfl rfl (by omega) ?_ | refine ZA rfl rfl (by first | omega | exact nn_shr (by omega)) (by omega) ?_)) | refine s_neg rfl (by omega) ?_)) | (refine Qn ?_; (first | refine Ql ?_ | refine QN rfl ?_)) | (refine Qm ?_; (first | refine Qo ?_ | refine Qb ?_ | refine Qh rfl (by omega) ?_ | refine Qx ?_)))
  refine e_1 Tryz.results14 (QH rfl) (Q8 ?_)
  rfl
 ·rw [if_neg h] at hb ⊢
  refine Qa Tryz.func14 rfl Tryz.ntmps14 rfl (t := [(0, .i n), (1, .i most)]) rfl fun E hE => ?_
  (repeat' first | (refine Qi ?_; (first | refine QM rfl ?_ | refine QR rfl ?_ | (refine Qj ?_; (first | refine Q9 rfl rfl ?_ | refine ZA rfl rfl (by first | omega | exact nn_shr (by omega)) (by omega) ?_)))) | (refine Qn ?_; (first | refine Ql ?_ | refine QN rfl ?_)) | (refine Qm ?_; (first | refine Qo ?_ | refine Qb ?_ | refine QB ?_ | refine Qg rfl (by omega) ?_ | refine Qx ?_)))
  refine e_1 Tryz.results14 (QH rfl) (Q8 ?_)
  rfl
def atI (l : List Int) (i most : Int) : Int := if 0 <= i /\ i.toNat < l.length then arnd (l.getD i.toNat 0) most else 0
theorem Qw (l : List Int) (i : Int) {most : Int} (h : 0 < most) : 0 <= atI l i most /\ atI l i most < most := by
 unfold atI
 split
 ·exact arnd_bound _ h
 ·omega
def OkI (l : List Int) : Prop := l.length <= 9223372036854775807 /\ ∀ x ∈ l, -9223372036854775808 <= x /\ x <= 9223372036854775807
theorem r01At_c (l : List Int) (hl : OkI l) (i most : Int) (hm : 0 < most /\ most <= 9223372036854775807) : Go.Av.Pure Tryz.prog G 34 [Q5 l, .i i, .i most] (.i (atI l i most)) := fun B => by
 unfold atI
 by_cases h : 0 <= i /\ i.toNat < l.length
 ·rw [if_pos h]
  have hgd : l.getD i.toNat 0 = l[i.toNat] := by rw [List.getD_eq_getElem?_getD, List.getElem?_eq_getElem h.2]; rfl
  rw [hgd]
  have har := around_c (G := G) l[i.toNat] most (hl.2 _ (List.getElem_mem h.2)) hm
  obtain ⟨h0, h1⟩ := h
  refine Qa Tryz.func34 rfl Tryz.ntmps34 rfl (t := [(0, Q5 l), (1, .i i), (2, .i most)]) rfl fun E hE => ?_
  (repeat' first | (refine Qi ?_; (first | refine QM rfl ?_ | refine QR rfl ?_ | refine Wo rfl ?_ | refine s_idx_sl rfl rfl (by omega) (by first | assumption | omega | (simp; done) | (simp; omega)) ?_ | (refine Qj ?_; (first | refine Q9 rfl rfl ?_ | refine Zt rfl rfl ?_)) | (refine Qu ?_; (first | refine Q2 rfl ?_ | refine W5 rfl rfl (har) ?_)) | refine WK rfl rfl ?_)) | (refine Qn ?_; (first | refine Ql ?_ | refine QN rfl ?_ | refine WJ rfl rfl rfl rfl ?_ | refine QZ rfl rfl (by omega) ?_)) | (refine Qm ?_; (first | refine Qo ?_ | refine Qb ?_ | refine QB ?_ | refine Qg rfl (by omega) ?_ | refine Qx ?_)))
  refine e_1 Tryz.results34 (QH rfl) (Q8 ?_)
  rfl
 ·rw [if_neg h]
  refine Qa Tryz.func34 rfl Tryz.ntmps34 rfl (t := [(0, Q5 l), (1, .i i), (2, .i most)]) rfl fun E hE => ?_
  (repeat' first | (refine Qi ?_; (first | refine QM rfl ?_ | refine QR rfl ?_ | (refine Qj ?_; (first | refine Q9 rfl rfl ?_ | refine Zt rfl rfl ?_)) | refine Q2 rfl ?_ | (refine Wh ?_; (first | refine W6 rfl rfl ?_ | refine WK rfl rfl ?_)))) | (refine Qn ?_; (first | refine Ql ?_ | refine QN rfl ?_ | refine WJ rfl rfl rfl rfl ?_ | refine Zd rfl rfl rfl rfl ?_ | refine qO rfl rfl (fun _ => ?_) (fun _ => ?_))) | (refine Qm ?_; (first | refine Qo ?_ | refine Qb ?_ | refine Qv rfl ?_ | refine Qh rfl (by omega) ?_ | refine Qx ?_)))
  all_goals
   refine e_1 Tryz.results34 (QH rfl) (Q8 ?_)
   rfl
abbrev Zo (l : List Int) (a r : Int) : List DV := [Q5 l, .i a, .i r]
theorem WC (l : List Int) (hl : OkI l) (a r most : Int) (ha : 0 <= a /\ a <= 9000000000000000000) (hm : 0 < most /\ most <= 9223372036854775807) : CE Tryz.prog G 35 (fun p g => [.ptr p g 0, .i most]) (Zo l a r) (.i (atI l a most)) (Zo l (a + 1) r) := fun g B hg => by
 have hat := r01At_c (G := G) l hl a most hm
 refine Qa Tryz.func35 rfl Tryz.ntmps35 rfl (t := [(0, .ptr 0 g 0), (1, .i most)]) rfl fun E hE => ?_
 (repeat' first | (refine Qi ?_; (first | refine QM rfl ?_ | refine QR rfl ?_ | refine Qc rfl rfl rfl ?_ | refine Zh rfl rfl (by omega) ?_ | refine QD rfl rfl rfl rfl (by rfl) (by rfl) (by rfl) ?_ | refine Qd rfl rfl ?_ | refine Qf rfl rfl ?_)) | (refine Qn ?_; (first | refine Ql ?_ | refine QN rfl ?_ | refine QJ ?_)) | (refine Qm ?_; (first | refine Qo ?_ | refine Qb ?_ | (refine WO ?_; first | refine Wn (by rfl) (by kernel_rfl) (by kernel_rfl) ?_ | refine Wm (by kernel_rfl) (by kernel_rfl) ?_) | refine Qx ?_)) | (refine g_lex ?_; (first | refine x_op rfl (by (repeat' first | (refine Qi ?_; (first | refine QM rfl ?_ | refine QR rfl ?_ | refine Qc rfl rfl rfl ?_ | refine W5 rfl rfl (hat) ?_ | refine Qd rfl rfl ?_ | refine Qf rfl rfl ?_)) | exact ⟨rfl, rfl⟩)) ?_ | refine x_nil ?_)))
 all_goals exact e_1 (Tryz.results35) (QH rfl) (ZI rfl rfl)
theorem Wb (l : List Int) (hl : OkI l) (a r most : Int) (ha : 0 <= a /\ a <= 9000000000000000000) (hm : 0 < most /\ most <= 9223372036854775807) : CE Tryz.prog G 38 (fun p g => [.ptr p g 0, .i most]) (Zo l a r) (.i (atI l a most)) (Zo l (a + 1) r) := fun g B hg => by
 have hat := r01At_c (G := G) l hl (a + 1 - 1) most hm
 rw [show a + 1 - 1 = a by omega] at hat
 have he : a + 1 - 1 = a := by omega
 refine Qa Tryz.func38 rfl Tryz.ntmps38 rfl (t := [(0, .ptr 0 g 0), (1, .i most)]) rfl fun E hE => ?_
 (repeat' first | (refine Qi ?_; (first | refine QM rfl ?_ | refine QR rfl ?_ | refine Qc rfl rfl rfl ?_ | refine Zh rfl rfl (by omega) ?_ | refine QD rfl rfl rfl rfl (by rfl) (by rfl) (by rfl) ?_ | refine Qd rfl rfl ?_ | refine Qf rfl rfl ?_)) | (refine Qn ?_; (first | refine Ql ?_ | refine QN rfl ?_ | refine QJ ?_)) | (refine Qm ?_; (first | refine Qo ?_ | refine Qb ?_ | (refine WO ?_; first | refine Wn (by rfl) (by kernel_rfl) (by kernel_rfl) ?_ | refine Wm (by kernel_rfl) (by kernel_rfl) ?_) | refine Qx ?_)) | (refine g_lex ?_; (first | refine x_op rfl (by (repeat' first | (refine Qi ?_; (first | refine QM rfl ?_ | refine QR rfl ?_ | refine Qc rfl rfl rfl ?_ | refine Zk rfl rfl he ⟨by omega, by omega⟩ ?_ | refine W5 rfl rfl (hat) ?_ | refine Qd rfl rfl ?_ | refine Qf rfl rfl ?_)) | exact ⟨rfl, rfl⟩)) ?_ | refine x_nil ?_)))
 all_goals exact e_1 (Tryz.results38) (QH rfl) (ZI rfl rfl)
end Go.Proofs
end
section
namespace Go.Proofs
open Go.Av Go.Bl
theorem funT_len2 (t : Nd) (hok : okN t) (hs : Qs t <= 256) : (funT t).length <= 3000 * Qs t := by
 obtain ⟨k, n, m, ks⟩ := t
 rw [okN] at hok
 rw [Qs] at hs ⊢
 have hn := Zy hok.1.2.1
 rw [funT]
 split
 ·rename_i h
  have hk : 0 < ks.length := by simp at h; omega
  have hl := sizeL_last hk
  have hb := (st_len _ (WY hok.2 (last_mem hk)) 0).2
  have hc := qt typT (M := 30) ks (ks.length - 1) fun x hx => typT_len x (WY hok.2 hx)
  generalize ks.getD (ks.length - 1) (.mk 0 0 0 []) = b at *
  have hb2 : (6 * (0 + Qs b) + 100) * (Qs b - 1) <= 3000 * (Qs b - 1) := Nat.mul_le_mul (by omega) (Nat.le_refl _)
  simp only [List.length_append, Wc, List.length_cons, List.length_nil]
  omega
 ·simp
theorem funs_len2 : ∀ (ks : List Nd), okL ks -> QC ks <= 256 -> ((ks.map funT).flatten).length <= 3000 * QC ks
 | [], _, _ => by simp
 | x :: r, h, hs => by
  rw [okL] at h
  rw [QC] at hs
  have h1 := funT_len2 x h.1 (by omega)
  have h2 := funs_len2 r h.2 (by omega)
  rw [List.map_cons, List.flatten_cons, List.length_append, QC, Nat.mul_add]; omega
theorem prT_len2 (t : Nd) (hok : okN t) (hs : Qs t <= 256) : (prT t).length <= 3000 * Qs t := by
 have h1 := typT_len t hok
 have h2 := exT_len t hok
 have h3 := (st_len t hok 0).1
 have h4 := funT_len2 t hok hs
 have hb : bnd 0 (Qs t) <= 3000 * Qs t := by
  unfold bnd
  exact Nat.mul_le_mul (by omega) (Nat.le_refl _)
 obtain ⟨k, n, m, ks⟩ := t
 rw [prT]
 rw [okN] at hok
 have hn := Zy hok.1.2.1
 have hse : Qs (.mk k n m ks) = 1 + QC ks := by rw [Qs]
 have hf := funs_len2 ks hok.2 (by omega)
 repeat' split
 ·rw [List.length_append, Wc, List.length_append, hse]
  simp only [List.length_cons, List.length_nil]; omega
 ·exact h4
 ·omega
 ·omega
 ·omega
theorem print_len2 (t : Nd) (hok : okN t) (hs : Qs t <= 256) : (WW t).length <= 768000 := by
 unfold WW
 split
 ·have := prT_len2 t hok hs; omega
 ·simp
theorem valid_ok {t : Nd} (h : qF t = true) : okN t /\ Qs t <= 256 /\ prOk t = true := by
 have hp := valid_pr h
 unfold qF at h
 simp only [Bool.and_eq_true, decide_eq_true_eq] at h
 exact ⟨fit_ok t 0 h.2, h.1.1, hp⟩
def blankM (g : Nat -> List UInt8) : Nat -> List (List UInt8) -> List UInt8
 | _, [] => []
 | i, t :: ts => g i ++ (t ++ blankM g (i + 1) ts)
theorem blank_head {g : Nat -> List UInt8} (hg : ∀ i, g i ≠ [] /\ (g i).all spB = true) (i : Nat) (ts : List (List UInt8)) : ∀ b ∈ (blankM g i ts).head?, spB b = true := fun b hb => by
 cases ts with
 | nil => cases hb
 | cons t r =>
  rw [blankM] at hb
  obtain ⟨h1, h2⟩ := hg i
  cases hq : g i with
  | nil => exact absurd hq h1
  | cons x q =>
   rw [hq] at hb h2
   simp at hb h2
   rw [<- hb]; exact h2.1
theorem blank_lex {g : Nat -> List UInt8} (hg : ∀ i, g i ≠ [] /\ (g i).all spB = true) : ∀ (ts : List (List UInt8)) (i : Nat), (∀ t ∈ ts, t ≠ [] /\ ∃ u, W0 u = t) -> Z1 (blankM g i ts) ts
 | [], i, _ => lex_end rfl
 | t :: r, i, h => by
  obtain ⟨h1, u, h2⟩ := h t (by simp)
  rw [blankM]
  exact lex_cons (hg i).2 h1 (first_stop h2 h1 (blank_head hg (i + 1) r)) (blank_lex hg r (i + 1) fun t ht => h t (by simp [ht]))
theorem blank_parse {z : Nd} {n m : Int} {ks : List Nd} (hv : qF (.mk 27 n m ks) = true) {g : Nat -> List UInt8} (hg : ∀ i, g i ≠ [] /\ (g i).all spB = true) (hts : ∀ t ∈ progK (.mk 27 n m ks), t ≠ [] /\ ∃ u, W0 u = t) :
  8192 < (blankM g 0 (progK (.mk 27 n m ks))).length \/ parseM z (blankM g 0 (progK (.mk 27 n m ks))) = (.mk 27 n m ks, -1) := by
 have hp := valid_pr hv
 by_cases hl : 8192 < (blankM g 0 (progK (.mk 27 n m ks))).length
 ·exact .inl hl
 ·right
  obtain ⟨h1, h2⟩ := blank_lex hg (progK (.mk 27 n m ks)) 0 hts 0
  generalize blankM g 0 (progK (.mk 27 n m ks)) = s at *
  unfold parseM
  rw [if_neg hl, rd_prog hp h1 (by omega), if_neg (by simp), if_neg (by omega)]
  dsimp only
  rw [if_pos hv]
theorem print_parse {z : Nd} {n m : Int} {ks : List Nd} (hv : qF (.mk 27 n m ks) = true) : 8192 < (WW (.mk 27 n m ks)).length \/ parseM z (WW (.mk 27 n m ks)) = (.mk 27 n m ks, -1) := by
 have hp := valid_pr hv
 by_cases hl : 8192 < (WW (.mk 27 n m ks)).length
 ·exact .inl hl
 ·right
  obtain ⟨h1, h2⟩ := lex_prog hp 0
  generalize WW (.mk 27 n m ks) = s at *
  unfold parseM
  rw [if_neg hl, rd_prog hp h1 (by omega), if_neg (by simp), if_neg (by omega)]
  dsimp only
  rw [if_pos hv]
end Go.Proofs
end
section
namespace Go.Proofs
open Go.Av
variable {G : Nat -> DV}
attribute [local irreducible] OpSem Zs ZH qa ACalls qP AClose RV
open Go.Bl
theorem partD_nd (v : Nd) : partD (Enc.enc v) 0 4 = some (Enc.enc v) := by cases v; rw [QI]; rfl
theorem copied_c (t : Nd) : Qs t <= 1000000 -> Go.Av.Pure Tryz.prog G 121 [.agg (Enc.enc t)] (.agg (Enc.enc t)) := by
 induction t using Nd.ind with
 | h k n m ks ih =>
 intro hsz B
 have hse : Qs (.mk k n m ks) = 1 + QC ks := by rw [Qs]
 rw [hse] at hsz
 have hln := Zn ks
 have hi : ∀ x ∈ ks, Go.Av.Pure Tryz.prog G 121 [.agg (Enc.enc x)] (.agg (Enc.enc x)) := fun x hx => ih x hx (by have := Wz hx; omega)
 clear ih
 rw [QI]
 refine Qa Tryz.func121 rfl Tryz.ntmps121 rfl (t := [(0, .agg [.i k, .i n, .i m, Q5 ks])]) rfl fun E hE => ?_
 (repeat' first | (refine Qi ?_; (first | refine QM rfl ?_ | refine QR rfl ?_ | refine Qc rfl rfl rfl ?_ | refine Q2 rfl ?_ | refine QD rfl rfl rfl rfl (by rfl) (by rfl) (by rfl) ?_ | refine Qd rfl rfl ?_ | refine Qq (fun _ _ => ?_) | refine Wi rfl rfl (fun _ _ => ?_))) | (refine Qn ?_; (first | refine Ql ?_ | refine QN rfl ?_ | refine QJ ?_)) | (refine Qm ?_; (first | refine Qo ?_ | refine Qb ?_ | refine Qe ?_)))
 rename_i g1 hg1 g2 hg2
 refine r_ownin 0 3 4 rfl rfl (fun _ => rfl) (fun gk hgk => ?_)
 refine r_loop2 (fun (i gc : Nat) => ⟨[(1, .ptr 0 g1 0), (2, .ptr 1 g2 0), (9, Q5 ks), (10, .i ks.length), (11, .i i)], [.row g1 [.i k, .i n, .i m, .ref 2 gc 0 (ks.take i).length 4], .row g2 [.i 0, .i 0, .i 0, .nil], .row gc (Wq (ks.take i))]⟩) (fun i gc => i <= ks.length /\ E.N < gc) (fun i _ => ks.length - i) 0 gk ?_ ⟨by omega, hgk⟩ ?_
 ·exact zal rfl
 intro i gc ⟨hi2, hgc⟩
 have hcl : (ks.take i).length <= 1000000 := by rw [List.length_take]; omega
 by_cases hil : i < ks.length
 ·have hi1 := hi _ (List.getElem_mem hil)
  have hst := List.take_succ_eq_append_getElem hil
  clear hi
  (repeat' first | (refine Qi ?_; (first | refine QM rfl ?_ | refine Q4 rfl ?_ | refine Q1 rfl rfl (by first | assumption | omega | (simp; done) | (simp; omega)) ?_ | (refine Qj ?_; (first | refine Q9 rfl rfl ?_ | refine Zh rfl rfl (by omega) ?_)) | refine ZG (z := (ks[i])) rfl rfl rfl rfl rfl rfl rfl (by first | omega | (simp; omega)) (by first | omega | (simp; omega)) (fun _ => rfl) (fun _ _ => ?_) | (refine QK ?_; (first | refine Ws rfl rfl rfl rfl ?_ | refine QD rfl rfl rfl rfl (by rfl) (by rfl) (by rfl) ?_)) | refine Qq (fun _ _ => ?_))) | (refine Qn ?_; (first | refine Ql ?_ | refine QN rfl ?_ | refine QJ ?_)) | (refine Qm ?_; (first | refine Qo ?_ | refine Qb ?_ | refine Qe ?_ | (refine WO ?_; first | (rename_i g5 hg5; refine Qz (fun p => .row g1 [.i k, .i n, .i m, .ref 2 gc 0 (ks.take i).length 4] :: .row g2 [.i 0, .i 0, .i 0, .nil] :: p :: .row g5 (Enc.enc ks[i]) :: []) 7 [(0, true), (1, true), (2, true), (3, true), (4, true), (5, false), (6, true), (7, false)] (by rfl) (by rfl) (by kernel_rfl) (by decide +kernel) (by decide +kernel) ⟨_, rfl⟩ ?_) | (refine Qz (fun p => p) 100 [(0, true)] (by rfl) (by rfl) (by kernel_rfl) (by decide +kernel) (by decide +kernel) ⟨_, rfl⟩ ?_) | refine Wn (by rfl) (by kernel_rfl) (by kernel_rfl) ?_ | refine Wm (by kernel_rfl) (by kernel_rfl) ?_) | refine QB ?_ | refine Qh rfl (by omega) ?_)) | (refine W9 ?_; (first | refine ZO ?_ | refine i_z0 ?_ | refine i_st rfl rfl (fun _ => (by (repeat' first | (refine Qi ?_; (first | (refine QO ?_; (first | refine W2 rfl rfl ?_ | refine Qc rfl rfl rfl ?_)) | refine ZS rfl rfl hi1 (WT (Enc.clo _)) ?_ | refine Q0 (z := ks[i]) rfl rfl (by decide) ?_ | refine Qd rfl rfl ?_)) | exact ⟨rfl, rfl⟩))) ?_ | refine i_ef rfl ?_)) | refine And.intro (Exists.intro (_) rfl) ?_)
  rename_i ga hga
  refine ⟨i + 1, ga, ⟨by omega, by omega⟩, by omega, ?_⟩
  rw [hst]
  exact zal rfl
 ·have hi3 : i = ks.length := by omega
  subst hi3
  rw [List.take_length]
  have c1 := We ks
  clear hi
  refine r_pubin 0 3 rfl rfl rfl c1.symm rfl rfl ?_
  (repeat' first | (refine Qi ?_; (first | refine W2 rfl rfl ?_ | refine Q9 rfl rfl ?_ | refine Ws rfl rfl rfl rfl ?_)) | (refine Qn ?_; (first | refine Ql ?_ | refine QN rfl ?_ | refine QJ ?_)) | (refine Qm ?_; (first | refine Qo ?_ | refine Qb ?_ | refine Qg rfl (by omega) ?_ | refine WS rfl ?_ | refine Qx ?_)))
  all_goals exact e_1 (Tryz.results121) (Qr (size := 4) rfl rfl rfl rfl) (Q8 rfl)
def atM : List Int -> Nd -> Option Nd
 | [], t => some t
 | i :: p, .mk k n m ks => if 0 <= i then (match ks[i.toNat]? with | some x => atM p x | none => none) else none
theorem atM_cons {a : Int} {p : List Int} {k n m : Int} {ks : List Nd} (h0 : 0 <= a) (h1 : a.toNat < ks.length) : atM (a :: p) (.mk k n m ks) = atM p ks[a.toNat] := by
 rw [atM, if_pos h0, List.getElem?_eq_getElem h1]
theorem atM_none {a : Int} {p : List Int} {k n m : Int} {ks : List Nd} (h : a < 0 \/ (ks.length : Int) <= a) : atM (a :: p) (.mk k n m ks) = none := by
 rw [atM]
 split
 ·rw [List.getElem?_eq_none (by omega)]
 ·rfl
def atD (o : Option Nd) : DV := match o with | some x => .tup [.agg (Enc.enc x), .b true] | none => .tup [.agg (Enc.enc zero0), .b false]
where zero0 : Nd := .mk 0 0 0 []
theorem tup_nil0 {L : Lay} {a b c d : DV} {es : Nat} {v : Value} (h : VRep L (.tup [.agg [a, b, c, .sc (.slice none 0 0)], d]) v) : VRep L (.tup [.agg [a, b, c, .sl es []], d]) v := by
 cases h with | tup _ vs hl hg =>
 refine .tup _ _ hl fun j e hj => ?_
 match j with
 | 0 =>
  simp at hj; subst hj
  have h0 := hg 0 _ rfl
  generalize vs.getD 0 undef = v0 at h0 ⊢
  cases h0 with | agg _ ws hl2 ho2 hg2 =>
  refine .agg _ _ hl2 (fun e he => ?_) fun j e hj => ?_
  ·simp only [List.mem_cons, List.not_mem_nil, or_false] at he
   rcases he with rfl | rfl | rfl | rfl
   ·exact ho2 _ (by simp)
   ·exact ho2 _ (by simp)
   ·exact ho2 _ (by simp)
   ·rfl
  ·match j with
   | 0 => exact hg2 0 e hj
   | 1 => exact hg2 1 e hj
   | 2 => exact hg2 2 e hj
   | 3 => simp at hj; subst hj; exact nil_str (hg2 3 _ rfl)
   | j + 4 => simp at hj
 | j + 1 => exact hg (j + 1) e hj
theorem trAt_c (t : Nd) (hsz : Qs t <= 1000000) (path : List Int) (hpl : path.length <= 4611686018427387904) : Go.Av.Pure Tryz.prog G 67 [.agg (Enc.enc t), Q5 path] (atD (atM path t)) := fun B => by
 refine Qa Tryz.func67 rfl Tryz.ntmps67 rfl (t := [(0, .agg (Enc.enc t)), (1, Q5 path)]) rfl fun E hE => ?_
 (repeat' first | (refine Qi ?_; (first | refine QM rfl ?_ | refine QR rfl ?_ | refine Q2 rfl ?_ | refine Qq (fun _ _ => ?_) | refine Wi rfl rfl (fun _ _ => ?_))) | (refine Qn ?_; (first | refine Ql ?_ | refine QN rfl ?_)) | (refine Qm ?_; (first | refine Qo ?_ | refine Qb ?_ | refine Qe ?_)))
 rename_i g2 hg2 g4 hg4
 refine r_loop2 (fun (j : Nat) (cur : Nd) => ⟨[(2, .ptr 0 g2 0), (4, .ptr 1 g4 0), (8, Q5 path), (9, .i path.length), (10, .i j)], [.row g2 (Enc.enc cur), .row g4 [.i 0, .i 0, .i 0, .nil]]⟩) (fun j cur => j <= path.length /\ atM path t = atM (path.drop j) cur /\ Qs cur <= 1000000) (fun j _ => path.length - j) 0 t ?_ ⟨by omega, by simp, hsz⟩ ?_
 ·exact zal rfl
 intro j cur ⟨hj, he, hcs⟩
 obtain ⟨k, n, m, ks⟩ := cur
 have hse : Qs (.mk k n m ks) = 1 + QC ks := by rw [Qs]
 have hln := Zn ks
 by_cases hjl : j < path.length
 ·rw [List.drop_eq_getElem_cons hjl] at he
  rw [QI]
  by_cases hc : 0 <= path[j] /\ path[j].toNat < ks.length
  ·rw [atM_cons hc.1 hc.2] at he
   have hat : ((path[j].toNat : Nat) : Int) = path[j] := Int.toNat_of_nonneg hc.1
   have hsm := Wz (List.getElem_mem hc.2)
   obtain ⟨hc0, hc1⟩ := hc
   (repeat' first | (refine Qi ?_; (first | refine QM rfl ?_ | refine QR rfl ?_ | (refine QO ?_; (first | refine Wo rfl ?_ | refine Q4 rfl ?_ | refine Qc rfl rfl rfl ?_)) | (refine g_indexAddr ?_; (first | refine Q1 rfl rfl (by first | assumption | omega | (simp; done) | (simp; omega)) ?_ | refine s_idx_sl rfl rfl (by omega) (by first | assumption | omega | (simp; done) | (simp; omega)) ?_)) | (refine Qj ?_; (first | refine Q9 rfl rfl ?_ | refine Zt rfl rfl ?_ | refine Zh rfl rfl (by omega) ?_)) | refine Q2 rfl ?_ | refine WK rfl rfl ?_ | refine Ws rfl rfl rfl rfl ?_ | refine Qd rfl rfl ?_)) | (refine Qn ?_; (first | refine Ql ?_ | refine QN rfl ?_ | refine QJ ?_ | refine WJ rfl rfl rfl rfl ?_ | refine QZ rfl rfl (by omega) ?_)) | (refine Qm ?_; (first | refine Qo ?_ | refine Qb ?_ | refine Qe ?_ | refine QB ?_ | refine Qh rfl (by omega) ?_ | refine Qg rfl (by omega) ?_)))
   refine ⟨j + 1, ks[path[j].toNat], ⟨by omega, he, by omega⟩, by omega, ?_⟩
   exact zal rfl
  ·rw [atM_none (by omega)] at he
   rw [he]
   (repeat' first | (refine Qi ?_; (first | refine QM rfl ?_ | refine QR rfl ?_ | (refine QO ?_; (first | refine Wo rfl ?_ | refine Qc rfl rfl rfl ?_)) | refine Q1 rfl rfl (by first | assumption | omega | (simp; done) | (simp; omega)) ?_ | (refine Qj ?_; (first | refine Q9 rfl rfl ?_ | refine Zt rfl rfl ?_)) | refine Q2 rfl ?_ | (refine Wh ?_; (first | refine W6 rfl rfl ?_ | refine WK rfl rfl ?_)) | refine Ws rfl rfl rfl rfl ?_ | refine Qd rfl rfl ?_ | refine Qp rfl rfl ?_)) | (refine Qn ?_; (first | refine Ql ?_ | refine QN rfl ?_ | refine QJ ?_ | refine WJ rfl rfl rfl rfl ?_ | refine Zd rfl rfl rfl rfl ?_ | refine qO rfl rfl (fun _ => ?_) (fun _ => ?_))) | (refine Qm ?_; (first | refine Qo ?_ | refine Qb ?_ | refine Qe ?_ | refine QB ?_ | refine Qv rfl ?_ | refine Qh rfl (by omega) ?_ | refine Qx ?_)))
   all_goals exact e_2 (Tryz.results67) (Qr (size := 4) rfl rfl rfl rfl) (QH rfl) (c_conv (d2 := .tup [.agg [.i 0, .i 0, .i 0, .sl 4 []], .b false]) (fun L v h => tup_nil0 h) (Q8 (by show _ = DV.tup [.agg (Enc.enc (Nd.mk 0 0 0 [])), .b false]; rw [QI]; rfl)))
 ·have hje : j = path.length := by omega
  subst hje
  rw [List.drop_length] at he
  have hcp := copied_c (G := G) (.mk k n m ks) hcs
  rw [he]
  show Zs _ _ _ _ _ _ _ _ _
  (repeat' first | (refine Qi ?_; (first | refine QR rfl ?_ | refine W2 rfl rfl ?_ | refine Q9 rfl rfl ?_ | refine ZS rfl rfl hcp (WT (Enc.clo _)) ?_ | refine Ws rfl rfl rfl rfl ?_)) | (refine Qn ?_; (first | refine Ql ?_ | refine QN rfl ?_ | refine QJ ?_)) | (refine Qm ?_; (first | refine Qo ?_ | refine Qb ?_ | refine Qg rfl (by omega) ?_ | refine WS rfl ?_ | refine Qx ?_)))
  all_goals exact e_2 (Tryz.results67) (Qr (size := 4) rfl rfl (partD_nd _) (Enc.len _)) (QH rfl) (Q8 rfl)
end Go.Proofs
end
section
namespace Go.Proofs
open Go.RowKit
theorem nlC_succ {l : List UInt8} {i : Nat} (h : i < l.length) : nlC (l.take (i + 1)) = nlC (l.take i) + (if l[i] = 10 then 1 else 0) := by
 unfold nlC
 rw [List.take_succ_eq_append_getElem h, List.countP_append, List.countP_singleton]
 congr 1
 by_cases e : l[i] = 10
 ·simp [e]
 ·simp [e]
theorem ba_get (l : List UInt8) (i : Nat) (h : i < (⟨l.toArray⟩ : ByteArray).size) : (⟨l.toArray⟩ : ByteArray)[i]'h = l[i]'(by have := h; change i < l.toArray.size at this; simpa using this) := by
 show l.toArray[i]'h = _
 simp
set_option maxHeartbeats 1600000 in
set_option maxRecDepth 100000 in
theorem lines_gives (l : List UInt8) (ha : ∀ b ∈ l, b.toNat < 128) (hl : l.length <= 9223372036854775807) (w : World) :
  Calls Tryz.prog 69 #[.string ⟨l.toArray⟩] w fun e w' => e = .returned (.int .i64 (nlC l)) /\ Below w.heap.size w w' := by
 have hsz : (⟨l.toArray⟩ : ByteArray).size = l.length := by show l.toArray.size = _; simp
 have hcl : ∀ i, nlC (l.take i) <= i := fun i => by
  have h1 : nlC (l.take i) <= (l.take i).length := List.countP_le_length
  have h2 := List.length_take_le i l
  omega
 go_enter Tryz.func69, Tryz.ntmps69
 go_wp2
 go_loopw [3] (fun v wr => ∃ pos : Nat, pos <= l.length /\ v = .int .i64 (nlC (l.take pos) : Nat) /\ wr = w.iter ⟨l.toArray⟩ pos) (fun _ wr => l.length - wr.iterPos w.heap.size)
 case atStart => exact ⟨0, Nat.zero_le _, rfl, rfl⟩
 case round =>
  obtain ⟨pos, hp, rfl, rfl⟩ := hrel
  have hip : (w.iter ⟨l.toArray⟩ pos).iterPos w.heap.size = pos := by unfold World.iterPos; rw [World.iter_heap]
  have hip1 : (w.iter ⟨l.toArray⟩ (pos + 1)).iterPos w.heap.size = pos + 1 := by unfold World.iterPos; rw [World.iter_heap]
  have hcp := hcl pos
  by_cases hpl : pos < l.length
  ·have hi : pos < (⟨l.toArray⟩ : ByteArray).size := by omega
   have hg := ba_get l pos hi
   have hasc : ((⟨l.toArray⟩ : ByteArray)[pos]'hi).toNat < 128 := by rw [hg]; exact ha _ (List.getElem_mem hpl)
   have hnx := fun ty => run_next_ascii (P := Tryz.prog) w ⟨l.toArray⟩ pos ty hi hasc
   rw [hg] at hnx
   have hs := nlC_succ hpl
   by_cases h10 : l[pos] = 10
   ·rw [h10] at hnx
    rw [if_pos h10] at hs
    go_wp2
    go_roundw
    case rel => exact ⟨pos + 1, hpl, by rw [hs]; rfl, rfl⟩
    case measure => rw [hip, hip1]; omega
   ·have h10' : ((l[pos].toNat : Nat) : Int) ≠ 10 := by
     intro e
     apply h10
     have : l[pos].toNat = 10 := by omega
     exact UInt8.toNat_inj.1 this
    rw [if_neg h10] at hs
    go_wp2
    exact ⟨⟨pos + 1, hpl, by rw [hs]; rfl, rfl⟩, by rw [hip, hip1]; omega⟩
  ·have hpe : pos = l.length := by omega
   subst hpe
   have hnx := fun ty => run_next_end (P := Tryz.prog) w ⟨l.toArray⟩ l.length ty (by omega)
   go_wp2
   go_ret
   exact ⟨by rw [List.take_length]; rfl, (Below.refl _ w).alloc (Nat.le_refl _) _⟩
section
open Go.Av Go.Bl
variable {G : Nat -> DV}
theorem lines_c (l : List UInt8) (ha : ∀ b ∈ l, b.toNat < 128) (hl : l.length <= 9223372036854775807) : Go.Av.Pure Tryz.prog G 69 [W1 l] (.i (nlC l)) :=
 pure_of (us := [.string ⟨l.toArray⟩]) (v := .int .i64 (nlC l)) rfl rfl fun X _ => lines_gives l ha hl X.w
end
end Go.Proofs
end
section
namespace Go.Proofs
open Go.Av
variable {G : Nat -> DV}
attribute [local irreducible] OpSem Zs ZH qa ACalls qP AClose RV
open Go.Bl
variable {o : List UInt8}
theorem simple1_c {k n m : Int} {ks : List Nd} (b : Bool) (g0 g1 gp gn : Nat) {B : Nat} (hlist : ∀ b, PE Tryz.prog G 84 (fun p g => [Q5 ks, .fn (.func 48) [.ptr p g 0] []]) o b (W1 (Zp (ks.map exT))) (b || !ks.all qg)) : 
  ACalls Tryz.prog G B 138 [.ptr 3 gn 0, .ptr 2 gp 0] [pRow 0 1 g0 g1 o.length b, .row g1 (Wq o), .row gp [.ptr 0 g0 0], .row gn [.i k, .i n, .i m, Q5 ks]]
   (fun d τ => d = W1 (Zp (ks.map exT)) /\ τ = [pRow 0 1 g0 g1 o.length (b || !ks.all qg), .row g1 (Wq o), .row gp [.ptr 0 g0 0], .row gn [.i k, .i n, .i m, Q5 ks]]) := by
 refine Qa Tryz.func138 rfl Tryz.ntmps138 rfl (t := [(0, .ptr 3 gn 0), (1, .ptr 2 gp 0)]) rfl fun E hE => ?_
 (repeat' first | (refine Qi ?_; (first | refine QR rfl ?_ | refine Qc rfl rfl rfl ?_ | refine Zc 0 1 (hlist _) rfl rfl rfl rfl rfl rfl ?_ | refine Qd rfl rfl ?_ | refine QQ rfl rfl ?_)) | (refine Qn ?_; (first | refine Ql ?_ | refine QN rfl ?_)) | (refine Qm ?_; (first | refine Qo ?_ | refine Qb ?_ | refine Qx ?_)))
 exact e_1 (Tryz.results138) (QH rfl) (c_same ⟨rfl, rfl⟩)
theorem simple_c (hG : G 6 = pow10T) (hG1 : G 1 = spaceT) (t : Nd) (hok : okN t) (hsz : Qs t <= 1000000) (bad : Bool) : PE Tryz.prog G 91 (fun p g => [.ptr p g 0, .agg (Enc.enc t)]) o bad (W1 (simT t)) (bad || !simOk t) := fun g0 g1 B h0 h1 => by
 obtain ⟨k, n, m, ks⟩ := t
 rw [okN] at hok
 rw [Qs] at hsz
 have hl1 := Zn ks
 have hl : ks.length <= 1048576 := by omega
 have hn : -9223372036854775808 <= n /\ n <= 9223372036854775807 := hok.1.2.1
 have hm : -9223372036854775808 <= m /\ m <= 9223372036854775807 := hok.1.2.2
 have hnl := Zy hok.1.2.1
 have hml := Zy hok.1.2.2
 have hcl := qh exT ks (exs_len hok.2)
 have hlist : ∀ b, PE Tryz.prog G 84 (fun p g => [Q5 ks, .fn (.func 48) [.ptr p g 0] []]) o b (W1 (Zp (ks.map exT))) (b || !ks.all qg) := fun b => list_c _ exT qg ks b (fun x hx b => expr_c hG hG1 x (WY hok.2 hx) (by have := Wz hx; omega) b) hl (by omega)
 have hx : ∀ x ∈ ks, ∀ b, PE Tryz.prog G 48 (fun p g => [.ptr p g 0, .agg (Enc.enc x)]) o b (W1 (exT x)) (b || !qg x) := fun x hx b => expr_c hG hG1 x (WY hok.2 hx) (by have := Wz hx; omega) b
 have hxl : ∀ x ∈ ks, (exT x).length <= 60000000 := fun x hx => by have := exT_len x (WY hok.2 hx); have := Wz hx; omega
 clear hok
 rw [simT, simOk]
 rw [QI]
 by_cases k14 : k = 14
 ·subst k14
  by_cases hp : QU m ks.length 1 = true
  ·have hpl : ∀ b, PE Tryz.prog G 42 (fun p g => [.ptr p g 0, .agg [.i 14, .i n, .i m, Q5 ks], .i 1]) o b (.b true) b := fun b => (Zr 14 n m ks 1 hl).conv (by rw [hp]) (by rw [hp]; simp)
   refine Qa Tryz.func91 rfl Tryz.ntmps91 rfl (t := [(0, .ptr 0 g0 0), (1, .agg [.i _, .i n, .i m, Q5 ks])]) rfl fun E hE => ?_
   (repeat' first | (refine Qi ?_; (first | refine QM rfl ?_ | refine QR rfl ?_ | (refine QO ?_; (first | refine W2 rfl rfl ?_ | refine Qc rfl rfl rfl ?_)) | (refine Qj ?_; (first | refine QY rfl rfl ?_ | refine s_ad rfl rfl ?_)) | (refine Qu ?_; (first | refine qc rfl rfl (simple1_c _ g0 g1 _ _ hlist) ?_ | refine Zc 0 1 (hpl _) rfl rfl rfl rfl rfl rfl ?_ | refine Zc 0 1 (Zw hG _ (by assumption)) rfl rfl rfl rfl rfl rfl ?_)) | refine W6 rfl rfl ?_ | refine Qd rfl rfl ?_ | refine QQ rfl rfl ?_ | refine Wi rfl rfl (fun _ _ => ?_))) | (refine Qn ?_; (first | refine Ql ?_ | refine QN rfl ?_ | refine WJ rfl rfl rfl rfl ?_)) | (refine Qm ?_; (first | refine Qo ?_ | refine Qb ?_ | refine Qe ?_ | refine Qv rfl ?_ | refine Qx ?_)))
   exact e_1 Tryz.results91 (QH rfl) (c_pe (by simp [*]) (by simp [*, Bool.or_assoc]))
  ·have hp : QU m ks.length 1 = false := by rw [<- Bool.not_eq_true]; exact hp
   have hpl : ∀ b, PE Tryz.prog G 42 (fun p g => [.ptr p g 0, .agg [.i 14, .i n, .i m, Q5 ks], .i 1]) o b (.b false) true := fun b => (Zr 14 n m ks 1 hl).conv (by rw [hp]) (by rw [hp]; simp)
   refine Qa Tryz.func91 rfl Tryz.ntmps91 rfl (t := [(0, .ptr 0 g0 0), (1, .agg [.i _, .i n, .i m, Q5 ks])]) rfl fun E hE => ?_
   (repeat' first | (refine Qi ?_; (first | refine QM rfl ?_ | refine QR rfl ?_ | (refine QO ?_; (first | refine W2 rfl rfl ?_ | refine Qc rfl rfl rfl ?_)) | refine QY rfl rfl ?_ | (refine Qu ?_; (first | refine Zc 0 1 (Zm _) rfl rfl rfl rfl rfl rfl ?_ | refine Zc 0 1 (hpl _) rfl rfl rfl rfl rfl rfl ?_)) | (refine Wh ?_; (first | refine W6 rfl rfl ?_ | refine WK rfl rfl ?_)) | refine Qd rfl rfl ?_ | refine QQ rfl rfl ?_ | refine Wi rfl rfl (fun _ _ => ?_))) | (refine Qn ?_; (first | refine Ql ?_ | refine QN rfl ?_ | refine WJ rfl rfl rfl rfl ?_ | refine Zd rfl rfl rfl rfl ?_)) | (refine Qm ?_; (first | refine Qo ?_ | refine Qb ?_ | refine Qe ?_ | refine QB ?_ | refine Qy rfl ?_ | refine Qx ?_)))
   exact e_1 Tryz.results91 (QH rfl) (c_pe (by simp [*]) (by simp [*, Bool.or_assoc]))
 by_cases k15 : k = 15
 ·subst k15
  by_cases hp : QU m ks.length 2 = true
  ·have hpl : ∀ b, PE Tryz.prog G 42 (fun p g => [.ptr p g 0, .agg [.i 15, .i n, .i m, Q5 ks], .i 2]) o b (.b true) b := fun b => (Zr 15 n m ks 2 hl).conv (by rw [hp]) (by rw [hp]; simp)
   have h2 : ks.length = 2 := by simp [QU] at hp; omega
   match ks, h2 with
   | [a, b], _ =>
    have ha := hx a (by simp)
    have hb := hx b (by simp)
    have hal := hxl a (by simp)
    have hbl := hxl b (by simp)
    clear hx hxl hlist hcl
    refine Qa Tryz.func91 rfl Tryz.ntmps91 rfl (t := [(0, .ptr 0 g0 0), (1, .agg [.i _, .i n, .i m, Q5 [a, b]])]) rfl fun E hE => ?_
    (repeat' first | (refine Qi ?_; (first | refine QM rfl ?_ | refine QR rfl ?_ | (refine QO ?_; (first | refine W2 rfl rfl ?_ | refine Qc rfl rfl rfl ?_)) | refine QY rfl rfl ?_ | (refine Qu ?_; (first | refine Zc 0 1 (hpl _) rfl rfl rfl rfl rfl rfl ?_ | refine Zc 0 1 (Zw hG _ (by assumption)) rfl rfl rfl rfl rfl rfl ?_ | refine Zc 0 1 (ha _) rfl rfl rfl rfl rfl rfl ?_ | refine Zc 0 1 (hb _) rfl rfl rfl rfl rfl rfl ?_)) | (refine Wh ?_; (first | refine W6 rfl rfl ?_ | refine WK rfl rfl ?_)) | refine Qd rfl rfl ?_ | refine QQ rfl rfl ?_ | refine Wi rfl rfl (fun _ _ => ?_))) | (refine Qn ?_; (first | refine Ql ?_ | refine QN rfl ?_ | refine WJ rfl rfl rfl rfl ?_ | refine Zd rfl rfl rfl rfl ?_)) | (refine Qm ?_; (first | refine Qo ?_ | refine Qb ?_ | refine Qe ?_ | (refine WO ?_; first | (refine Qz (pfx3 _ _) 100 [(0, true), (1, true), (2, true), (6, true), (7, true), (8, true), (12, true), (3, false), (4, true), (5, true), (9, false), (10, true), (11, true), (13, false), (14, true), (15, true)] (by rfl) (by rfl) (by kernel_rfl) (by decide +kernel) (by decide +kernel) ⟨(_, _, _, _), rfl⟩ ?_) | (refine Qz (pfx3 _ _) 100 [(0, true), (1, true), (2, true), (6, true), (7, true), (8, true), (9, true), (10, true), (14, true), (15, true), (16, true), (17, true), (18, true), (3, false), (4, true), (5, true), (11, false), (12, true), (13, true), (19, false), (20, true), (21, true)] (by rfl) (by rfl) (by kernel_rfl) (by decide +kernel) (by decide +kernel) ⟨(_, _, _, _), rfl⟩ ?_) | refine Wn (by rfl) (by kernel_rfl) (by kernel_rfl) ?_ | refine Wm (by kernel_rfl) (by kernel_rfl) ?_) | refine Qv rfl ?_ | refine Qy rfl ?_ | refine Qx ?_)) | (refine W9 ?_; (first | refine ZO ?_ | refine i_st rfl rfl (fun _ => (by (repeat' first | (refine Qi ?_; (first | refine QR rfl ?_ | (refine QO ?_; (first | refine Q4 rfl ?_ | refine Qc rfl rfl rfl ?_)) | refine Q1 rfl rfl (by first | assumption | omega | (simp; done) | (simp; omega)) ?_ | refine s_ad rfl rfl ?_ | refine Qd rfl rfl ?_)) | exact ⟨rfl, rfl⟩))) ?_ | refine i_ef rfl ?_)) | refine And.intro (Exists.intro ((_, _, _, _)) rfl) ?_)
    have hp2 : QU m 2 2 = true := hp
    exact e_1 Tryz.results91 (QH rfl) (c_pe (by simp [*]) (by simp [*, Bool.or_assoc]))
  ·have hp : QU m ks.length 2 = false := by rw [<- Bool.not_eq_true]; exact hp
   have hpl : ∀ b, PE Tryz.prog G 42 (fun p g => [.ptr p g 0, .agg [.i 15, .i n, .i m, Q5 ks], .i 2]) o b (.b false) true := fun b => (Zr 15 n m ks 2 hl).conv (by rw [hp]) (by rw [hp]; simp)
   refine Qa Tryz.func91 rfl Tryz.ntmps91 rfl (t := [(0, .ptr 0 g0 0), (1, .agg [.i _, .i n, .i m, Q5 ks])]) rfl fun E hE => ?_
   (repeat' first | (refine Qi ?_; (first | refine QM rfl ?_ | refine QR rfl ?_ | (refine QO ?_; (first | refine W2 rfl rfl ?_ | refine Qc rfl rfl rfl ?_)) | refine QY rfl rfl ?_ | (refine Qu ?_; (first | refine Zc 0 1 (Zm _) rfl rfl rfl rfl rfl rfl ?_ | refine Zc 0 1 (hpl _) rfl rfl rfl rfl rfl rfl ?_)) | (refine Wh ?_; (first | refine W6 rfl rfl ?_ | refine WK rfl rfl ?_)) | refine Qd rfl rfl ?_ | refine QQ rfl rfl ?_ | refine Wi rfl rfl (fun _ _ => ?_))) | (refine Qn ?_; (first | refine Ql ?_ | refine QN rfl ?_ | refine WJ rfl rfl rfl rfl ?_ | refine Zd rfl rfl rfl rfl ?_)) | (refine Qm ?_; (first | refine Qo ?_ | refine Qb ?_ | refine Qe ?_ | refine QB ?_ | refine Qy rfl ?_ | refine Qx ?_)))
   exact e_1 Tryz.results91 (QH rfl) (c_pe (by simp [*]) (by simp [*, Bool.or_assoc]))
 by_cases k19 : k = 19
 ·subst k19
  by_cases hp : WX n m ks.length 1 = true
  ·have hpl : ∀ b, PE Tryz.prog G 87 (fun p g => [.ptr p g 0, .agg [.i 19, .i n, .i m, Q5 ks], .i 1]) o b (.b true) b := fun b => (qv 19 n m ks 1 hl).conv (by rw [hp]) (by rw [hp]; simp)
   refine Qa Tryz.func91 rfl Tryz.ntmps91 rfl (t := [(0, .ptr 0 g0 0), (1, .agg [.i _, .i n, .i m, Q5 ks])]) rfl fun E hE => ?_
   (repeat' first | (refine Qi ?_; (first | refine QM rfl ?_ | refine QR rfl ?_ | (refine QO ?_; (first | refine W2 rfl rfl ?_ | refine Qc rfl rfl rfl ?_)) | (refine Qj ?_; (first | refine QY rfl rfl ?_ | refine s_ad rfl rfl ?_)) | (refine Qu ?_; (first | refine qc rfl rfl (simple1_c _ g0 g1 _ _ hlist) ?_ | refine Zc 0 1 (hpl _) rfl rfl rfl rfl rfl rfl ?_)) | (refine Wh ?_; (first | refine W6 rfl rfl ?_ | refine WK rfl rfl ?_)) | refine Qd rfl rfl ?_ | refine QQ rfl rfl ?_ | refine Wi rfl rfl (fun _ _ => ?_))) | (refine Qn ?_; (first | refine Ql ?_ | refine QN rfl ?_ | refine WJ rfl rfl rfl rfl ?_ | refine Zd rfl rfl rfl rfl ?_)) | (refine Qm ?_; (first | refine Qo ?_ | refine Qb ?_ | refine Qe ?_ | refine Qv rfl ?_ | refine Qy rfl ?_ | refine Qx ?_)))
   exact e_1 Tryz.results91 (QH rfl) (c_pe (by simp [*]) (by simp [*, Bool.or_assoc]))
  ·have hp : WX n m ks.length 1 = false := by rw [<- Bool.not_eq_true]; exact hp
   have hpl : ∀ b, PE Tryz.prog G 87 (fun p g => [.ptr p g 0, .agg [.i 19, .i n, .i m, Q5 ks], .i 1]) o b (.b false) true := fun b => (qv 19 n m ks 1 hl).conv (by rw [hp]) (by rw [hp]; simp)
   refine Qa Tryz.func91 rfl Tryz.ntmps91 rfl (t := [(0, .ptr 0 g0 0), (1, .agg [.i _, .i n, .i m, Q5 ks])]) rfl fun E hE => ?_
   (repeat' first | (refine Qi ?_; (first | refine QM rfl ?_ | refine QR rfl ?_ | (refine QO ?_; (first | refine W2 rfl rfl ?_ | refine Qc rfl rfl rfl ?_)) | refine QY rfl rfl ?_ | (refine Qu ?_; (first | refine Zc 0 1 (Zm _) rfl rfl rfl rfl rfl rfl ?_ | refine Zc 0 1 (hpl _) rfl rfl rfl rfl rfl rfl ?_)) | (refine Wh ?_; (first | refine W6 rfl rfl ?_ | refine WK rfl rfl ?_)) | refine Qd rfl rfl ?_ | refine QQ rfl rfl ?_ | refine Wi rfl rfl (fun _ _ => ?_))) | (refine Qn ?_; (first | refine Ql ?_ | refine QN rfl ?_ | refine WJ rfl rfl rfl rfl ?_ | refine Zd rfl rfl rfl rfl ?_)) | (refine Qm ?_; (first | refine Qo ?_ | refine Qb ?_ | refine Qe ?_ | refine QB ?_ | refine Qy rfl ?_ | refine Qx ?_)))
   exact e_1 Tryz.results91 (QH rfl) (c_pe (by simp [*]) (by simp [*, Bool.or_assoc]))
 by_cases k20 : k = 20
 ·subst k20
  by_cases hp : WX n m ks.length 1 = true
  ·have hpl : ∀ b, PE Tryz.prog G 87 (fun p g => [.ptr p g 0, .agg [.i 20, .i n, .i m, Q5 ks], .i 1]) o b (.b true) b := fun b => (qv 20 n m ks 1 hl).conv (by rw [hp]) (by rw [hp]; simp)
   refine Qa Tryz.func91 rfl Tryz.ntmps91 rfl (t := [(0, .ptr 0 g0 0), (1, .agg [.i _, .i n, .i m, Q5 ks])]) rfl fun E hE => ?_
   (repeat' first | (refine Qi ?_; (first | refine QM rfl ?_ | refine QR rfl ?_ | (refine QO ?_; (first | refine W2 rfl rfl ?_ | refine Qc rfl rfl rfl ?_)) | (refine Qj ?_; (first | refine QY rfl rfl ?_ | refine s_ad rfl rfl ?_)) | (refine Qu ?_; (first | refine qc rfl rfl (simple1_c _ g0 g1 _ _ hlist) ?_ | refine Zc 0 1 (hpl _) rfl rfl rfl rfl rfl rfl ?_)) | (refine Wh ?_; (first | refine W6 rfl rfl ?_ | refine WK rfl rfl ?_)) | refine Qd rfl rfl ?_ | refine QQ rfl rfl ?_ | refine Wi rfl rfl (fun _ _ => ?_))) | (refine Qn ?_; (first | refine Ql ?_ | refine QN rfl ?_ | refine WJ rfl rfl rfl rfl ?_ | refine Zd rfl rfl rfl rfl ?_)) | (refine Qm ?_; (first | refine Qo ?_ | refine Qb ?_ | refine Qe ?_ | refine Qv rfl ?_ | refine Qy rfl ?_ | refine Qx ?_)))
   exact e_1 Tryz.results91 (QH rfl) (c_pe (by simp [*]) (by simp [*, Bool.or_assoc]))
  ·have hp : WX n m ks.length 1 = false := by rw [<- Bool.not_eq_true]; exact hp
   have hpl : ∀ b, PE Tryz.prog G 87 (fun p g => [.ptr p g 0, .agg [.i 20, .i n, .i m, Q5 ks], .i 1]) o b (.b false) true := fun b => (qv 20 n m ks 1 hl).conv (by rw [hp]) (by rw [hp]; simp)
   refine Qa Tryz.func91 rfl Tryz.ntmps91 rfl (t := [(0, .ptr 0 g0 0), (1, .agg [.i _, .i n, .i m, Q5 ks])]) rfl fun E hE => ?_
   (repeat' first | (refine Qi ?_; (first | refine QM rfl ?_ | refine QR rfl ?_ | (refine QO ?_; (first | refine W2 rfl rfl ?_ | refine Qc rfl rfl rfl ?_)) | refine QY rfl rfl ?_ | (refine Qu ?_; (first | refine Zc 0 1 (Zm _) rfl rfl rfl rfl rfl rfl ?_ | refine Zc 0 1 (hpl _) rfl rfl rfl rfl rfl rfl ?_)) | (refine Wh ?_; (first | refine W6 rfl rfl ?_ | refine WK rfl rfl ?_)) | refine Qd rfl rfl ?_ | refine QQ rfl rfl ?_ | refine Wi rfl rfl (fun _ _ => ?_))) | (refine Qn ?_; (first | refine Ql ?_ | refine QN rfl ?_ | refine WJ rfl rfl rfl rfl ?_ | refine Zd rfl rfl rfl rfl ?_)) | (refine Qm ?_; (first | refine Qo ?_ | refine Qb ?_ | refine Qe ?_ | refine QB ?_ | refine Qy rfl ?_ | refine Qx ?_)))
   exact e_1 Tryz.results91 (QH rfl) (c_pe (by simp [*]) (by simp [*, Bool.or_assoc]))
 by_cases k24 : k = 24
 ·subst k24
  by_cases hp : WX n m ks.length 1 = true
  ·have hpl : ∀ b, PE Tryz.prog G 87 (fun p g => [.ptr p g 0, .agg [.i 24, .i n, .i m, Q5 ks], .i 1]) o b (.b true) b := fun b => (qv 24 n m ks 1 hl).conv (by rw [hp]) (by rw [hp]; simp)
   refine Qa Tryz.func91 rfl Tryz.ntmps91 rfl (t := [(0, .ptr 0 g0 0), (1, .agg [.i _, .i n, .i m, Q5 ks])]) rfl fun E hE => ?_
   (repeat' first | (refine Qi ?_; (first | refine QM rfl ?_ | refine QR rfl ?_ | (refine QO ?_; (first | refine W2 rfl rfl ?_ | refine Qc rfl rfl rfl ?_)) | (refine Qj ?_; (first | refine QY rfl rfl ?_ | refine s_ad rfl rfl ?_)) | (refine Qu ?_; (first | refine qc rfl rfl (simple1_c _ g0 g1 _ _ hlist) ?_ | refine Zc 0 1 (hpl _) rfl rfl rfl rfl rfl rfl ?_)) | (refine Wh ?_; (first | refine W6 rfl rfl ?_ | refine WK rfl rfl ?_)) | refine Qd rfl rfl ?_ | refine QQ rfl rfl ?_ | refine Wi rfl rfl (fun _ _ => ?_))) | (refine Qn ?_; (first | refine Ql ?_ | refine QN rfl ?_ | refine WJ rfl rfl rfl rfl ?_ | refine Zd rfl rfl rfl rfl ?_)) | (refine Qm ?_; (first | refine Qo ?_ | refine Qb ?_ | refine Qe ?_ | refine Qv rfl ?_ | refine Qy rfl ?_ | refine Qx ?_)))
   exact e_1 Tryz.results91 (QH rfl) (c_pe (by simp [*]) (by simp [*, Bool.or_assoc]))
  ·have hp : WX n m ks.length 1 = false := by rw [<- Bool.not_eq_true]; exact hp
   have hpl : ∀ b, PE Tryz.prog G 87 (fun p g => [.ptr p g 0, .agg [.i 24, .i n, .i m, Q5 ks], .i 1]) o b (.b false) true := fun b => (qv 24 n m ks 1 hl).conv (by rw [hp]) (by rw [hp]; simp)
   refine Qa Tryz.func91 rfl Tryz.ntmps91 rfl (t := [(0, .ptr 0 g0 0), (1, .agg [.i _, .i n, .i m, Q5 ks])]) rfl fun E hE => ?_
   (repeat' first | (refine Qi ?_; (first | refine QM rfl ?_ | refine QR rfl ?_ | (refine QO ?_; (first | refine W2 rfl rfl ?_ | refine Qc rfl rfl rfl ?_)) | refine QY rfl rfl ?_ | (refine Qu ?_; (first | refine Zc 0 1 (Zm _) rfl rfl rfl rfl rfl rfl ?_ | refine Zc 0 1 (hpl _) rfl rfl rfl rfl rfl rfl ?_)) | (refine Wh ?_; (first | refine W6 rfl rfl ?_ | refine WK rfl rfl ?_)) | refine Qd rfl rfl ?_ | refine QQ rfl rfl ?_ | refine Wi rfl rfl (fun _ _ => ?_))) | (refine Qn ?_; (first | refine Ql ?_ | refine QN rfl ?_ | refine WJ rfl rfl rfl rfl ?_ | refine Zd rfl rfl rfl rfl ?_)) | (refine Qm ?_; (first | refine Qo ?_ | refine Qb ?_ | refine Qe ?_ | refine QB ?_ | refine Qy rfl ?_ | refine Qx ?_)))
   exact e_1 Tryz.results91 (QH rfl) (c_pe (by simp [*]) (by simp [*, Bool.or_assoc]))
 by_cases k25 : k = 25
 ·subst k25
  by_cases hp : WX n m ks.length 0 = true
  ·have hpl : ∀ b, PE Tryz.prog G 87 (fun p g => [.ptr p g 0, .agg [.i 25, .i n, .i m, Q5 ks], .i 0]) o b (.b true) b := fun b => (qv 25 n m ks 0 hl).conv (by rw [hp]) (by rw [hp]; simp)
   refine Qa Tryz.func91 rfl Tryz.ntmps91 rfl (t := [(0, .ptr 0 g0 0), (1, .agg [.i _, .i n, .i m, Q5 ks])]) rfl fun E hE => ?_
   (repeat' first | (refine Qi ?_; (first | refine QM rfl ?_ | refine QR rfl ?_ | (refine QO ?_; (first | refine W2 rfl rfl ?_ | refine Qc rfl rfl rfl ?_)) | refine QY rfl rfl ?_ | refine Zc 0 1 (hpl _) rfl rfl rfl rfl rfl rfl ?_ | (refine Wh ?_; (first | refine W6 rfl rfl ?_ | refine WK rfl rfl ?_)) | refine Qd rfl rfl ?_ | refine QQ rfl rfl ?_ | refine Wi rfl rfl (fun _ _ => ?_))) | (refine Qn ?_; (first | refine Ql ?_ | refine QN rfl ?_ | refine WJ rfl rfl rfl rfl ?_ | refine Zd rfl rfl rfl rfl ?_)) | (refine Qm ?_; (first | refine Qo ?_ | refine Qb ?_ | refine Qe ?_ | refine Qv rfl ?_ | refine Qy rfl ?_ | refine Qx ?_)))
   exact e_1 Tryz.results91 (QH rfl) (c_pe (by simp [*]) (by simp [*, Bool.or_assoc]))
  ·have hp : WX n m ks.length 0 = false := by rw [<- Bool.not_eq_true]; exact hp
   have hpl : ∀ b, PE Tryz.prog G 87 (fun p g => [.ptr p g 0, .agg [.i 25, .i n, .i m, Q5 ks], .i 0]) o b (.b false) true := fun b => (qv 25 n m ks 0 hl).conv (by rw [hp]) (by rw [hp]; simp)
   refine Qa Tryz.func91 rfl Tryz.ntmps91 rfl (t := [(0, .ptr 0 g0 0), (1, .agg [.i _, .i n, .i m, Q5 ks])]) rfl fun E hE => ?_
   (repeat' first | (refine Qi ?_; (first | refine QM rfl ?_ | refine QR rfl ?_ | (refine QO ?_; (first | refine W2 rfl rfl ?_ | refine Qc rfl rfl rfl ?_)) | refine QY rfl rfl ?_ | (refine Qu ?_; (first | refine Zc 0 1 (Zm _) rfl rfl rfl rfl rfl rfl ?_ | refine Zc 0 1 (hpl _) rfl rfl rfl rfl rfl rfl ?_)) | (refine Wh ?_; (first | refine W6 rfl rfl ?_ | refine WK rfl rfl ?_)) | refine Qd rfl rfl ?_ | refine QQ rfl rfl ?_ | refine Wi rfl rfl (fun _ _ => ?_))) | (refine Qn ?_; (first | refine Ql ?_ | refine QN rfl ?_ | refine WJ rfl rfl rfl rfl ?_ | refine Zd rfl rfl rfl rfl ?_)) | (refine Qm ?_; (first | refine Qo ?_ | refine Qb ?_ | refine Qe ?_ | refine QB ?_ | refine Qy rfl ?_ | refine Qx ?_)))
   exact e_1 Tryz.results91 (QH rfl) (c_pe (by simp [*]) (by simp [*, Bool.or_assoc]))
 by_cases k22 : k = 22
 ·subst k22
  by_cases hp : QU m ks.length 1 = true
  ·have hpl : ∀ b, PE Tryz.prog G 42 (fun p g => [.ptr p g 0, .agg [.i 22, .i n, .i m, Q5 ks], .i 1]) o b (.b true) b := fun b => (Zr 22 n m ks 1 hl).conv (by rw [hp]) (by rw [hp]; simp)
   refine Qa Tryz.func91 rfl Tryz.ntmps91 rfl (t := [(0, .ptr 0 g0 0), (1, .agg [.i _, .i n, .i m, Q5 ks])]) rfl fun E hE => ?_
   (repeat' first | (refine Qi ?_; (first | refine QM rfl ?_ | refine QR rfl ?_ | (refine QO ?_; (first | refine W2 rfl rfl ?_ | refine Qc rfl rfl rfl ?_)) | (refine Qj ?_; (first | refine QY rfl rfl ?_ | refine s_ad rfl rfl ?_)) | (refine Qu ?_; (first | refine qc rfl rfl (simple1_c _ g0 g1 _ _ hlist) ?_ | refine Zc 0 1 (hpl _) rfl rfl rfl rfl rfl rfl ?_ | refine Zc 0 1 (Zw hG _ (by assumption)) rfl rfl rfl rfl rfl rfl ?_)) | (refine Wh ?_; (first | refine W6 rfl rfl ?_ | refine WK rfl rfl ?_)) | refine Qd rfl rfl ?_ | refine QQ rfl rfl ?_ | refine Wi rfl rfl (fun _ _ => ?_))) | (refine Qn ?_; (first | refine Ql ?_ | refine QN rfl ?_ | refine WJ rfl rfl rfl rfl ?_ | refine Zd rfl rfl rfl rfl ?_)) | (refine Qm ?_; (first | refine Qo ?_ | refine Qb ?_ | refine Qe ?_ | refine Qv rfl ?_ | refine Qy rfl ?_ | refine Qx ?_)))
   exact e_1 Tryz.results91 (QH rfl) (c_pe (by simp [*]) (by simp [*, Bool.or_assoc]))
  ·have hp : QU m ks.length 1 = false := by rw [<- Bool.not_eq_true]; exact hp
   have hpl : ∀ b, PE Tryz.prog G 42 (fun p g => [.ptr p g 0, .agg [.i 22, .i n, .i m, Q5 ks], .i 1]) o b (.b false) true := fun b => (Zr 22 n m ks 1 hl).conv (by rw [hp]) (by rw [hp]; simp)
   refine Qa Tryz.func91 rfl Tryz.ntmps91 rfl (t := [(0, .ptr 0 g0 0), (1, .agg [.i _, .i n, .i m, Q5 ks])]) rfl fun E hE => ?_
   (repeat' first | (refine Qi ?_; (first | refine QM rfl ?_ | refine QR rfl ?_ | (refine QO ?_; (first | refine W2 rfl rfl ?_ | refine Qc rfl rfl rfl ?_)) | refine QY rfl rfl ?_ | (refine Qu ?_; (first | refine Zc 0 1 (Zm _) rfl rfl rfl rfl rfl rfl ?_ | refine Zc 0 1 (hpl _) rfl rfl rfl rfl rfl rfl ?_)) | (refine Wh ?_; (first | refine W6 rfl rfl ?_ | refine WK rfl rfl ?_)) | refine Qd rfl rfl ?_ | refine QQ rfl rfl ?_ | refine Wi rfl rfl (fun _ _ => ?_))) | (refine Qn ?_; (first | refine Ql ?_ | refine QN rfl ?_ | refine WJ rfl rfl rfl rfl ?_ | refine Zd rfl rfl rfl rfl ?_)) | (refine Qm ?_; (first | refine Qo ?_ | refine Qb ?_ | refine Qe ?_ | refine QB ?_ | refine Qy rfl ?_ | refine Qx ?_)))
   exact e_1 Tryz.results91 (QH rfl) (c_pe (by simp [*]) (by simp [*, Bool.or_assoc]))
 by_cases k23 : k = 23
 ·subst k23
  by_cases hp : QU m ks.length (-1) = true
  ·have hpl : ∀ b, PE Tryz.prog G 42 (fun p g => [.ptr p g 0, .agg [.i 23, .i n, .i m, Q5 ks], .i (-1)]) o b (.b true) b := fun b => (Zr 23 n m ks (-1) hl).conv (by rw [hp]) (by rw [hp]; simp)
   refine Qa Tryz.func91 rfl Tryz.ntmps91 rfl (t := [(0, .ptr 0 g0 0), (1, .agg [.i _, .i n, .i m, Q5 ks])]) rfl fun E hE => ?_
   (repeat' first | (refine Qi ?_; (first | refine QM rfl ?_ | refine QR rfl ?_ | (refine QO ?_; (first | refine W2 rfl rfl ?_ | refine Qc rfl rfl rfl ?_)) | (refine Qj ?_; (first | refine QY rfl rfl ?_ | refine s_ad rfl rfl ?_)) | (refine Qu ?_; (first | refine qc rfl rfl (simple1_c _ g0 g1 _ _ hlist) ?_ | refine Zc 0 1 (hpl _) rfl rfl rfl rfl rfl rfl ?_ | refine Zc 0 1 (Zw hG _ (by assumption)) rfl rfl rfl rfl rfl rfl ?_)) | (refine Wh ?_; (first | refine W6 rfl rfl ?_ | refine WK rfl rfl ?_)) | refine Qd rfl rfl ?_ | refine QQ rfl rfl ?_ | refine Wi rfl rfl (fun _ _ => ?_))) | (refine Qn ?_; (first | refine Ql ?_ | refine QN rfl ?_ | refine WJ rfl rfl rfl rfl ?_ | refine Zd rfl rfl rfl rfl ?_)) | (refine Qm ?_; (first | refine Qo ?_ | refine Qb ?_ | refine Qe ?_ | refine Qv rfl ?_ | refine Qy rfl ?_ | refine Qx ?_)))
   exact e_1 Tryz.results91 (QH rfl) (c_pe (by simp [*]) (by simp [*, Bool.or_assoc]))
  ·have hp : QU m ks.length (-1) = false := by rw [<- Bool.not_eq_true]; exact hp
   have hpl : ∀ b, PE Tryz.prog G 42 (fun p g => [.ptr p g 0, .agg [.i 23, .i n, .i m, Q5 ks], .i (-1)]) o b (.b false) true := fun b => (Zr 23 n m ks (-1) hl).conv (by rw [hp]) (by rw [hp]; simp)
   refine Qa Tryz.func91 rfl Tryz.ntmps91 rfl (t := [(0, .ptr 0 g0 0), (1, .agg [.i _, .i n, .i m, Q5 ks])]) rfl fun E hE => ?_
   (repeat' first | (refine Qi ?_; (first | refine QM rfl ?_ | refine QR rfl ?_ | (refine QO ?_; (first | refine W2 rfl rfl ?_ | refine Qc rfl rfl rfl ?_)) | refine QY rfl rfl ?_ | (refine Qu ?_; (first | refine Zc 0 1 (Zm _) rfl rfl rfl rfl rfl rfl ?_ | refine Zc 0 1 (hpl _) rfl rfl rfl rfl rfl rfl ?_)) | (refine Wh ?_; (first | refine W6 rfl rfl ?_ | refine WK rfl rfl ?_)) | refine Qd rfl rfl ?_ | refine QQ rfl rfl ?_ | refine Wi rfl rfl (fun _ _ => ?_))) | (refine Qn ?_; (first | refine Ql ?_ | refine QN rfl ?_ | refine WJ rfl rfl rfl rfl ?_ | refine Zd rfl rfl rfl rfl ?_)) | (refine Qm ?_; (first | refine Qo ?_ | refine Qb ?_ | refine Qe ?_ | refine QB ?_ | refine Qy rfl ?_ | refine Qx ?_)))
   exact e_1 Tryz.results91 (QH rfl) (c_pe (by simp [*]) (by simp [*, Bool.or_assoc]))
 by_cases k16 : k = 16
 ·subst k16
  by_cases hp : ks.length = 1
  ·refine Qa Tryz.func91 rfl Tryz.ntmps91 rfl (t := [(0, .ptr 0 g0 0), (1, .agg [.i _, .i n, .i m, Q5 ks])]) rfl fun E hE => ?_
   (repeat' first | (refine Qi ?_; (first | refine QM rfl ?_ | refine QR rfl ?_ | refine Qc rfl rfl rfl ?_ | refine QY rfl rfl ?_ | (refine Qu ?_; (first | refine qc rfl rfl (simple1_c _ g0 g1 _ _ hlist) ?_ | refine Zc 0 1 (Zm _) rfl rfl rfl rfl rfl rfl ?_ | refine Zc 0 1 (Zw hG _ (by assumption)) rfl rfl rfl rfl rfl rfl ?_ | refine Q2 rfl ?_)) | (refine Wh ?_; (first | refine W6 rfl rfl ?_ | refine WK rfl rfl ?_)) | refine Qd rfl rfl ?_ | refine QQ rfl rfl ?_ | refine Wi rfl rfl (fun _ _ => ?_))) | (refine Qn ?_; (first | refine Ql ?_ | refine QN rfl ?_ | refine WJ rfl rfl rfl rfl ?_ | refine Zd rfl rfl rfl rfl ?_)) | (refine Qm ?_; (first | refine Qo ?_ | refine Qb ?_ | refine Qe ?_ | (refine WO ?_; first | (refine Qz (pfx3 _ _) 100 [(0, true), (1, true), (2, true), (6, true), (7, true), (8, true), (12, true), (3, false), (4, true), (5, true), (9, false), (10, true), (11, true), (13, false), (14, true), (15, true)] (by rfl) (by rfl) (by kernel_rfl) (by decide +kernel) (by decide +kernel) ⟨(_, _, _, _), rfl⟩ ?_) | (refine Qz (pfx3 _ _) 100 [(0, true), (1, true), (2, true), (6, true), (7, true), (8, true), (9, true), (10, true), (14, true), (15, true), (16, true), (17, true), (18, true), (3, false), (4, true), (5, true), (11, false), (12, true), (13, true), (19, false), (20, true), (21, true)] (by rfl) (by rfl) (by kernel_rfl) (by decide +kernel) (by decide +kernel) ⟨(_, _, _, _), rfl⟩ ?_) | refine Wn (by rfl) (by kernel_rfl) (by kernel_rfl) ?_ | refine Wm (by kernel_rfl) (by kernel_rfl) ?_) | refine Qy rfl ?_ | refine Qh rfl (by omega) ?_ | refine Qx ?_)) | (refine W9 ?_; (first | refine ZO ?_ | refine i_st rfl rfl (fun _ => (by (repeat' first | (refine Qi ?_; (first | refine QM rfl ?_ | refine QR rfl ?_ | refine Qc rfl rfl rfl ?_ | refine s_ad rfl rfl ?_ | refine Qd rfl rfl ?_)) | exact ⟨rfl, rfl⟩))) ?_ | refine i_ef rfl ?_)) | refine And.intro (Exists.intro ((_, _, _, _)) rfl) ?_)
   exact e_1 Tryz.results91 (QH rfl) (c_pe (by simp [*]) (by simp [*, Bool.or_assoc]))
  ·refine Qa Tryz.func91 rfl Tryz.ntmps91 rfl (t := [(0, .ptr 0 g0 0), (1, .agg [.i _, .i n, .i m, Q5 ks])]) rfl fun E hE => ?_
   (repeat' first | (refine Qi ?_; (first | refine QM rfl ?_ | refine QR rfl ?_ | refine Qc rfl rfl rfl ?_ | refine QY rfl rfl ?_ | (refine Qu ?_; (first | refine Zc 0 1 (Zm _) rfl rfl rfl rfl rfl rfl ?_ | refine Q2 rfl ?_)) | (refine Wh ?_; (first | refine W6 rfl rfl ?_ | refine WK rfl rfl ?_)) | refine Qd rfl rfl ?_ | refine QQ rfl rfl ?_ | refine Wi rfl rfl (fun _ _ => ?_))) | (refine Qn ?_; (first | refine Ql ?_ | refine QN rfl ?_ | refine WJ rfl rfl rfl rfl ?_ | refine Zd rfl rfl rfl rfl ?_)) | (refine Qm ?_; (first | refine Qo ?_ | refine Qb ?_ | refine Qe ?_ | refine QB ?_ | refine Qy rfl ?_ | refine Qg rfl (by omega) ?_ | refine Qx ?_)))
   exact e_1 Tryz.results91 (QH rfl) (c_pe (by simp [*]) (by simp [*, Bool.or_assoc]))
 ·refine Qa Tryz.func91 rfl Tryz.ntmps91 rfl (t := [(0, .ptr 0 g0 0), (1, .agg [.i k, .i n, .i m, Q5 ks])]) rfl fun E hE => ?_
  (repeat' first | (refine Qi ?_; (first | refine QM rfl ?_ | refine QR rfl ?_ | refine Qc rfl rfl rfl ?_ | refine QY rfl rfl ?_ | refine Zc 0 1 (Zm _) rfl rfl rfl rfl rfl rfl ?_ | refine WK rfl rfl ?_ | refine Qd rfl rfl ?_ | refine QQ rfl rfl ?_ | refine Wi rfl rfl (fun _ _ => ?_))) | (refine Qn ?_; (first | refine Ql ?_ | refine QN rfl ?_ | refine Zd rfl rfl rfl rfl ?_ | refine QZ rfl rfl (by omega) ?_)) | (refine Qm ?_; (first | refine Qo ?_ | refine Qb ?_ | refine Qe ?_ | refine QB ?_ | refine Qy rfl ?_ | refine Qx ?_)))
  exact e_1 Tryz.results91 (QH rfl) (c_pe (by simp [*]) (by simp [*, Bool.or_assoc]))
end Go.Proofs
end
section
namespace Go.Proofs
open Go.Av
variable {G : Nat -> DV}
attribute [local irreducible] OpSem Zs ZH qa ACalls qP AClose RV
open Go.Bl
variable {o : List UInt8} {bad : Bool}
theorem line_c (i : Nat) (s : List UInt8) (hi : i <= 1000000) (hlen : o.length + s.length <= 140737480000000) : PM Tryz.prog G 43 (fun p g => [.ptr p g 0, .i i, W1 s]) o bad (.tup []) (o ++ ZZ i s) bad := fun g0 g1 B h0 h1 => by
 have hrl : (Lib.repeatL [32, 32] i).length = 2 * i := by rw [Lib.repeatL_length]; show i * 2 = _; omega
 have hwr : PM Tryz.prog G 46 (fun k g => [.ptr k g 0, W1 (Lib.repeatL [32, 32] i ++ s ++ [10])]) o bad (.tup [.i (Lib.repeatL [32, 32] i ++ s ++ [10]).length, .sc .nilIface]) (o ++ ZZ i s) bad := write_c _ (by simp only [List.length_append, List.length_cons, List.length_nil]; omega)
 refine Qa Tryz.func43 rfl Tryz.ntmps43 rfl (t := [(0, .ptr 0 g0 0), (1, .i i), (2, W1 s)]) rfl fun E hE => ?_
 (repeat' first | refine s_pm 0 1 (hwr) rfl rfl rfl rfl rfl rfl (fun _ => rfl) (fun _ _ => ?_) | (refine Qm ?_; (refine WO ?_; first | (refine Qz (pfx3 _ _) 100 [(0, true), (1, true), (2, true), (3, true), (4, true), (5, true), (6, true), (7, true), (8, true), (9, false), (10, true), (11, true), (12, false)] (by rfl) (by rfl) (by kernel_rfl) (by decide +kernel) (by decide +kernel) ⟨(_, _, _, _), rfl⟩ ?_) | (refine Qz (pfx3 _ _) 100 [(0, true), (1, true), (2, true), (3, true), (4, true), (5, true), (6, false)] (by rfl) (by rfl) (by kernel_rfl) (by decide +kernel) (by decide +kernel) ⟨(_, _, _, _), rfl⟩ ?_) | (refine Qz (pfx3 _ _) 100 [(0, true), (1, true), (2, true), (3, true), (4, true), (5, true), (6, false), (7, true), (8, true), (9, false)] (by rfl) (by rfl) (by kernel_rfl) (by decide +kernel) (by decide +kernel) ⟨(_, _, _, _), rfl⟩ ?_) | (refine Qz (pfx3 _ _) 100 [(0, true), (1, true), (2, true), (3, true), (4, true), (5, true), (6, true), (7, true), (8, false)] (by rfl) (by rfl) (by kernel_rfl) (by decide +kernel) (by decide +kernel) ⟨(_, _, _, _), rfl⟩ ?_) | refine Wn (by rfl) (by kernel_rfl) (by kernel_rfl) ?_ | refine Wm (by kernel_rfl) (by kernel_rfl) ?_)) | (refine W9 ?_; (first | refine ZO ?_ | refine i_st rfl rfl (fun _ => (by (repeat' first | (refine Qi ?_; (first | refine QM rfl ?_ | refine s_ad rfl rfl ?_ | refine W5 rfl rfl (repeat_c _ _ (by omega) (by simp only [List.length_cons, List.length_nil]; omega)) ?_ | refine Qd rfl rfl ?_ | refine Qf rfl rfl ?_)) | exact ⟨rfl, rfl⟩))) ?_ | refine i_ef rfl ?_)) | refine And.intro (Exists.intro ((_, _, _, _)) rfl) ?_)
 exact e_0 (Tryz.results43) (c_pm rfl rfl rfl (by omega))
theorem stmt1_c (i : Nat) (s : List UInt8) (hi : i <= 1000000) (hlen : o.length + s.length <= 140737480000000) (g0 g1 gp gi : Nat) {B : Nat} {bl : ABlk} (h1 : g1 <= B) : 
  ACalls Tryz.prog G B 90 [W1 s, .ptr 2 gp 0, .ptr 3 gi 0] [pRow 0 1 g0 g1 o.length bad, .row g1 (Wq o), .row gp [.ptr 0 g0 0], .row gi [.i i], bl]
   (fun d τ => d = .tup [] /\ ∃ g', (g' = g1 \/ B < g') /\ τ = [pRow 0 1 g0 g' (o ++ ZZ i s).length bad, .row g' (Wq (o ++ ZZ i s)), .row gp [.ptr 0 g0 0], .row gi [.i i], bl]) := by
 refine Qa Tryz.func90 rfl Tryz.ntmps90 rfl (t := [(0, W1 s), (1, .ptr 2 gp 0), (2, .ptr 3 gi 0)]) rfl fun E hE => ?_
 (repeat' first | (refine Qi ?_; (first | refine QM rfl ?_ | refine Qc rfl rfl rfl ?_ | refine s_pm 0 1 (line_c _ _ (by first | assumption | omega) (by first | assumption | (simp only [List.length_append, Wc, List.length_cons, List.length_nil]; omega))) rfl rfl rfl rfl rfl rfl (fun _ => rfl) (fun _ _ => ?_))) | (refine Qn ?_; (first | refine Ql ?_ | refine QN rfl ?_)) | refine Qb ?_)
 rename_i g' hg'
 exact e_0 (Tryz.results90) (c_same ⟨rfl, g', by omega, rfl⟩)
theorem st_lenX {t : Nd} (hok : okN t) {i : Nat} (hi : i + Qs t <= 1000000) : (stT t i).length <= 7000000 * Qs t /\ (inT t i).length <= 7000000 * (Qs t - 1) := by
 obtain ⟨h1, h2⟩ := st_len t hok i
 exact ⟨Nat.le_trans h1 (Nat.mul_le_mul (by omega) (Nat.le_refl _)), Nat.le_trans h2 (Nat.mul_le_mul (by omega) (Nat.le_refl _))⟩
def StC (G : Nat -> DV) (t : Nd) : Prop := ∀ (i : Nat) (o : List UInt8) (bad : Bool), i + Qs t <= 1000000 -> o.length + 7000000 * Qs t <= 140737470000000 -> PM Tryz.prog G 49 (fun p g => [.ptr p g 0, .i i, .agg (Enc.enc t)]) o bad (.tup []) (o ++ stT t i) (bad || !stOk t)
def BlC (G : Nat -> DV) (t : Nd) : Prop := ∀ (i : Nat) (e : List UInt8) (o : List UInt8) (bad : Bool), e.length <= 100 -> i + Qs t <= 1000000 -> o.length + 7000000 * Qs t <= 140737475000000 -> PM Tryz.prog G 85 (fun p g => [.ptr p g 0, .i i, .agg (Enc.enc t), W1 e]) o bad (.tup []) (o ++ (inT t i ++ ZZ i e)) (bad || !inOk t)
theorem block_c (k n m : Int) (ks : List Nd) (hok : okN (.mk k n m ks)) (hst : ∀ x ∈ ks, StC G x) : BlC G (.mk k n m ks) := fun i e o bad hel hi hlen g0 g1 B h0 h1 => by
 rw [okN] at hok
 rw [Qs] at hi hlen
 have hl1 := Zn ks
 have hl : ks.length <= 1048576 := by omega
 rw [QI, inT, inOk]
 by_cases hk : k = 13
 ·subst hk
  by_cases hp : WX n m ks.length (-1) = true
  ·have hpl : ∀ b, PE Tryz.prog G 87 (fun p g => [.ptr p g 0, .agg [.i 13, .i n, .i m, Q5 ks], .i (-1)]) o b (.b true) b := fun b => (qv 13 n m ks (-1) hl).conv (by rw [hp]) (by rw [hp]; simp)
   refine Qa Tryz.func85 rfl Tryz.ntmps85 rfl (t := [(0, .ptr 0 g0 0), (1, .i i), (2, .agg [.i _, .i n, .i m, Q5 ks]), (3, W1 e)]) rfl fun E hE => ?_
   (repeat' first | (refine Qi ?_; (first | refine QM rfl ?_ | (refine QO ?_; (first | refine W2 rfl rfl ?_ | refine Qc rfl rfl rfl ?_)) | refine QY rfl rfl ?_ | (refine Qu ?_; (first | refine Zc 0 1 (Zm _) rfl rfl rfl rfl rfl rfl ?_ | refine Zc 0 1 (hpl _) rfl rfl rfl rfl rfl rfl ?_ | refine Q2 rfl ?_)) | refine W6 rfl rfl ?_ | refine Qd rfl rfl ?_ | refine Wi rfl rfl (fun _ _ => ?_))) | (refine Qn ?_; (first | refine Ql ?_ | refine QN rfl ?_ | refine WJ rfl rfl rfl rfl ?_)) | (refine Qm ?_; (first | refine Qo ?_ | refine Qb ?_ | refine Qe ?_ | refine Qv rfl ?_)))
   rename_i gn hgn
   have hpos := hst
   rw [show (bad || !decide ((13 : Int) = 13)) = bad by simp]
   refine r_loop2 (fun (j : Nat) (g : Nat) => ⟨[(0, .ptr 0 g0 0), (1, .i i), (3, W1 e), (21, Q5 ks), (22, .i ks.length), (23, .i j)], [pRow 0 1 g0 g (o ++ stTs (ks.take j) (i + 1)).length (bad || !qG (ks.take j)), .row g (Wq (o ++ stTs (ks.take j) (i + 1))), .row gn [.i 13, .i n, .i m, Q5 ks]]⟩) (fun j g => j <= ks.length /\ (g = g1 \/ E.N < g)) (fun j _ => ks.length - j) 0 g1 ?_ (by omega) ?_
   ·rw [show (bad || !qG (ks.take 0)) = bad by simp [qG], show o ++ stTs (ks.take 0) (i + 1) = o by simp [stTs]]
    exact zal rfl
   intro j g hj
   have hpre := stTs_len (C := 7000000) (ks.take j) (i + 1) fun x hx => (st_lenX (WY hok.2 (List.mem_of_mem_take hx)) (by have := Wz (List.mem_of_mem_take hx); omega)).1
   have hsl := WR ks j
   by_cases hjl : j < ks.length
   ·have hsm := Wz (List.getElem_mem hjl)
    have hst1 := qx ks j hjl
    have hst2 := WR ks (j + 1)
    have hsx := hst _ (List.getElem_mem hjl) (i + 1) (o ++ stTs (ks.take j) (i + 1)) (bad || !qG (ks.take j)) (by omega) (by rw [List.length_append]; omega)
    have e1 : o ++ stTs (ks.take (j + 1)) (i + 1) = (o ++ stTs (ks.take j) (i + 1)) ++ stT ks[j] (i + 1) := by rw [stTs_take hjl, List.append_assoc]
    have e2 : (bad || !qG (ks.take (j + 1))) = ((bad || !qG (ks.take j)) || !stOk ks[j]) := by rw [stOks_take hjl]; cases bad <;> simp
    clear hpos hst
    (repeat' first | (refine Qi ?_; (first | refine QM rfl ?_ | (refine QO ?_; (first | refine W2 rfl rfl ?_ | refine Q4 rfl ?_)) | refine Q1 rfl rfl (by first | assumption | omega | (simp; done) | (simp; omega)) ?_ | (refine Qj ?_; (first | refine Q9 rfl rfl ?_ | refine Zh rfl rfl (by omega) ?_)) | refine s_pm 0 1 (hsx) rfl rfl rfl rfl rfl rfl (fun _ => rfl) (fun _ _ => ?_) | refine Ws rfl rfl rfl rfl ?_ | refine Qq (fun _ _ => ?_))) | (refine Qn ?_; (first | refine Ql ?_ | refine QN rfl ?_ | refine QJ ?_)) | (refine Qm ?_; (first | refine Qo ?_ | refine Qb ?_ | refine Qe ?_ | refine QB ?_ | refine Qh rfl (by omega) ?_)))
    rename_i g' hg'
    refine ⟨j + 1, g', ⟨by omega, by omega⟩, by omega, ?_⟩
    rw [e1, e2]
    exact zal rfl
   ·have hje : j = ks.length := by omega
    subst hje
    rw [List.take_length] at *
    have hll : (o ++ stTs ks (i + 1)).length + e.length <= 140737480000000 := by rw [List.length_append]; omega
    have hi1 : i <= 1000000 := by omega
    (repeat' first | (refine Qi ?_; (first | refine QM rfl ?_ | refine Q9 rfl rfl ?_ | refine s_pm 0 1 (line_c _ _ (by first | assumption | omega) (by first | assumption | (simp only [List.length_append, Wc, List.length_cons, List.length_nil]; omega))) rfl rfl rfl rfl rfl rfl (fun _ => rfl) (fun _ _ => ?_))) | (refine Qn ?_; (first | refine Ql ?_ | refine QN rfl ?_)) | (refine Qm ?_; (first | refine Qo ?_ | refine Qb ?_ | refine Qg rfl (by omega) ?_ | refine WS rfl ?_)))
    exact e_0 (Tryz.results85) (c_pm rfl (by simp [hp]) (by simp [hp]) (by omega))
  ·have hp : WX n m ks.length (-1) = false := by rw [<- Bool.not_eq_true]; exact hp
   have hpl : ∀ b, PE Tryz.prog G 87 (fun p g => [.ptr p g 0, .agg [.i 13, .i n, .i m, Q5 ks], .i (-1)]) o b (.b false) true := fun b => (qv 13 n m ks (-1) hl).conv (by rw [hp]) (by rw [hp]; simp)
   have hll : o.length + e.length <= 140737480000000 := by omega
   have hi1 : i <= 1000000 := by omega
   refine Qa Tryz.func85 rfl Tryz.ntmps85 rfl (t := [(0, .ptr 0 g0 0), (1, .i i), (2, .agg [.i _, .i n, .i m, Q5 ks]), (3, W1 e)]) rfl fun E hE => ?_
   (repeat' first | (refine Qi ?_; (first | refine QM rfl ?_ | (refine QO ?_; (first | refine W2 rfl rfl ?_ | refine Qc rfl rfl rfl ?_)) | refine QY rfl rfl ?_ | (refine Qu ?_; (first | refine Zc 0 1 (Zm _) rfl rfl rfl rfl rfl rfl ?_ | refine Zc 0 1 (hpl _) rfl rfl rfl rfl rfl rfl ?_ | refine s_pm 0 1 (line_c _ _ (by first | assumption | omega) (by first | assumption | (simp only [List.length_append, Wc, List.length_cons, List.length_nil]; omega))) rfl rfl rfl rfl rfl rfl (fun _ => rfl) (fun _ _ => ?_))) | refine W6 rfl rfl ?_ | refine Qd rfl rfl ?_ | refine Wi rfl rfl (fun _ _ => ?_))) | (refine Qn ?_; (first | refine Ql ?_ | refine QN rfl ?_ | refine WJ rfl rfl rfl rfl ?_)) | (refine Qm ?_; (first | refine Qo ?_ | refine Qb ?_ | refine QB ?_ | refine Qy rfl ?_)))
   exact e_0 (Tryz.results85) (c_pm rfl (by simp [hp]) (by simp [hp]) (by omega))
 ·have hll : o.length + e.length <= 140737480000000 := by omega
  have hi1 : i <= 1000000 := by omega
  refine Qa Tryz.func85 rfl Tryz.ntmps85 rfl (t := [(0, .ptr 0 g0 0), (1, .i i), (2, .agg [.i k, .i n, .i m, Q5 ks]), (3, W1 e)]) rfl fun E hE => ?_
  (repeat' first | (refine Qi ?_; (first | refine QM rfl ?_ | refine Qc rfl rfl rfl ?_ | refine QY rfl rfl ?_ | (refine Qu ?_; (first | refine Zc 0 1 (Zm _) rfl rfl rfl rfl rfl rfl ?_ | refine s_pm 0 1 (line_c _ _ (by first | assumption | omega) (by first | assumption | (simp only [List.length_append, Wc, List.length_cons, List.length_nil]; omega))) rfl rfl rfl rfl rfl rfl (fun _ => rfl) (fun _ _ => ?_))) | refine WK rfl rfl ?_ | refine Qd rfl rfl ?_ | refine Wi rfl rfl (fun _ _ => ?_))) | (refine Qn ?_; (first | refine Ql ?_ | refine QN rfl ?_ | refine Zd rfl rfl rfl rfl ?_ | refine QZ rfl rfl (by omega) ?_)) | (refine Qm ?_; (first | refine Qo ?_ | refine Qb ?_ | refine QB ?_ | refine Qy rfl ?_)))
  exact e_0 (Tryz.results85) (c_pm rfl (by simp [hk]) (by simp [hk]) (by omega))
theorem stmt_c (hG : G 6 = pow10T) (hG1 : G 1 = spaceT) (k n m : Int) (ks : List Nd) (hok0 : okN (.mk k n m ks)) (hbl : BlC G (.mk k n m ks)) (hkb : ∀ x ∈ ks, BlC G x) : StC G (.mk k n m ks) := fun i o bad hi hlen g0 g1 B h0 h1 => by
 have hok := hok0
 rw [okN] at hok
 have hse : Qs (.mk k n m ks) = 1 + QC ks := by rw [Qs]
 have hl1 := Zn ks
 have hsim := simT_len _ hok0
 have hsimc := fun (o : List UInt8) (b : Bool) => simple_c (G := G) (o := o) hG hG1 _ hok0 (by omega) b
 rw [hse] at hi hlen hsim
 have hl : ks.length <= 1048576 := by omega
 have hi1 : i <= 1000000 := by omega
 have hn : -9223372036854775808 <= n /\ n <= 9223372036854775807 := hok.1.2.1
 have hnl := Zy hok.1.2.1
 have hx : ∀ x ∈ ks, ∀ (o : List UInt8) b, PE Tryz.prog G 48 (fun p g => [.ptr p g 0, .agg (Enc.enc x)]) o b (W1 (exT x)) (b || !qg x) := fun x hx o b => expr_c hG hG1 x (WY hok.2 hx) (by have := Wz hx; omega) b
 have hxl := exs_len hok.2
 have hil : ∀ x ∈ ks, (inT x i).length <= 7000000 * (Qs x - 1) := fun x hx => (st_lenX (WY hok.2 hx) (by have := Wz hx; omega)).2
 rw [stT, stOk, inTs_eq, inOks_eq]
 rw [QI] at hsimc ⊢
 by_cases k13 : k = 13
 ·subst k13
  have hb1 := hbl i sClose (o ++ ZZ i sOpen) bad (by decide) (by rw [hse]; omega) (by rw [hse, List.length_append, Wc]; simp only [List.length_cons, List.length_nil]; omega)
  rw [QI, inT, inOk] at hb1
  clear hkb hbl hx hxl hil hsimc
  refine Qa Tryz.func49 rfl Tryz.ntmps49 rfl (t := [(0, .ptr 0 g0 0), (1, .i i), (2, .agg [.i _, .i n, .i m, Q5 ks])]) rfl fun E hE => ?_
  (repeat' first | (refine Qi ?_; (first | refine QM rfl ?_ | refine QR rfl ?_ | (refine QO ?_; (first | refine W2 rfl rfl ?_ | refine Qc rfl rfl rfl ?_)) | refine QY rfl rfl ?_ | (refine Qu ?_; (first | refine qb rfl rfl rfl (fun B' hB' => stmt1_c i _ hi1 (by first | omega | (simp only [List.length_append, Wc, List.length_cons, List.length_nil]; omega)) g0 _ _ _ hB') (fun _ _ => ?_) | refine s_pm 0 1 (hb1) rfl rfl rfl rfl rfl rfl (fun _ => rfl) (fun _ _ => ?_))) | refine Qd rfl rfl ?_ | refine QQ rfl rfl ?_ | refine Wi rfl rfl (fun _ _ => ?_))) | (refine Qn ?_; (first | refine Ql ?_ | refine QN rfl ?_)) | (refine Qm ?_; (first | refine Qo ?_ | refine Qb ?_ | refine Qe ?_ | refine Qv rfl ?_)))
  exact e_0 (Tryz.results49) (c_pm rfl (by simp) (by simp [Bool.or_assoc]) (by omega))
 by_cases k17 : k = 17
 ·subst k17
  by_cases hp : WX n m ks.length 3 = true
  ·have hpl : ∀ (o : List UInt8) b, PE Tryz.prog G 87 (fun p g => [.ptr p g 0, .agg [.i 17, .i n, .i m, Q5 ks], .i 3]) o b (.b true) b := fun o b => (qv 17 n m ks 3 hl).conv (by rw [hp]) (by rw [hp]; simp)
   have h2 : ks.length = 3 := by simp [WX, QU] at hp; omega
   match ks, h2 with
   | [a, b, c], _ =>
    have hxa := hx a (by simp)
    have hba := hkb a (by simp)
    have hxal := hxl a (by simp)
    have hial := hil a (by simp)
    have hsa := QX a
    have hxb := hx b (by simp)
    have hbb := hkb b (by simp)
    have hxbl := hxl b (by simp)
    have hibl := hil b (by simp)
    have hsb := QX b
    have hxc := hx c (by simp)
    have hbc := hkb c (by simp)
    have hxcl := hxl c (by simp)
    have hicl := hil c (by simp)
    have hsc := QX c
    have hp2 : WX n m 3 3 = true := hp
    simp only [QC] at hi hlen
    clear hx hkb hxl hil hbl hsimc
    refine Qa Tryz.func49 rfl Tryz.ntmps49 rfl (t := [(0, .ptr 0 g0 0), (1, .i i), (2, .agg [.i _, .i n, .i m, Q5 [a, b, c]])]) rfl fun E hE => ?_
    (repeat' first | (refine Qi ?_; (first | refine QM rfl ?_ | refine QR rfl ?_ | (refine QO ?_; (first | refine W2 rfl rfl ?_ | refine Qc rfl rfl rfl ?_)) | refine QY rfl rfl ?_ | (refine Qu ?_; (first | refine qb rfl rfl rfl (fun B' hB' => stmt1_c i _ hi1 (by first | omega | (simp only [List.length_append, Wc, List.length_cons, List.length_nil]; omega)) g0 _ _ _ hB') (fun _ _ => ?_) | refine Zc 0 1 (hpl _ _) rfl rfl rfl rfl rfl rfl ?_ | refine Zc 0 1 (hxa _ _) rfl rfl rfl rfl rfl rfl ?_ | refine s_pm 0 1 (hbb i _ _ _ (by first | decide | (simp only [List.length_append, List.length_cons, List.length_nil]; omega)) (by omega) (by first | omega | (simp only [List.length_append, Wc, List.length_cons, List.length_nil]; omega))) rfl rfl rfl rfl rfl rfl (fun _ => rfl) (fun _ _ => ?_) | refine s_pm 0 1 (hbc i _ _ _ (by first | decide | (simp only [List.length_append, List.length_cons, List.length_nil]; omega)) (by omega) (by first | omega | (simp only [List.length_append, Wc, List.length_cons, List.length_nil]; omega))) rfl rfl rfl rfl rfl rfl (fun _ => rfl) (fun _ _ => ?_))) | refine W6 rfl rfl ?_ | refine Qd rfl rfl ?_ | refine QQ rfl rfl ?_ | refine Wi rfl rfl (fun _ _ => ?_))) | (refine Qn ?_; (first | refine Ql ?_ | refine QN rfl ?_ | refine WJ rfl rfl rfl rfl ?_)) | (refine Qm ?_; (first | refine Qo ?_ | refine Qb ?_ | refine Qe ?_ | (refine WO ?_; first | (refine Qz (pfx3 _ _) 100 [(0, true), (1, true), (2, true), (3, true), (4, true), (5, true), (6, true), (7, true), (8, true), (9, false), (10, true), (11, true), (12, false)] (by rfl) (by rfl) (by kernel_rfl) (by decide +kernel) (by decide +kernel) ⟨(_, _, _, _), rfl⟩ ?_) | (refine Qz (pfx3 _ _) 100 [(0, true), (1, true), (2, true), (3, true), (4, true), (5, true), (6, false)] (by rfl) (by rfl) (by kernel_rfl) (by decide +kernel) (by decide +kernel) ⟨(_, _, _, _), rfl⟩ ?_) | (refine Qz (pfx3 _ _) 100 [(0, true), (1, true), (2, true), (3, true), (4, true), (5, true), (6, false), (7, true), (8, true), (9, false)] (by rfl) (by rfl) (by kernel_rfl) (by decide +kernel) (by decide +kernel) ⟨(_, _, _, _), rfl⟩ ?_) | (refine Qz (pfx3 _ _) 100 [(0, true), (1, true), (2, true), (3, true), (4, true), (5, true), (6, true), (7, true), (8, false)] (by rfl) (by rfl) (by kernel_rfl) (by decide +kernel) (by decide +kernel) ⟨(_, _, _, _), rfl⟩ ?_) | refine Wn (by rfl) (by kernel_rfl) (by kernel_rfl) ?_ | refine Wm (by kernel_rfl) (by kernel_rfl) ?_) | refine Qv rfl ?_ | refine Qy rfl ?_)) | (refine W9 ?_; (first | refine ZO ?_ | refine i_st rfl rfl (fun _ => (by (repeat' first | (refine Qi ?_; (first | refine QM rfl ?_ | (refine QO ?_; (first | refine Q4 rfl ?_ | refine Qc rfl rfl rfl ?_)) | refine Q1 rfl rfl (by first | assumption | omega | (simp; done) | (simp; omega)) ?_ | refine s_ad rfl rfl ?_ | refine Qd rfl rfl ?_)) | exact ⟨rfl, rfl⟩))) ?_ | refine i_ef rfl ?_)) | refine And.intro (Exists.intro ((_, _, _, _)) rfl) ?_)
    exact e_0 (Tryz.results49) (c_pm rfl (by simp [hp2]) (by simp [hp2, Bool.or_assoc]) (by omega))
  ·have hp : WX n m ks.length 3 = false := by rw [<- Bool.not_eq_true]; exact hp
   have hpl : ∀ (o : List UInt8) b, PE Tryz.prog G 87 (fun p g => [.ptr p g 0, .agg [.i 17, .i n, .i m, Q5 ks], .i 3]) o b (.b false) true := fun o b => (qv 17 n m ks 3 hl).conv (by rw [hp]) (by rw [hp]; simp)
   clear hkb hbl hx hxl hil
   refine Qa Tryz.func49 rfl Tryz.ntmps49 rfl (t := [(0, .ptr 0 g0 0), (1, .i i), (2, .agg [.i _, .i n, .i m, Q5 ks])]) rfl fun E hE => ?_
   (repeat' first | (refine Qi ?_; (first | refine QM rfl ?_ | refine QR rfl ?_ | (refine QO ?_; (first | refine W2 rfl rfl ?_ | refine Qc rfl rfl rfl ?_)) | refine QY rfl rfl ?_ | (refine Qu ?_; (first | refine qb rfl rfl rfl (fun B' hB' => stmt1_c i _ hi1 (by first | omega | (simp only [List.length_append, Wc, List.length_cons, List.length_nil]; omega)) g0 _ _ _ hB') (fun _ _ => ?_) | refine Zc 0 1 (hpl _ _) rfl rfl rfl rfl rfl rfl ?_ | refine Zc 0 1 (hsimc _ _) rfl rfl rfl rfl rfl rfl ?_)) | (refine Wh ?_; (first | refine W6 rfl rfl ?_ | refine WK rfl rfl ?_)) | refine Qd rfl rfl ?_ | refine QQ rfl rfl ?_ | refine Wi rfl rfl (fun _ _ => ?_))) | (refine Qn ?_; (first | refine Ql ?_ | refine QN rfl ?_ | refine WJ rfl rfl rfl rfl ?_ | refine Zd rfl rfl rfl rfl ?_)) | (refine Qm ?_; (first | refine Qo ?_ | refine Qb ?_ | refine Qe ?_ | refine Qy rfl ?_)))
   exact e_0 (Tryz.results49) (c_pm rfl (by simp [hp]) (by simp [hp, Bool.or_assoc]) (by omega))
 by_cases k18 : k = 18
 ·subst k18
  by_cases hp : WX n m ks.length 2 = true
  ·have hpl : ∀ (o : List UInt8) b, PE Tryz.prog G 87 (fun p g => [.ptr p g 0, .agg [.i 18, .i n, .i m, Q5 ks], .i 2]) o b (.b true) b := fun o b => (qv 18 n m ks 2 hl).conv (by rw [hp]) (by rw [hp]; simp)
   have h2 : ks.length = 2 := by simp [WX, QU] at hp; omega
   match ks, h2 with
   | [a, b], _ =>
    have hxa := hx a (by simp)
    have hba := hkb a (by simp)
    have hxal := hxl a (by simp)
    have hial := hil a (by simp)
    have hsa := QX a
    have hxb := hx b (by simp)
    have hbb := hkb b (by simp)
    have hxbl := hxl b (by simp)
    have hibl := hil b (by simp)
    have hsb := QX b
    have hp2 : WX n m 2 2 = true := hp
    simp only [QC] at hi hlen
    clear hx hkb hxl hil hbl hsimc
    refine Qa Tryz.func49 rfl Tryz.ntmps49 rfl (t := [(0, .ptr 0 g0 0), (1, .i i), (2, .agg [.i _, .i n, .i m, Q5 [a, b]])]) rfl fun E hE => ?_
    (repeat' first | (refine Qi ?_; (first | refine QM rfl ?_ | refine QR rfl ?_ | (refine QO ?_; (first | refine W2 rfl rfl ?_ | refine Qc rfl rfl rfl ?_)) | refine QY rfl rfl ?_ | (refine Qu ?_; (first | refine qb rfl rfl rfl (fun B' hB' => stmt1_c i _ hi1 (by first | omega | (simp only [List.length_append, Wc, List.length_cons, List.length_nil]; omega)) g0 _ _ _ hB') (fun _ _ => ?_) | refine Zc 0 1 (hpl _ _) rfl rfl rfl rfl rfl rfl ?_ | refine Zc 0 1 (hxa _ _) rfl rfl rfl rfl rfl rfl ?_ | refine s_pm 0 1 (hbb i _ _ _ (by first | decide | (simp only [List.length_append, List.length_cons, List.length_nil]; omega)) (by omega) (by first | omega | (simp only [List.length_append, Wc, List.length_cons, List.length_nil]; omega))) rfl rfl rfl rfl rfl rfl (fun _ => rfl) (fun _ _ => ?_))) | (refine Wh ?_; (first | refine W6 rfl rfl ?_ | refine WK rfl rfl ?_)) | refine Qd rfl rfl ?_ | refine QQ rfl rfl ?_ | refine Wi rfl rfl (fun _ _ => ?_))) | (refine Qn ?_; (first | refine Ql ?_ | refine QN rfl ?_ | refine WJ rfl rfl rfl rfl ?_ | refine Zd rfl rfl rfl rfl ?_)) | (refine Qm ?_; (first | refine Qo ?_ | refine Qb ?_ | refine Qe ?_ | (refine WO ?_; first | (refine Qz (pfx3 _ _) 100 [(0, true), (1, true), (2, true), (3, true), (4, true), (5, true), (6, true), (7, true), (8, true), (9, false), (10, true), (11, true), (12, false)] (by rfl) (by rfl) (by kernel_rfl) (by decide +kernel) (by decide +kernel) ⟨(_, _, _, _), rfl⟩ ?_) | (refine Qz (pfx3 _ _) 100 [(0, true), (1, true), (2, true), (3, true), (4, true), (5, true), (6, false)] (by rfl) (by rfl) (by kernel_rfl) (by decide +kernel) (by decide +kernel) ⟨(_, _, _, _), rfl⟩ ?_) | (refine Qz (pfx3 _ _) 100 [(0, true), (1, true), (2, true), (3, true), (4, true), (5, true), (6, false), (7, true), (8, true), (9, false)] (by rfl) (by rfl) (by kernel_rfl) (by decide +kernel) (by decide +kernel) ⟨(_, _, _, _), rfl⟩ ?_) | (refine Qz (pfx3 _ _) 100 [(0, true), (1, true), (2, true), (3, true), (4, true), (5, true), (6, true), (7, true), (8, false)] (by rfl) (by rfl) (by kernel_rfl) (by decide +kernel) (by decide +kernel) ⟨(_, _, _, _), rfl⟩ ?_) | refine Wn (by rfl) (by kernel_rfl) (by kernel_rfl) ?_ | refine Wm (by kernel_rfl) (by kernel_rfl) ?_) | refine Qv rfl ?_ | refine Qy rfl ?_)) | (refine W9 ?_; (first | refine ZO ?_ | refine i_st rfl rfl (fun _ => (by (repeat' first | (refine Qi ?_; (first | refine QM rfl ?_ | (refine QO ?_; (first | refine Q4 rfl ?_ | refine Qc rfl rfl rfl ?_)) | refine Q1 rfl rfl (by first | assumption | omega | (simp; done) | (simp; omega)) ?_ | refine s_ad rfl rfl ?_ | refine Qd rfl rfl ?_)) | exact ⟨rfl, rfl⟩))) ?_ | refine i_ef rfl ?_)) | refine And.intro (Exists.intro ((_, _, _, _)) rfl) ?_)
    exact e_0 (Tryz.results49) (c_pm rfl (by simp [hp2]) (by simp [hp2, Bool.or_assoc]) (by omega))
  ·have hp : WX n m ks.length 2 = false := by rw [<- Bool.not_eq_true]; exact hp
   have hpl : ∀ (o : List UInt8) b, PE Tryz.prog G 87 (fun p g => [.ptr p g 0, .agg [.i 18, .i n, .i m, Q5 ks], .i 2]) o b (.b false) true := fun o b => (qv 18 n m ks 2 hl).conv (by rw [hp]) (by rw [hp]; simp)
   clear hkb hbl hx hxl hil
   refine Qa Tryz.func49 rfl Tryz.ntmps49 rfl (t := [(0, .ptr 0 g0 0), (1, .i i), (2, .agg [.i _, .i n, .i m, Q5 ks])]) rfl fun E hE => ?_
   (repeat' first | (refine Qi ?_; (first | refine QM rfl ?_ | refine QR rfl ?_ | (refine QO ?_; (first | refine W2 rfl rfl ?_ | refine Qc rfl rfl rfl ?_)) | refine QY rfl rfl ?_ | (refine Qu ?_; (first | refine qb rfl rfl rfl (fun B' hB' => stmt1_c i _ hi1 (by first | omega | (simp only [List.length_append, Wc, List.length_cons, List.length_nil]; omega)) g0 _ _ _ hB') (fun _ _ => ?_) | refine Zc 0 1 (hpl _ _) rfl rfl rfl rfl rfl rfl ?_ | refine Zc 0 1 (hsimc _ _) rfl rfl rfl rfl rfl rfl ?_)) | (refine Wh ?_; (first | refine W6 rfl rfl ?_ | refine WK rfl rfl ?_)) | refine Qd rfl rfl ?_ | refine QQ rfl rfl ?_ | refine Wi rfl rfl (fun _ _ => ?_))) | (refine Qn ?_; (first | refine Ql ?_ | refine QN rfl ?_ | refine WJ rfl rfl rfl rfl ?_ | refine Zd rfl rfl rfl rfl ?_)) | (refine Qm ?_; (first | refine Qo ?_ | refine Qb ?_ | refine Qe ?_ | refine Qy rfl ?_)))
   exact e_0 (Tryz.results49) (c_pm rfl (by simp [hp]) (by simp [hp, Bool.or_assoc]) (by omega))
 by_cases k21 : k = 21
 ·subst k21
  by_cases hp : QU m ks.length 2 = true
  ·have hpl : ∀ (o : List UInt8) b, PE Tryz.prog G 42 (fun p g => [.ptr p g 0, .agg [.i 21, .i n, .i m, Q5 ks], .i 2]) o b (.b true) b := fun o b => (Zr 21 n m ks 2 hl).conv (by rw [hp]) (by rw [hp]; simp)
   have h2 : ks.length = 2 := by simp [WX, QU] at hp; omega
   match ks, h2 with
   | [a, b], _ =>
    have hxa := hx a (by simp)
    have hba := hkb a (by simp)
    have hxal := hxl a (by simp)
    have hial := hil a (by simp)
    have hsa := QX a
    have hxb := hx b (by simp)
    have hbb := hkb b (by simp)
    have hxbl := hxl b (by simp)
    have hibl := hil b (by simp)
    have hsb := QX b
    have hp2 : QU m 2 2 = true := hp
    simp only [QC] at hi hlen
    clear hx hkb hxl hil hbl hsimc
    refine Qa Tryz.func49 rfl Tryz.ntmps49 rfl (t := [(0, .ptr 0 g0 0), (1, .i i), (2, .agg [.i _, .i n, .i m, Q5 [a, b]])]) rfl fun E hE => ?_
    (repeat' first | (refine Qi ?_; (first | refine QM rfl ?_ | refine QR rfl ?_ | (refine QO ?_; (first | refine W2 rfl rfl ?_ | refine Qc rfl rfl rfl ?_)) | refine QY rfl rfl ?_ | (refine Qu ?_; (first | refine qb rfl rfl rfl (fun B' hB' => stmt1_c i _ hi1 (by first | omega | (simp only [List.length_append, Wc, List.length_cons, List.length_nil]; omega)) g0 _ _ _ hB') (fun _ _ => ?_) | refine Zc 0 1 (hpl _ _) rfl rfl rfl rfl rfl rfl ?_ | refine Zc 0 1 (Zw hG _ (by assumption)) rfl rfl rfl rfl rfl rfl ?_ | refine s_pm 0 1 (hba i _ _ _ (by first | decide | (simp only [List.length_append, List.length_cons, List.length_nil]; omega)) (by omega) (by first | omega | (simp only [List.length_append, Wc, List.length_cons, List.length_nil]; omega))) rfl rfl rfl rfl rfl rfl (fun _ => rfl) (fun _ _ => ?_) | refine s_pm 0 1 (hbb i _ _ _ (by first | decide | (simp only [List.length_append, List.length_cons, List.length_nil]; omega)) (by omega) (by first | omega | (simp only [List.length_append, Wc, List.length_cons, List.length_nil]; omega))) rfl rfl rfl rfl rfl rfl (fun _ => rfl) (fun _ _ => ?_))) | (refine Wh ?_; (first | refine W6 rfl rfl ?_ | refine WK rfl rfl ?_)) | refine Qd rfl rfl ?_ | refine QQ rfl rfl ?_ | refine Wi rfl rfl (fun _ _ => ?_))) | (refine Qn ?_; (first | refine Ql ?_ | refine QN rfl ?_ | refine WJ rfl rfl rfl rfl ?_ | refine Zd rfl rfl rfl rfl ?_)) | (refine Qm ?_; (first | refine Qo ?_ | refine Qb ?_ | refine Qe ?_ | (refine WO ?_; first | (refine Qz (pfx3 _ _) 100 [(0, true), (1, true), (2, true), (3, true), (4, true), (5, true), (6, true), (7, true), (8, true), (9, false), (10, true), (11, true), (12, false)] (by rfl) (by rfl) (by kernel_rfl) (by decide +kernel) (by decide +kernel) ⟨(_, _, _, _), rfl⟩ ?_) | (refine Qz (pfx3 _ _) 100 [(0, true), (1, true), (2, true), (3, true), (4, true), (5, true), (6, false)] (by rfl) (by rfl) (by kernel_rfl) (by decide +kernel) (by decide +kernel) ⟨(_, _, _, _), rfl⟩ ?_) | (refine Qz (pfx3 _ _) 100 [(0, true), (1, true), (2, true), (3, true), (4, true), (5, true), (6, false), (7, true), (8, true), (9, false)] (by rfl) (by rfl) (by kernel_rfl) (by decide +kernel) (by decide +kernel) ⟨(_, _, _, _), rfl⟩ ?_) | (refine Qz (pfx3 _ _) 100 [(0, true), (1, true), (2, true), (3, true), (4, true), (5, true), (6, true), (7, true), (8, false)] (by rfl) (by rfl) (by kernel_rfl) (by decide +kernel) (by decide +kernel) ⟨(_, _, _, _), rfl⟩ ?_) | refine Wn (by rfl) (by kernel_rfl) (by kernel_rfl) ?_ | refine Wm (by kernel_rfl) (by kernel_rfl) ?_) | refine Qv rfl ?_ | refine Qy rfl ?_)) | (refine W9 ?_; (first | refine ZO ?_ | refine i_st rfl rfl (fun _ => (by (repeat' first | (refine Qi ?_; (first | (refine QO ?_; (first | refine Q4 rfl ?_ | refine Qc rfl rfl rfl ?_)) | refine Q1 rfl rfl (by first | assumption | omega | (simp; done) | (simp; omega)) ?_ | refine s_ad rfl rfl ?_ | refine Qd rfl rfl ?_)) | exact ⟨rfl, rfl⟩))) ?_ | refine i_ef rfl ?_)) | refine And.intro (Exists.intro ((_, _, _, _)) rfl) ?_)
    exact e_0 (Tryz.results49) (c_pm rfl (by simp [hp2]) (by simp [hp2, Bool.or_assoc]) (by omega))
  ·have hp : QU m ks.length 2 = false := by rw [<- Bool.not_eq_true]; exact hp
   have hpl : ∀ (o : List UInt8) b, PE Tryz.prog G 42 (fun p g => [.ptr p g 0, .agg [.i 21, .i n, .i m, Q5 ks], .i 2]) o b (.b false) true := fun o b => (Zr 21 n m ks 2 hl).conv (by rw [hp]) (by rw [hp]; simp)
   clear hkb hbl hx hxl hil
   refine Qa Tryz.func49 rfl Tryz.ntmps49 rfl (t := [(0, .ptr 0 g0 0), (1, .i i), (2, .agg [.i _, .i n, .i m, Q5 ks])]) rfl fun E hE => ?_
   (repeat' first | (refine Qi ?_; (first | refine QM rfl ?_ | refine QR rfl ?_ | (refine QO ?_; (first | refine W2 rfl rfl ?_ | refine Qc rfl rfl rfl ?_)) | refine QY rfl rfl ?_ | (refine Qu ?_; (first | refine qb rfl rfl rfl (fun B' hB' => stmt1_c i _ hi1 (by first | omega | (simp only [List.length_append, Wc, List.length_cons, List.length_nil]; omega)) g0 _ _ _ hB') (fun _ _ => ?_) | refine Zc 0 1 (hpl _ _) rfl rfl rfl rfl rfl rfl ?_ | refine Zc 0 1 (hsimc _ _) rfl rfl rfl rfl rfl rfl ?_)) | (refine Wh ?_; (first | refine W6 rfl rfl ?_ | refine WK rfl rfl ?_)) | refine Qd rfl rfl ?_ | refine QQ rfl rfl ?_ | refine Wi rfl rfl (fun _ _ => ?_))) | (refine Qn ?_; (first | refine Ql ?_ | refine QN rfl ?_ | refine WJ rfl rfl rfl rfl ?_ | refine Zd rfl rfl rfl rfl ?_)) | (refine Qm ?_; (first | refine Qo ?_ | refine Qb ?_ | refine Qe ?_ | refine Qy rfl ?_)))
   exact e_0 (Tryz.results49) (c_pm rfl (by simp [hp]) (by simp [hp, Bool.or_assoc]) (by omega))
 ·clear hkb hbl hx hxl hil
  refine Qa Tryz.func49 rfl Tryz.ntmps49 rfl (t := [(0, .ptr 0 g0 0), (1, .i i), (2, .agg [.i k, .i n, .i m, Q5 ks])]) rfl fun E hE => ?_
  (repeat' first | (refine Qi ?_; (first | refine QM rfl ?_ | refine QR rfl ?_ | (refine QO ?_; (first | refine W2 rfl rfl ?_ | refine Qc rfl rfl rfl ?_)) | refine QY rfl rfl ?_ | (refine Qu ?_; (first | refine qb rfl rfl rfl (fun B' hB' => stmt1_c i _ hi1 (by first | omega | (simp only [List.length_append, Wc, List.length_cons, List.length_nil]; omega)) g0 _ _ _ hB') (fun _ _ => ?_) | refine Zc 0 1 (hsimc _ _) rfl rfl rfl rfl rfl rfl ?_)) | refine WK rfl rfl ?_ | refine Qd rfl rfl ?_ | refine QQ rfl rfl ?_ | refine Wi rfl rfl (fun _ _ => ?_))) | (refine Qn ?_; (first | refine Ql ?_ | refine QN rfl ?_ | refine Zd rfl rfl rfl rfl ?_ | refine QZ rfl rfl (by omega) ?_)) | (refine Qm ?_; (first | refine Qo ?_ | refine Qb ?_ | refine Qe ?_ | refine Qy rfl ?_ | refine Qg rfl (by omega) ?_)))
  exact e_0 (Tryz.results49) (c_pm rfl (by simp [*]) (by simp [*, Bool.or_assoc]) (by omega))
theorem stmts_c (hG : G 6 = pow10T) (hG1 : G 1 = spaceT) (t : Nd) : okN t -> StC G t /\ BlC G t := by
 induction t using Nd.ind with
 | h k n m ks ih =>
 intro hok
 have hok2 := hok
 rw [okN] at hok2
 have hb := block_c k n m ks hok fun x hx => (ih x hx (WY hok2.2 hx)).1
 exact ⟨stmt_c hG hG1 k n m ks hok hb fun x hx => (ih x hx (WY hok2.2 hx)).2, hb⟩
theorem fun_c (hG : G 6 = pow10T) (hG1 : G 1 = spaceT) (t : Nd) (hok : okN t) (hsz : Qs t <= 1000000) (hlen : o.length + 7000000 * Qs t <= 140737470000000) : PM Tryz.prog G 45 (fun p g => [.ptr p g 0, .agg (Enc.enc t)]) o bad (.tup []) (o ++ funT t) (bad || !qN t) := fun g0 g1 B h0 h1 => by
 obtain ⟨k, n, m, ks⟩ := t
 rw [okN] at hok
 rw [Qs] at hsz hlen
 have hl1 := Zn ks
 have hl : ks.length <= 1048576 := by omega
 have hn : -9223372036854775808 <= n /\ n <= 9223372036854775807 := hok.1.2.1
 have hnl := Zy hok.1.2.1
 rw [funT, qN, QI]
 by_cases hk : k = 26
 ·subst hk
  by_cases hp : 0 < ks.length
  ·have hpz : (0 : Int) < (ks.length : Int) := by omega
   by_cases hm : QU m ks.length (-1) = true
   ·have hpl : ∀ b, PE Tryz.prog G 42 (fun p g => [.ptr p g 0, .agg [.i 26, .i n, .i m, Q5 ks], .i (-1)]) o b (.b true) b := fun b => (Zr 26 n m ks (-1) hl).conv (by rw [hm]) (by rw [hm]; simp)
    have hsl := sizeL_last hp
    have hmem := last_mem hp
    have hbb := (stmts_c hG hG1 _ (WY hok.2 hmem)).2
    have hgl : ks.length - 1 < ks.length := by omega
    have hge : ks.getD (ks.length - 1) (.mk 0 0 0 []) = ks[ks.length - 1] := by rw [List.getD_eq_getElem?_getD, List.getElem?_eq_getElem hgl]; rfl
    have hlist : ∀ b, PE Tryz.prog G 84 (fun p g => [Q5 (ks.take (ks.length - 1)), .fn (.func 47) [.ptr p g 0] []]) o b (W1 (Zp ((ks.take (ks.length - 1)).map typT))) (b || !(ks.take (ks.length - 1)).all typOk) := fun b =>
     list_c _ typT typOk _ b (fun x hx b => typed_c hG x (WY hok.2 (List.mem_of_mem_take hx)) (by have := Wz (List.mem_of_mem_take hx); omega) b) (by simp; omega) (by have := qt typT (M := 30) ks (ks.length - 1) fun x hx => typT_len x (WY hok.2 hx); have := WR ks (ks.length - 1); omega)
    have hcl := qt typT (M := 30) ks (ks.length - 1) fun x hx => typT_len x (WY hok.2 hx)
    rw [hge] at hbb hsl ⊢
    have hq : ((ks.length : Int) - 1).toNat = ks.length - 1 := by omega
    have hgl2 : ((ks.length : Int) - 1).toNat < ks.length := by omega
    have hlist2 : ∀ b, PE Tryz.prog G 84 (fun p g => [Q5 (ks.take ((ks.length : Int) - 1).toNat), .fn (.func 47) [.ptr p g 0] []]) o b (W1 (Zp ((ks.take (ks.length - 1)).map typT))) (b || !(ks.take (ks.length - 1)).all typOk) := by rw [hq]; exact hlist
    have hgq : ks[((ks.length : Int) - 1).toNat] = ks[ks.length - 1] := by congr 1
    have hbb2 : BlC G ks[((ks.length : Int) - 1).toNat] := by rw [hgq]; exact hbb
    have hsl2 : QC (ks.take (ks.length - 1)) + Qs ks[((ks.length : Int) - 1).toNat] = QC ks := by rw [hgq]; exact hsl
    have hsn := QX ks[((ks.length : Int) - 1).toNat]
    refine Qa Tryz.func45 rfl Tryz.ntmps45 rfl (t := [(0, .ptr 0 g0 0), (1, .agg [.i _, .i n, .i m, Q5 ks])]) rfl fun E hE => ?_
    (repeat' first | (refine Qi ?_; (first | refine QM rfl ?_ | refine QR rfl ?_ | (refine QO ?_; (first | refine W2 rfl rfl ?_ | refine Q4 rfl ?_ | refine Qc rfl rfl rfl ?_)) | refine s_idx_sl rfl rfl (by omega) (by first | assumption | omega | (simp; done) | (simp; omega)) ?_ | (refine Qj ?_; (first | refine ZV rfl rfl ?_ | refine QY rfl rfl ?_ | refine Wt rfl rfl (by omega) ?_)) | (refine Qu ?_; (first | refine Q2 rfl ?_ | refine Zc 0 1 (Zm _) rfl rfl rfl rfl rfl rfl ?_ | refine Zc 0 1 (hpl _) rfl rfl rfl rfl rfl rfl ?_ | refine Zc 0 1 (Zw hG _ (by assumption)) rfl rfl rfl rfl rfl rfl ?_ | refine Zc 0 1 (hlist2 _) rfl rfl rfl rfl rfl rfl ?_ | refine s_pm 0 1 (line_c 0 _ (by omega) (by first | assumption | (simp only [List.length_append, Wc, List.length_cons, List.length_nil]; omega))) rfl rfl rfl rfl rfl rfl (fun _ => rfl) (fun _ _ => ?_) | refine s_pm 0 1 (hbb2 0 _ _ _ (by decide) (by omega) (by first | assumption | omega | (simp only [List.length_append, Wc, List.length_cons, List.length_nil]; omega))) rfl rfl rfl rfl rfl rfl (fun _ => rfl) (fun _ _ => ?_))) | (refine Wh ?_; (first | refine W6 rfl rfl ?_ | refine WK rfl rfl ?_)) | (refine g_unOp ?_; (first | refine s_not_d rfl ?_ | refine Zq rfl ?_)) | refine Qd rfl rfl ?_ | refine Wi rfl rfl (fun _ _ => ?_))) | (refine Qn ?_; (first | refine Ql ?_ | refine QN rfl ?_ | refine WJ rfl rfl rfl rfl ?_ | refine QZ rfl rfl (by omega) ?_)) | (refine Qm ?_; (first | refine Qo ?_ | refine Qb ?_ | (refine WO ?_; first | (refine Qz (pfx3 _ _) 100 [(0, true), (1, true), (2, true), (3, true), (7, true), (8, true), (9, true), (10, true), (11, true), (12, true), (4, false), (5, true), (6, true), (13, false), (14, true), (15, true), (16, false)] (by rfl) (by rfl) (by kernel_rfl) (by decide +kernel) (by decide +kernel) ⟨(_, _, _, _), rfl⟩ ?_) | refine Wn (by rfl) (by kernel_rfl) (by kernel_rfl) ?_ | refine Wm (by kernel_rfl) (by kernel_rfl) ?_) | refine QB ?_ | refine Qy rfl ?_)) | (refine W9 ?_; (first | refine ZO ?_ | refine i_st rfl rfl (fun _ => (by (repeat' first | (refine Qi ?_; (first | refine QM rfl ?_ | refine Qc rfl rfl rfl ?_ | refine s_ad rfl rfl ?_ | refine Qd rfl rfl ?_ | refine s_slice_h rfl rfl (by omega) (by omega) ?_ | refine QQ rfl rfl ?_)) | exact ⟨rfl, rfl⟩))) ?_ | refine i_ef rfl ?_)) | refine And.intro (Exists.intro ((_, _, _, _)) rfl) ?_)
    exact e_0 (Tryz.results45) (c_pm rfl (by rw [hgq]; simp [hm, hp]) (by rw [hgq]; simp [hm, hp, Bool.or_assoc]) (by omega))
   ·have hm : QU m ks.length (-1) = false := by rw [<- Bool.not_eq_true]; exact hm
    have hpl : ∀ b, PE Tryz.prog G 42 (fun p g => [.ptr p g 0, .agg [.i 26, .i n, .i m, Q5 ks], .i (-1)]) o b (.b false) true := fun b => (Zr 26 n m ks (-1) hl).conv (by rw [hm]) (by rw [hm]; simp)
    refine Qa Tryz.func45 rfl Tryz.ntmps45 rfl (t := [(0, .ptr 0 g0 0), (1, .agg [.i _, .i n, .i m, Q5 ks])]) rfl fun E hE => ?_
    (repeat' first | (refine Qi ?_; (first | refine QM rfl ?_ | (refine QO ?_; (first | refine W2 rfl rfl ?_ | refine Qc rfl rfl rfl ?_)) | (refine Qj ?_; (first | refine ZV rfl rfl ?_ | refine QY rfl rfl ?_)) | (refine Qu ?_; (first | refine Q2 rfl ?_ | refine Zc 0 1 (Zm _) rfl rfl rfl rfl rfl rfl ?_ | refine Zc 0 1 (hpl _) rfl rfl rfl rfl rfl rfl ?_)) | (refine Wh ?_; (first | refine W6 rfl rfl ?_ | refine WK rfl rfl ?_)) | (refine g_unOp ?_; (first | refine s_not_d rfl ?_ | refine Zq rfl ?_)) | refine Qd rfl rfl ?_ | refine Wi rfl rfl (fun _ _ => ?_))) | (refine Qn ?_; (first | refine Ql ?_ | refine QN rfl ?_ | refine WJ rfl rfl rfl rfl ?_ | refine QZ rfl rfl (by omega) ?_)) | (refine Qm ?_; (first | refine Qo ?_ | refine Qb ?_ | refine Qv rfl ?_ | refine Qx ?_)))
    exact e_0 (Tryz.results45) (c_pm rfl (by simp [hm, hp]) (by simp [hm, hp]) (by omega))
  ·have hpz : ¬ (0 : Int) < (ks.length : Int) := by omega
   refine Qa Tryz.func45 rfl Tryz.ntmps45 rfl (t := [(0, .ptr 0 g0 0), (1, .agg [.i _, .i n, .i m, Q5 ks])]) rfl fun E hE => ?_
   (repeat' first | (refine Qi ?_; (first | refine QM rfl ?_ | refine Qc rfl rfl rfl ?_ | (refine Qj ?_; (first | refine ZV rfl rfl ?_ | refine QY rfl rfl ?_)) | (refine Qu ?_; (first | refine Q2 rfl ?_ | refine Zc 0 1 (Zm _) rfl rfl rfl rfl rfl rfl ?_)) | refine W6 rfl rfl ?_ | refine s_not_d rfl ?_ | refine Qd rfl rfl ?_ | refine Wi rfl rfl (fun _ _ => ?_))) | (refine Qn ?_; (first | refine Ql ?_ | refine QN rfl ?_ | refine WJ rfl rfl rfl rfl ?_ | refine Zd rfl rfl rfl rfl ?_ | refine Wg rfl rfl (by omega) ?_)) | (refine Qm ?_; (first | refine Qo ?_ | refine Qb ?_ | refine Qv rfl ?_ | refine Qx ?_)))
   exact e_0 (Tryz.results45) (c_pm rfl (by simp [hp]) (by simp [hp]) (by omega))
 ·refine Qa Tryz.func45 rfl Tryz.ntmps45 rfl (t := [(0, .ptr 0 g0 0), (1, .agg [.i k, .i n, .i m, Q5 ks])]) rfl fun E hE => ?_
  (repeat' first | (refine Qi ?_; (first | refine QM rfl ?_ | refine Qc rfl rfl rfl ?_ | refine QY rfl rfl ?_ | refine Zc 0 1 (Zm _) rfl rfl rfl rfl rfl rfl ?_ | (refine Wh ?_; (first | refine W6 rfl rfl ?_ | refine WK rfl rfl ?_)) | refine Zq rfl ?_ | refine Qd rfl rfl ?_ | refine Wi rfl rfl (fun _ _ => ?_))) | (refine Qn ?_; (first | refine Ql ?_ | refine QN rfl ?_ | refine Zd rfl rfl rfl rfl ?_ | refine QZ rfl rfl (by omega) ?_)) | (refine Qm ?_; (first | refine Qo ?_ | refine Qb ?_ | refine Qv rfl ?_ | refine Qx ?_)))
  exact e_0 (Tryz.results45) (c_pm rfl (by simp [hk]) (by simp [hk]) (by omega))
end Go.Proofs
end
section
namespace Go.Av
open Go.Bl Go.Proofs
section
variable {P : Program} {G : Nat -> DV} {B : Nat} {f : Operand -> DV} {σ : List ABlk} {K : DV -> List ABlk -> Prop} {dst : Option Tmp} {type : TypeId} {pos : String} {after : Array Edge} {gd : Option (Nat × Bool)}
theorem s_box_bld {x : Operand} (hx : f x = .agg [.sc (.pointer none), .sc (.slice none 0 0), .sc (.bool false)]) (k : ∀ g g1, B < g -> B < g1 -> K (.ptr σ.length g 0) (σ ++ [pRow σ.length (σ.length + 1) g g1 ([] : List UInt8).length false, .row g1 (Wq ([] : List UInt8))])) : OpSem P G B ⟨dst, .box 77 x, type, pos, after, gd⟩ f σ K := fun X ρ hS hσ hB _ hf => by
 subst hσ
 have e1 := hf x (by simp [Op.operands, Call.operands]); rw [hx] at e1
 obtain ⟨h1, h2, h3⟩ := dcells_spec (ds := [.sc (.pointer none), .sc (.slice none 0 0), .sc (.bool false)]) rfl e1
 simp only [execOp, Instr.box, newVar, newRow, run_newObj, Sem.run_bind, Sem.run_pure, Result.andThen_ok, World.alloc_eq]
 generalize ρ x = u at *
 have hk := Keep.alloc X.w (.cells u.cells 77)
 have hnew := heap_alloc_new X.w (.cells u.cells 77)
 have hob : ∀ b' n, some (X.w.heap.size, u.cells.size) = some (b', n) -> X.w.heap.size <= b' := fun b' n h => by cases h; exact Nat.le_refl _
 let R0 : ABlk := .row (X.N + 1) [.sc (.pointer none), .sc (.slice none 0 0), .sc (.bool false)]
 have hh : R0.holds X.lay (X.w.alloc (.cells u.cells 77)) (some (X.w.heap.size, u.cells.size)) := ⟨u.cells, 77, (0, 0), hnew, rfl, by rw [h1]; exact Nat.le_refl _, fun j _ h => by simp at h, h3⟩
 have hS' := hS.push hk (B := R0) rfl hob hh
 have hE' := WExt.push hS hk (B := R0) rfl hob
 have hσ1 : (X.push (X.w.alloc (.cells u.cells 77)) (some (X.w.heap.size, u.cells.size)) R0).σ = X.σ ++ [R0] := rfl
 have hρ1 : (X.push (X.w.alloc (.cells u.cells 77)) (some (X.w.heap.size, u.cells.size)) R0).ρ X.σ.length = some (X.w.heap.size, u.cells.size) := by simp [AX.push]
 have hw1 : (X.push (X.w.alloc (.cells u.cells 77)) (some (X.w.heap.size, u.cells.size)) R0).w = X.w.alloc (.cells u.cells 77) := rfl
 have hN1 : (X.push (X.w.alloc (.cells u.cells 77)) (some (X.w.heap.size, u.cells.size)) R0).N = X.N + 1 := rfl
 generalize X.push (X.w.alloc (.cells u.cells 77)) (some (X.w.heap.size, u.cells.size)) R0 = Y at *
 -- the buffer, which lies nowhere yet
 let R1 : ABlk := .row (Y.N + 1) []
 have hob1 : ∀ b' n, (none : Option (Nat × Nat)) = some (b', n) -> Y.w.heap.size <= b' := fun b' n h => by cases h
 have hS1 := hS'.push (Keep.refl Y.w) (B := R1) rfl hob1 rfl
 have hE1 := WExt.push hS' (Keep.refl Y.w) (B := R1) rfl hob1
 have hlen1 : Y.σ.length = X.σ.length + 1 := by rw [hσ1]; simp
 have hσ2 : (Y.push Y.w none R1).σ = X.σ ++ [R0, .row (X.N + 2) []] := by show Y.σ ++ [ABlk.row (Y.N + 1) []] = _; rw [hσ1, hN1]; simp
 have hρ2 : (Y.push Y.w none R1).ρ X.σ.length = some (X.w.heap.size, u.cells.size) := by simp only [AX.push]; rw [if_neg (by omega)]; exact hρ1
 have hρ3 : (Y.push Y.w none R1).ρ (X.σ.length + 1) = none := by simp only [AX.push]; rw [if_pos hlen1.symm]
 have hw2 : (Y.push Y.w none R1).w = X.w.alloc (.cells u.cells 77) := hw1
 have hN2 : (Y.push Y.w none R1).N = X.N + 2 := by show Y.N + 1 = _; omega
 generalize hZ : Y.push Y.w none R1 = Z at *
 have hk0 : Z.σ[X.σ.length]? = some R0 := by rw [hσ2]; simp
 have hk1 : Z.σ[X.σ.length + 1]? = some (.row (X.N + 2) []) := by rw [hσ2]; simp
 let R2 : ABlk := pRow X.σ.length (X.σ.length + 1) (X.N + 1) (X.N + 2) 0 false
 have hok : ReplOk Z X.σ.length (X.N + 1) Z.w (Z.ρ X.σ.length) R2 Z.N := {
  live := WM hk0, os := rfl, tape := rfl, output := rfl, size := Nat.le_refl _, block := fun _ _ _ => rfl
  gen := .inr ⟨rfl, Nat.le_refl _, rfl⟩
  lies := fun b n h => .inr ⟨n, h⟩
  shp := fun _ _ h => h }
 have hE2 := WExt.repl hS1 hok
 have hlive : (Z.repl X.σ.length Z.w (Z.ρ X.σ.length) R2 Z.N).live X.σ.length (X.N + 1) := (AX.repl_live (AX.live_lt (WM hk0))).2 (.inr ⟨rfl, rfl⟩)
 have hlive1 : (Z.repl X.σ.length Z.w (Z.ρ X.σ.length) R2 Z.N).live (X.σ.length + 1) (X.N + 2) := (AX.repl_live (AX.live_lt (WM hk0))).2 (.inl ⟨by omega, WM hk1⟩)
 have hc : ∀ j e, [DV.sc (.pointer none), .sc (.slice none 0 0), .sc (.bool false)][j]? = some e -> u.cells.getD j undef = (match e with | .sc v => v | _ => undef) := fun j e hj => by
  have := (h3 j e hj).2
  match j, hj with
  | 0, hj => cases hj; exact VRep.sc_eq this
  | 1, hj => cases hj; exact VRep.sc_eq this
  | 2, hj => cases hj; exact VRep.sc_eq this
 have c0 := hc 0 _ rfl
 have c1 := hc 1 _ rfl
 have c2 := hc 2 _ rfl
 have key : ∀ (ob0 : Option (Nat × Nat)) (w0 : World), ob0 = some (X.w.heap.size, u.cells.size) -> w0 = X.w.alloc (.cells u.cells 77) -> R2.holds (Z.repl X.σ.length Z.w (Z.ρ X.σ.length) R2 Z.N).lay w0 ob0 := fun ob0 w0 e0 ew => by
  subst e0; subst ew
  refine ⟨u.cells, 77, (0, 0), hnew, rfl, by rw [h1]; exact Nat.le_refl _, fun j _ h => by simp at h, fun j e hj => ?_⟩
  match j, hj with
  | 0, hj =>
   cases hj
   refine ⟨rfl, ?_⟩
   rw [c0]
   refine .bld _ _ _ _ (by show X.N + 1 <= Z.N; omega) fun ob hob => ?_
   rw [AX.row_mk hlive] at hob
   simp only [AX.repl, if_true, hρ2, Option.some.injEq] at hob
   refine ⟨X.w.heap.size, u.cells.size, hob.symm, ?_, .inl rfl⟩
   show World.shape? _ _ = _
   simp only [AX.repl, hw2, World.shape?, hnew]
   rw [h1]; rfl
  | 1, hj =>
   cases hj
   refine ⟨rfl, ?_⟩
   rw [c1]
   refine .bref _ _ _ _ _ _ _ (by show X.N + 2 <= Z.N; omega) fun ob hob => ?_
   rw [AX.row_mk hlive1] at hob
   simp only [AX.repl, if_neg (show ¬ X.σ.length + 1 = X.σ.length by omega), hρ3, Option.some.injEq] at hob
   subst hob
   exact ⟨⟨rfl, rfl, rfl⟩, fun b n h => by cases h⟩
  | 2, hj => cases hj; exact ⟨rfl, by rw [c2]; exact .sc _⟩
 have hS2 := Sto.repl' hS1 hok (key _ _ hρ2 hw2)
 have hk2 := k (X.N + 1) (X.N + 2) (by omega) (by omega)
 refine ⟨_, ?_, hS2, (hE'.trans hE1).trans hE2, .ptr X.σ.length (X.N + 1) 0, ?_, ?_⟩
 ·exact hw2
 ·refine .ptr _ _ _ _ (by show X.N + 1 <= Z.N; omega) fun ob hob => ?_
  rw [AX.row_mk hlive] at hob
  simp only [AX.repl, if_true, hρ2, Option.some.injEq] at hob
  exact ⟨_, _, hob.symm, rfl⟩
 ·have : (Z.repl X.σ.length Z.w (Z.ρ X.σ.length) R2 Z.N).σ = X.σ ++ [R2, .row (X.N + 2) []] := by
   simp only [AX.repl, hσ2]
   rw [List.set_append_right _ _ (Nat.le_refl _)]
   simp
  rw [this]; exact hk2
end
theorem freeze_other {b n : Nat} (w : World) {b' : Nat} (o : Nat) (h : b' ≠ b) : (w.drew.freeze ⟨b, n, none⟩ o).heap[b']? = w.heap[b']? := by
 unfold World.freeze
 split
 ·rfl
 ·show (w.heap.modify b _)[b']? = _
  rw [Array.getElem?_modify, if_neg (fun e => h e.symm)]
theorem freeze_size (w : World) (a : Addr) (o : Nat) : (w.drew.freeze a o).heap.size = w.heap.size := by
 unfold World.freeze; split
 ·rfl
 ·show (w.heap.modify _ _).size = _; simp
theorem freeze_os (w : World) (a : Addr) (o : Nat) : (w.drew.freeze a o).os = w.os := by unfold World.freeze; split <;> rfl
theorem freeze_tape (w : World) (a : Addr) (o : Nat) : (w.drew.freeze a o).tape = w.tape := by unfold World.freeze; split <;> rfl
theorem freeze_output (w : World) (a : Addr) (o : Nat) : (w.drew.freeze a o).output = w.output := by unfold World.freeze; split <;> rfl
theorem freeze_shape (w : World) (a : Addr) (o b' : Nat) : (w.drew.freeze a o).shape? b' = w.shape? b' := by
 unfold World.freeze
 split
 ·rfl
 ·have key : ∀ x : Option Obj, (match x.map (fun | .cells c elem (lo, hi) => Obj.cells c elem (if lo == hi then (a.off, a.off + o) else (min lo a.off, max hi (a.off + o))) | x => x) with | some (.cells c elem _) => some (elem, c.size) | _ => none) = (match x with | some (.cells c elem _) => some (elem, c.size) | _ => none) := fun x => by
   cases x with
   | none => rfl
   | some o => cases o <;> rfl
  by_cases h : a.block = b'
  ·subst h
   have := key w.heap[a.block]?
   unfold World.shape?
   show (match (w.heap.modify a.block _)[a.block]? with | some (.cells c elem _) => some (elem, c.size) | _ => none) = _
   rw [Array.getElem?_modify, if_pos rfl]
   exact this
  ·unfold World.shape?
   show (match (w.heap.modify a.block _)[b']? with | some (.cells c elem _) => some (elem, c.size) | _ => none) = _
   rw [Array.getElem?_modify, if_neg h]
   rfl
theorem string_c {G : Nat -> DV} {B k0 k1 g0 g1 : Nat} {σ σ' : List ABlk} {o : List UInt8} {bad : Bool} (h0 : σ[k0]? = some (pRow k0 k1 g0 g1 o.length bad)) (h1 : σ[k1]? = some (.row g1 (Wq o))) (ho : o ≠ []) (hl : o.length <= 9223372036854775807) (hσ' : setA σ k1 .gone = some σ') :
  ACalls Tryz.prog G B 50 [.ptr k0 g0 0] σ (fun d τ => d = W1 o /\ τ = σ') := fun X vs hS hσ hB hG hv => by
 subst hσ
 obtain ⟨hv1, hv2⟩ := hv
 have e1 := hv2 0 _ rfl
 obtain ⟨b, n, hρ, e2⟩ := e1.ptr_inv h0
 have hvs : vs = #[.pointer (some ⟨b, 0, none⟩)] := by
  apply Array.ext
  ·simpa using hv1
  ·intro j hj1 hj2
   have hj : j < 1 := by simpa using hj2
   match j, hj with
   | 0, _ => simpa [Array.getD_eq_getD_getElem?, hj1] using e2
 subst hvs
 obtain ⟨arr, T, fr, q1, q2, q3, q4, q5⟩ := hS.row h0 hρ
 have q30 : 3 <= n := q3
 have hr := (q5 1 _ rfl).2
 have hopos : 0 < o.length := List.length_pos_iff.2 ho
 have hel : (Wq o : List DV).length = o.length := by rw [We]; exact Nat.mul_one _
 obtain ⟨a, l, c, hval⟩ : ∃ a l c, arr.getD 1 undef = .slice a l c := by
  generalize arr.getD 1 undef = u at hr
  cases hr with | bref _ _ _ _ a l c _ _ => exact ⟨a, l, c, rfl⟩
 rw [hval] at hr
 have hinv : RefOk (X.ρ k1) 0 o.length 1 (.slice a l c) /\ ∀ b n, X.ρ k1 = some (b, n) -> ∃ m, X.lay.shp b = some (5, m) := by
  cases hr with | bref _ _ _ _ _ _ _ g1 g2 => exact g2 _ (AX.row_mk (WM h1))
 obtain ⟨hro, hshp⟩ := hinv
 unfold RefOk at hro
 cases hρ1 : X.ρ k1 with
 | none => rw [hρ1] at hro; obtain ⟨_, _, hz⟩ := hro; omega
 | some z =>
  obtain ⟨b1, n1⟩ := z
  rw [hρ1] at hro
  obtain ⟨a', cap, hsl, hlc, hcase⟩ := hro
  cases hsl
  rcases hcase with hcase | ⟨rfl, hcap⟩
  ·omega
  obtain ⟨m, hm⟩ := hshp b1 n1 hρ1
  obtain ⟨arr1, T1, fr1, r1, r2, r3, r4, r5⟩ := hS.row h1 hρ1
  have hm' : X.w.shape? b1 = some (5, m) := hm
  have hT1 : T1 = 5 /\ arr1.size = m := by simp only [World.shape?, r1, Option.some.injEq, Prod.mk.injEq] at hm'; exact hm'
  obtain ⟨rfl, hsz⟩ := hT1
  have hc1 : X.w.cell? ⟨b, 1, none⟩ = some (.slice (some ⟨b1, 0, none⟩) o.length c) := by
   have : 1 < arr.size := by omega
   simp only [World.cell?, q1]
   rw [<- hval]; simp [Array.getD_eq_getD_getElem?, this]
  rw [hel] at r3
  refine (string_row b b1 c o arr1 X.w ho hc1 (by simp only [World.shape?, r1]) hlc hl (by omega) (fun j x hj => ?_)).mono ?_
  ·have hjl := (List.getElem?_eq_some_iff.1 hj).1
   have hen : (Wq o : List DV)[j]? = some (.u x) := by
    have := encs_at o j hjl 0 (by decide)
    have hes : Enc.es UInt8 = 1 := rfl
    have hx : o[j] = x := (List.getElem?_eq_some_iff.1 hj).2
    rw [hes, Nat.mul_one, Nat.add_zero, hx] at this
    exact this
   have hrep := VRep.sc_eq (r5 j _ hen).2
   have : j < arr1.size := by omega
   simp only [World.cell?, r1]
   rw [<- hrep]; simp [Array.getD_eq_getD_getElem?, this]
  ·rintro e w' ⟨rfl, rfl⟩
   have hmut : X.mut b1 := ⟨k1, g1, n1, WM h1, hρ1⟩
   have hoth : ∀ b', b' ≠ b1 -> (X.w.drew.freeze ⟨b1, 0, none⟩ o.length).heap[b']? = X.w.heap[b']? := fun b' hb' => freeze_other _ _ hb'
   have hset := qM hσ'
   have hlive : ∀ k g, (X.σ.set k1 .gone)[k]?.bind ABlk.gen? = some g -> k ≠ k1 /\ X.live k g := fun k g hg => by
    rw [List.getElem?_set] at hg
    split at hg
    ·split at hg <;> simp [ABlk.gen?] at hg
    ·rename_i hne; exact ⟨fun e => hne e.symm, hg⟩
   let X' : AX := { X with w := X.w.drew.freeze ⟨b1, 0, none⟩ o.length, σ := X.σ.set k1 .gone }
   have hE : WExt X X' := {
    hid := rfl, top := Nat.le_refl _, os := freeze_os _ _ _, tape := freeze_tape _ _ _, output := freeze_output _ _ _, size := Nat.le_of_eq (freeze_size _ _ _).symm
    old := fun b' _ hm' => ⟨hoth b' fun e => hm' (e ▸ hmut), fun ⟨k, g, n, hl', hr'⟩ => hm' ⟨k, g, n, (hlive k g hl').2, hr'⟩⟩
    rows := fun k g _ hl' => ⟨(hlive k g hl').2, rfl⟩
    shp := fun b' s hs => by rw [freeze_shape]; exact hs }
   have hS' : Sto X' := {
    inj := fun k k' g g' b n n' hl hl' hr hr' => hS.inj k k' g g' b n n' (hlive k g hl).2 (hlive k' g' hl').2 hr hr'
    gen := fun k g hl => hS.gen k g (hlive k g hl).2
    hid := fun b ⟨k, g, n, hl, hr⟩ hh => hS.hid b ⟨k, g, n, (hlive k g hl).2, hr⟩ hh
    hidlt := fun b hb => Nat.lt_of_lt_of_le (hS.hidlt b hb) (Nat.le_of_eq (freeze_size _ _ _).symm)
    holds := fun k B hB => by
     have hB' : (X.σ.set k1 .gone)[k]? = some B := hB
     cases hg : B.gen? with
     | none => cases B <;> first | trivial | cases hg
     | some g =>
      obtain ⟨hne, hl⟩ := hlive k g (by rw [hB']; exact hg)
      have hBX : X.σ[k]? = some B := by rw [List.getElem?_set_ne (fun e => hne e.symm)] at hB'; exact hB'
      exact (hS.holds k B hBX).mono hE.le fun b' n' hb' => hoth b' fun e => hne (hS.inj k k1 g g1 b' n' n1 hl (WM h1) hb' (by rw [e]; exact hρ1)) }
   exact ⟨_, rfl, X', rfl, hS', hE, _, .sc _, rfl, hset.symm⟩
abbrev pfx4 (b : ABlk) (g0 : Nat) (p : DV × DV × DV × ABlk) : List ABlk := b :: .row g0 [p.1, p.2.1, p.2.2.1] :: p.2.2.2 :: []
theorem s_call_str {G : Nat -> DV} {B : Nat} {f : Operand -> DV} {σ σ' : List ABlk} {K : DV -> List ABlk -> Prop} {dst : Option Tmp} {type : TypeId} {pos : String} {after : Array Edge} {gd : Option (Nat × Bool)} {args : Array Operand} {ts : Array TypeId} {k0 k1 g0 g1 : Nat} {o : List UInt8} {bad : Bool} (hx : f (.func 50) = .fn (.func 50) [] []) (hds : reL (args.toList.map f) = some [.ptr k0 g0 0]) (h0 : σ[k0]? = some (pRow k0 k1 g0 g1 o.length bad)) (h1 : σ[k1]? = some (.row g1 (Wq o))) (ho : o ≠ []) (hl : o.length <= 9223372036854775807) (hσ' : setA σ k1 .gone = some σ') (kk : K (W1 o) σ') :
  OpSem Tryz.prog G B ⟨dst, .call ⟨.value (.func 50), args, ts⟩, type, pos, after, gd⟩ f σ K := s_call hx hds ((string_c h0 h1 ho hl hσ').mono fun _ _ ⟨e1, e2⟩ => by rw [e1, e2]; exact kk)
end Go.Av
end
section
namespace Go.Proofs
open Go.Av
variable {G : Nat -> DV}
attribute [local irreducible] OpSem Zs ZH qa ACalls qP AClose RV
open Go.Bl
theorem itoa_ne (n : Int) : Lib.itoa n ≠ [] := by
 intro h
 have h2 := congrArg List.length h
 unfold Lib.itoa at h2
 split at h2
 ·simp at h2
 ·rw [Lib.decDigits_length] at h2
  have := Lib.nDigits_pos n.toNat
  simp at h2; omega
theorem typT_ne (t : Nd) (h : typOk t = true) : typT t ≠ [] := by
 obtain ⟨k, n, m, ks⟩ := t
 rw [typOk] at h
 rw [typT]
 split at h
 ·rename_i hk
  rcases hk with hk | hk <;> simp [hk]
 split at h
 ·rename_i h1 hk; simp [hk]
 split at h
 ·rename_i h1 h2 hk; simp [hk]
 ·cases h
theorem exT_ne (t : Nd) (h : qg t = true) : exT t ≠ [] := by
 obtain ⟨k, n, m, ks⟩ := t
 rw [qg] at h
 rw [exT]
 split at h
 ·rename_i hk; rw [if_pos hk]; exact itoa_ne n
 split at h
 ·rename_i h1 hk; simp [hk]; split <;> simp
 split at h
 ·rename_i h1 h2 hk; simp [hk]
 split at h
 ·rename_i h1 h2 h3 hk; simp [hk]
 split at h
 ·rename_i h1 h2 h3 h4 hk; simp [hk]
 split at h
 ·rename_i h1 h2 h3 h4 h5 hk
  rw [if_neg h1, if_neg h2, if_neg h3, if_neg h4, if_neg h5, if_pos hk, if_pos (by simp at h; simp [h])]
  simp
 split at h
 ·rename_i h1 h2 h3 h4 h5 h6 hk; simp [hk]
 split at h
 ·rename_i h1 h2 h3 h4 h5 h6 h7 hk; simp [hk]
 split at h
 ·rename_i h1 h2 h3 h4 h5 h6 h7 h8 hk; simp [hk]
 ·cases h
theorem line_ne (i : Nat) (s r : List UInt8) : ZZ i s ++ r ≠ [] := by simp [ZZ]
theorem stT_ne (t : Nd) (i : Nat) : stT t i ≠ [] := by
 obtain ⟨k, n, m, ks⟩ := t
 rw [stT]
 repeat' split
 all_goals simp [ZZ]
theorem prT_ne (t : Nd) (h : prOk t = true) : prT t ≠ [] := by
 obtain ⟨k, n, m, ks⟩ := t
 rw [prOk] at h
 rw [prT]
 split
 ·exact line_ne _ _ _
 split
 ·rename_i h1 hk
  rw [if_neg h1, if_pos hk] at h
  rw [qN] at h
  rw [funT, if_pos (by simp at h; simp [h])]
  exact line_ne _ _ _
 split
 ·rename_i h1 h2 hk
  rw [if_neg h1, if_neg h2, if_pos hk] at h
  exact typT_ne _ h
 split
 ·rename_i h1 h2 h3 hk
  rw [if_neg h1, if_neg h2, if_neg h3, if_pos hk] at h
  exact exT_ne _ h
 ·exact stT_ne _ _
theorem okL_take {ks : List Nd} (h : okL ks) : ∀ j, okL (ks.take j) := fun j => by
 induction ks generalizing j with
 | nil => simpa using h
 | cons x r ih =>
  rw [okL] at h
  cases j with
  | zero => rw [List.take_zero, okL]; trivial
  | succ j => rw [List.take_succ_cons, okL]; exact ⟨h.1, ih h.2 j⟩
theorem print_c (hG : G 6 = pow10T) (hG1 : G 1 = spaceT) (t : Nd) (hok : okN t) (hsz : Qs t <= 1000000) : Go.Av.Pure Tryz.prog G 18 [.agg (Enc.enc t)] (W1 (WW t)) := fun B => by
 have htyp := fun (o : List UInt8) (b : Bool) => typed_c (G := G) (o := o) hG t hok hsz b
 have hex := fun (o : List UInt8) (b : Bool) => expr_c (G := G) (o := o) hG hG1 t hok hsz b
 have hstm := (stmts_c (G := G) hG hG1 t hok).1
 have hfun := fun (o : List UInt8) (b : Bool) (h : o.length + 7000000 * Qs t <= 140737470000000) => fun_c (G := G) (o := o) (bad := b) hG hG1 t hok hsz h
 have hpne := prT_ne t
 obtain ⟨k, n, m, ks⟩ := t
 unfold WW
 have hse : Qs (.mk k n m ks) = 1 + QC ks := by rw [Qs]
 have hok2 := hok
 rw [okN] at hok2
 have hl1 := Zn ks
 have hl : ks.length <= 1048576 := by omega
 have hn : -9223372036854775808 <= n /\ n <= 9223372036854775807 := hok2.1.2.1
 have hnl := Zy hok2.1.2.1
 rw [prOk, prT] at *
 rw [QI] at htyp hex hfun ⊢
 by_cases k27 : k = 27
 ·subst k27
  have hfs : ∀ x ∈ ks, ∀ (o : List UInt8) (b : Bool), o.length + 7000000 * Qs x <= 140737470000000 -> PM Tryz.prog G 45 (fun p g => [.ptr p g 0, .agg (Enc.enc x)]) o b (.tup []) (o ++ funT x) (b || !qN x) := fun x hx o b h => fun_c (G := G) (o := o) (bad := b) hG hG1 x (WY hok2.2 hx) (by have := Wz hx; omega) h
  have hfl := funs_len ks hok2.2 (by omega)
  clear htyp hex hstm hfun
  refine Qa Tryz.func18 rfl Tryz.ntmps18 rfl (t := [(0, .agg [.i _, .i n, .i m, Q5 ks])]) rfl fun E hE => ?_
  (repeat' first | (refine Qi ?_; (first | refine QM rfl ?_ | refine QR rfl ?_ | (refine QO ?_; (first | refine W2 rfl rfl ?_ | refine Qc rfl rfl rfl ?_)) | (refine Qj ?_; (first | refine QY rfl rfl ?_ | refine s_ad rfl rfl ?_)) | (refine Qu ?_; (first | refine Zc 1 2 (Zr _ _ _ _ _ (by assumption)) rfl rfl rfl rfl rfl rfl ?_ | refine Zc 1 2 (Zw hG _ (by assumption)) rfl rfl rfl rfl rfl rfl ?_ | refine s_pm 1 2 (line_c 0 _ (by omega) (by first | assumption | omega | (simp only [List.length_append, Wc, List.length_cons, List.length_nil]; omega))) rfl rfl rfl rfl rfl rfl (fun _ => rfl) (fun _ _ => ?_) | refine Q2 rfl ?_)) | (refine g_box ?_; (first | refine s_box_bld rfl (fun _ _ _ _ => ?_) | refine Wi rfl rfl (fun _ _ => ?_))) | refine Qd rfl rfl ?_ | refine Qp rfl rfl ?_)) | (refine Qn ?_; (first | refine Ql ?_ | refine QN rfl ?_)) | (refine Qm ?_; (first | refine Qo ?_ | refine Qb ?_ | refine Qe ?_ | refine Qv rfl ?_)))
  rename_i gn hgn gp gb hgp hgb gb2 hgb2
  generalize hhd : [] ++ ZZ 0 ([112, 114, 111, 103, 114, 97, 109, 32] ++ Lib.itoa n) = hd at *
  have hhl : hd.length <= 1000 := by rw [<- hhd]; simp only [List.length_append, List.length_nil, List.length_cons, Wc]; omega
  have hhd2 : ZZ 0 ([112, 114, 111, 103, 114, 97, 109, 32] ++ Lib.itoa n) = hd := by rw [<- hhd]; simp
  generalize hb0 : (false || !QU m ks.length (-1) || !Zf n) = b0 at *
  refine r_loop2 (fun (j : Nat) (g : Nat) => ⟨[(1, .ptr 0 gn 0), (2, W1 []), (3, .ptr 1 gp 0), (26, Q5 ks), (27, .i ks.length), (28, .i j)], [.row gn [.i 27, .i n, .i m, Q5 ks], pRow 1 2 gp g (hd ++ ((ks.take j).map funT).flatten).length (b0 || !(ks.take j).all qN), .row g (Wq (hd ++ ((ks.take j).map funT).flatten))]⟩) (fun j g => j <= ks.length /\ (g = gb2 \/ E.N < g)) (fun j _ => ks.length - j) 0 gb2 ?_ (by omega) ?_
  ·rw [show (b0 || !(ks.take 0).all qN) = b0 by simp, show hd ++ ((ks.take 0).map funT).flatten = hd by simp]
   exact zal rfl
  intro j g hj
  have hsl := WR ks j
  have hfl2 := funs_len (ks.take j) (okL_take hok2.2 j) (by omega)
  by_cases hjl : j < ks.length
  ·have hsm := Wz (List.getElem_mem hjl)
   have hst1 := qx ks j hjl
   have hst2 := WR ks (j + 1)
   have hsx := hfs _ (List.getElem_mem hjl) (hd ++ ((ks.take j).map funT).flatten) (b0 || !(ks.take j).all qN) (by rw [List.length_append]; omega)
   have e1 : hd ++ ((ks.take (j + 1)).map funT).flatten = (hd ++ ((ks.take j).map funT).flatten) ++ funT ks[j] := by rw [flatten_take _ hjl, List.append_assoc]
   have e2 : (b0 || !(ks.take (j + 1)).all qN) = ((b0 || !(ks.take j).all qN) || !qN ks[j]) := by rw [List.take_succ_eq_append_getElem hjl, List.all_append]; cases b0 <;> simp
   clear hfs
   (repeat' first | (refine Qi ?_; (first | refine QM rfl ?_ | (refine QO ?_; (first | refine W2 rfl rfl ?_ | refine Q4 rfl ?_)) | refine Q1 rfl rfl (by first | assumption | omega | (simp; done) | (simp; omega)) ?_ | (refine Qj ?_; (first | refine Q9 rfl rfl ?_ | refine Zh rfl rfl (by omega) ?_)) | refine s_pm 1 2 (hsx) rfl rfl rfl rfl rfl rfl (fun _ => rfl) (fun _ _ => ?_) | refine Ws rfl rfl rfl rfl ?_ | refine Qq (fun _ _ => ?_))) | (refine Qn ?_; (first | refine Ql ?_ | refine QN rfl ?_ | refine QJ ?_)) | (refine Qm ?_; (first | refine Qo ?_ | refine Qb ?_ | refine Qe ?_ | refine QB ?_ | refine Qh rfl (by omega) ?_)))
   rename_i g' hg'
   refine ⟨j + 1, g', ⟨by omega, by omega⟩, by omega, ?_⟩
   rw [e1, e2]
   exact zal rfl
  ·have hje : j = ks.length := by omega
   subst hje
   rw [List.take_length] at *
   (repeat' first | (refine Qi ?_; (first | refine QM rfl ?_ | refine Qc rfl rfl rfl ?_ | refine Q9 rfl rfl ?_ | refine Qd rfl rfl ?_ | refine Qf rfl rfl ?_)) | (refine Qn ?_; (first | refine Ql ?_ | refine QN rfl ?_)) | (refine Qm ?_; (first | refine Qo ?_ | refine Qb ?_ | refine Qg rfl (by omega) ?_ | refine WS rfl ?_)))
   refine r_cond rfl (fun hb => ?_) (fun hb => ?_)
   ·have hb2 : (QU m ks.length (-1) && Zf n && ks.all qN) = false := by rw [<- hb0] at hb; revert hb; cases QU m ks.length (-1) <;> cases Zf n <;> simp
    (repeat' first | refine QR rfl ?_ | (refine Qn ?_; (first | refine Ql ?_ | refine QN rfl ?_)) | (refine Qm ?_; (first | refine Qo ?_ | refine Qb ?_ | refine Qx ?_)))
    refine e_1 Tryz.results18 (QH rfl) (Q8 ?_)
    rw [if_pos rfl, hb2]; rfl
   ·have hb2 : (QU m ks.length (-1) && Zf n && ks.all qN) = true := by rw [<- hb0] at hb; revert hb; cases QU m ks.length (-1) <;> cases Zf n <;> simp
    have hne : hd ++ (ks.map funT).flatten ≠ [] := by rw [<- hhd]; simp [ZZ]
    have hlim : (hd ++ (ks.map funT).flatten).length <= 9223372036854775807 := by rw [List.length_append]; omega
    (repeat' first | (refine Qi ?_; (first | refine QM rfl ?_ | refine QR rfl ?_ | refine s_call_str (k0 := 1) (k1 := 2) rfl rfl rfl rfl hne hlim rfl ?_ | refine Qd rfl rfl ?_ | refine Qf rfl rfl ?_)) | (refine Qn ?_; (first | refine Ql ?_ | refine QN rfl ?_)) | (refine Qm ?_; (first | refine Qo ?_ | refine Qb ?_ | refine QB ?_ | refine Qx ?_)))
    refine e_1 Tryz.results18 (QH rfl) (Q8 ?_)
    rw [if_pos rfl, if_pos rfl, hhd2, if_pos hb2]
 by_cases k26 : k = 26
 ·subst k26
  have hlx := funT_len _ hok hsz
  refine Qa Tryz.func18 rfl Tryz.ntmps18 rfl (t := [(0, .agg [.i _, .i n, .i m, Q5 ks])]) rfl fun E hE => ?_
  (repeat' first | (refine Qi ?_; (first | refine QM rfl ?_ | refine QR rfl ?_ | (refine QO ?_; (first | refine W2 rfl rfl ?_ | refine Qc rfl rfl rfl ?_)) | refine QY rfl rfl ?_ | refine s_pm 1 2 (hfun _ _ (by first | assumption | omega | (simp only [List.length_append, Wc, List.length_cons, List.length_nil]; omega))) rfl rfl rfl rfl rfl rfl (fun _ => rfl) (fun _ _ => ?_) | (refine g_box ?_; (first | refine s_box_bld rfl (fun _ _ _ _ => ?_) | refine Wi rfl rfl (fun _ _ => ?_))) | refine Qd rfl rfl ?_ | refine Qp rfl rfl ?_ | refine Qf rfl rfl ?_)) | (refine Qn ?_; (first | refine Ql ?_ | refine QN rfl ?_)) | (refine Qm ?_; (first | refine Qo ?_ | refine Qb ?_ | refine Qe ?_ | refine Qv rfl ?_ | refine Qy rfl ?_)))
  refine r_cond rfl (fun hb => ?_) (fun hb => ?_)
  ·have hb2 : qN (.mk 26 n m ks) = false := by simpa using hb
   (repeat' first | refine QR rfl ?_ | (refine Qn ?_; (first | refine Ql ?_ | refine QN rfl ?_)) | (refine Qm ?_; (first | refine Qo ?_ | refine Qb ?_ | refine Qx ?_)))
   refine e_1 Tryz.results18 (QH rfl) (Q8 ?_)
   simp [hb2, *]
  ·have hb2 : qN (.mk 26 n m ks) = true := by simpa using hb
   have hne : ([] ++ funT (.mk 26 n m ks)) ≠ [] := by have := hpne (by simp [hb2, *]); simpa [*] using this
   have hlim : (([] ++ funT (.mk 26 n m ks))).length <= 9223372036854775807 := by have hll := hlx; simp only [List.length_append, List.length_nil, List.length_cons, Wc]; omega
   (repeat' first | (refine Qi ?_; (first | refine QM rfl ?_ | refine QR rfl ?_ | refine s_call_str (k0 := 1) (k1 := 2) rfl rfl rfl rfl hne hlim rfl ?_ | refine Qd rfl rfl ?_ | refine Qf rfl rfl ?_)) | (refine Qn ?_; (first | refine Ql ?_ | refine QN rfl ?_)) | (refine Qm ?_; (first | refine Qo ?_ | refine Qb ?_ | refine QB ?_ | refine Qx ?_)))
   refine e_1 Tryz.results18 (QH rfl) (Q8 ?_)
   simp [hb2, *]
 by_cases kt : 0 <= k /\ k <= 3
 ·obtain ⟨kt0, kt3⟩ := kt
  have hlx := typT_len _ hok
  refine Qa Tryz.func18 rfl Tryz.ntmps18 rfl (t := [(0, .agg [.i k, .i n, .i m, Q5 ks])]) rfl fun E hE => ?_
  (repeat' first | (refine Qi ?_; (first | refine QM rfl ?_ | refine QR rfl ?_ | refine Qc rfl rfl rfl ?_ | (refine Qj ?_; (first | refine Wu rfl rfl ?_ | refine Zt rfl rfl ?_ | refine QY rfl rfl ?_)) | (refine Qu ?_; (first | refine Zc 1 2 (htyp _ _) rfl rfl rfl rfl rfl rfl ?_ | refine s_pm 1 2 (write_c _ (by first | assumption | omega | (simp only [List.length_append, List.length_cons, List.length_nil]; omega))) rfl rfl rfl rfl rfl rfl (fun _ => rfl) (fun _ _ => ?_))) | refine W6 rfl rfl ?_ | (refine g_box ?_; (first | refine s_box_bld rfl (fun _ _ _ _ => ?_) | refine Wi rfl rfl (fun _ _ => ?_))) | refine Qd rfl rfl ?_ | refine Qp rfl rfl ?_ | refine Qf rfl rfl ?_)) | (refine Qn ?_; (first | refine Ql ?_ | refine QN rfl ?_ | refine WJ rfl rfl rfl rfl ?_ | refine Wg rfl rfl (by omega) ?_)) | (refine Qm ?_; (first | refine Qo ?_ | refine Qb ?_ | refine Qe ?_ | (refine WO ?_; first | (refine Qz (pfx4 _ _) 100 [(0, true), (1, true), (2, true), (3, true), (4, true), (5, false), (6, false)] (by rfl) (by rfl) (by kernel_rfl) (by decide +kernel) (by decide +kernel) ⟨(_, _, _, _), rfl⟩ ?_) | refine Wn (by rfl) (by kernel_rfl) (by kernel_rfl) ?_ | refine Wm (by kernel_rfl) (by kernel_rfl) ?_) | refine Qh rfl (by omega) ?_ | refine Qg rfl (by omega) ?_)) | (refine W9 ?_; (first | refine ZO ?_ | refine i_st rfl rfl (fun _ => (by (repeat' first | (refine Qi ?_; (first | refine QM rfl ?_ | refine W2 rfl rfl ?_ | refine Qd rfl rfl ?_ | refine Qf rfl rfl ?_)) | exact ⟨rfl, rfl⟩))) ?_ | refine i_ef rfl ?_)) | refine And.intro (Exists.intro ((_, _, _, _)) rfl) ?_)
  refine r_cond rfl (fun hb => ?_) (fun hb => ?_)
  ·have hb2 : typOk (.mk k n m ks) = false := by simpa using hb
   (repeat' first | refine QR rfl ?_ | (refine Qn ?_; (first | refine Ql ?_ | refine QN rfl ?_)) | (refine Qm ?_; (first | refine Qo ?_ | refine Qb ?_ | refine Qx ?_)))
   refine e_1 Tryz.results18 (QH rfl) (Q8 ?_)
   simp [hb2, *]
  ·have hb2 : typOk (.mk k n m ks) = true := by simpa using hb
   have hne : ([] ++ typT (.mk k n m ks)) ≠ [] := by have := hpne (by simp [hb2, *]); simpa [*] using this
   have hlim : (([] ++ typT (.mk k n m ks))).length <= 9223372036854775807 := by have hll := hlx; simp only [List.length_append, List.length_nil, List.length_cons, Wc]; omega
   (repeat' first | (refine Qi ?_; (first | refine QM rfl ?_ | refine QR rfl ?_ | refine s_call_str (k0 := 1) (k1 := 2) rfl rfl rfl rfl hne hlim rfl ?_ | refine Qd rfl rfl ?_ | refine Qf rfl rfl ?_)) | (refine Qn ?_; (first | refine Ql ?_ | refine QN rfl ?_)) | (refine Qm ?_; (first | refine Qo ?_ | refine Qb ?_ | refine QB ?_ | refine Qx ?_)))
   refine e_1 Tryz.results18 (QH rfl) (Q8 ?_)
   simp [hb2, *]
 by_cases ke : 4 <= k /\ k <= 12
 ·obtain ⟨ke0, ke3⟩ := ke
  have hlx := exT_len _ hok
  refine Qa Tryz.func18 rfl Tryz.ntmps18 rfl (t := [(0, .agg [.i k, .i n, .i m, Q5 ks])]) rfl fun E hE => ?_
  (repeat' first | (refine Qi ?_; (first | refine QM rfl ?_ | refine QR rfl ?_ | refine Qc rfl rfl rfl ?_ | (refine Qj ?_; (first | refine Wu rfl rfl ?_ | refine Zt rfl rfl ?_ | refine QY rfl rfl ?_)) | (refine Qu ?_; (first | refine Zc 1 2 (hex _ _) rfl rfl rfl rfl rfl rfl ?_ | refine s_pm 1 2 (write_c _ (by first | assumption | omega | (simp only [List.length_append, List.length_cons, List.length_nil]; omega))) rfl rfl rfl rfl rfl rfl (fun _ => rfl) (fun _ _ => ?_))) | refine W6 rfl rfl ?_ | (refine g_box ?_; (first | refine s_box_bld rfl (fun _ _ _ _ => ?_) | refine Wi rfl rfl (fun _ _ => ?_))) | refine Qd rfl rfl ?_ | refine Qp rfl rfl ?_ | refine Qf rfl rfl ?_)) | (refine Qn ?_; (first | refine Ql ?_ | refine QN rfl ?_ | refine WJ rfl rfl rfl rfl ?_ | refine Wg rfl rfl (by omega) ?_)) | (refine Qm ?_; (first | refine Qo ?_ | refine Qb ?_ | refine Qe ?_ | (refine WO ?_; first | (refine Qz (pfx4 _ _) 100 [(0, true), (1, true), (2, true), (3, true), (4, true), (5, false), (6, false)] (by rfl) (by rfl) (by kernel_rfl) (by decide +kernel) (by decide +kernel) ⟨(_, _, _, _), rfl⟩ ?_) | refine Wn (by rfl) (by kernel_rfl) (by kernel_rfl) ?_ | refine Wm (by kernel_rfl) (by kernel_rfl) ?_) | refine Qh rfl (by omega) ?_ | refine Qg rfl (by omega) ?_)) | (refine W9 ?_; (first | refine ZO ?_ | refine i_st rfl rfl (fun _ => (by (repeat' first | (refine Qi ?_; (first | refine QM rfl ?_ | refine W2 rfl rfl ?_ | refine Qd rfl rfl ?_ | refine Qf rfl rfl ?_)) | exact ⟨rfl, rfl⟩))) ?_ | refine i_ef rfl ?_)) | refine And.intro (Exists.intro ((_, _, _, _)) rfl) ?_)
  refine r_cond rfl (fun hb => ?_) (fun hb => ?_)
  ·have hb2 : qg (.mk k n m ks) = false := by simpa using hb
   (repeat' first | refine QR rfl ?_ | (refine Qn ?_; (first | refine Ql ?_ | refine QN rfl ?_)) | (refine Qm ?_; (first | refine Qo ?_ | refine Qb ?_ | refine Qx ?_)))
   refine e_1 Tryz.results18 (QH rfl) (Q8 ?_)
   simp [hb2, *]
  ·have hb2 : qg (.mk k n m ks) = true := by simpa using hb
   have hne : ([] ++ exT (.mk k n m ks)) ≠ [] := by have := hpne (by simp [hb2, *]); simpa [*] using this
   have hlim : (([] ++ exT (.mk k n m ks))).length <= 9223372036854775807 := by have hll := hlx; simp only [List.length_append, List.length_nil, List.length_cons, Wc]; omega
   (repeat' first | (refine Qi ?_; (first | refine QM rfl ?_ | refine QR rfl ?_ | refine s_call_str (k0 := 1) (k1 := 2) rfl rfl rfl rfl hne hlim rfl ?_ | refine Qd rfl rfl ?_ | refine Qf rfl rfl ?_)) | (refine Qn ?_; (first | refine Ql ?_ | refine QN rfl ?_)) | (refine Qm ?_; (first | refine Qo ?_ | refine Qb ?_ | refine QB ?_ | refine Qx ?_)))
   refine e_1 Tryz.results18 (QH rfl) (Q8 ?_)
   simp [hb2, *]
 ·have hlx := (st_lenX hok (i := 0) (by omega)).1
  have hst0 : ∀ (o : List UInt8) (b : Bool), o.length + 7000000 * Qs (.mk k n m ks) <= 140737470000000 -> PM Tryz.prog G 49 (fun p g => [.ptr p g 0, .i 0, .agg [.i k, .i n, .i m, Q5 ks]]) o b (.tup []) (o ++ stT (.mk k n m ks) 0) (b || !stOk (.mk k n m ks)) := fun o b h => by
   have := hstm 0 o b (by omega) h
   rwa [QI] at this
  clear hstm
  by_cases kn : 0 <= k
  ·have k13 : 13 <= k := by omega
   have k3n : ¬ k <= 3 := by omega
   have k12n : ¬ k <= 12 := by omega
   refine Qa Tryz.func18 rfl Tryz.ntmps18 rfl (t := [(0, .agg [.i k, .i n, .i m, Q5 ks])]) rfl fun E hE => ?_
   (repeat' first | (refine Qi ?_; (first | refine QM rfl ?_ | refine QR rfl ?_ | (refine QO ?_; (first | refine W2 rfl rfl ?_ | refine Qc rfl rfl rfl ?_)) | (refine Qj ?_; (first | refine Wu rfl rfl ?_ | refine Zt rfl rfl ?_ | refine QY rfl rfl ?_)) | refine s_pm 1 2 (hst0 _ _ (by first | assumption | omega | (simp only [List.length_append, Wc, List.length_cons, List.length_nil]; omega))) rfl rfl rfl rfl rfl rfl (fun _ => rfl) (fun _ _ => ?_) | refine W6 rfl rfl ?_ | (refine g_box ?_; (first | refine s_box_bld rfl (fun _ _ _ _ => ?_) | refine Wi rfl rfl (fun _ _ => ?_))) | refine Qd rfl rfl ?_ | refine Qp rfl rfl ?_ | refine Qf rfl rfl ?_)) | (refine Qn ?_; (first | refine Ql ?_ | refine QN rfl ?_ | refine WJ rfl rfl rfl rfl ?_ | refine Wg rfl rfl (by omega) ?_)) | (refine Qm ?_; (first | refine Qo ?_ | refine Qb ?_ | refine Qe ?_ | refine Qg rfl (by omega) ?_)))
   refine r_cond rfl (fun hb => ?_) (fun hb => ?_)
   ·have hb2 : stOk (.mk k n m ks) = false := by simpa using hb
    (repeat' first | refine QR rfl ?_ | (refine Qn ?_; (first | refine Ql ?_ | refine QN rfl ?_)) | (refine Qm ?_; (first | refine Qo ?_ | refine Qb ?_ | refine Qx ?_)))
    refine e_1 Tryz.results18 (QH rfl) (Q8 ?_)
    simp [hb2, *]
   ·have hb2 : stOk (.mk k n m ks) = true := by simpa using hb
    have hne : ([] ++ stT (.mk k n m ks) 0) ≠ [] := by have := hpne (by simp [hb2, *]); simpa [*] using this
    have hlim : (([] ++ stT (.mk k n m ks) 0)).length <= 9223372036854775807 := by have hll := hlx; simp only [List.length_append, List.length_nil, List.length_cons, Wc]; omega
    (repeat' first | (refine Qi ?_; (first | refine QM rfl ?_ | refine QR rfl ?_ | refine s_call_str (k0 := 1) (k1 := 2) rfl rfl rfl rfl hne hlim rfl ?_ | refine Qd rfl rfl ?_ | refine Qf rfl rfl ?_)) | (refine Qn ?_; (first | refine Ql ?_ | refine QN rfl ?_)) | (refine Qm ?_; (first | refine Qo ?_ | refine Qb ?_ | refine QB ?_ | refine Qx ?_)))
    refine e_1 Tryz.results18 (QH rfl) (Q8 ?_)
    simp [hb2, *]
  ·refine Qa Tryz.func18 rfl Tryz.ntmps18 rfl (t := [(0, .agg [.i k, .i n, .i m, Q5 ks])]) rfl fun E hE => ?_
   (repeat' first | (refine Qi ?_; (first | refine QM rfl ?_ | refine QR rfl ?_ | (refine QO ?_; (first | refine W2 rfl rfl ?_ | refine Qc rfl rfl rfl ?_)) | (refine Qj ?_; (first | refine Zt rfl rfl ?_ | refine QY rfl rfl ?_)) | refine s_pm 1 2 (hst0 _ _ (by first | assumption | omega | (simp only [List.length_append, Wc, List.length_cons, List.length_nil]; omega))) rfl rfl rfl rfl rfl rfl (fun _ => rfl) (fun _ _ => ?_) | refine WK rfl rfl ?_ | (refine g_box ?_; (first | refine s_box_bld rfl (fun _ _ _ _ => ?_) | refine Wi rfl rfl (fun _ _ => ?_))) | refine Qd rfl rfl ?_ | refine Qp rfl rfl ?_ | refine Qf rfl rfl ?_)) | (refine Qn ?_; (first | refine Ql ?_ | refine QN rfl ?_ | refine Zd rfl rfl rfl rfl ?_ | refine QZ rfl rfl (by omega) ?_)) | (refine Qm ?_; (first | refine Qo ?_ | refine Qb ?_ | refine Qe ?_ | refine Qy rfl ?_ | refine Qg rfl (by omega) ?_)))
   refine r_cond rfl (fun hb => ?_) (fun hb => ?_)
   ·have hb2 : stOk (.mk k n m ks) = false := by simpa using hb
    (repeat' first | refine QR rfl ?_ | (refine Qn ?_; (first | refine Ql ?_ | refine QN rfl ?_)) | (refine Qm ?_; (first | refine Qo ?_ | refine Qb ?_ | refine Qx ?_)))
    refine e_1 Tryz.results18 (QH rfl) (Q8 ?_)
    simp [hb2, *]
   ·have hb2 : stOk (.mk k n m ks) = true := by simpa using hb
    have hne : ([] ++ stT (.mk k n m ks) 0) ≠ [] := by have := hpne (by simp [hb2, *]); simpa [*] using this
    have hlim : (([] ++ stT (.mk k n m ks) 0)).length <= 9223372036854775807 := by have hll := hlx; simp only [List.length_append, List.length_nil, List.length_cons, Wc]; omega
    (repeat' first | (refine Qi ?_; (first | refine QM rfl ?_ | refine QR rfl ?_ | refine s_call_str (k0 := 1) (k1 := 2) rfl rfl rfl rfl hne hlim rfl ?_ | refine Qd rfl rfl ?_ | refine Qf rfl rfl ?_)) | (refine Qn ?_; (first | refine Ql ?_ | refine QN rfl ?_)) | (refine Qm ?_; (first | refine Qo ?_ | refine Qb ?_ | refine QB ?_ | refine Qx ?_)))
    refine e_1 Tryz.results18 (QH rfl) (Q8 ?_)
    simp [hb2, *]
def befP (ks : List Nd) : Nat := (ks.map fun x => nlC (WW x)).sum
theorem befP_take {ks : List Nd} {i : Nat} (h : i < ks.length) : befP (ks.take (i + 1)) = befP (ks.take i) + nlC (WW ks[i]) := by
 unfold befP
 rw [List.take_succ_eq_append_getElem h, List.map_append, List.sum_append]; simp
theorem befP_le : ∀ (ks : List Nd), okL ks -> QC ks <= 1000000 -> befP ks <= 7000000 * QC ks
 | [], _, _ => by simp [befP]
 | x :: r, h, hs => by
  rw [okL] at h
  rw [QC] at hs ⊢
  have h1 := print_len x h.1 (by omega)
  have h2 := nl_le (WW x)
  have h3 := befP_le r h.2 (by omega)
  have : befP (x :: r) = nlC (WW x) + befP r := by unfold befP; rw [List.map_cons, List.sum_cons]
  rw [this, Nat.mul_add]; omega
def stepL (k : Int) (ks : List Nd) (a : Int) : Int :=
 if k = 27 \/ k = 13 then 1 + (befP (ks.take a.toNat) : Nat) else if (k = 17 /\ a = 2) \/ (k = 21 /\ a = 1) then (nlC (WW (ks.getD (a - 1).toNat (.mk 0 0 0 []))) : Nat) - 1 else 0
def lineGo : List Int -> Nd -> Int -> Int
 | [], _, at_ => at_
 | a :: p, .mk k n m ks, at_ => lineGo p (ks.getD a.toNat (.mk 0 0 0 [])) (at_ + stepL k ks a)
def kindN : Nd -> Int
 | .mk k _ _ _ => k
def lineM (t : Nd) (path : List Int) : Int := if atM path t = none \/ kindN t ≠ 27 \/ WW t = [] then 0 else lineGo path t 1
theorem okL_at {ks : List Nd} (h : okL ks) {i : Nat} (hi : i < ks.length) : okN ks[i] := WY h (List.getElem_mem hi)
theorem step_bound {k : Int} {n m : Int} {ks : List Nd} {a : Int} (hok : okN (.mk k n m ks)) (hs : Qs (.mk k n m ks) <= 1000000) (h0 : 0 <= a) (h1 : a.toNat < ks.length) :
  -1 <= stepL k ks a /\ stepL k ks a + 8000000 * (Qs ks[a.toNat] : Int) <= 8000000 * (Qs (.mk k n m ks) : Int) := by
 rw [okN] at hok
 rw [Qs] at hs ⊢
 have hsm := Wz (List.getElem_mem h1)
 unfold stepL
 split
 ·have hb := befP_le (ks.take a.toNat) (okL_take hok.2 _) (by have := WR ks a.toNat; omega)
  have ht := qx ks a.toNat h1
  have hl := WR ks (a.toNat + 1)
  omega
 ·split
  ·rename_i hc
   have h3 : (a - 1).toNat < ks.length := by omega
   have e : ks.getD (a - 1).toNat (.mk 0 0 0 []) = ks[(a - 1).toNat] := by rw [List.getD_eq_getElem?_getD, List.getElem?_eq_getElem h3]; rfl
   rw [e]
   have hp := print_len _ (okL_at hok.2 h3) (by have := Wz (List.getElem_mem h3); omega)
   have hn := nl_le (WW ks[(a - 1).toNat])
   have ht := qx ks (a - 1).toNat h3
   have e2 : a.toNat = (a - 1).toNat + 1 := by omega
   have h4 : (a - 1).toNat + 1 < ks.length := by omega
   have ht2 := qx ks ((a - 1).toNat + 1) h4
   have hl := WR ks ((a - 1).toNat + 1 + 1)
   have hx : Qs ks[a.toNat] = Qs ks[(a - 1).toNat + 1] := by simp only [e2]
   omega
  ·omega
theorem before_c (hG : G 6 = pow10T) (hG1 : G 1 = spaceT) (k n m : Int) (ks : List Nd) (hok : okL ks) (hs : QC ks <= 1000000) (a : Int) (h0 : 0 <= a) (h1 : a.toNat < ks.length) (at_ : Int) (ha1 : -5000000000000000000 <= at_) (ha2 : at_ <= 9000000000000) (c5 : List DV) (g2 g5 g7 g9 B : Nat) :
  ACalls Tryz.prog G B 68 [.ptr 0 g2 0, .ptr 3 g9 0, .ptr 2 g7 0] [.row g2 [.i k, .i n, .i m, Q5 ks], .row g5 c5, .row g7 [.i at_], .row g9 [.i a]] (fun d τ => d = .tup [] /\ τ = [.row g2 [.i k, .i n, .i m, Q5 ks], .row g5 c5, .row g7 [.i (at_ + (befP (ks.take a.toNat) : Nat))], .row g9 [.i a]]) := by
 have hln := Zn ks
 refine Qa Tryz.func68 rfl Tryz.ntmps68 rfl (t := [(0, .ptr 0 g2 0), (1, .ptr 3 g9 0), (2, .ptr 2 g7 0)]) rfl fun E hE => ?_
 (repeat' first | (refine Qi ?_; (first | refine QM rfl ?_ | refine Qc rfl rfl rfl ?_ | refine Q2 rfl ?_ | refine Qd rfl rfl ?_ | refine s_slice_h rfl rfl (by omega) (by omega) ?_)) | (refine Qn ?_; (first | refine Ql ?_ | refine QN rfl ?_)) | (refine Qm ?_; (first | refine Qo ?_ | refine Qb ?_ | refine Qe ?_)))
 have hsub : ∀ (i : Nat) (h : i < (ks.take a.toNat).length), Go.Av.Pure Tryz.prog G 18 [.agg (Enc.enc (ks.take a.toNat)[i])] (W1 (WW (ks.take a.toNat)[i])) /\ Go.Av.Pure Tryz.prog G 69 [W1 (WW (ks.take a.toNat)[i])] (.i (nlC (WW (ks.take a.toNat)[i]))) := fun i h => by
  have hm : (ks.take a.toNat)[i] ∈ ks := List.mem_of_mem_take (List.getElem_mem h)
  have hsz := Wz hm
  have hle := print_len _ (WY hok hm) (by omega)
  exact ⟨print_c hG hG1 _ (WY hok hm) (by omega), lines_c _ (print_asc _) (by omega)⟩
 have hbl := befP_le (ks.take a.toNat) (okL_take hok _) (by have := WR ks a.toNat; omega)
 have hsl := WR ks a.toNat
 have hbm : ∀ i, befP ((ks.take a.toNat).take i) <= 7000000000000 := fun i => by
  have h2 := befP_le ((ks.take a.toNat).take i) (okL_take (okL_take hok _) _) (by have := WR (ks.take a.toNat) i; omega)
  have := WR (ks.take a.toNat) i; omega
 have hll2 : (ks.take a.toNat).length <= 1000000 := by rw [List.length_take]; omega
 generalize hll : ks.take a.toNat = l at *
 refine qm (fun (i : Nat) => ⟨[(2, .ptr 2 g7 0), (8, Q5 l), (9, .i l.length), (10, .i i)], [.row g2 [.i k, .i n, .i m, Q5 ks], .row g5 c5, .row g7 [.i (at_ + (befP (l.take i) : Nat))], .row g9 [.i a]]⟩) (fun i => i <= l.length) (fun i => l.length - i) 0 ?_ (by omega) ?_
 ·rw [show at_ + ((befP (l.take 0) : Nat) : Int) = at_ by simp [befP]]
  exact zal rfl
 intro i hi
 have hb0 := hbm i
 by_cases hil : i < l.length
 ·obtain ⟨hp1, hl1⟩ := hsub i hil
  have hst := befP_take hil
  have hb1 := hbm (i + 1)
  have e : at_ + ((befP (l.take (i + 1)) : Nat) : Int) = at_ + ((befP (l.take i) : Nat) : Int) + ((nlC (WW l[i]) : Nat) : Int) := by rw [hst]; omega
  clear hsub hbm
  (repeat' first | (refine Qi ?_; (first | refine QM rfl ?_ | refine Q4 rfl ?_ | refine Q1 rfl rfl (by first | assumption | omega | (simp; done) | (simp; omega)) ?_ | (refine Qj ?_; (first | refine Q9 rfl rfl ?_ | refine Zh rfl rfl (by omega) ?_)) | (refine QK ?_; (first | refine Ws rfl rfl rfl rfl ?_ | refine QD rfl rfl rfl rfl (by rfl) (by rfl) (by rfl) ?_)) | refine Qq (fun _ _ => ?_))) | (refine Qn ?_; (first | refine Ql ?_ | refine QN rfl ?_ | refine QJ ?_)) | (refine Qm ?_; (first | refine Qo ?_ | refine Qb ?_ | refine Qe ?_ | (refine WO ?_; first | refine Wn (by rfl) (by kernel_rfl) (by kernel_rfl) ?_ | refine Wm (by kernel_rfl) (by kernel_rfl) ?_) | refine QB ?_ | refine Qh rfl (by omega) ?_)) | (refine g_lex ?_; (first | refine x_op rfl (by (repeat' first | (refine Qi ?_; (first | (refine QO ?_; (first | refine W2 rfl rfl ?_ | refine Qc rfl rfl rfl ?_)) | refine Zh rfl rfl (by omega) ?_ | (refine Qu ?_; (first | refine W5 rfl rfl (hp1) ?_ | refine W5 rfl rfl (hl1) ?_)))) | exact ⟨rfl, rfl⟩)) ?_ | refine x_nil ?_)))
  refine ⟨i + 1, by omega, by omega, ?_⟩
  rw [e]
  exact zal rfl
 ·have hie : i = l.length := by omega
  subst hie
  rw [List.take_length]
  clear hsub hbm
  (repeat' first | refine Q9 rfl rfl ?_ | (refine Qn ?_; (first | refine Ql ?_ | refine QN rfl ?_)) | (refine Qm ?_; (first | refine Qo ?_ | refine Qb ?_ | refine Qg rfl (by omega) ?_ | refine WS rfl ?_)))
  exact e_0 (Tryz.results68) (Za (σ := [_, _, _, _]) ⟨rfl, rfl⟩)
theorem line_c1 (hG : G 6 = pow10T) (hG1 : G 1 = spaceT) (t : Nd) (hok : okN t) (hs : Qs t <= 1000000) (path : List Int) (hpl : path.length <= 4611686018427387904) : Go.Av.Pure Tryz.prog G 26 [.agg (Enc.enc t), Q5 path] (.i (lineM t path)) := fun B => by
 have hat := trAt_c (G := G) t hs path hpl
 have hpt := print_c hG hG1 t hok hs
 unfold lineM
 cases ha : atM path t with
 | none =>
  rw [ha] at hat
  have hat : Go.Av.Pure Tryz.prog G 67 [.agg (Enc.enc t), Q5 path] (.tup [.agg (Enc.enc (Nd.mk 0 0 0 [])), .b false]) := hat
  rw [if_pos (by simp)]
  refine Qa Tryz.func26 rfl Tryz.ntmps26 rfl (t := [(0, .agg (Enc.enc t)), (1, Q5 path)]) rfl fun E hE => ?_
  (repeat' first | (refine Qi ?_; (first | refine QM rfl ?_ | refine QR rfl ?_ | refine W2 rfl rfl ?_ | refine ZS rfl rfl hat (W4 (Ww (WT (Enc.clo _)) (Ww Wp W8))) ?_ | refine W6 rfl rfl ?_ | refine Ws rfl rfl rfl rfl ?_ | refine Zq rfl ?_ | refine ZM rfl rfl rfl ?_ | refine Qq (fun _ _ => ?_) | refine Wi rfl rfl (fun _ _ => ?_))) | (refine Qn ?_; (first | refine Ql ?_ | refine QN rfl ?_ | refine QJ ?_ | refine Zd rfl rfl rfl rfl ?_)) | (refine Qm ?_; (first | refine Qo ?_ | refine Qb ?_ | refine Qv rfl ?_ | refine Qx ?_)))
  all_goals exact e_1 (Tryz.results26) (QH rfl) (Q8 rfl)
 | some x =>
 rw [ha] at hat
 have hat : Go.Av.Pure Tryz.prog G 67 [.agg (Enc.enc t), Q5 path] (.tup [.agg (Enc.enc x), .b true]) := hat
 obtain ⟨k, n, m, ks⟩ := t
 rw [QI k n m ks] at hat hpt ⊢
 by_cases hk : k = 27
 case neg =>
  rw [if_pos (by simp [kindN, hk])]
  refine Qa Tryz.func26 rfl Tryz.ntmps26 rfl (t := [(0, .agg [.i k, .i n, .i m, Q5 ks]), (1, Q5 path)]) rfl fun E hE => ?_
  (repeat' first | (refine Qi ?_; (first | refine QM rfl ?_ | refine QR rfl ?_ | (refine QO ?_; (first | refine W2 rfl rfl ?_ | refine Qc rfl rfl rfl ?_)) | refine s_neq rfl rfl ?_ | refine ZS rfl rfl hat (W4 (Ww (WT (Enc.clo _)) (Ww Wp W8))) ?_ | (refine Wh ?_; (first | refine W6 rfl rfl ?_ | refine WK rfl rfl ?_)) | refine Ws rfl rfl rfl rfl ?_ | refine Zq rfl ?_ | refine Qd rfl rfl ?_ | refine ZM rfl rfl rfl ?_ | refine Qq (fun _ _ => ?_) | refine Wi rfl rfl (fun _ _ => ?_))) | (refine Qn ?_; (first | refine Ql ?_ | refine QN rfl ?_ | refine QJ ?_ | refine WJ rfl rfl rfl rfl ?_ | refine Zd rfl rfl rfl rfl ?_ | refine Wg rfl rfl (by omega) ?_)) | (refine Qm ?_; (first | refine Qo ?_ | refine Qb ?_ | refine Qv rfl ?_ | refine Qx ?_)))
  all_goals exact e_1 (Tryz.results26) (QH rfl) (Q8 rfl)
 by_cases hp0 : WW (.mk k n m ks) = []
 ·have hd : decide (WW (.mk k n m ks) = []) = true := decide_eq_true hp0
  rw [if_pos (by simp [hp0])]
  refine Qa Tryz.func26 rfl Tryz.ntmps26 rfl (t := [(0, .agg [.i k, .i n, .i m, Q5 ks]), (1, Q5 path)]) rfl fun E hE => ?_
  (repeat' first | (refine Qi ?_; (first | refine QM rfl ?_ | refine QR rfl ?_ | (refine QO ?_; (first | refine W2 rfl rfl ?_ | refine Qc rfl rfl rfl ?_)) | (refine Qj ?_; (first | refine WH rfl rfl ?_ | refine s_neq rfl rfl ?_)) | (refine Qu ?_; (first | refine ZS rfl rfl hat (W4 (Ww (WT (Enc.clo _)) (Ww Wp W8))) ?_ | refine W5 rfl rfl (hpt) ?_)) | refine WK rfl rfl ?_ | refine Ws rfl rfl rfl rfl ?_ | refine Zq rfl ?_ | refine Qd rfl rfl ?_ | refine ZM rfl rfl rfl ?_ | refine Qq (fun _ _ => ?_) | refine Wi rfl rfl (fun _ _ => ?_))) | (refine Qn ?_; (first | refine Ql ?_ | refine QN rfl ?_ | refine QJ ?_ | refine WJ rfl rfl rfl rfl ?_ | refine QZ rfl rfl (by omega) ?_)) | (refine Qm ?_; (first | refine Qo ?_ | refine Qb ?_ | refine Qh rfl (by omega) ?_ | refine Qx ?_)))
  all_goals exact e_1 (Tryz.results26) (QH rfl) (Q8 rfl)
 have hd : decide (WW (.mk k n m ks) = []) = false := decide_eq_false hp0
 subst hk
 rw [if_neg (by simp [kindN, hp0])]
 refine Qa Tryz.func26 rfl Tryz.ntmps26 rfl (t := [(0, .agg [.i 27, .i n, .i m, Q5 ks]), (1, Q5 path)]) rfl fun E hE => ?_
 (repeat' first | (refine Qi ?_; (first | refine QM rfl ?_ | refine QR rfl ?_ | (refine QO ?_; (first | refine W2 rfl rfl ?_ | refine Qc rfl rfl rfl ?_)) | (refine Qj ?_; (first | refine WH rfl rfl ?_ | refine s_neq rfl rfl ?_)) | (refine Qu ?_; (first | refine ZS rfl rfl hat (W4 (Ww (WT (Enc.clo _)) (Ww Wp W8))) ?_ | refine W5 rfl rfl (hpt) ?_ | refine Q2 rfl ?_)) | refine WK rfl rfl ?_ | (refine QK ?_; (first | refine Ws rfl rfl rfl rfl ?_ | refine QD rfl rfl rfl rfl (by rfl) (by rfl) (by rfl) ?_)) | refine Zq rfl ?_ | refine Qd rfl rfl ?_ | refine ZM rfl rfl rfl ?_ | refine Qq (fun _ _ => ?_) | refine Wi rfl rfl (fun _ _ => ?_))) | (refine Qn ?_; (first | refine Ql ?_ | refine QN rfl ?_ | refine QJ ?_ | refine WJ rfl rfl rfl rfl ?_)) | (refine Qm ?_; (first | refine Qo ?_ | refine Qb ?_ | refine Qe ?_ | refine QB ?_ | refine Qg rfl (by omega) ?_)))
 rename_i g2 hg2 g5 hg5 g7 hg7
 clear hpt hat
 rw [<- QI 27 n m ks]
 generalize hT : Nd.mk 27 n m ks = t at *
 generalize (Enc.enc x : List DV) = c5 at *
 refine r_loop3 (fun (j : Nat) (cur : Nd) (at_ : Int) => ⟨[(2, .ptr 0 g2 0), (7, .ptr 2 g7 0), (29, Q5 path), (30, .i path.length), (31, .i j)], [.row g2 (Enc.enc cur), .row g5 c5, .row g7 [.i at_]]⟩) (fun j cur at_ => j <= path.length /\ atM path t = atM (path.drop j) cur /\ lineGo path t 1 = lineGo (path.drop j) cur at_ /\ okN cur /\ Qs cur <= 1000000 /\ -(j : Int) <= at_ /\ at_ + 8000000 * (Qs cur : Int) <= 1 + 8000000 * (Qs t : Int)) (fun j _ _ => path.length - j) 0 t 1 ?_ ⟨by omega, by simp, by simp, hok, hs, by omega, by omega⟩ ?_
 ·exact zal rfl
 intro j cur at_ ⟨hj, he, hgo, hco, hcs, hlo, hhi⟩
 clear hT hok n m ks
 obtain ⟨k, n, m, ks⟩ := cur
 have hpos := QX (.mk k n m ks)
 have hse : Qs (.mk k n m ks) = 1 + QC ks := by rw [Qs]
 have hln := Zn ks
 rw [QI]
 by_cases hjl : j < path.length
 case neg =>
  have hje : j = path.length := by omega
  subst hje
  rw [List.drop_length, lineGo] at hgo
  rw [hgo]
  (repeat' first | (refine Qi ?_; (first | refine QR rfl ?_ | refine Qc rfl rfl rfl ?_ | refine Q9 rfl rfl ?_)) | (refine Qn ?_; (first | refine Ql ?_ | refine QN rfl ?_)) | (refine Qm ?_; (first | refine Qo ?_ | refine Qb ?_ | refine Qg rfl (by omega) ?_ | refine WS rfl ?_ | refine Qx ?_)))
  all_goals exact e_1 (Tryz.results26) (QH rfl) (Q8 rfl)
 rw [List.drop_eq_getElem_cons hjl] at he hgo
 have hc : 0 <= path[j] /\ path[j].toNat < ks.length := by
  rcases Classical.em (0 <= path[j] /\ path[j].toNat < ks.length) with h | h
  ·exact h
  ·rw [atM_none (by omega), ha] at he; cases he
 rw [atM_cons hc.1 hc.2] at he
 have hgd : ks.getD path[j].toNat (.mk 0 0 0 []) = ks[path[j].toNat] := by rw [List.getD_eq_getElem?_getD, List.getElem?_eq_getElem hc.2]; rfl
 rw [lineGo, hgd] at hgo
 have hsb := step_bound hco hcs hc.1 hc.2
 have hco2 := hco
 rw [okN] at hco2
 have hsm := Wz (List.getElem_mem hc.2)
 have hcN : okN ks[path[j].toNat] := okL_at hco2.2 hc.2
 obtain ⟨hc0, hc1⟩ := hc
 unfold stepL at hgo hsb
 by_cases hk1 : k = 27 \/ k = 13
 ·rw [if_pos hk1] at hgo hsb
  have hbef := fun (g2 g5 g9 g7 : Nat) => before_c (G := G) hG hG1 k n m ks hco2.2 (by omega) path[j] hc0 hc1 (at_ + 1) (by omega) (by omega) c5 g2 g5 g7 g9 E.N
  have e3 : at_ + (1 + ((befP (ks.take path[j].toNat) : Nat) : Int)) = at_ + 1 + ((befP (ks.take path[j].toNat) : Nat) : Int) := by omega
  rw [e3] at hgo
  rcases hk1 with hk1 | hk1
  all_goals
   (repeat' first | (refine Qi ?_; (first | refine QM rfl ?_ | refine QR rfl ?_ | (refine QO ?_; (first | refine Wo rfl ?_ | refine Q4 rfl ?_ | refine Qc rfl rfl rfl ?_)) | (refine g_indexAddr ?_; (first | refine Q1 rfl rfl (by first | assumption | omega | (simp; done) | (simp; omega)) ?_ | refine s_idx_sl rfl rfl (by omega) (by first | assumption | omega | (simp; done) | (simp; omega)) ?_)) | (refine Qj ?_; (first | refine Q9 rfl rfl ?_ | refine QY rfl rfl ?_ | refine Zh rfl rfl (by omega) ?_)) | refine qc rfl rfl (hbef _ _ _ _) ?_ | (refine QK ?_; (first | refine Ws rfl rfl rfl rfl ?_ | refine QD rfl rfl rfl rfl (by rfl) (by rfl) (by rfl) ?_)) | refine Qd rfl rfl ?_ | refine QQ rfl rfl ?_ | refine Qq (fun _ _ => ?_))) | (refine Qn ?_; (first | refine Ql ?_ | refine QN rfl ?_ | refine QJ ?_)) | (refine Qm ?_; (first | refine Qo ?_ | refine Qb ?_ | refine Qe ?_ | refine QB ?_ | refine Qh rfl (by omega) ?_ | refine Qg rfl (by omega) ?_)))
   refine ⟨j + 1, ks[path[j].toNat], _, ⟨by omega, he, hgo, hcN, by omega, by omega, by omega⟩, by omega, ?_⟩
   exact zal rfl
 rw [if_neg hk1] at hgo hsb
 have hbef : True := trivial
 by_cases hk2 : (k = 17 /\ path[j] = 2) \/ (k = 21 /\ path[j] = 1)
 ·rw [if_pos hk2] at hgo hsb
  have h3 : (path[j] - 1).toNat < ks.length := by omega
  have h30 : 0 <= path[j] - 1 := by omega
  have e4 : ks.getD (path[j] - 1).toNat (.mk 0 0 0 []) = ks[(path[j] - 1).toNat] := by rw [List.getD_eq_getElem?_getD, List.getElem?_eq_getElem h3]; rfl
  rw [e4] at hgo hsb
  have hsz3 := Wz (List.getElem_mem h3)
  have hpl3 := print_len _ (okL_at hco2.2 h3) (by omega)
  have hnl3 := nl_le (WW ks[(path[j] - 1).toNat])
  have hp1 := print_c (G := G) hG hG1 _ (okL_at hco2.2 h3) (by omega)
  have hl1 := lines_c (G := G) (WW ks[(path[j] - 1).toNat]) (print_asc _) (by omega)
  rcases hk2 with hk2 | hk2
  all_goals
   (repeat' first | (refine Qi ?_; (first | refine QM rfl ?_ | refine QR rfl ?_ | (refine QO ?_; (first | refine Wo rfl ?_ | refine Q4 rfl ?_ | refine Qc rfl rfl rfl ?_)) | (refine g_indexAddr ?_; (first | refine Q1 rfl rfl (by first | assumption | omega | (simp; done) | (simp; omega)) ?_ | refine s_idx_sl rfl rfl (by omega) (by first | assumption | omega | (simp; done) | (simp; omega)) ?_)) | (refine Qj ?_; (first | refine Q9 rfl rfl ?_ | refine QY rfl rfl ?_ | refine Zh rfl rfl (by omega) ?_)) | (refine Wh ?_; (first | refine W6 rfl rfl ?_ | refine WK rfl rfl ?_)) | (refine QK ?_; (first | refine Ws rfl rfl rfl rfl ?_ | refine QD rfl rfl rfl rfl (by rfl) (by rfl) (by rfl) ?_)) | refine Qd rfl rfl ?_ | refine QQ rfl rfl ?_ | refine Qq (fun _ _ => ?_))) | (refine Qn ?_; (first | refine Ql ?_ | refine QN rfl ?_ | refine QJ ?_ | refine WJ rfl rfl rfl rfl ?_ | refine Zd rfl rfl rfl rfl ?_ | refine Wg rfl rfl (by omega) ?_ | refine QZ rfl rfl (by omega) ?_)) | (refine Qm ?_; (first | refine Qo ?_ | refine Qb ?_ | refine Qe ?_ | (refine WO ?_; first | refine Wn (by rfl) (by kernel_rfl) (by kernel_rfl) ?_ | refine Wm (by kernel_rfl) (by kernel_rfl) ?_) | refine QB ?_ | refine Qy rfl ?_ | refine Qh rfl (by omega) ?_ | refine Qg rfl (by omega) ?_)) | (refine g_lex ?_; (first | refine x_op rfl (by (repeat' first | (refine Qi ?_; (first | (refine QO ?_; (first | refine Q4 rfl ?_ | refine Qc rfl rfl rfl ?_)) | refine s_idx_sl rfl rfl (by omega) (by first | assumption | omega | (simp; done) | (simp; omega)) ?_ | (refine Qj ?_; (first | refine Zh rfl rfl (by omega) ?_ | refine Wt rfl rfl (by omega) ?_)) | (refine Qu ?_; (first | refine W5 rfl rfl (hp1) ?_ | refine W5 rfl rfl (hl1) ?_)) | refine Qd rfl rfl ?_)) | exact ⟨rfl, rfl⟩)) ?_ | refine x_nil ?_)))
   refine ⟨j + 1, ks[path[j].toNat], _, ⟨by omega, he, hgo, hcN, by omega, by omega, by omega⟩, by omega, ?_⟩
   exact zal rfl
 ·rw [if_neg hk2] at hgo hsb
  rw [Int.add_zero] at hgo
  (repeat' first | (refine Qi ?_; (first | refine QM rfl ?_ | refine QR rfl ?_ | (refine QO ?_; (first | refine Wo rfl ?_ | refine Q4 rfl ?_ | refine Qc rfl rfl rfl ?_)) | (refine g_indexAddr ?_; (first | refine Q1 rfl rfl (by first | assumption | omega | (simp; done) | (simp; omega)) ?_ | refine s_idx_sl rfl rfl (by omega) (by first | assumption | omega | (simp; done) | (simp; omega)) ?_)) | (refine Qj ?_; (first | refine Q9 rfl rfl ?_ | refine QY rfl rfl ?_ | refine Zh rfl rfl (by omega) ?_)) | (refine Wh ?_; (first | refine W6 rfl rfl ?_ | refine WK rfl rfl ?_)) | (refine QK ?_; (first | refine Ws rfl rfl rfl rfl ?_ | refine QD rfl rfl rfl rfl (by rfl) (by rfl) (by rfl) ?_)) | refine Qd rfl rfl ?_ | refine QQ rfl rfl ?_ | refine Qq (fun _ _ => ?_))) | (refine Qn ?_; (first | refine Ql ?_ | refine QN rfl ?_ | refine QJ ?_ | refine WJ rfl rfl rfl rfl ?_ | refine Zd rfl rfl rfl rfl ?_ | refine QZ rfl rfl (by omega) ?_ | refine qO rfl rfl (fun _ => ?_) (fun _ => ?_))) | (refine Qm ?_; (first | refine Qo ?_ | refine Qb ?_ | refine Qe ?_ | refine QB ?_ | refine Qy rfl ?_ | refine Qh rfl (by omega) ?_ | refine Qg rfl (by omega) ?_)))
  all_goals
   refine ⟨j + 1, ks[path[j].toNat], _, ⟨by omega, he, hgo, hcN, by omega, by omega, by omega⟩, by omega, ?_⟩
   exact zal rfl
theorem nan_c (a : Int) : Go.Av.Pure Tryz.prog G 124 [.i a] (.b false) := fun B => by
 refine Qa Tryz.func124 rfl Tryz.ntmps124 rfl (t := [(0, .i a)]) rfl fun E hE => ?_
 (repeat' first | (refine Qi ?_; (first | refine QM rfl ?_ | refine QR rfl ?_ | refine s_neq rfl rfl ?_)) | (refine Qn ?_; (first | refine Ql ?_ | refine QN rfl ?_)) | (refine Qm ?_; (first | refine Qo ?_ | refine Qb ?_ | refine Qx ?_)))
 refine e_1 Tryz.results124 (QH rfl) (Q8 ?_)
 simp
theorem cmpI_c (a : Int) : Go.Av.Pure Tryz.prog G 77 [.i a, .i a] (.i 0) := fun B => by
 refine Qa Tryz.func77 rfl Tryz.ntmps77 rfl (t := [(0, .i a), (1, .i a)]) rfl fun E hE => ?_
 (repeat' first | (refine Qi ?_; (first | refine QM rfl ?_ | refine QR rfl ?_ | (refine Qj ?_; (first | refine Q9 rfl rfl ?_ | refine ZV rfl rfl ?_)) | refine W5 rfl rfl (nan_c _) ?_)) | (refine Qn ?_; (first | refine Ql ?_ | refine QN rfl ?_)) | (refine Qm ?_; (first | refine Qo ?_ | refine Qb ?_ | refine QB ?_ | refine Qy rfl ?_ | refine Qg rfl (by omega) ?_ | refine Qx ?_)))
 refine e_1 Tryz.results77 (QH rfl) (Q8 ?_)
 rfl
theorem or_c (l : List Int) (hl : l.length <= 4) (h : ∀ x ∈ l, x = 0) : Go.Av.Pure Tryz.prog G 76 [Q5 l] (.i 0) := fun B => by
 refine Qa Tryz.func76 rfl Tryz.ntmps76 rfl (t := [(0, Q5 l)]) rfl fun E hE => ?_
 (repeat' first | (refine Qi ?_; (first | refine QM rfl ?_ | refine QR rfl ?_ | refine Q2 rfl ?_)) | (refine Qn ?_; (first | refine Ql ?_ | refine QN rfl ?_)) | (refine Qm ?_; (first | refine Qo ?_ | refine Qb ?_ | refine Qe ?_)))
 refine qm (fun (i : Nat) => ⟨[(3, .i 0), (6, Q5 l), (7, .i l.length), (8, .i i)], []⟩) (fun i => i <= l.length) (fun i => l.length - i) 0 ?_ (by omega) ?_
 ·exact zal rfl
 intro i hi
 by_cases hil : i < l.length
 ·have h0 := h _ (List.getElem_mem hil)
  (repeat' first | (refine Qi ?_; (first | refine QM rfl ?_ | refine QR rfl ?_ | refine Wo rfl ?_ | refine Q1 rfl rfl (by first | assumption | omega | (simp; done) | (simp; omega)) ?_ | (refine Qj ?_; (first | refine Q9 rfl rfl ?_ | refine s_neq rfl rfl ?_ | refine Zh rfl rfl (by omega) ?_)))) | (refine Qn ?_; (first | refine Ql ?_ | refine QN rfl ?_)) | (refine Qm ?_; (first | refine Qo ?_ | refine Qb ?_ | refine Qe ?_ | refine QB ?_ | refine Qh rfl (by omega) ?_ | refine Qg rfl (by omega) ?_)))
  refine ⟨i + 1, by omega, by omega, ?_⟩
  exact zal rfl
 ·(repeat' first | (refine Qi ?_; (first | refine QM rfl ?_ | refine QR rfl ?_ | refine Q9 rfl rfl ?_)) | (refine Qn ?_; (first | refine Ql ?_ | refine QN rfl ?_)) | (refine Qm ?_; (first | refine Qo ?_ | refine Qb ?_ | refine Qg rfl (by omega) ?_ | refine WS rfl ?_ | refine Qx ?_)))
  refine e_1 Tryz.results76 (QH rfl) (Q8 ?_)
  rfl
theorem cmpF_c (l : List Nd) (hl : l.length <= 1000000) (h : ∀ x ∈ l, Go.Av.Pure Tryz.prog G 32 [.agg (Enc.enc x), .agg (Enc.enc x)] (.i 0)) : Go.Av.Pure Tryz.prog G 78 [Q5 l, Q5 l, .fn (.func 32) [] []] (.i 0) := fun B => by
 refine Qa Tryz.func78 rfl Tryz.ntmps78 rfl (t := [(0, Q5 l), (1, Q5 l), (2, .fn (.func 32) [] [])]) rfl fun E hE => ?_
 (repeat' first | (refine Qi ?_; (first | refine QM rfl ?_ | refine QR rfl ?_ | refine Q2 rfl ?_)) | (refine Qn ?_; (first | refine Ql ?_ | refine QN rfl ?_)) | (refine Qm ?_; (first | refine Qo ?_ | refine Qb ?_ | refine Qe ?_)))
 refine qm (fun (i : Nat) => ⟨[(0, Q5 l), (1, Q5 l), (2, .fn (.func 32) [] []), (11, Q5 l), (12, .i l.length), (13, .i i)], []⟩) (fun i => i <= l.length) (fun i => l.length - i) 0 ?_ (by omega) ?_
 ·exact zal rfl
 intro i hi
 by_cases hil : i < l.length
 ·have hfi := h _ (List.getElem_mem hil)
  clear h
  (repeat' first | (refine Qi ?_; (first | refine QM rfl ?_ | refine QR rfl ?_ | (refine QO ?_; (first | refine W2 rfl rfl ?_ | refine Q4 rfl ?_)) | refine Q1 rfl rfl (by first | assumption | omega | (simp; done) | (simp; omega)) ?_ | (refine Qj ?_; (first | refine Q9 rfl rfl ?_ | refine Zt rfl rfl ?_ | refine s_neq rfl rfl ?_ | refine Zh rfl rfl (by omega) ?_)) | (refine Qu ?_; (first | refine Q2 rfl ?_ | refine ql rfl (hfi) (by repeat' first | exact Wp | exact WG _ | exact WE (QW _) | exact QW _ | refine ZX ?_ ?_ | refine ZJ ?_ | refine W4 ?_ | refine WT ?_ | exact W8 | refine Ww ?_ ?_ | refine WE ?_) ?_)) | refine Ws rfl rfl rfl rfl ?_ | refine Qq (fun _ _ => ?_))) | (refine Qn ?_; (first | refine Ql ?_ | refine QN rfl ?_ | refine QJ ?_)) | (refine Qm ?_; (first | refine Qo ?_ | refine Qb ?_ | refine Qe ?_ | refine QB ?_ | refine Qy rfl ?_ | refine Qh rfl (by omega) ?_ | refine Qg rfl (by omega) ?_)))
  refine ⟨i + 1, by omega, by omega, ?_⟩
  exact zal rfl
 ·clear h
  (repeat' first | (refine Qi ?_; (first | refine QM rfl ?_ | refine QR rfl ?_ | refine Q9 rfl rfl ?_ | refine Q2 rfl ?_)) | (refine Qn ?_; (first | refine Ql ?_ | refine QN rfl ?_)) | (refine Qm ?_; (first | refine Qo ?_ | refine Qb ?_ | refine QB ?_ | refine Qg rfl (by omega) ?_ | refine WS rfl ?_ | refine Qx ?_)))
  refine e_1 Tryz.results78 (QH rfl) (Q8 ?_)
  rfl
theorem trCompare_c (t : Nd) : Qs t <= 1000000 -> Go.Av.Pure Tryz.prog G 32 [.agg (Enc.enc t), .agg (Enc.enc t)] (.i 0) := by
 induction t using Nd.ind with
 | h k n m ks ih =>
 intro hsz B
 have hse : Qs (.mk k n m ks) = 1 + QC ks := by rw [Qs]
 rw [hse] at hsz
 have hln := Zn ks
 have hcf := cmpF_c (G := G) ks (by omega) fun x hx => ih x hx (by have := Wz hx; omega)
 have h4 : ∀ x ∈ [(0 : Int), 0, 0, 0], x = 0 := by decide
 clear ih
 rw [QI]
 refine Qa Tryz.func32 rfl Tryz.ntmps32 rfl (t := [(0, .agg [.i k, .i n, .i m, Q5 ks]), (1, .agg [.i k, .i n, .i m, Q5 ks])]) rfl fun E hE => ?_
 (repeat' first | (refine Qi ?_; (first | refine QR rfl ?_ | refine Wi rfl rfl (fun _ _ => ?_))) | (refine Qn ?_; (first | refine Ql ?_ | refine QN rfl ?_)) | (refine Qm ?_; (first | refine Qo ?_ | refine Qb ?_ | (refine WO ?_; first | refine Wn (by rfl) (by kernel_rfl) (by kernel_rfl) ?_ | refine Wm (by kernel_rfl) (by kernel_rfl) ?_) | refine Qx ?_)) | (refine g_lex ?_; (first | refine x_op rfl (by (repeat' first | (refine Qi ?_; (first | refine QR rfl ?_ | refine Qc rfl rfl rfl ?_ | (refine Qu ?_; (first | refine W5 rfl rfl (cmpI_c _) ?_ | refine W5 rfl rfl (or_c _ (by decide) h4) ?_ | refine W5 rfl rfl (hcf) ?_)) | refine qC (cs := Wq [(0 : Int), 0, 0, 0]) rfl rfl (by decide) rfl ?_ | refine Qd rfl rfl ?_)) | exact ⟨rfl, rfl⟩)) ?_ | refine x_nil ?_)))
 all_goals exact e_1 (Tryz.results32) (QH rfl) (Q8 rfl)
theorem sign_c (a : Int) : Go.Av.Pure Tryz.prog G 120 [.i a, .i a] (.i 0) := fun B => by
 refine Qa Tryz.func120 rfl Tryz.ntmps120 rfl (t := [(0, .i a), (1, .i a)]) rfl fun E hE => ?_
 (repeat' first | (refine Qi ?_; (first | refine QM rfl ?_ | refine QR rfl ?_ | (refine Qj ?_; (first | refine Q9 rfl rfl ?_ | refine ZV rfl rfl ?_)))) | (refine Qn ?_; (first | refine Ql ?_ | refine QN rfl ?_)) | (refine Qm ?_; (first | refine Qo ?_ | refine Qb ?_ | refine QB ?_ | refine Qg rfl (by omega) ?_ | refine Qx ?_)))
 refine e_1 Tryz.results120 (QH rfl) (Q8 ?_)
 rfl
theorem r05Compare_c (t : Nd) : Qs t <= 1000000 -> Go.Av.Pure Tryz.prog G 66 [.agg (Enc.enc t), .agg (Enc.enc t)] (.i 0) := by
 induction t using Nd.ind with
 | h k n m ks ih =>
 intro hsz B
 have hse : Qs (.mk k n m ks) = 1 + QC ks := by rw [Qs]
 rw [hse] at hsz
 have hln := Zn ks
 have hx : ∀ x ∈ ks, Go.Av.Pure Tryz.prog G 66 [.agg (Enc.enc x), .agg (Enc.enc x)] (.i 0) := fun x hx => ih x hx (by have := Wz hx; omega)
 clear ih
 rw [QI]
 refine Qa Tryz.func66 rfl Tryz.ntmps66 rfl (t := [(0, .agg [.i k, .i n, .i m, Q5 ks]), (1, .agg [.i k, .i n, .i m, Q5 ks])]) rfl fun E hE => ?_
 (repeat' first | (refine Qi ?_; (first | refine QR rfl ?_ | refine Qc rfl rfl rfl ?_ | refine qC (cs := Wq [(k : Int), n, m]) rfl rfl (by decide) rfl ?_ | refine Qd rfl rfl ?_ | refine Wi rfl rfl (fun _ _ => ?_))) | (refine Qn ?_; (first | refine Ql ?_ | refine QN rfl ?_)) | (refine Qm ?_; (first | refine Qo ?_ | refine Qb ?_ | refine Qe ?_)))
 rename_i g2 hg2 g3 hg3
 generalize hxs : [k, n, m] = xs at *
 have hxl : xs.length = 3 := by rw [<- hxs]; rfl
 refine qm (fun (i : Nat) => ⟨[(2, .ptr 0 g2 0), (3, .ptr 1 g3 0), (5, Q5 xs), (6, Q5 xs), (7, .i i)], [.row g2 [.i k, .i n, .i m, Q5 ks], .row g3 [.i k, .i n, .i m, Q5 ks]]⟩) (fun i => i <= 3) (fun i => 3 - i) 0 ?_ (by omega) ?_
 ·exact zal rfl
 intro i hi
 by_cases hil : i < 3
 ·have hil2 : i < xs.length := by omega
  (repeat' first | (refine Qi ?_; (first | refine QM rfl ?_ | refine QR rfl ?_ | (refine Qj ?_; (first | refine Q9 rfl rfl ?_ | refine Zh rfl rfl (by omega) ?_)))) | (refine Qn ?_; (first | refine Ql ?_ | refine QN rfl ?_)) | (refine Qm ?_; (first | refine Qo ?_ | refine Qb ?_ | refine Qe ?_ | (refine WO ?_; first | refine Wn (by rfl) (by kernel_rfl) (by kernel_rfl) ?_ | refine Wm (by kernel_rfl) (by kernel_rfl) ?_) | refine QB ?_ | refine Qh rfl (by omega) ?_ | refine Qg rfl (by omega) ?_)) | (refine g_lex ?_; (first | refine x_op rfl (by (repeat' first | (refine Qi ?_; (first | refine QM rfl ?_ | refine Wo rfl ?_ | refine Q1 rfl rfl (by first | assumption | omega | (simp; done) | (simp; omega)) ?_ | refine s_neq rfl rfl ?_)) | exact ⟨rfl, rfl⟩)) ?_ | refine x_nil ?_)))
  all_goals
   refine ⟨i + 1, by omega, by omega, ?_⟩
   exact zal rfl
 ·(repeat' first | (refine Qi ?_; (first | refine QM rfl ?_ | refine QR rfl ?_ | refine Q9 rfl rfl ?_)) | (refine Qn ?_; (first | refine Ql ?_ | refine QN rfl ?_)) | (refine Qm ?_; (first | refine Qo ?_ | refine Qb ?_ | refine Qe ?_ | refine Qg rfl (by omega) ?_ | refine WS rfl ?_)))
  refine qm (fun (i : Nat) => ⟨[(2, .ptr 0 g2 0), (3, .ptr 1 g3 0), (8, .i i)], [.row g2 [.i k, .i n, .i m, Q5 ks], .row g3 [.i k, .i n, .i m, Q5 ks]]⟩) (fun i => i <= ks.length) (fun i => ks.length - i) 0 ?_ (by omega) ?_
  ·exact zal rfl
  intro i hi
  by_cases hil : i < ks.length
  ·have hi1 := hx _ (List.getElem_mem hil)
   clear hx
   (repeat' first | (refine Qi ?_; (first | refine QM rfl ?_ | refine QR rfl ?_ | refine Qc rfl rfl rfl ?_ | (refine Qj ?_; (first | refine Q9 rfl rfl ?_ | refine s_neq rfl rfl ?_ | refine Zh rfl rfl (by omega) ?_)) | refine Q2 rfl ?_ | refine W6 rfl rfl ?_ | refine Qd rfl rfl ?_)) | (refine Qn ?_; (first | refine Ql ?_ | refine QN rfl ?_ | refine WJ rfl rfl rfl rfl ?_ | refine Wg rfl rfl (by omega) ?_)) | (refine Qm ?_; (first | refine Qo ?_ | refine Qb ?_ | refine Qe ?_ | (refine WO ?_; first | refine Wn (by rfl) (by kernel_rfl) (by kernel_rfl) ?_ | refine Wm (by kernel_rfl) (by kernel_rfl) ?_) | refine QB ?_ | refine Qy rfl ?_ | refine Qh rfl (by omega) ?_)) | (refine g_lex ?_; (first | refine x_op rfl (by (repeat' first | (refine Qi ?_; (first | refine QM rfl ?_ | refine QR rfl ?_ | (refine QO ?_; (first | refine Q4 rfl ?_ | refine Qc rfl rfl rfl ?_)) | refine Q1 rfl rfl (by first | assumption | omega | (simp; done) | (simp; omega)) ?_ | refine W5 rfl rfl (hi1) ?_ | refine Qd rfl rfl ?_)) | exact ⟨rfl, rfl⟩)) ?_ | refine x_nil ?_)))
   all_goals
    refine ⟨i + 1, by omega, by omega, ?_⟩
    exact zal rfl
  ·clear hx
   (repeat' first | (refine Qi ?_; (first | refine QM rfl ?_ | refine QR rfl ?_ | refine Qc rfl rfl rfl ?_ | refine Q9 rfl rfl ?_ | (refine Qu ?_; (first | refine Q2 rfl ?_ | refine W5 rfl rfl (sign_c _) ?_)) | refine WK rfl rfl ?_ | refine Qd rfl rfl ?_)) | (refine Qn ?_; (first | refine Ql ?_ | refine QN rfl ?_ | refine Zd rfl rfl rfl rfl ?_ | refine QZ rfl rfl (by omega) ?_)) | (refine Qm ?_; (first | refine Qo ?_ | refine Qb ?_ | refine Qy rfl ?_ | refine WS rfl ?_ | refine Qx ?_)))
   all_goals exact e_1 (Tryz.results66) (QH rfl) (Q8 rfl)
theorem r05Same_c (t : Nd) (hsz : Qs t <= 1000000) : Go.Av.Pure Tryz.prog G 25 [.agg (Enc.enc t), .agg (Enc.enc t)] (.b true) := fun B => by
 have hcc := r05Compare_c (G := G) t hsz
 refine Qa Tryz.func25 rfl Tryz.ntmps25 rfl (t := [(0, .agg (Enc.enc t)), (1, .agg (Enc.enc t))]) rfl fun E hE => ?_
 (repeat' first | (refine Qi ?_; (first | refine QR rfl ?_ | refine W2 rfl rfl ?_ | refine QY rfl rfl ?_ | refine W5 rfl rfl (hcc) ?_ | refine Wi rfl rfl (fun _ _ => ?_))) | (refine Qn ?_; (first | refine Ql ?_ | refine QN rfl ?_)) | (refine Qm ?_; (first | refine Qo ?_ | refine Qb ?_ | refine Qx ?_)))
 all_goals exact e_1 (Tryz.results25) (QH rfl) (Q8 rfl)
end Go.Proofs
end
section
namespace Go.Av
open Go.Bl
inductive DSub : DV -> DV -> Prop
 | refl (d : DV) : DSub d d
 | nil (es : Nat) : DSub (.sc (.slice none 0 0)) (.sl es [])
 | sl (es : Nat) (cs cs' : List DV) : cs.length = cs'.length -> (∀ (j : Nat) (d d' : DV), cs[j]? = some d -> cs'[j]? = some d' -> DSub d d') -> DSub (.sl es cs) (.sl es cs')
 | agg (cs cs' : List DV) : cs.length = cs'.length -> (∀ (j : Nat) (d d' : DV), cs[j]? = some d -> cs'[j]? = some d' -> DSub d d') -> DSub (.agg cs) (.agg cs')
 | tup (cs cs' : List DV) : cs.length = cs'.length -> (∀ (j : Nat) (d d' : DV), cs[j]? = some d -> cs'[j]? = some d' -> DSub d d') -> DSub (.tup cs) (.tup cs')
theorem DSub.one {d d' : DV} (h : DSub d d') : d.one = true -> d'.one = true := by
 cases h with
 | refl => exact id
 | nil => intro _; rfl
 | sl => intro _; rfl
 | agg => intro h; cases h
 | tup => intro h; cases h
theorem dsub_get {cs cs' : List DV} (hl : cs.length = cs'.length) (j : Nat) (d' : DV) (hj : cs'[j]? = some d') : ∃ d, cs[j]? = some d := ⟨cs[j]'(by rw [hl]; exact (List.getElem?_eq_some_iff.1 hj).1), List.getElem?_eq_getElem _⟩
theorem DSub.rep {L : Lay} {d d' : DV} (h : DSub d d') : ∀ {v : Value}, VRep L d v -> VRep L d' v := by
 induction h with
 | refl => exact id
 | nil es => intro v hv; exact nil_str hv
 | sl es cs cs' hl hs ih =>
  intro v hv
  obtain ⟨a, len, cap, f, rfl, h1, h2, h3, h4, h5⟩ := hv.sl_inv
  refine .sl _ _ _ _ _ f (by rw [h1, hl]) h2 (fun d' hd => ?_) ?_ (fun j d' hj => ?_)
  ·obtain ⟨j, hj⟩ := List.mem_iff_getElem?.1 hd
   obtain ⟨d, hd0⟩ := dsub_get hl j d' hj
   exact (hs j d d' hd0 hj).one (h3 d (List.mem_of_getElem? hd0))
  ·rcases h4 with h4 | ⟨b, o, h6, h7⟩
   ·left
    subst h4
    exact List.eq_nil_of_length_eq_zero hl.symm
   ·right
    exact ⟨b, o, h6, fun j hj => h7 j (by rw [hl]; exact hj)⟩
  ·obtain ⟨d, hd0⟩ := dsub_get hl j d' hj
   exact ih j d d' hd0 hj (h5 j d hd0)
 | agg cs cs' hl hs ih =>
  intro v hv
  cases hv with | agg _ vs h1 h2 h3 =>
  refine .agg _ _ (by rw [h1, hl]) (fun d' hd => ?_) fun j d' hj => ?_
  ·obtain ⟨j, hj⟩ := List.mem_iff_getElem?.1 hd
   obtain ⟨d, hd0⟩ := dsub_get hl j d' hj
   exact (hs j d d' hd0 hj).one (h2 d (List.mem_of_getElem? hd0))
  ·obtain ⟨d, hd0⟩ := dsub_get hl j d' hj
   exact ih j d d' hd0 hj (h3 j d hd0)
 | tup cs cs' hl hs ih =>
  intro v hv
  cases hv with | tup _ vs h1 h3 =>
  refine .tup _ _ (by rw [h1, hl]) fun j d' hj => ?_
  obtain ⟨d, hd0⟩ := dsub_get hl j d' hj
  exact ih j d d' hd0 hj (h3 j d hd0)
theorem dsub_nil : ∀ (j : Nat) (e e' : DV), ([] : List DV)[j]? = some e -> ([] : List DV)[j]? = some e' -> DSub e e' := fun j e e' h => by simp at h
theorem dsub_cons {d d' : DV} {r r' : List DV} (h : DSub d d') (k : ∀ (j : Nat) (e e' : DV), r[j]? = some e -> r'[j]? = some e' -> DSub e e') : ∀ (j : Nat) (e e' : DV), (d :: r)[j]? = some e -> (d' :: r')[j]? = some e' -> DSub e e' := fun j e e' h1 h2 => by
 cases j with
 | zero => simp at h1 h2; subst h1 h2; exact h
 | succ j => exact k j e e' (by simpa using h1) (by simpa using h2)
section
variable {E : AX} {R : DV -> List ABlk -> Prop}
theorem c_sub {d d2 : DV} {σ : List ABlk} (h : DSub d d2) (k : AClose E R d2 σ) : AClose E R d σ := c_conv (fun L v hv => h.rep hv) k
end
end Go.Av
end
section
namespace Go.Proofs
open Go.Av
variable {G : Nat -> DV}
attribute [local irreducible] OpSem Zs ZH qa ACalls qP AClose RV
open Go.Bl
def exN : Nd := .mk 27 0 0 [.mk 26 1 0 [.mk 0 0 0 [], .mk 13 0 0 [.mk 14 0 0 [.mk 9 0 0 [.mk 6 0 0 [], .mk 4 1 0 []]], .mk 19 0 0 [.mk 6 0 0 []]]]]
def sEx1 : List UInt8 := [112, 114, 111, 103, 114, 97, 109, 32, 48, 10, 102, 117, 110, 32, 49, 32, 40, 105, 110, 116, 41, 32, 123, 10, 32, 32, 118, 48, 32, 61, 32, 40, 118, 48, 32, 43, 32, 49, 41, 10, 32, 32, 114, 101, 116, 117, 114, 110, 32, 118, 48, 10, 125, 10]
def sEx2 : List UInt8 := [112, 114, 111, 103, 114, 97, 109, 32, 48, 32, 102, 117, 110, 32, 49, 32, 40, 105, 110, 116, 41, 32, 123, 32, 114, 101, 116, 117, 114, 110, 32, 40, 118, 48, 41, 32, 125]
theorem ex_par1 : parseM zP sEx1 = (exN, -1) := by kernel_rfl
theorem ex_par2 : (parseM zP sEx2).2 = 34 := by decide +kernel
theorem ex_pr : WW exN = sEx1 := by decide +kernel
theorem ex_l1 : lineM exN [0, 1, 0, 0] = 3 := by kernel_rfl
theorem ex_l2 : lineM exN [0, 1, 2] = 0 := by kernel_rfl
theorem example_c : Go.Av.Pure Tryz.prog G 57 [] (.agg (Enc.enc exN)) := fun B => by
 refine Qa Tryz.func57 rfl Tryz.ntmps57 rfl (t := []) rfl fun E hE => ?_
 (repeat' first | (refine Qi ?_; (first | refine W2 rfl rfl ?_ | refine Ws rfl rfl rfl rfl ?_ | refine qC rfl rfl (by decide) rfl ?_ | refine Qp rfl rfl ?_ | refine Qq (fun _ _ => ?_))) | (refine Qn ?_; (first | refine Ql ?_ | refine QN rfl ?_ | refine QJ ?_)) | (refine Qm ?_; (first | refine Qo ?_ | refine Qb ?_ | refine Qx ?_)))
 refine e_1 (Tryz.results57) (Qr (size := 4) rfl rfl rfl rfl) (c_sub ?_ (Q8 rfl))
 unfold exN
 repeat' first | exact .refl _ | exact .nil _ | exact dsub_nil | refine dsub_cons ?_ ?_ | refine .agg _ _ rfl ?_ | refine .sl _ _ _ rfl ?_
theorem lives_c (hG0 : G 0 = shapesT) (hG1 : G 1 = spaceT) (hG : G 6 = pow10T) : Go.Av.Pure Tryz.prog G 20 [] (.b true) := fun B => by
 have hex := example_c (G := G)
 have hp1 := parse_c hG0 hG1 sEx1 (by decide)
 rw [ex_par1] at hp1
 have hp2 := parse_c hG0 hG1 sEx2 (by decide)
 rw [ex_par2] at hp2
 have hok : okN exN := by unfold exN; simp [okN, okL, i64]
 have hsz : Qs exN <= 1000000 := by decide +kernel
 have hpr := print_c hG hG1 exN hok hsz
 rw [ex_pr] at hpr
 have hsm := r05Same_c (G := G) exN hsz
 have hl1 := line_c1 hG hG1 exN hok hsz [0, 1, 0, 0] (by decide)
 rw [ex_l1] at hl1
 have hl2 := line_c1 hG hG1 exN hok hsz [0, 1, 2] (by decide)
 rw [ex_l2] at hl2
 have hd : decide (sEx1 = sEx1) = true := decide_eq_true rfl
 generalize (parseM zP sEx2).1 = x2 at *
 refine Qa Tryz.func20 rfl Tryz.ntmps20 rfl (t := []) rfl fun E hE => ?_
 (repeat' first | (refine Qi ?_; (first | refine QM rfl ?_ | refine QR rfl ?_ | refine W2 rfl rfl ?_ | (refine Qj ?_; (first | refine QY rfl rfl ?_ | refine WH rfl rfl ?_)) | (refine Qu ?_; (first | refine ZS rfl rfl hex (WT (Enc.clo _)) ?_ | refine ZS rfl rfl hp1 (W4 (Ww (WT (Enc.clo _)) (Ww Wp W8))) ?_ | refine ZS rfl rfl hp2 (W4 (Ww (WT (Enc.clo _)) (Ww Wp W8))) ?_ | refine W5 rfl rfl (hpr) ?_ | refine W5 rfl rfl (hsm) ?_ | refine W5 rfl rfl (hl1) ?_ | refine W5 rfl rfl (hl2) ?_)) | refine W6 rfl rfl ?_ | refine Ws rfl rfl rfl rfl ?_ | (refine g_buildSlice ?_; (first | refine qC (cs := Wq [(0 : Int), 1, 0, 0]) rfl rfl (by decide) rfl ?_ | refine qC (cs := Wq [(0 : Int), 1, 2]) rfl rfl (by decide) rfl ?_)) | refine ZM rfl rfl rfl ?_ | refine Qq (fun _ _ => ?_))) | (refine Qn ?_; (first | refine Ql ?_ | refine QN rfl ?_ | refine QJ ?_ | refine WJ rfl rfl rfl rfl ?_)) | (refine Qm ?_; (first | refine Qo ?_ | refine Qb ?_ | refine Qx ?_)))
 all_goals exact e_1 (Tryz.results20) (QH rfl) (Q8 (by simp))
end Go.Proofs
end
section
namespace Go.Av
theorem r_loop5 {P : Program} {G : Nat -> DV} {E : AX} {n : Nat} {N : ASt -> Prop} {xs : List (Nat × (ASt -> Prop))} {R : ASt -> Prop} {st : ASt} {c : Code} {α β γ δ ε : Type} (I : α -> β -> γ -> δ -> ε -> ASt) (pre : α -> β -> γ -> δ -> ε -> Prop) (μ : α -> β -> γ -> δ -> ε -> Nat) (x0 : α) (y0 : β) (z0 : γ) (u0 : δ) (v0 : ε) (h0 : ALe st (I x0 y0 z0 u0 v0)) (hp0 : pre x0 y0 z0 u0 v0)
  (round : ∀ x y z u v, pre x y z u v -> Zs P G E n c (fun st' => ∃ x' y' z' u' v', pre x' y' z' u' v' /\ μ x' y' z' u' v' < μ x y z u v /\ ALe st' (I x' y' z' u' v')) xs R (I x y z u v)) : Zs P G E n (.loop c) N xs R st :=
 qm (fun s : α × β × γ × δ × ε => I s.1 s.2.1 s.2.2.1 s.2.2.2.1 s.2.2.2.2) (fun s => pre s.1 s.2.1 s.2.2.1 s.2.2.2.1 s.2.2.2.2) (fun s => μ s.1 s.2.1 s.2.2.1 s.2.2.2.1 s.2.2.2.2) (x0, y0, z0, u0, v0) h0 hp0 fun s hs a w hr => wp_mono (round s.1 s.2.1 s.2.2.1 s.2.2.2.1 s.2.2.2.2 hs a w hr) fun e a' w' ⟨st', hr', hq⟩ => ⟨st', hr', by
  cases e with
  | normal => obtain ⟨x', y', z', u', v', h1, h2, h3⟩ := hq; exact ⟨(x', y', z', u', v'), h1, h2, h3⟩
  | exit id => exact hq
  | ret => exact hq
  | goto l => exact hq
  | _ => exact hq⟩
end Go.Av
end
