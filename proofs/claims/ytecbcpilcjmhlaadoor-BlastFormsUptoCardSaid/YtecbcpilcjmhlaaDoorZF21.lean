/-
  Part 21 of the proof: S7 S8 P9 Y0 Y1 Y1k4 Y1k5 Y1k6 Y1k9 Y1k10 Y1k29 Y1z Y2 Y6.
-/
import Derived.Test.YtecbcpilcjmhlaaDoorZF1
import Derived.Test.YtecbcpilcjmhlaaDoorZF13
import Derived.Test.YtecbcpilcjmhlaaDoorZF14
import Derived.Test.YtecbcpilcjmhlaaDoorZF20
set_option linter.unusedSimpArgs false
set_option linter.unusedVariables false
set_option maxRecDepth 10000
set_option maxHeartbeats 4000000
section
namespace Go.Proofs
open Go.Av
variable {G : Nat -> DV}
attribute [local irreducible] OpSem WB WQ WW ACalls Zo QY RV
open Go.Bl
theorem boolz_eq : ∀ n : Nat, WS [.bool false] n = Qt (List.replicate n false)
 | 0 => rfl
 | n + 1 => by rw [WS, boolz_eq n, List.replicate_succ, WM]; rfl
theorem rep_false (n m : Nat) : (List.replicate n false).getD m false = false := by
 rw [List.getD_eq_getElem?_getD, List.getElem?_replicate]
 split <;> rfl
theorem formed_c {vars : Int} {cl : List (List Int)} {nm ty fi : List Int} {ts : List Nd} (hsz : QN ts <= 99999) (hnm : allTo (W9 ts) 64 = nm) (htm : nm.map (kindL ts) = ty) (hfl : fi.length = nm.length)
  (hv0 : 0 <= vars) (hv1 : vars <= 2000) (hc0 : cl.length <= 16384) (hc1 : cl.length <= 10 + 1100 * QN ts) (hv2 : vars <= 10 + 100 * QN ts)
  (hty1 : ∀ x ∈ ty, x = 0 \/ x = 1) (hr : ∀ i (h : i < fi.length) (h' : i < ty.length), 1 <= fi[i] /\ fi[i] + (4 - 3 * ty[i]) <= vars + 1) (hmono : ∀ i j (h : j < fi.length) (h' : i < ty.length) (hij : i < j), fi[i]'(by omega) + (4 - 3 * ty[i]) <= fi[j])
  (hcl : ∀ c ∈ cl, c.length <= 1048576 /\ ∀ x ∈ c, x ≠ 0 /\ -vars <= x /\ x <= vars) : Go.Av.Pure Tryd.prog G 14 [.agg [.i vars, QG cl, QG nm, QG ty, QG fi], QG ts] (.b true) := fun B => by
 have hl := allTo_len (W9 ts) 64
 have hall := all_c (G := G) ts hsz
 have hty := (types21_c (G := G) ts hsz).read
 rw [hnm] at hl hall hty
 rw [htm] at hty
 have htl : ty.length = nm.length := by rw [<- htm, List.length_map]
 have hs1 := sameIntsV_c (G := G) nm nm (by omega) (by omega)
 have hs2 := sameIntsV_c (G := G) ty ty (by omega) (by omega)
 rw [decide_eq_true rfl] at hs1 hs2
 refine Qc Tryd.func14 rfl Tryd.ntmps14 rfl (t := [(0, .agg [.i vars, QG cl, QG nm, QG ty, QG fi]), (1, QG ts)]) rfl fun E hE => ?_
 (repeat' first | refine Qu rfl ?_ | refine QA rfl ?_ | refine Qb rfl rfl rfl ?_ | refine Q5 rfl rfl (by omega) ?_ | refine Wa rfl rfl (hall) ?_ | refine Qd rfl rfl ?_ | refine s_make rfl rfl rfl (by omega) (by omega) (by omega) (by omega) (fun _ _ => ?_) | refine QU rfl rfl (fun _ _ => ?_) | refine Qe ?_ | refine Qs rfl ?_ | refine Qg ?_ | refine Qa ?_ | refine Qf ?_ | (refine Q0 ?_; first | refine Q3 (by rfl) (by kernel_rfl) (by kernel_rfl) ?_ | refine QP (by kernel_rfl) (by kernel_rfl) ?_) | refine Qk ?_ | refine Qr rfl (by omega) ?_ | refine qb rfl (by (repeat' first | refine Qu rfl ?_ | refine Qb rfl rfl rfl ?_ | refine QL rfl rfl ?_ | refine s_gtr rfl rfl ?_ | refine Wu rfl rfl ?_ | refine Q5 rfl rfl (by omega) ?_ | refine s_mul rfl rfl (by omega) ?_ | refine Qj rfl ?_ | refine Wa rfl rfl (hty) ?_ | refine Wa rfl rfl (nodesCnt_c ts (by omega)) ?_ | refine Wa rfl rfl (hs1) ?_ | refine Wa rfl rfl (hs2) ?_ | refine Wm rfl rfl ?_ | refine WC rfl ?_ | refine Qd rfl rfl ?_ | exact ⟨rfl, rfl⟩)) ?_ | refine x_gy rfl rfl rfl rfl (by (repeat' first | refine Qu rfl ?_ | refine Qb rfl rfl rfl ?_ | refine QL rfl rfl ?_ | refine s_gtr rfl rfl ?_ | refine Wu rfl rfl ?_ | refine Q5 rfl rfl (by omega) ?_ | refine s_mul rfl rfl (by omega) ?_ | refine Qj rfl ?_ | refine Wa rfl rfl (hty) ?_ | refine Wa rfl rfl (nodesCnt_c ts (by omega)) ?_ | refine Wa rfl rfl (hs1) ?_ | refine Wa rfl rfl (hs2) ?_ | refine Wm rfl rfl ?_ | refine WC rfl ?_ | refine Qd rfl rfl ?_ | exact ⟨rfl, rfl⟩)) ?_ | refine ZS ?_ | refine x_sp_f rfl rfl (by omega) ?_ | fail)
 rename_i g1 hg1 g2 hg2
 rw [show WS [.bool false] (vars + 1).toNat = Qt (List.replicate (vars + 1).toNat false) from boolz_eq _]
 refine Wv (fun (p : Nat × List Bool) => ⟨[(2, .ptr 0 g1 0), (6, .ref 1 g2 0 (vars + 1).toNat 1), (7, .i p.1)], [.row g1 [.i vars, QG cl, QG nm, QG ty, QG fi], .row g2 (Qt p.2)]⟩) (fun p => p.1 <= fi.length /\ p.2.length = (vars + 1).toNat /\ ∀ j (h : j < fi.length), p.1 <= j -> ∀ m : Nat, fi[j] <= m -> p.2.getD m false = false) (fun p => fi.length - p.1) (0, List.replicate (vars + 1).toNat false) ?_ ⟨by omega, by simp, fun j h _ m _ => rep_false _ _⟩ ?_
 ·exact zal rfl
 rintro ⟨i, U⟩ ⟨hi, hUl, hU⟩
 dsimp only at hi hUl hU ⊢
 by_cases hif : i < fi.length
 ·have hit : i < ty.length := by omega
  have hr1 := hr i hif hit
  have ht1 := hty1 _ (List.getElem_mem hit)
  have hm1 := fun j (h : j < fi.length) (hij : i < j) => hmono i j h hit hij
  have hU1 := hU i hif (Nat.le_refl _)
  clear hU hr hmono hty1 hall hty hs1 hs2 hcl hnm htm
  obtain ⟨p0, hp0⟩ : ∃ p0 : Nat, fi[i] = (p0 : Int) := ⟨fi[i].toNat, by omega⟩
  (repeat' first | refine Qu rfl ?_ | refine QA rfl ?_ | refine Qv rfl ?_ | refine Qb rfl rfl rfl ?_ | refine Ql rfl rfl (by first | assumption | omega | (simp; done) | (simp; omega)) ?_ | refine QL rfl rfl ?_ | refine qd rfl rfl (by omega) ?_ | refine s_mul rfl rfl (by omega) ?_ | refine Qj rfl ?_ | refine Qd rfl rfl ?_ | refine Qe ?_ | refine Qs rfl ?_ | refine Qg ?_ | refine Qa ?_ | refine Qf ?_ | refine Qk ?_ | refine Qp rfl (by omega) ?_ | fail)
  refine Wv (fun (p : Nat × List Bool) => ⟨[(2, .ptr 0 g1 0), (6, .ref 1 g2 0 (vars + 1).toNat 1), (7, .i i), (8, .i (4 - 3 * ty[i])), (9, .i p.1)], [.row g1 [.i vars, QG cl, QG nm, QG ty, QG fi], .row g2 (Qt p.2)]⟩) (fun p => p0 <= p.1 /\ (p.1 : Int) <= fi[i] + (4 - 3 * ty[i]) /\ p.2.length = (vars + 1).toNat /\ ∀ m : Nat, p.1 <= m -> p.2.getD m false = false) (fun p => (vars + 2).toNat - p.1) (p0, U) ?_ ⟨Nat.le_refl _, by omega, hUl, fun m hm => hU1 m (by omega)⟩ ?_
  ·dsimp only
   rw [<- hp0]
   exact zal rfl
  rintro ⟨K, V⟩ ⟨hK0, hK, hVl, hV⟩
  dsimp only at hK0 hK hVl hV ⊢
  by_cases hlt : (K : Int) < fi[i] + (4 - 3 * ty[i])
  ·have hKV : K < V.length := by omega
   have hVK : V[K] = false := by
    have := hV K (Nat.le_refl _)
    rwa [List.getD_eq_getElem?_getD, List.getElem?_eq_getElem hKV] at this
   have hV' : ∀ m : Nat, K + 1 <= m -> (V.set K true).getD m false = false := fun m hm => by
    rw [List.getD_eq_getElem?_getD, List.getElem?_set_ne (by omega), <- List.getD_eq_getElem?_getD]
    exact hV m (by omega)
   have hVl' : (V.set K true).length = (vars + 1).toNat := by rw [List.length_set]; exact hVl
   clear hU1 hV hm1
   (repeat' first | refine Qu rfl ?_ | refine Qv rfl ?_ | refine Qb rfl rfl rfl ?_ | refine Wj rfl rfl rfl (by first | assumption | omega) rfl ?_ | refine Ql rfl rfl (by first | assumption | omega | (simp; done) | (simp; omega)) ?_ | refine WF rfl rfl rfl (by omega) ?_ | refine QL rfl rfl ?_ | refine s_gtr rfl rfl ?_ | refine Q5 rfl rfl (by omega) ?_ | refine Wm rfl rfl ?_ | refine Qd rfl rfl ?_ | refine Qe ?_ | refine Qs rfl ?_ | refine WK rfl rfl rfl rfl ?_ | refine Wc rfl rfl (by omega) ?_ | refine Qg ?_ | refine Qa ?_ | refine Qf ?_ | refine Qk ?_ | refine Qp rfl (by omega) ?_ | refine Qr rfl (by omega) ?_ | fail)
   rw [hVK]
   (repeat' first | refine Qu rfl ?_ | refine QA rfl ?_ | refine WF rfl rfl rfl (by omega) ?_ | refine Q5 rfl rfl (by omega) ?_ | refine Wk rfl rfl rfl rfl rfl (by first | assumption | omega) rfl ?_ | refine Qe ?_ | refine Qs rfl ?_ | refine QZ ?_ | refine Qa ?_ | refine Qk ?_ | refine Qo rfl ?_ | fail)
   refine ⟨(K + 1, V.set K true), ⟨by show p0 <= K + 1; omega, by show ((K + 1 : Nat) : Int) <= _; omega, hVl', hV'⟩, by show (vars + 2).toNat - (K + 1) < (vars + 2).toNat - K; omega, ?_⟩
   exact zal rfl
  ·have hU' : ∀ j (h : j < fi.length), i + 1 <= j -> ∀ m : Nat, fi[j] <= m -> V.getD m false = false := fun j h hij m hm => by
    have := hm1 j h hij
    exact hV m (by omega)
   clear hV hU1 hm1
   (repeat' first | refine Qu rfl ?_ | refine QA rfl ?_ | refine Qv rfl ?_ | refine Qb rfl rfl rfl ?_ | refine Ql rfl rfl (by first | assumption | omega | (simp; done) | (simp; omega)) ?_ | refine QL rfl rfl ?_ | refine Q5 rfl rfl (by omega) ?_ | refine Qd rfl rfl ?_ | refine Qe ?_ | refine Qs rfl ?_ | refine Qg ?_ | refine Qa ?_ | refine Qr rfl (by omega) ?_ | refine Q2 rfl ?_ | fail)
   refine ⟨(i + 1, V), ⟨by show i + 1 <= fi.length; omega, hVl, hU'⟩, by show fi.length - (i + 1) < fi.length - i; omega, ?_⟩
   exact zal rfl
 ·clear hU hr hmono hty1 hall hty hs1 hs2 hnm htm
  (repeat' first | refine Qu rfl ?_ | refine QA rfl ?_ | refine Qb rfl rfl rfl ?_ | refine QL rfl rfl ?_ | refine Qj rfl ?_ | refine Qd rfl rfl ?_ | refine Qe ?_ | refine Qs rfl ?_ | refine Qg ?_ | refine Qa ?_ | refine Qf ?_ | refine Qr rfl (by omega) ?_ | refine Q2 rfl ?_ | fail)
  refine Wv (fun (i : Nat) => ⟨[(2, .ptr 0 g1 0), (10, .i i)], [.row g1 [.i vars, QG cl, QG nm, QG ty, QG fi], .row g2 (Qt U)]⟩) (fun i => i <= cl.length) (fun i => cl.length - i) 0 ?_ (by omega) ?_
  ·exact zal rfl
  intro i hi
  by_cases hic : i < cl.length
  ·obtain ⟨hcl1, hcl2⟩ := hcl _ (List.getElem_mem hic)
   clear hcl
   (repeat' first | refine Qu rfl ?_ | refine QA rfl ?_ | refine Qb rfl rfl rfl ?_ | refine QL rfl rfl ?_ | refine Qj rfl ?_ | refine Qd rfl rfl ?_ | refine Qe ?_ | refine Qs rfl ?_ | refine Qg ?_ | refine Qa ?_ | refine Qf ?_ | refine Qk ?_ | refine Qp rfl (by omega) ?_ | fail)
   refine Wv (fun (k : Nat) => ⟨[(2, .ptr 0 g1 0), (10, .i i), (11, .i k)], [.row g1 [.i vars, QG cl, QG nm, QG ty, QG fi], .row g2 (Qt U)]⟩) (fun k => k <= cl[i].length) (fun k => cl[i].length - k) 0 ?_ (by omega) ?_
   ·exact zal rfl
   intro k hk
   by_cases hkc : k < cl[i].length
   ·have hx := hcl2 _ (List.getElem_mem hkc)
    clear hcl2
    (repeat' first | refine Qu rfl ?_ | refine QA rfl ?_ | refine Qv rfl ?_ | refine Qb rfl rfl rfl ?_ | refine Ql rfl rfl (by first | assumption | omega | (simp; done) | (simp; omega)) ?_ | refine QL rfl rfl ?_ | refine s_gtr rfl rfl ?_ | refine QJ rfl rfl ?_ | refine Q5 rfl rfl (by omega) ?_ | refine Qj rfl ?_ | refine Wm rfl rfl ?_ | refine s_neg rfl (by omega) ?_ | refine Qd rfl rfl ?_ | refine Qe ?_ | refine Qs rfl ?_ | refine WK rfl rfl rfl rfl ?_ | refine Wc rfl rfl (by omega) ?_ | refine Qg ?_ | refine Qa ?_ | refine Qf ?_ | refine Qk ?_ | refine Qp rfl (by omega) ?_ | refine Qr rfl (by omega) ?_ | fail)
    refine ⟨k + 1, by omega, by omega, ?_⟩
    exact zal rfl
   ·clear hcl2
    (repeat' first | refine Qu rfl ?_ | refine QA rfl ?_ | refine Qv rfl ?_ | refine Qb rfl rfl rfl ?_ | refine Ql rfl rfl (by first | assumption | omega | (simp; done) | (simp; omega)) ?_ | refine QL rfl rfl ?_ | refine Q5 rfl rfl (by omega) ?_ | refine Qj rfl ?_ | refine Qd rfl rfl ?_ | refine Qe ?_ | refine Qs rfl ?_ | refine Qg ?_ | refine Qa ?_ | refine Qr rfl (by omega) ?_ | refine Q2 rfl ?_ | fail)
    refine ⟨i + 1, by omega, by omega, ?_⟩
    exact zal rfl
  ·clear hcl
   (repeat' first | refine Qu rfl ?_ | refine QA rfl ?_ | refine Qb rfl rfl rfl ?_ | refine QL rfl rfl ?_ | refine Qj rfl ?_ | refine Qd rfl rfl ?_ | refine Qe ?_ | refine Qs rfl ?_ | refine Qg ?_ | refine Qa ?_ | refine Qr rfl (by omega) ?_ | refine Q2 rfl ?_ | refine Qq ?_ | fail)
   exact e_1 (Tryd.results14) (Qh rfl) (Qy (σ := []) (r := [_, _]) ⟨rfl, rfl⟩)
end Go.Proofs
end
section
namespace Go.Proofs
open Go.Bl Go.Av Go.Fo
/-! The variables' nodes. -/
def ndM : Nd -> Int
 | .mk _ _ m _ => m
mutual
theorem nodesN_vars : ∀ t : Nd, (Ze t).map (fun x => (ndN x, ndM x)) = QM t
 | .mk k n m ks => by
  rw [Ze, QM, List.map_append, nodesL_vars ks]
  split <;> rfl
theorem nodesL_vars : ∀ ts : List Nd, (W9 ts).map (fun x => (ndN x, ndM x)) = QO ts
 | [] => rfl
 | x :: r => by rw [W9, QO, List.map_append, nodesN_vars x, nodesL_vars r]
end
theorem any_vars (ts : List Nd) (n : Int) : (W9 ts).any (fun x => decide (ndN x = n)) = (QO ts).any (fun p => decide (p.1 = n)) := by
 rw [<- nodesL_vars, List.any_map]; rfl
theorem any_iff {l : List (Int × Int)} {n : Int} : l.any (fun p => decide (p.1 = n)) = true ↔ ∃ p ∈ l, p.1 = n := by
 rw [List.any_eq_true]
 exact ⟨fun ⟨p, h1, h2⟩ => ⟨p, h1, of_decide_eq_true h2⟩, fun ⟨p, h1, h2⟩ => ⟨p, h1, decide_eq_true h2⟩⟩
theorem allTo_nm {M : List (Int × Int)} {L : List Nd} (h : ∀ n, L.any (fun x => decide (ndN x = n)) = (W8 M n).isSome) : ∀ i, allTo L i = (Zi M i).nm
 | 0 => rfl
 | i + 1 => by
  rw [allTo, Zi, allTo_nm h i, h]
  unfold stepV
  cases W8 M (i : Int) <;> rfl
theorem mem_nm {M : List (Int × Int)} : ∀ {i : Nat} {n : Int}, n ∈ (Zi M i).nm ↔ 0 <= n /\ n < i /\ (W8 M n).isSome = true
 | 0, n => ⟨fun h => (by cases h), fun h => by omega⟩
 | i + 1, n => by
  rw [Zi]
  unfold stepV
  cases hg : W8 M (i : Int) with
  | none =>
   show n ∈ (Zi M i).nm ↔ _
   rw [mem_nm]
   constructor
   ·rintro ⟨h1, h2, h3⟩; exact ⟨h1, by omega, h3⟩
   ·rintro ⟨h1, h2, h3⟩
    refine ⟨h1, ?_, h3⟩
    by_cases e : n = i
    ·rw [e, hg] at h3; cases h3
    ·omega
  | some m =>
   show n ∈ (Zi M i).nm ++ [(i : Int)] ↔ _
   rw [List.mem_append, mem_nm, List.mem_singleton]
   constructor
   ·rintro (⟨h1, h2, h3⟩ | h)
    ·exact ⟨h1, by omega, h3⟩
    ·exact ⟨by omega, by omega, by rw [h, hg]; rfl⟩
   ·rintro ⟨h1, h2, h3⟩
    by_cases e : n = i
    ·exact .inr e
    ·exact .inl ⟨h1, by omega, h3⟩
theorem foundM_ok {F : Int -> Int} {ts : List Nd} (hts : Lot F ts) : SubF (WX ts) F /\ ∀ n, (W8 (WX ts) n).isSome = true ↔ ∃ p ∈ QO ts, p.1 = n := by
 have h := found_ok (F := F) (ts := ts) (M := []) hts.ty hts.con (fun n m h => by cases h)
 refine ⟨h.2.1, fun n => (h.2.2 n).trans ⟨fun h => h.elim (fun h => by cases h) id, .inr⟩⟩
theorem blast_nm {F : Int -> Int} {ts : List Nd} (hts : Lot F ts) : allTo (W9 ts) 64 = (QX ts).nm := by
 refine allTo_nm (fun n => ?_) 64
 rw [any_vars, Bool.eq_iff_iff, any_iff, (foundM_ok hts).2]
theorem blast_rb {F : Int -> Int} {ts : List Nd} (hts : Lot F ts) : RB F 64 (QX ts) := varsT_rb (foundM_ok hts).1 64
theorem mem_varsL {t : Nd} {p : Int × Int} : ∀ {ts : List Nd}, t ∈ ts -> p ∈ QM t -> p ∈ QO ts
 | x :: r, h, hp => by
  rw [QO, List.mem_append]
  rcases List.mem_cons.1 h with rfl | h
  ·exact .inl hp
  ·exact .inr (mem_varsL h hp)
theorem of_varsL {p : Int × Int} : ∀ {ts : List Nd}, p ∈ QO ts -> ∃ t ∈ ts, p ∈ QM t
 | x :: r, h => by
  rw [QO, List.mem_append] at h
  rcases h with h | h
  ·exact ⟨x, by simp, h⟩
  ·obtain ⟨t, h1, h2⟩ := of_varsL h
   exact ⟨t, by simp [h1], h2⟩
theorem varsN_rng {t : Nd} {k : Int} (h : Tt t k) : ∀ p ∈ QM t, (0 <= p.1 /\ p.1 <= 63) /\ (p.2 = 0 \/ p.2 = 1) := by
 induction h with
 | num _ => intro p hp; simp [QM, QO] at hp
 | tru _ => intro p hp; simp [QM, QO] at hp
 | @var n m h1 h2 =>
   intro p hp; have : p = (n, m) := by simpa [QM, QO] using hp
   rw [this]; exact ⟨h1, h2⟩
 | bin _ _ _ h1 h2 => intro p hp; simp [QM, QO] at hp; rcases hp with hp | hp; exact h1 p hp; exact h2 p hp
 | log _ _ _ h1 h2 => intro p hp; simp [QM, QO] at hp; rcases hp with hp | hp; exact h1 p hp; exact h2 p hp
 | not _ h1 => intro p hp; simp [QM, QO] at hp; exact h1 p hp
 | cond _ _ _ h1 h2 h3 => intro p hp; simp [QM, QO] at hp; rcases hp with hp | hp | hp; exact h1 p hp; exact h2 p hp; exact h3 p hp
theorem mem_getD {l : List Int} {x : Int} (h : x ∈ l) : ∃ j, j < l.length /\ l.getD j 0 = x := by
 obtain ⟨j, hj, e⟩ := List.getElem_of_mem h
 exact ⟨j, hj, by rw [List.getD_eq_getElem?_getD, List.getElem?_eq_getElem hj]; exact e⟩
theorem getD_get {l : List Int} {j : Nat} (h : j < l.length) : l.getD j 0 = l[j] := by rw [List.getD_eq_getElem?_getD, List.getElem?_eq_getElem h]; rfl
theorem blast_at {F : Int -> Int} {ts : List Nd} (hts : Lot F ts) {t : Nd} (ht : t ∈ ts) : ∀ p ∈ QM t, ∃ j, j < (QX ts).nm.length /\ (QX ts).nm.getD j 0 = p.1 := fun p hp => by
 have hr := varsN_rng (hts.ty t ht) p hp
 exact mem_getD (mem_nm.2 ⟨hr.1.1, by omega, ((foundM_ok hts).2 p.1).2 ⟨p, mem_varsL ht hp, rfl⟩⟩)
/-! The types. -/
theorem kindN_ok {F : Int -> Int} (hF : ∀ n, 0 <= F n) (x : Int) (t : Nd) : (∀ p ∈ QM t, p.2 = F p.1) -> kindN t x = if (QM t).any (fun p => decide (p.1 = x)) = true then F x else -1 := by
 induction t using Nd.ind with
 | h k n m ks ih =>
 intro hp
 have hks : (∀ t ∈ ks, ∀ p ∈ QM t, p.2 = F p.1) := fun t ht p hpt => hp p (by rw [QM, List.mem_append]; exact .inr (mem_varsL ht hpt))
 have hl : ∀ ks : List Nd, (∀ t ∈ ks, kindN t x = if (QM t).any (fun p => decide (p.1 = x)) = true then F x else -1) -> kindL ks x = if (QO ks).any (fun p => decide (p.1 = x)) = true then F x else -1 := fun ks => by
  induction ks with
  | nil => intro _; rfl
  | cons y r ihr =>
   intro h
   rw [kindL, QO, List.any_append, ihr fun t ht => h t (by simp [ht]), h y (by simp)]
   cases (QM y).any (fun p => decide (p.1 = x)) with
   | true => rw [if_pos rfl, if_pos (hF x), Bool.true_or, if_pos rfl]
   | false =>
    simp only [Bool.false_eq_true, if_false, Bool.false_or]
    rw [if_neg (by decide)]
 rw [kindN, QM, List.any_append, hl ks fun t ht => ih t ht (hks t ht)]
 by_cases h : k = 6 /\ n = x
 ·rw [if_pos h, if_pos h.1]
  have := hp (n, m) (by rw [QM, if_pos h.1]; simp)
  rw [show m = F n from this, h.2]
  simp
 ·rw [if_neg h]
  by_cases h6 : k = 6
  ·rw [if_pos h6]
   have hn : decide (n = x) = false := decide_eq_false fun e => h ⟨h6, e⟩
   rw [List.any_cons, List.any_nil]
   dsimp only
   rw [hn]; rfl
  ·rw [if_neg h6]; rfl
theorem kindL_ok {F : Int -> Int} (hF : ∀ n, 0 <= F n) {ts : List Nd} (hc : ∀ t ∈ ts, Con F t) {x : Int} (hx : ∃ p ∈ QO ts, p.1 = x) : kindL ts x = F x := by
 have h := kindN_ok hF x (.mk 0 0 0 ts) (fun p hp => by
  rw [QM, if_neg (by decide), List.nil_append] at hp
  obtain ⟨t, h1, h2⟩ := of_varsL hp
  exact hc t h1 p h2)
 rw [kindN, if_neg (fun h => absurd h.1 (by decide)), QM, if_neg (show ¬ (0 : Int) = 6 by decide), List.nil_append, if_pos (any_iff.2 hx)] at h
 exact h
theorem blast_ty {F : Int -> Int} (hF : ∀ n, 0 <= F n) {ts : List Nd} (hts : Lot F ts) : (QX ts).nm.map (kindL ts) = (QX ts).ty := by
 have h := blast_rb hts
 refine List.ext_getElem (by rw [List.length_map, h.l2]) fun j h1 h2 => ?_
 rw [List.length_map] at h1
 rw [List.getElem_map, <- getD_get h2, h.ty j h1, getD_get h1]
 exact kindL_ok hF hts.con (((foundM_ok hts).2 _).1 (mem_nm.1 (List.getElem_mem h1)).2.2)
/-! The sizes. -/
theorem nodup_le : ∀ {l m : List Int}, l.Nodup -> l ⊆ m -> l.length <= m.length
 | [], m, _, _ => by simp
 | x :: r, m, h, hs => by
  have h := List.nodup_cons.1 h
  have hx : x ∈ m := hs (by simp)
  have h1 := nodup_le (m := m.erase x) h.2 fun y hy => (List.mem_erase_of_ne (fun e => h.1 (by rw [<- e]; exact hy))).2 (hs (by simp [hy]))
  rw [List.length_erase_of_mem hx] at h1
  have := List.length_pos_of_mem hx
  rw [List.length_cons]; omega
theorem nm_len {M : List (Int × Int)} {l : List (Int × Int)} (h : ∀ n, (W8 M n).isSome = true -> ∃ p ∈ l, p.1 = n) (i : Nat) : (Zi M i).nm.length <= l.length := by
 have hnd : ∀ i, (Zi M i).nm.Nodup := fun i => by
  induction i with
  | zero => exact List.nodup_nil
  | succ i ih =>
   rw [Zi]
   unfold stepV
   cases W8 M (i : Int) with
   | none => exact ih
   | some m =>
    show ((Zi M i).nm ++ [(i : Int)]).Nodup
    rw [List.nodup_append]
    refine ⟨ih, by simp, fun a ha b hb e => ?_⟩
    rw [List.mem_singleton.1 hb] at e
    subst e
    have := (mem_nm.1 ha).2.1
    omega
 have hs : (Zi M i).nm ⊆ l.map Prod.fst := fun n hn => by
  obtain ⟨p, h1, h2⟩ := h n (mem_nm.1 hn).2.2
  exact List.mem_map.2 ⟨p, h1, h2⟩
 have := nodup_le (hnd i) hs
 rwa [List.length_map] at this
theorem terms_le2 {A : List (Int × Int)} {ts : List Nd} (hty : ∀ t ∈ ts, Tt t 1) (s0 : St) : ∀ i, i <= ts.length -> Le2 (1025 * QN (ts.take i)) s0 (WP A s0 (ts.take i)).1
 | 0, _ => .refl s0
 | i + 1, hi => by
  have hti := List.getElem_mem (show i < ts.length by omega)
  rw [termsT_succ A s0 (show i < ts.length by omega), sizeL_take ts i (by omega)]
  have := sizeN_pos ts[i]
  exact (((terms_le2 hty s0 i (by omega)).trans (bits_le2 (hty _ hti) _ _).2).trans (add_le2 _ _)).mono (by omega)
theorem terms_lv {A : List (Int × Int)} {ts : List Nd} (hty : ∀ t ∈ ts, Tt t 1) (s0 : St) : ∀ i, i <= ts.length -> ∃ c, c + 100 * (QO (ts.take i)).length <= 100 * QN (ts.take i) /\ Lv c s0 (WP A s0 (ts.take i)).1
 | 0, _ => ⟨0, by simp [QO, QN], .refl s0⟩
 | i + 1, hi => by
  have hti := List.getElem_mem (show i < ts.length by omega)
  obtain ⟨c, h1, h2⟩ := terms_lv (A := A) hty s0 i (by omega)
  obtain ⟨d, h3, h4⟩ := bits_lv (A := A) (hty _ hti)
  have app : ∀ a b : List Nd, QO (a ++ b) = QO a ++ QO b := fun a b => by
   induction a with
   | nil => rfl
   | cons x r ih => rw [List.cons_append, QO, QO, ih, List.append_assoc]
  refine ⟨c + d, ?_, ?_⟩
  ·rw [sizeL_take ts i (by omega), List.take_succ_eq_append_getElem (by omega), app, List.length_append, QO, QO, List.append_nil]; omega
  ·rw [termsT_succ A s0 (show i < ts.length by omega)]
   have h5 := h2.trans (h4 (WP A s0 (ts.take i)).1 (WP A s0 (ts.take i)).2).2
   unfold Lv at h5 ⊢
   rw [WH]; exact h5
theorem blast_size {F : Int -> Int} {ts : List Nd} (hts : Lot F ts) : ((Ww ts).1.vars <= 1 + 100 * (QN ts : Int)) /\ (Ww ts).1.cl.length <= 1 + 1025 * QN ts /\ (∀ c ∈ (Ww ts).1.cl, c.length <= 9) /\ (QX ts).v <= (Ww ts).1.vars := by
 have h := blast_rb hts
 have h2 := terms_le2 (A := (QX ts).A) hts.ty ⟨(QX ts).v, [[1]]⟩ ts.length (Nat.le_refl _)
 obtain ⟨c, h3, h4⟩ := terms_lv (A := (QX ts).A) hts.ty ⟨(QX ts).v, [[1]]⟩ ts.length (Nat.le_refl _)
 rw [List.take_length] at h2 h3 h4
 have hn : (QX ts).nm.length <= (QO ts).length := nm_len (fun n => ((foundM_ok hts).2 n).1) 64
 have hv := h.v2
 unfold Lv at h4
 have h4 : (Ww ts).1.vars <= (QX ts).v + c := h4
 have h5 := h2.hi
 have h5 : (Ww ts).1.cl.length <= 1 + 1025 * QN ts := h5
 exact ⟨by omega, h5, h2.len fun x hx => by rw [List.mem_singleton.1 hx]; decide, h2.le.v⟩
theorem blast_nofull {F : Int -> Int} {ts : List Nd} (hts : Lot F ts) (h : ZH (Ww ts).1 = true) : 14 <= QN ts := by
 obtain ⟨h1, h2, _, _⟩ := blast_size hts
 unfold ZH at h
 rw [Bool.or_eq_true] at h
 rcases h with h | h
 ·have := of_decide_eq_true h; omega
 ·have := of_decide_eq_true h; omega
/-! What follows. -/
theorem blast_sem {F : Int -> Int} {ts : List Nd} (hts : Lot F ts) {vals : List Int} (hv : Vok vals) (hvt : Vtr F vals) (nf : ZH (Ww ts).1 = false) :
  ∃ a, GoodB (fun v => 2 <= v /\ v <= (QX ts).v) (∀ t ∈ ts, evN vals t = 1) (Ww ts).1.vars a (Ww ts).1 /\ Agree (QX ts).v (asg vals (QX ts)) a /\
   ∀ t ∈ ts, evN vals t ≠ 1 -> ∃ x, kept [x] ∈ (Ww ts).1.cl /\ Lt (Ww ts).1.vars x /\ ltv a x = false := by
 have h := blast_rb hts
 have hs := terms_sem (p := ∀ t ∈ ts, evN vals t = 1) (A := (QX ts).A) (a0 := asg vals (QX ts)) (s0 := ⟨(QX ts).v, [[1]]⟩) hv hts.ty hts.con (fun h => h) (asg_good (vals := vals) h (∀ t ∈ ts, evN vals t = 1)) (fun t ht => asg_var h hvt (hts.con t ht) (blast_at hts ht)) ts.length (Nat.le_refl _)
 rw [List.take_length] at hs
 obtain ⟨a, h1, _, h3⟩ := hs nf
 exact ⟨a, h1.good, h1.ag, h3⟩
theorem nofull_bd {s : St} (nf : ZH s = false) : s.vars <= 2000 /\ s.cl.length <= 16384 := by
 unfold ZH at nf
 rw [Bool.or_eq_false_iff] at nf
 have h1 := of_decide_eq_false nf.1
 have h2 := of_decide_eq_false nf.2
 exact ⟨by omega, by omega⟩
theorem blast_follow {F : Int -> Int} {ts : List Nd} (hts : Lot F ts) {vals : List Int} (hv : Vok vals) (hvt : Vtr F vals) (nf : ZH (Ww ts).1 = false) :
  ∃ a, GoodB (fun v => 2 <= v /\ v <= (QX ts).v) (∀ t ∈ ts, evN vals t = 1) (Ww ts).1.vars a (Ww ts).1 /\ Agree (QX ts).v (asg vals (QX ts)) a /\
   followM (Ww ts).1.cl (litsV vals (QX ts)) = if (ts.all fun t => decide (evN vals t = 1)) = true then some (alL a (Ww ts).1.vars.toNat) else none := by
 obtain ⟨a, g, ag, hf⟩ := blast_sem hts hv hvt nf
 have h := blast_rb hts
 have hsz := blast_size hts
 have hb : ∀ v, 1 <= v -> v <= (Ww ts).1.vars -> (2 <= v /\ v <= (QX ts).v) -> al a v ∈ litsV vals (QX ts) := fun v _ _ ⟨h1, h2⟩ => by
  have e : al a v = al (asg vals (QX ts)) v := by unfold al; rw [ag v.toNat (by omega)]
  rw [e]; exact lits_al h h1 h2
 refine ⟨a, g, ag, ?_⟩
 by_cases hall : ∀ t ∈ ts, evN vals t = 1
 ·rw [if_pos (List.all_eq_true.2 fun t ht => decide_eq_true (hall t ht))]
  refine follow_all g hall (nofull_bd nf).1 (fun x hx => ?_) hb
  obtain ⟨q1, q2⟩ := lits_true (vals := vals) h hx
  exact ⟨q1.mono hsz.2.2.2, by rw [Zy ag q1]; exact q2⟩
 ·rw [if_neg fun h => hall fun t ht => of_decide_eq_true (List.all_eq_true.1 h t ht)]
  have hex : ∃ t ∈ ts, evN vals t ≠ 1 := by
   apply Classical.byContradiction
   intro hno
   exact hall fun t ht => Decidable.byContradiction fun hn => hno ⟨t, ht, hn⟩
  obtain ⟨t, ht, hn⟩ := hex
  obtain ⟨x, x1, x2, x3⟩ := hf t ht hn
  exact follow_none g hb x1 x2 x3
end Go.Proofs
end
section
namespace Go.Proofs
open Go.Av Go.Bl
mutual
def Z8 : Nd -> Int
 | .mk k n m ks => if k = 4 then 0 else if k = 5 then 1 else if k = 6 then m else if k = 9 then (if 10 <= n then 1 else 0) else if k = 10 then 1 else if k = 29 then typ3 ks else -1
def typ3 : List Nd -> Int
 | [_, y, _] => Z8 y
 | _ => -1
end
def Zh (k n m : Int) (ks : List Nd) : Option (List Int) :=
 if k = 4 then (if m = 0 /\ -8 <= n /\ n <= 7 then some [] else none)
 else if k = 5 then (if m = 0 /\ 0 <= n /\ n <= 1 then some [] else none)
 else if k = 6 then (if 0 <= n /\ n <= 63 /\ 0 <= m /\ m <= 1 then some [] else none)
 else if k = 9 then (if m = 0 /\ 0 <= n /\ n < 14 then some (if n = 12 \/ n = 13 then [1, 1] else [0, 0]) else none)
 else if k = 10 then (if m = 0 /\ n = 0 then some [1] else none)
 else if k = 29 then (if m = 0 /\ n = 0 /\ ks.length = 3 then some [1, typ3 ks, typ3 ks] else none)
 else none
mutual
def shM : Nd -> Bool
 | .mk k n m ks => match Zh k n m ks with
  | none => false
  | some w => decide (ks.length = w.length) && shL ks w
def shL : List Nd -> List Int -> Bool
 | x :: r, w :: v => shM x && decide (Z8 x = w) && shL r v
 | _, _ => true
end
theorem W0 (k n m : Int) (ks : List Nd) : shM (.mk k n m ks) = match Zh k n m ks with
  | none => false
  | some w => decide (ks.length = w.length) && shL ks w := by rw [shM]
theorem shL_at : ∀ {ks : List Nd} {w : List Int}, shL ks w = true -> ∀ i (h : i < ks.length) (h' : i < w.length), shM ks[i] = true /\ Z8 ks[i] = w[i]
 | [], _, _, i, h, _ => absurd h (by simp)
 | x :: r, [], _, i, _, h' => absurd h' (by simp)
 | x :: r, a :: v, hs, i, h, h' => by
  rw [shL, Bool.and_eq_true, Bool.and_eq_true] at hs
  cases i with
  | zero => exact ⟨hs.1.1, of_decide_eq_true hs.1.2⟩
  | succ i => exact shL_at hs.2 i (by simpa using h) (by simpa using h')
theorem shL_of : ∀ {ks : List Nd} {w : List Int}, (∀ i (h : i < ks.length) (h' : i < w.length), shM ks[i] = true /\ Z8 ks[i] = w[i]) -> shL ks w = true
 | [], w, _ => by rw [shL]; intros; contradiction
 | x :: r, [], _ => by rw [shL]; intros; contradiction
 | x :: r, a :: v, hs => by
  have h0 := hs 0 (by simp) (by simp)
  rw [shL, Bool.and_eq_true, Bool.and_eq_true]
  exact ⟨⟨h0.1, decide_eq_true h0.2⟩, shL_of fun i h h' => hs (i + 1) (by simpa using h) (by simpa using h')⟩
theorem tt_sh {t : Nd} {k : Int} (h : Tt t k) : shM t = true /\ Z8 t = k := by
 induction h with
 | num h => exact ⟨by rw [W0, Zh, if_pos rfl, if_pos ⟨rfl, h⟩]; rfl, by rw [Z8]; rfl⟩
 | tru h => exact ⟨by rw [W0, Zh, if_neg (by decide), if_pos rfl, if_pos ⟨rfl, by omega⟩]; rfl, by rw [Z8]; rfl⟩
 | var h1 h2 => exact ⟨by rw [W0, Zh, if_neg (by decide), if_neg (by decide), if_pos rfl, if_pos ⟨h1.1, h1.2, by omega⟩]; rfl, by rw [Z8]; rfl⟩
 | @bin n a b hn ha hb iha ihb =>
  refine ⟨?_, ?_⟩
  ·rw [W0, Zh, if_neg (by decide), if_neg (by decide), if_neg (by decide), if_pos rfl, if_pos ⟨rfl, by omega⟩, if_neg (by omega)]
   dsimp only
   rw [shL, shL, shL]
   ·simp [iha, ihb]
   ·intros; contradiction
  ·rw [Z8, if_neg (by decide), if_neg (by decide), if_neg (by decide), if_pos rfl]
   unfold truthM
   by_cases h10 : 10 <= n
   ·rw [if_pos h10, if_pos (decide_eq_true (by omega))]
   ·rw [if_neg h10, if_neg (by simp; omega)]
 | @log n a b hn ha hb iha ihb =>
  refine ⟨?_, ?_⟩
  ·rw [W0, Zh, if_neg (by decide), if_neg (by decide), if_neg (by decide), if_pos rfl, if_pos ⟨rfl, by omega⟩, if_pos (by omega)]
   dsimp only
   rw [shL, shL, shL]
   ·simp [iha, ihb]
   ·intros; contradiction
  ·rw [Z8, if_neg (by decide), if_neg (by decide), if_neg (by decide), if_pos rfl, if_pos (by omega)]
 | @not a ha iha =>
  refine ⟨?_, ?_⟩
  ·rw [W0, Zh, if_neg (by decide), if_neg (by decide), if_neg (by decide), if_neg (by decide), if_pos rfl, if_pos ⟨rfl, rfl⟩]
   dsimp only
   rw [shL, shL]
   ·simp [iha]
   ·intros; contradiction
  ·rw [Z8]; rfl
 | @cond c a b k hc ha hb ihc iha ihb =>
  refine ⟨?_, ?_⟩
  ·rw [W0, Zh, if_neg (by decide), if_neg (by decide), if_neg (by decide), if_neg (by decide), if_neg (by decide), if_pos rfl, if_pos ⟨rfl, rfl, rfl⟩]
   dsimp only
   rw [typ3, shL, shL, shL, shL]
   ·simp [ihc, iha, ihb]
   ·intros; contradiction
  ·rw [Z8, if_neg (by decide), if_neg (by decide), if_neg (by decide), if_neg (by decide), if_neg (by decide), if_pos rfl, typ3]; exact iha.2
theorem sh_tt (t : Nd) : shM t = true -> Tt t (Z8 t) := by
 induction t using Nd.ind with
 | h k n m ks ih =>
 intro hs
 rw [W0] at hs
 have two : ∀ {a b : Int}, ks.length = 2 -> shL ks [a, b] = true -> ∃ x y, ks = [x, y] /\ Tt x a /\ Tt y b := fun {a b} hl hk => by
  match ks, hl with
  | [x, y], _ =>
   have h0 := shL_at hk 0 (by simp) (by simp)
   have h1 := shL_at hk 1 (by simp) (by simp)
   have t0 := ih x (by simp) h0.1
   have t1 := ih y (by simp) h1.1
   rw [show Z8 x = a from h0.2] at t0
   rw [show Z8 y = b from h1.2] at t1
   exact ⟨x, y, rfl, t0, t1⟩
 by_cases h4 : k = 4
 ·subst h4
  rw [Zh, if_pos rfl] at hs
  split at hs
  ·cases hs
  ·rename_i w hw
   split at hw
   ·rename_i hc
    cases hw
    rw [Bool.and_eq_true] at hs
    have h0 : ks = [] := List.length_eq_zero_iff.1 (of_decide_eq_true hs.1)
    subst h0
    rw [hc.1, Z8, if_pos rfl]
    exact .num hc.2
   ·cases hw
 by_cases h5 : k = 5
 ·subst h5
  rw [Zh, if_neg (by decide), if_pos rfl] at hs
  split at hs
  ·cases hs
  ·rename_i w hw
   split at hw
   ·rename_i hc
    cases hw
    rw [Bool.and_eq_true] at hs
    have h0 : ks = [] := List.length_eq_zero_iff.1 (of_decide_eq_true hs.1)
    subst h0
    rw [hc.1, Z8, if_neg (by decide), if_pos rfl]
    exact .tru (by omega)
   ·cases hw
 by_cases h6 : k = 6
 ·subst h6
  rw [Zh, if_neg (by decide), if_neg (by decide), if_pos rfl] at hs
  split at hs
  ·cases hs
  ·rename_i w hw
   split at hw
   ·rename_i hc
    cases hw
    rw [Bool.and_eq_true] at hs
    have h0 : ks = [] := List.length_eq_zero_iff.1 (of_decide_eq_true hs.1)
    subst h0
    rw [Z8, if_neg (by decide), if_neg (by decide), if_pos rfl]
    exact .var ⟨hc.1, hc.2.1⟩ (by omega)
   ·cases hw
 by_cases h9 : k = 9
 ·subst h9
  rw [Zh, if_neg (by decide), if_neg (by decide), if_neg (by decide), if_pos rfl] at hs
  split at hs
  ·cases hs
  ·rename_i w hw
   split at hw
   ·rename_i hc
    cases hw
    rw [Z8, if_neg (by decide), if_neg (by decide), if_neg (by decide), if_pos rfl, hc.1]
    rw [Bool.and_eq_true] at hs
    obtain ⟨hl, hk⟩ := hs
    have hl := of_decide_eq_true hl
    by_cases h12 : n = 12 \/ n = 13
    ·rw [if_pos h12] at hl hk
     obtain ⟨x, y, rfl, tx, ty⟩ := two hl hk
     rw [if_pos (by omega)]
     exact .log h12 tx ty
    ·rw [if_neg h12] at hl hk
     obtain ⟨x, y, rfl, tx, ty⟩ := two hl hk
     have := Tt.bin (n := n) (by omega) tx ty
     unfold truthM at this
     by_cases h10 : 10 <= n
     ·rw [if_pos h10]; rwa [if_pos (decide_eq_true (by omega))] at this
     ·rw [if_neg h10]; rwa [if_neg (by simp; omega)] at this
   ·cases hw
 by_cases h10 : k = 10
 ·subst h10
  rw [Zh, if_neg (by decide), if_neg (by decide), if_neg (by decide), if_neg (by decide), if_pos rfl] at hs
  split at hs
  ·cases hs
  ·rename_i w hw
   split at hw
   ·rename_i hc
    cases hw
    rw [Z8, if_neg (by decide), if_neg (by decide), if_neg (by decide), if_neg (by decide), if_pos rfl, hc.1, hc.2]
    rw [Bool.and_eq_true] at hs
    obtain ⟨hl, hk⟩ := hs
    match ks, of_decide_eq_true hl with
    | [x], _ =>
     have h0 := shL_at hk 0 (by simp) (by simp)
     have t0 := ih x (by simp) h0.1
     rw [show Z8 x = 1 from h0.2] at t0
     exact .not t0
   ·cases hw
 by_cases h29 : k = 29
 ·subst h29
  rw [Zh, if_neg (by decide), if_neg (by decide), if_neg (by decide), if_neg (by decide), if_neg (by decide), if_pos rfl] at hs
  split at hs
  ·cases hs
  ·rename_i w hw
   split at hw
   ·rename_i hc
    cases hw
    rw [Z8, if_neg (by decide), if_neg (by decide), if_neg (by decide), if_neg (by decide), if_neg (by decide), if_pos rfl, hc.1, hc.2.1]
    rw [Bool.and_eq_true] at hs
    obtain ⟨hl, hk⟩ := hs
    match ks, hc.2.2 with
    | [x, y, z], _ =>
     have h0 := shL_at hk 0 (by simp) (by simp)
     have h1 := shL_at hk 1 (by simp) (by simp)
     have h2 := shL_at hk 2 (by simp) (by simp)
     have t0 := ih x (by simp) h0.1
     have t1 := ih y (by simp) h1.1
     have t2 := ih z (by simp) h2.1
     rw [show Z8 x = 1 from h0.2] at t0
     rw [show Z8 z = typ3 [x, y, z] from h2.2] at t2
     have e : typ3 [x, y, z] = Z8 y := by rw [typ3]
     rw [e] at t2 ⊢
     exact .cond t0 t1 t2
   ·cases hw
 ·rw [Zh, if_neg h4, if_neg h5, if_neg h6, if_neg h9, if_neg h10, if_neg h29] at hs
  cases hs
/-! One type each. -/
def fitS : List (Int × Int) -> List Int -> Option (List Int)
 | [], A => some A
 | p :: r, A => if A.getD p.1.toNat 0 = 2 - p.2 then none else fitS r (A.set p.1.toNat (1 + p.2))
theorem fitS_app : ∀ (a b : List (Int × Int)) (A : List Int), fitS (a ++ b) A = (fitS a A).bind (fitS b)
 | [], b, A => rfl
 | p :: r, b, A => by
  rw [List.cons_append, fitS, fitS]
  split
  ·rfl
  ·exact fitS_app r b _
def fitL (vs : List (Int × Int)) : Bool := (fitS vs (List.replicate 64 0)).isSome
theorem fitS_len : ∀ {vs : List (Int × Int)} {A B : List Int}, fitS vs A = some B -> B.length = A.length
 | [], A, B, h => by cases h; rfl
 | p :: r, A, B, h => by
  rw [fitS] at h
  split at h
  ·cases h
  ·rw [fitS_len h, List.length_set]
def Rng (vs : List (Int × Int)) : Prop := ∀ p ∈ vs, (0 <= p.1 /\ p.1 <= 63) /\ (p.2 = 0 \/ p.2 = 1)
theorem fitS_iff : ∀ {vs : List (Int × Int)} {A : List Int}, Rng vs -> A.length = 64 -> (∀ n, A.getD n 0 = 0 \/ A.getD n 0 = 1 \/ A.getD n 0 = 2) ->
  ((fitS vs A).isSome = true ↔ ∃ F : Int -> Int, (∀ n, F n = 0 \/ F n = 1) /\ (∀ p ∈ vs, p.2 = F p.1) /\ ∀ n : Nat, A.getD n 0 ≠ 0 -> A.getD n 0 = 1 + F n)
 | [], A, _, hl, hA => by
  refine ⟨fun _ => ⟨fun n => if A.getD n.toNat 0 = 2 then 1 else 0, fun n => ?_, fun p hp => (by cases hp), fun n hn => ?_⟩, fun _ => rfl⟩
  ·dsimp only
   split
   ·exact .inr rfl
   ·exact .inl rfl
  ·have := hA n
   have e : ((n : Nat) : Int).toNat = n := by omega
   dsimp only
   rw [e]
   split <;> omega
 | p :: r, A, hr, hl, hA => by
  have hp := hr p (by simp)
  have hpl : p.1.toNat < A.length := by omega
  have hpt : ((p.1.toNat : Nat) : Int) = p.1 := by omega
  rw [fitS]
  split
  ·rename_i he
   refine ⟨fun h => (by cases h), fun ⟨F, f1, f2, f3⟩ => ?_⟩
   have g1 := f2 p (by simp)
   have g2 := f3 p.1.toNat (by omega)
   rw [hpt] at g2
   omega
  ·rename_i he
   have hset : ∀ n, (A.set p.1.toNat (1 + p.2)).getD n 0 = if p.1.toNat = n then 1 + p.2 else A.getD n 0 := fun n => by
    rw [List.getD_eq_getElem?_getD, List.getElem?_set]
    by_cases e : p.1.toNat = n
    ·rw [if_pos e, if_pos e, if_pos (by omega)]; rfl
    ·rw [if_neg e, if_neg e, List.getD_eq_getElem?_getD]
   rw [fitS_iff (vs := r) (fun q hq => hr q (by simp [hq])) (by rw [List.length_set]; exact hl) (fun n => by rw [hset]; split; omega; exact hA n)]
   constructor
   ·rintro ⟨F, f1, f2, f3⟩
    have g1 := f3 p.1.toNat (by rw [hset, if_pos rfl]; omega)
    rw [hset, if_pos rfl, hpt] at g1
    refine ⟨F, f1, fun q hq => ?_, fun n hn => ?_⟩
    ·rcases List.mem_cons.1 hq with rfl | hq
     ·omega
     ·exact f2 q hq
    ·by_cases e : p.1.toNat = n
     ·have := hA n
      rw [<- e, hpt]
      rw [<- e] at this hn
      omega
     ·have := f3 n (by rw [hset, if_neg e]; exact hn)
      rwa [hset, if_neg e] at this
   ·rintro ⟨F, f1, f2, f3⟩
    refine ⟨F, f1, fun q hq => f2 q (by simp [hq]), fun n hn => ?_⟩
    rw [hset]
    by_cases e : p.1.toNat = n
    ·rw [if_pos e, <- e, hpt, f2 p (by simp)]
    ·rw [if_neg e]
     rw [hset, if_neg e] at hn
     exact f3 n hn
theorem fitL_iff {vs : List (Int × Int)} (hr : Rng vs) : fitL vs = true ↔ ∃ F : Int -> Int, (∀ n, F n = 0 \/ F n = 1) /\ ∀ p ∈ vs, p.2 = F p.1 := by
 have h0 : ∀ n, (List.replicate 64 (0 : Int)).getD n 0 = 0 := fun n => by
  rw [List.getD_eq_getElem?_getD, List.getElem?_replicate]; split <;> rfl
 unfold fitL
 rw [fitS_iff hr (by simp) (fun n => .inl (h0 n))]
 exact ⟨fun ⟨F, f1, f2, _⟩ => ⟨F, f1, f2⟩, fun ⟨F, f1, f2⟩ => ⟨F, f1, f2, fun n hn => absurd (h0 n) hn⟩⟩
/-! Lists of terms of truth values. -/
def Poss (ts : List Nd) : Prop := ∃ F : Int -> Int, (∀ n, F n = 0 \/ F n = 1) /\ (∀ t ∈ ts, Tt t 1) /\ ∀ t ∈ ts, Con F t
def truM (t : Nd) : Bool := shM t && fitL (QM t) && decide (Z8 t = 1)
def possM (ts : List Nd) : Bool := ts.all truM && fitL (QO ts)
theorem rngL {ts : List Nd} (h : ∀ t ∈ ts, Tt t 1) : Rng (QO ts) := fun p hp => by
 obtain ⟨t, ht, hpt⟩ := of_varsL hp
 exact varsN_rng (h t ht) p hpt
theorem truM_tt {t : Nd} (h : truM t = true) : Tt t 1 := by
 unfold truM at h
 rw [Bool.and_eq_true, Bool.and_eq_true] at h
 have := sh_tt t h.1.1
 rwa [of_decide_eq_true h.2] at this
theorem possM_iff (ts : List Nd) : possM ts = true ↔ Poss ts := by
 unfold possM
 rw [Bool.and_eq_true, List.all_eq_true]
 constructor
 ·rintro ⟨h1, h2⟩
  have ht : ∀ t ∈ ts, Tt t 1 := fun t ht => truM_tt (h1 t ht)
  obtain ⟨F, f1, f2⟩ := (fitL_iff (rngL ht)).1 h2
  exact ⟨F, f1, ht, fun t htt p hp => f2 p (mem_varsL htt hp)⟩
 ·rintro ⟨F, f1, h1, h2⟩
  refine ⟨fun t ht => ?_, (fitL_iff (rngL h1)).2 ⟨F, f1, fun p hp => ?_⟩⟩
  ·unfold truM
   obtain ⟨s1, s2⟩ := tt_sh (h1 t ht)
   rw [s1, s2, (fitL_iff (varsN_rng (h1 t ht))).2 ⟨F, f1, h2 t ht⟩]; rfl
  ·obtain ⟨t, ht, hpt⟩ := of_varsL hp
   exact h2 t ht p hpt
/-! What the program finds. -/
theorem ctyL_get : ∀ {ks : List Nd} {M M' : List (Int × Int)} {l : List Int}, Wx ks M = (some l, M') -> ∀ i (h : i < ks.length) (h' : i < l.length), ∃ N, (Wq ks[i] N).1 = l[i] /\ 0 <= l[i]
 | [], _, _, _, _, i, h, _ => absurd h (by simp)
 | x :: r, M, M', l, he, i, h, h' => by
  rw [Wx] at he
  split at he
  ·cases he
  ·rename_i hx
   rcases hr : Wx r (Wq x M).2 with ⟨_ | l', M''⟩
   ·rw [hr] at he; cases he
   ·rw [hr] at he
    cases he
    cases i with
    | zero => exact ⟨M, rfl, by show 0 <= (Wq x M).1; omega⟩
    | succ i => exact ctyL_get hr i (by simpa using h) (by simpa using h')
theorem three3 {α : Type} (l : List α) (h : l.length = 3) : ∃ a b c, l = [a, b, c] := by
 match l, h with
 | [a, b, c], _ => exact ⟨a, b, c, rfl⟩
theorem cty_tt (t : Nd) : ∀ M, 0 <= (Wq t M).1 -> Tt t (Wq t M).1 := by
 induction t using Nd.ind with
 | h k n m ks ih =>
 intro M h0
 rw [Wq] at h0 ⊢
 split at h0
 ·exact absurd h0 (show ¬ (0 : Int) <= -1 by decide)
 rename_i hmk
 rw [if_neg hmk]
 rcases hl : Wx ks M with ⟨_ | l, M'⟩
 ·rw [hl] at h0; exact absurd h0 (show ¬ (0 : Int) <= -1 by decide)
 rw [hl] at h0
 dsimp only at h0 ⊢
 have hll := ZI _ _ _ _ hl
 have hk : ∀ i (h : i < ks.length) (h' : i < l.length), Tt ks[i] l[i] := fun i h h' => by
  obtain ⟨N, e, h1⟩ := ctyL_get hl i h h'
  have := ih _ (List.getElem_mem h) N (by omega)
  rwa [e] at this
 have hm : k ≠ 6 -> m = 0 := fun h6 => Decidable.byContradiction fun hm => hmk ⟨hm, h6⟩
 unfold WG at h0 ⊢
 by_cases h4 : k = 4
 ·subst h4
  rw [if_pos rfl] at h0 ⊢
  split at h0
  ·rename_i hc
   rw [if_pos hc, hm (by decide)]
   have : ks = [] := List.length_eq_zero_iff.1 (by rw [<- hll, hc.1]; rfl)
   subst this
   exact .num hc.2
  ·exact absurd h0 (show ¬ (0 : Int) <= -1 by decide)
 rw [if_neg h4] at h0 ⊢
 by_cases h5 : k = 5
 ·subst h5
  rw [if_pos rfl] at h0 ⊢
  split at h0
  ·rename_i hc
   rw [if_pos hc, hm (by decide)]
   have : ks = [] := List.length_eq_zero_iff.1 (by rw [<- hll, hc.1]; rfl)
   subst this
   exact .tru hc.2
  ·exact absurd h0 (show ¬ (0 : Int) <= -1 by decide)
 rw [if_neg h5] at h0 ⊢
 by_cases h6 : k = 6
 ·subst h6
  rw [if_pos rfl] at h0 ⊢
  split at h0
  ·rename_i hc
   rw [if_pos hc]
   have : ks = [] := List.length_eq_zero_iff.1 (by rw [<- hll, hc.1]; rfl)
   subst this
   split at h0
   ·exact absurd h0 (show ¬ (0 : Int) <= -1 by decide)
   ·rename_i hd
    rw [if_neg hd]
    exact .var ⟨hc.2.1, hc.2.2.1⟩ hc.2.2.2
  ·exact absurd h0 (show ¬ (0 : Int) <= -1 by decide)
 rw [if_neg h6] at h0 ⊢
 have two : ∀ {a b : Int}, l = [a, b] -> ∃ x y, ks = [x, y] /\ Tt x a /\ Tt y b := fun {a b} hl2 => by
  subst hl2
  match ks, hll with
  | [x, y], _ => exact ⟨x, y, rfl, hk 0 (by simp) (by simp), hk 1 (by simp) (by simp)⟩
 by_cases h9 : k = 9
 ·subst h9
  rw [if_pos rfl] at h0 ⊢
  rw [hm (by decide)]
  split at h0
  ·rename_i hc
   rw [if_pos hc]
   obtain ⟨x, y, rfl, tx, ty⟩ := two hc.2.2
   exact .bin ⟨hc.1, hc.2.1⟩ tx ty
  ·rename_i hc
   rw [if_neg hc]
   split at h0
   ·rename_i hd
    rw [if_pos hd]
    obtain ⟨x, y, rfl, tx, ty⟩ := two hd.2
    exact .log hd.1 tx ty
   ·exact absurd h0 (show ¬ (0 : Int) <= -1 by decide)
 rw [if_neg h9] at h0 ⊢
 by_cases h10 : k = 10
 ·subst h10
  rw [if_pos rfl] at h0 ⊢
  rw [hm (by decide)]
  split at h0
  ·rename_i hc
   rw [if_pos hc, hc.1]
   obtain ⟨c1, rfl⟩ := hc
   obtain ⟨x, rfl⟩ := List.length_eq_one_iff.1 (show ks.length = 1 by rw [<- hll]; rfl)
   exact .not (hk 0 (by simp) (by simp))
  ·exact absurd h0 (show ¬ (0 : Int) <= -1 by decide)
 rw [if_neg h10] at h0 ⊢
 by_cases h29 : k = 29
 ·subst h29
  rw [if_pos rfl] at h0 ⊢
  rw [hm (by decide)]
  split at h0
  ·rename_i hc
   rw [if_pos hc, hc.1]
   obtain ⟨_, c2, c3, c4⟩ := hc
   obtain ⟨a, b, c, rfl⟩ := three3 l c2
   obtain ⟨x, y, z, rfl⟩ := three3 ks (by rw [<- hll]; rfl)
   have t0 := hk 0 (by simp) (by simp)
   have t1 := hk 1 (by simp) (by simp)
   have t2 := hk 2 (by simp) (by simp)
   have e0 : a = 1 := c3
   have e1 : b = c := c4
   subst e0 e1
   exact .cond t0 t1 t2
  ·exact absurd h0 (show ¬ (0 : Int) <= -1 by decide)
 rw [if_neg h29] at h0
 exact absurd h0 (show ¬ (0 : Int) <= -1 by decide)
def Ups (M M' : List (Int × Int)) : Prop := ∀ n m, W8 M n = some m -> W8 M' n = some m
theorem typesL_con : ∀ {ts : List Nd} {M : List (Int × Int)}, (∀ t ∈ ts, ∀ M, (WY t M).1 = true -> Ups M (WY t M).2 /\ ∀ p ∈ QM t, W8 (WY t M).2 p.1 = some p.2) -> (Q1 ts M).1 = true -> Ups M (Q1 ts M).2 /\ ∀ p ∈ QO ts, W8 (Q1 ts M).2 p.1 = some p.2
 | [], M, _, _ => by rw [Q1]; exact ⟨fun _ _ h => h, fun p hp => by cases hp⟩
 | x :: r, M, hx, h => by
  rw [Q1] at h ⊢
  split at h
  ·rename_i h1
   rw [if_pos h1]
   obtain ⟨a1, a2⟩ := hx x (by simp) M h1
   obtain ⟨b1, b2⟩ := typesL_con (ts := r) (fun t ht => hx t (by simp [ht])) h
   refine ⟨fun n m hg => b1 n m (a1 n m hg), fun p hp => ?_⟩
   rw [QO, List.mem_append] at hp
   rcases hp with hp | hp
   ·exact b1 _ _ (a2 p hp)
   ·exact b2 p hp
  ·exact absurd h (show ¬ (false = true) by decide)
theorem typesM_con (t : Nd) : ∀ M, (WY t M).1 = true -> Ups M (WY t M).2 /\ ∀ p ∈ QM t, W8 (WY t M).2 p.1 = some p.2 := by
 induction t using Nd.ind with
 | h k n m ks ih =>
 intro M h
 rw [WY] at h ⊢
 split at h
 ·exact absurd h (show ¬ (false = true) by decide)
 rename_i hc
 rw [if_neg hc]
 obtain ⟨a1, a2⟩ := typesL_con ih h
 have hup : Ups M (if k = 6 then putI M n m else M) := fun x y hg => by
  by_cases h6 : k = 6
  ·rw [if_pos h6, qp]
   by_cases e : x = n
   ·rw [if_pos e]
    rw [e] at hg
    have : y = m := Decidable.byContradiction fun hne => hc ⟨h6, by rw [hg]; rfl, by rw [hg]; exact hne⟩
    rw [this]
   ·rw [if_neg e]; exact hg
  ·rw [if_neg h6]; exact hg
 refine ⟨fun x y hg => a1 x y (hup x y hg), fun p hp => ?_⟩
 rw [QM, List.mem_append] at hp
 rcases hp with hp | hp
 ·by_cases h6 : k = 6
  ·rw [if_pos h6] at hp
   rw [List.mem_singleton.1 hp]
   refine a1 n m ?_
   rw [if_pos h6, qp, if_pos rfl]
  ·rw [if_neg h6] at hp; cases hp
 ·exact a2 p hp
theorem poss_of {ts : List Nd} (h1 : ∀ t ∈ ts, (Wq t []).1 = 1) (h2 : (Q1 ts []).1 = true) : Poss ts := by
 have ht : ∀ t ∈ ts, Tt t 1 := fun t hm => by
  have := cty_tt t [] (by rw [h1 t hm]; decide)
  rwa [h1 t hm] at this
 obtain ⟨_, c⟩ := typesL_con (fun t _ => typesM_con t) h2
 refine ⟨fun n => if W8 (Q1 ts []).2 n = some 1 then 1 else 0, fun n => ?_, ht, fun t hm p hp => ?_⟩
 ·dsimp only
  split
  ·exact .inr rfl
  ·exact .inl rfl
 ·have e := c p (mem_varsL hm hp)
  have hr := (varsN_rng (ht t hm) p hp).2
  dsimp only
  rw [e]
  rcases hr with hr | hr
  ·rw [hr, if_neg (by simp)]
  ·rw [hr, if_pos rfl]
end Go.Proofs
end
section
namespace Go.Proofs
open Go.Av
variable {G : Nat -> DV}
attribute [local irreducible] OpSem WB WQ WW ACalls Zo QY RV
open Go.Bl
theorem typM_eq (k n m : Int) (ks : List Nd) : Z8 (.mk k n m ks) = if k = 4 then 0 else if k = 5 then 1 else if k = 6 then m else if k = 9 then (if 10 <= n then 1 else 0) else if k = 10 then 1 else if k = 29 then typ3 ks else -1 := by rw [Z8]
theorem typ3_at {ks : List Nd} (h : ks.length = 3) : typ3 ks = Z8 (ks[1]'(by omega)) := by
 match ks, h with
 | [x, y, z], _ => rw [typ3]; rfl
theorem typ3_not {ks : List Nd} (h : ks.length ≠ 3) : typ3 ks = -1 := by
 match ks, h with
 | [], _ => rw [typ3]; intro a b c e; simp at e
 | [x], _ => rw [typ3]; intro a b c e; simp at e
 | [x, y], _ => rw [typ3]; intro a b c e; simp at e
 | [x, y, z], h => exact absurd rfl h
 | x :: y :: z :: u :: r, _ => rw [typ3]; intro a b c e; simp at e
theorem r20Type_c (t : Nd) : Fit t -> Go.Av.Pure Tryd.prog G 90 [.agg (Enc.enc t)] (.i (Z8 t)) := by
 induction t using Nd.ind with
 | h k n m ks ih =>
 intro hfit B
 have hks := hfit.len
 rw [Q9, typM_eq]
 refine Qc Tryd.func90 rfl Tryd.ntmps90 rfl (t := [(0, .agg [.i k, .i n, .i m, QG ks])]) rfl fun E hE => ?_
 by_cases h4 : k = 4
 ·rw [if_pos h4]
  clear ih
  (repeat' first | refine QA rfl ?_ | refine Qb rfl rfl rfl ?_ | refine QJ rfl rfl ?_ | refine Qd rfl rfl ?_ | refine QU rfl rfl (fun _ _ => ?_) | refine Qe ?_ | refine Qs rfl ?_ | refine Qg ?_ | refine Qa ?_ | refine Qf ?_ | refine Qp rfl (by omega) ?_ | refine Qq ?_ | fail)
  all_goals exact e_1 (Tryd.results90) (Qh rfl) (Qy (σ := []) (r := [_]) ⟨rfl, rfl⟩)
 rw [if_neg h4]
 by_cases h5 : k = 5
 ·rw [if_pos h5]
  clear ih
  (repeat' first | refine QA rfl ?_ | refine Qb rfl rfl rfl ?_ | refine QJ rfl rfl ?_ | refine Qd rfl rfl ?_ | refine QU rfl rfl (fun _ _ => ?_) | refine Qe ?_ | refine Qs rfl ?_ | refine Qg ?_ | refine Qa ?_ | refine Qf ?_ | refine Qp rfl (by omega) ?_ | refine Qr rfl (by omega) ?_ | refine Qq ?_ | fail)
  all_goals exact e_1 (Tryd.results90) (Qh rfl) (Qy (σ := []) (r := [_]) ⟨rfl, rfl⟩)
 rw [if_neg h5]
 by_cases h6 : k = 6
 ·rw [if_pos h6]
  clear ih
  (repeat' first | refine QA rfl ?_ | refine Qb rfl rfl rfl ?_ | refine QJ rfl rfl ?_ | refine Qd rfl rfl ?_ | refine QU rfl rfl (fun _ _ => ?_) | refine Qe ?_ | refine Qs rfl ?_ | refine Qg ?_ | refine Qa ?_ | refine Qf ?_ | refine Qp rfl (by omega) ?_ | refine Qr rfl (by omega) ?_ | refine Qq ?_ | fail)
  all_goals exact e_1 (Tryd.results90) (Qh rfl) (Qy (σ := []) (r := [_]) ⟨rfl, rfl⟩)
 rw [if_neg h6]
 by_cases h9 : k = 9
 ·rw [if_pos h9]
  by_cases h10 : 10 <= n
  ·rw [if_pos h10]
   clear ih
   (repeat' first | refine QA rfl ?_ | refine Qb rfl rfl rfl ?_ | refine Wh rfl rfl ?_ | refine QJ rfl rfl ?_ | refine Qd rfl rfl ?_ | refine QU rfl rfl (fun _ _ => ?_) | refine Qe ?_ | refine Qs rfl ?_ | refine Qg ?_ | refine Qa ?_ | refine Qf ?_ | refine Qp rfl (by omega) ?_ | refine Qr rfl (by omega) ?_ | refine Qq ?_ | fail)
   all_goals exact e_1 (Tryd.results90) (Qh rfl) (Qy (σ := []) (r := [_]) ⟨rfl, rfl⟩)
  ·rw [if_neg h10]
   clear ih
   (repeat' first | refine QA rfl ?_ | refine Qb rfl rfl rfl ?_ | refine Wh rfl rfl ?_ | refine QJ rfl rfl ?_ | refine Qd rfl rfl ?_ | refine QU rfl rfl (fun _ _ => ?_) | refine Qe ?_ | refine Qs rfl ?_ | refine Qg ?_ | refine Qa ?_ | refine Qf ?_ | refine Qk ?_ | refine Qp rfl (by omega) ?_ | refine Qr rfl (by omega) ?_ | refine Qq ?_ | fail)
   all_goals exact e_1 (Tryd.results90) (Qh rfl) (Qy (σ := []) (r := [_]) ⟨rfl, rfl⟩)
 rw [if_neg h9]
 by_cases h10 : k = 10
 ·rw [if_pos h10]
  clear ih
  (repeat' first | refine QA rfl ?_ | refine Qb rfl rfl rfl ?_ | refine QJ rfl rfl ?_ | refine Qd rfl rfl ?_ | refine QU rfl rfl (fun _ _ => ?_) | refine Qe ?_ | refine Qs rfl ?_ | refine Qg ?_ | refine Qa ?_ | refine Qf ?_ | refine Qp rfl (by omega) ?_ | refine Qr rfl (by omega) ?_ | refine Qq ?_ | fail)
  all_goals exact e_1 (Tryd.results90) (Qh rfl) (Qy (σ := []) (r := [_]) ⟨rfl, rfl⟩)
 rw [if_neg h10]
 by_cases h29 : k = 29
 ·rw [if_pos h29]
  by_cases hl : ks.length = 3
  ·have hk1 : 1 < ks.length := by omega
   have hty1 := ih _ (List.getElem_mem hk1) (hfit.kids _ (List.getElem_mem hk1))
   rw [typ3_at hl]
   clear ih
   (repeat' first | refine QA rfl ?_ | refine QC rfl ?_ | refine Qb rfl rfl rfl ?_ | refine Ql rfl rfl (by first | assumption | omega | (simp; done) | (simp; omega)) ?_ | refine QJ rfl rfl ?_ | refine Qj rfl ?_ | refine Wa rfl rfl (hty1) ?_ | refine Qd rfl rfl ?_ | refine QU rfl rfl (fun _ _ => ?_) | refine Qe ?_ | refine Qs rfl ?_ | refine Qg ?_ | refine Qa ?_ | refine Qf ?_ | refine Qp rfl (by omega) ?_ | refine Qr rfl (by omega) ?_ | refine Qq ?_ | fail)
   all_goals exact e_1 (Tryd.results90) (Qh rfl) (Qy (σ := []) (r := [_]) ⟨rfl, rfl⟩)
  ·rw [typ3_not hl]
   clear ih
   (repeat' first | refine QA rfl ?_ | refine Qb rfl rfl rfl ?_ | refine QJ rfl rfl ?_ | refine Qj rfl ?_ | refine Qd rfl rfl ?_ | refine QU rfl rfl (fun _ _ => ?_) | refine Qe ?_ | refine Qs rfl ?_ | refine Qg ?_ | refine Qa ?_ | refine Qf ?_ | refine Qk ?_ | refine Qp rfl (by omega) ?_ | refine Qr rfl (by omega) ?_ | refine Qq ?_ | fail)
   all_goals exact e_1 (Tryd.results90) (Qh rfl) (Qy (σ := []) (r := [_]) ⟨rfl, rfl⟩)
 rw [if_neg h29]
 clear ih
 (repeat' first | refine QA rfl ?_ | refine Qb rfl rfl rfl ?_ | refine QJ rfl rfl ?_ | refine Qd rfl rfl ?_ | refine QU rfl rfl (fun _ _ => ?_) | refine Qe ?_ | refine Qs rfl ?_ | refine Qg ?_ | refine Qa ?_ | refine Qf ?_ | refine Qk ?_ | refine Qr rfl (by omega) ?_ | refine Qq ?_ | fail)
 all_goals exact e_1 (Tryd.results90) (Qh rfl) (Qy (σ := []) (r := [_]) ⟨rfl, rfl⟩)
theorem shaped_4 (k n m : Int) (ks : List Nd) (hks : ks.length <= 1048576) (hi : ∀ x ∈ ks, Go.Av.Pure Tryd.prog G 89 [.agg (Enc.enc x)] (.b (shM x))) (hty : ∀ x ∈ ks, Go.Av.Pure Tryd.prog G 90 [.agg (Enc.enc x)] (.i (Z8 x))) (h4 : k = 4) : Go.Av.Pure Tryd.prog G 89 [.agg (Enc.enc (Nd.mk k n m ks))] (.b (shM (.mk k n m ks))) := fun B => by
 rw [Q9]
 refine Qc Tryd.func89 rfl Tryd.ntmps89 rfl (t := [(0, .agg [.i k, .i n, .i m, QG ks])]) rfl fun E hE => ?_
 have hdummy := 0
 by_cases c0 : m = 0
 rotate_left
 ·rw [show shM (.mk k n m ks) = false by rw [W0, Zh, if_pos (by omega), if_neg (by omega)]]
  clear hi hty
  (repeat' first | refine Qu rfl ?_ | refine QA rfl ?_ | refine Qb rfl rfl rfl ?_ | refine QJ rfl rfl ?_ | refine WI rfl rfl ?_ | refine Wm rfl rfl ?_ | refine WC rfl ?_ | refine Qd rfl rfl ?_ | refine QU rfl rfl (fun _ _ => ?_) | refine Qe ?_ | refine Qs rfl ?_ | refine W3 rfl rfl rfl rfl ?_ | refine Wc rfl rfl (by omega) ?_ | refine Qg ?_ | refine Qa ?_ | refine Qf ?_ | refine QB rfl ?_ | refine Qp rfl (by omega) ?_ | refine Qq ?_ | fail)
  all_goals exact e_1 (Tryd.results89) (Qh rfl) (Qy (σ := []) (r := [_]) ⟨rfl, rfl⟩)
 by_cases c1 : -8 <= n
 rotate_left
 ·rw [show shM (.mk k n m ks) = false by rw [W0, Zh, if_pos (by omega), if_neg (by omega)]]
  clear hi hty
  (repeat' first | refine Qu rfl ?_ | refine QA rfl ?_ | refine Qb rfl rfl rfl ?_ | refine Wh rfl rfl ?_ | refine QJ rfl rfl ?_ | refine WI rfl rfl ?_ | refine Wm rfl rfl ?_ | refine WC rfl ?_ | refine Qd rfl rfl ?_ | refine QU rfl rfl (fun _ _ => ?_) | refine Qe ?_ | refine Qs rfl ?_ | refine WK rfl rfl rfl rfl ?_ | refine W3 rfl rfl rfl rfl ?_ | refine Wg rfl rfl (by omega) ?_ | refine Wc rfl rfl (by omega) ?_ | refine Qg ?_ | refine Qa ?_ | refine Qf ?_ | refine QB rfl ?_ | refine Qp rfl (by omega) ?_ | refine Qq ?_ | fail)
  all_goals exact e_1 (Tryd.results89) (Qh rfl) (Qy (σ := []) (r := [_]) ⟨rfl, rfl⟩)
 by_cases c2 : n <= 7
 rotate_left
 ·rw [show shM (.mk k n m ks) = false by rw [W0, Zh, if_pos (by omega), if_neg (by omega)]]
  clear hi hty
  (repeat' first | refine Qu rfl ?_ | refine QA rfl ?_ | refine Qb rfl rfl rfl ?_ | refine ZN rfl rfl ?_ | refine Wh rfl rfl ?_ | refine QJ rfl rfl ?_ | refine WI rfl rfl ?_ | refine W7 rfl ?_ | refine Qd rfl rfl ?_ | refine QU rfl rfl (fun _ _ => ?_) | refine Qe ?_ | refine Qs rfl ?_ | refine WK rfl rfl rfl rfl ?_ | refine W3 rfl rfl rfl rfl ?_ | refine Wg rfl rfl (by omega) ?_ | refine Qg ?_ | refine Qa ?_ | refine Qf ?_ | refine QB rfl ?_ | refine Qp rfl (by omega) ?_ | refine Qq ?_ | fail)
  all_goals exact e_1 (Tryd.results89) (Qh rfl) (Qy (σ := []) (r := [_]) ⟨rfl, rfl⟩)
 have hS : shM (.mk k n m ks) = decide (ks.length = 0) := by
  rw [W0, Zh, if_pos (by omega), if_pos (by omega)]
  show (decide (ks.length = 0) && shL ks []) = _
  rw [shL_of (w := []) (fun i h h' => absurd h' (by simp)), Bool.and_true]
 rw [hS]
 clear hi hty hS
 by_cases hl : ks.length = 0
 ·rw [decide_eq_true hl]
  (repeat' first | refine Qu rfl ?_ | refine QA rfl ?_ | refine Qb rfl rfl rfl ?_ | refine ZN rfl rfl ?_ | refine Wh rfl rfl ?_ | refine QJ rfl rfl ?_ | refine Wu rfl rfl ?_ | refine Qj rfl ?_ | refine ZO rfl ?_ | refine WI rfl rfl ?_ | refine Wm rfl rfl ?_ | refine W7 rfl ?_ | refine Qd rfl rfl ?_ | refine QU rfl rfl (fun _ _ => ?_) | refine Qe ?_ | refine Qs rfl ?_ | refine WK rfl rfl rfl rfl ?_ | refine Wg rfl rfl (by omega) ?_ | refine Wc rfl rfl (by omega) ?_ | refine Qg ?_ | refine Qa ?_ | refine Qf ?_ | refine Qk ?_ | refine Qp rfl (by omega) ?_ | refine Qr rfl (by omega) ?_ | fail)
  rename_i g1 hg1
  refine Wv (fun _ : Unit => ⟨[(1, .ptr 0 g1 0), (3, .nil), (6, .i 0)], [.row g1 [.i k, .i n, .i m, QG ks]]⟩) (fun _ => True) (fun _ => 0) () ?_ trivial ?_
  ·exact zal rfl
  intro _ _
  (repeat' first | refine Qu rfl ?_ | refine QA rfl ?_ | refine QL rfl rfl ?_ | refine ZO rfl ?_ | refine Qe ?_ | refine Qs rfl ?_ | refine Qg ?_ | refine Qa ?_ | refine Qo rfl ?_ | refine Q2 rfl ?_ | refine Qq ?_ | fail)
  all_goals exact e_1 (Tryd.results89) (Qh rfl) (Qy (σ := []) (r := [_]) ⟨rfl, rfl⟩)
 ·rw [decide_eq_false hl]
  (repeat' first | refine Qu rfl ?_ | refine QA rfl ?_ | refine Qb rfl rfl rfl ?_ | refine ZN rfl rfl ?_ | refine Wh rfl rfl ?_ | refine QJ rfl rfl ?_ | refine Wu rfl rfl ?_ | refine Qj rfl ?_ | refine ZO rfl ?_ | refine WI rfl rfl ?_ | refine Wm rfl rfl ?_ | refine W7 rfl ?_ | refine Qd rfl rfl ?_ | refine QU rfl rfl (fun _ _ => ?_) | refine Qe ?_ | refine Qs rfl ?_ | refine WK rfl rfl rfl rfl ?_ | refine Wg rfl rfl (by omega) ?_ | refine Wc rfl rfl (by omega) ?_ | refine Qg ?_ | refine Qa ?_ | refine Qf ?_ | refine Qp rfl (by omega) ?_ | refine Qq ?_ | fail)
  all_goals exact e_1 (Tryd.results89) (Qh rfl) (Qy (σ := []) (r := [_]) ⟨rfl, rfl⟩)
theorem shaped_5 (k n m : Int) (ks : List Nd) (hks : ks.length <= 1048576) (hi : ∀ x ∈ ks, Go.Av.Pure Tryd.prog G 89 [.agg (Enc.enc x)] (.b (shM x))) (hty : ∀ x ∈ ks, Go.Av.Pure Tryd.prog G 90 [.agg (Enc.enc x)] (.i (Z8 x))) (h4 : k ≠ 4) (h5 : k = 5) : Go.Av.Pure Tryd.prog G 89 [.agg (Enc.enc (Nd.mk k n m ks))] (.b (shM (.mk k n m ks))) := fun B => by
 rw [Q9]
 refine Qc Tryd.func89 rfl Tryd.ntmps89 rfl (t := [(0, .agg [.i k, .i n, .i m, QG ks])]) rfl fun E hE => ?_
 have hdummy := 0
 by_cases c0 : m = 0
 rotate_left
 ·rw [show shM (.mk k n m ks) = false by rw [W0, Zh, if_neg (by omega), if_pos (by omega), if_neg (by omega)]]
  clear hi hty
  (repeat' first | refine Qu rfl ?_ | refine QA rfl ?_ | refine Qb rfl rfl rfl ?_ | refine QJ rfl rfl ?_ | refine WI rfl rfl ?_ | refine Wm rfl rfl ?_ | refine WC rfl ?_ | refine Qd rfl rfl ?_ | refine QU rfl rfl (fun _ _ => ?_) | refine Qe ?_ | refine Qs rfl ?_ | refine W3 rfl rfl rfl rfl ?_ | refine Wc rfl rfl (by omega) ?_ | refine Qg ?_ | refine Qa ?_ | refine Qf ?_ | refine QB rfl ?_ | refine Qp rfl (by omega) ?_ | refine Qr rfl (by omega) ?_ | refine Qq ?_ | fail)
  all_goals exact e_1 (Tryd.results89) (Qh rfl) (Qy (σ := []) (r := [_]) ⟨rfl, rfl⟩)
 by_cases c1 : 0 <= n
 rotate_left
 ·rw [show shM (.mk k n m ks) = false by rw [W0, Zh, if_neg (by omega), if_pos (by omega), if_neg (by omega)]]
  clear hi hty
  (repeat' first | refine Qu rfl ?_ | refine QA rfl ?_ | refine Qb rfl rfl rfl ?_ | refine Wh rfl rfl ?_ | refine QJ rfl rfl ?_ | refine WI rfl rfl ?_ | refine Wm rfl rfl ?_ | refine WC rfl ?_ | refine Qd rfl rfl ?_ | refine QU rfl rfl (fun _ _ => ?_) | refine Qe ?_ | refine Qs rfl ?_ | refine WK rfl rfl rfl rfl ?_ | refine W3 rfl rfl rfl rfl ?_ | refine Wg rfl rfl (by omega) ?_ | refine Wc rfl rfl (by omega) ?_ | refine Qg ?_ | refine Qa ?_ | refine Qf ?_ | refine QB rfl ?_ | refine Qp rfl (by omega) ?_ | refine Qr rfl (by omega) ?_ | refine Qq ?_ | fail)
  all_goals exact e_1 (Tryd.results89) (Qh rfl) (Qy (σ := []) (r := [_]) ⟨rfl, rfl⟩)
 by_cases c2 : n <= 1
 rotate_left
 ·rw [show shM (.mk k n m ks) = false by rw [W0, Zh, if_neg (by omega), if_pos (by omega), if_neg (by omega)]]
  clear hi hty
  (repeat' first | refine Qu rfl ?_ | refine QA rfl ?_ | refine Qb rfl rfl rfl ?_ | refine ZN rfl rfl ?_ | refine Wh rfl rfl ?_ | refine QJ rfl rfl ?_ | refine WI rfl rfl ?_ | refine W7 rfl ?_ | refine Qd rfl rfl ?_ | refine QU rfl rfl (fun _ _ => ?_) | refine Qe ?_ | refine Qs rfl ?_ | refine WK rfl rfl rfl rfl ?_ | refine W3 rfl rfl rfl rfl ?_ | refine Wg rfl rfl (by omega) ?_ | refine Qg ?_ | refine Qa ?_ | refine Qf ?_ | refine QB rfl ?_ | refine Qp rfl (by omega) ?_ | refine Qr rfl (by omega) ?_ | refine Qq ?_ | fail)
  all_goals exact e_1 (Tryd.results89) (Qh rfl) (Qy (σ := []) (r := [_]) ⟨rfl, rfl⟩)
 have hS : shM (.mk k n m ks) = decide (ks.length = 0) := by
  rw [W0, Zh, if_neg (by omega), if_pos (by omega), if_pos (by omega)]
  show (decide (ks.length = 0) && shL ks []) = _
  rw [shL_of (w := []) (fun i h h' => absurd h' (by simp)), Bool.and_true]
 rw [hS]
 clear hi hty hS
 by_cases hl : ks.length = 0
 ·rw [decide_eq_true hl]
  (repeat' first | refine Qu rfl ?_ | refine QA rfl ?_ | refine Qb rfl rfl rfl ?_ | refine ZN rfl rfl ?_ | refine Wh rfl rfl ?_ | refine QJ rfl rfl ?_ | refine Wu rfl rfl ?_ | refine Qj rfl ?_ | refine ZO rfl ?_ | refine WI rfl rfl ?_ | refine Wm rfl rfl ?_ | refine W7 rfl ?_ | refine Qd rfl rfl ?_ | refine QU rfl rfl (fun _ _ => ?_) | refine Qe ?_ | refine Qs rfl ?_ | refine WK rfl rfl rfl rfl ?_ | refine Wg rfl rfl (by omega) ?_ | refine Wc rfl rfl (by omega) ?_ | refine Qg ?_ | refine Qa ?_ | refine Qf ?_ | refine Qk ?_ | refine Qp rfl (by omega) ?_ | refine Qr rfl (by omega) ?_ | fail)
  rename_i g1 hg1
  refine Wv (fun _ : Unit => ⟨[(1, .ptr 0 g1 0), (3, .nil), (6, .i 0)], [.row g1 [.i k, .i n, .i m, QG ks]]⟩) (fun _ => True) (fun _ => 0) () ?_ trivial ?_
  ·exact zal rfl
  intro _ _
  (repeat' first | refine Qu rfl ?_ | refine QA rfl ?_ | refine QL rfl rfl ?_ | refine ZO rfl ?_ | refine Qe ?_ | refine Qs rfl ?_ | refine Qg ?_ | refine Qa ?_ | refine Qo rfl ?_ | refine Q2 rfl ?_ | refine Qq ?_ | fail)
  all_goals exact e_1 (Tryd.results89) (Qh rfl) (Qy (σ := []) (r := [_]) ⟨rfl, rfl⟩)
 ·rw [decide_eq_false hl]
  (repeat' first | refine Qu rfl ?_ | refine QA rfl ?_ | refine Qb rfl rfl rfl ?_ | refine ZN rfl rfl ?_ | refine Wh rfl rfl ?_ | refine QJ rfl rfl ?_ | refine Wu rfl rfl ?_ | refine Qj rfl ?_ | refine ZO rfl ?_ | refine WI rfl rfl ?_ | refine Wm rfl rfl ?_ | refine W7 rfl ?_ | refine Qd rfl rfl ?_ | refine QU rfl rfl (fun _ _ => ?_) | refine Qe ?_ | refine Qs rfl ?_ | refine WK rfl rfl rfl rfl ?_ | refine Wg rfl rfl (by omega) ?_ | refine Wc rfl rfl (by omega) ?_ | refine Qg ?_ | refine Qa ?_ | refine Qf ?_ | refine Qp rfl (by omega) ?_ | refine Qr rfl (by omega) ?_ | refine Qq ?_ | fail)
  all_goals exact e_1 (Tryd.results89) (Qh rfl) (Qy (σ := []) (r := [_]) ⟨rfl, rfl⟩)
theorem shaped_6 (k n m : Int) (ks : List Nd) (hks : ks.length <= 1048576) (hi : ∀ x ∈ ks, Go.Av.Pure Tryd.prog G 89 [.agg (Enc.enc x)] (.b (shM x))) (hty : ∀ x ∈ ks, Go.Av.Pure Tryd.prog G 90 [.agg (Enc.enc x)] (.i (Z8 x))) (h4 : k ≠ 4) (h5 : k ≠ 5) (h6 : k = 6) : Go.Av.Pure Tryd.prog G 89 [.agg (Enc.enc (Nd.mk k n m ks))] (.b (shM (.mk k n m ks))) := fun B => by
 rw [Q9]
 refine Qc Tryd.func89 rfl Tryd.ntmps89 rfl (t := [(0, .agg [.i k, .i n, .i m, QG ks])]) rfl fun E hE => ?_
 have hdummy := 0
 by_cases c0 : 0 <= n
 rotate_left
 ·rw [show shM (.mk k n m ks) = false by rw [W0, Zh, if_neg (by omega), if_neg (by omega), if_pos (by omega), if_neg (by omega)]]
  clear hi hty
  (repeat' first | refine Qu rfl ?_ | refine QA rfl ?_ | refine Qb rfl rfl rfl ?_ | refine Wh rfl rfl ?_ | refine QJ rfl rfl ?_ | refine WI rfl rfl ?_ | refine Wm rfl rfl ?_ | refine WC rfl ?_ | refine Qd rfl rfl ?_ | refine QU rfl rfl (fun _ _ => ?_) | refine Qe ?_ | refine Qs rfl ?_ | refine W3 rfl rfl rfl rfl ?_ | refine Wc rfl rfl (by omega) ?_ | refine Qg ?_ | refine Qa ?_ | refine Qf ?_ | refine QB rfl ?_ | refine Qp rfl (by omega) ?_ | refine Qr rfl (by omega) ?_ | refine Qq ?_ | fail)
  all_goals exact e_1 (Tryd.results89) (Qh rfl) (Qy (σ := []) (r := [_]) ⟨rfl, rfl⟩)
 by_cases c1 : n <= 63
 rotate_left
 ·rw [show shM (.mk k n m ks) = false by rw [W0, Zh, if_neg (by omega), if_neg (by omega), if_pos (by omega), if_neg (by omega)]]
  clear hi hty
  (repeat' first | refine Qu rfl ?_ | refine QA rfl ?_ | refine Qb rfl rfl rfl ?_ | refine ZN rfl rfl ?_ | refine Wh rfl rfl ?_ | refine QJ rfl rfl ?_ | refine WI rfl rfl ?_ | refine Wm rfl rfl ?_ | refine WC rfl ?_ | refine Qd rfl rfl ?_ | refine QU rfl rfl (fun _ _ => ?_) | refine Qe ?_ | refine Qs rfl ?_ | refine WK rfl rfl rfl rfl ?_ | refine W3 rfl rfl rfl rfl ?_ | refine Wg rfl rfl (by omega) ?_ | refine Wc rfl rfl (by omega) ?_ | refine Qg ?_ | refine Qa ?_ | refine Qf ?_ | refine QB rfl ?_ | refine Qp rfl (by omega) ?_ | refine Qr rfl (by omega) ?_ | refine Qq ?_ | fail)
  all_goals exact e_1 (Tryd.results89) (Qh rfl) (Qy (σ := []) (r := [_]) ⟨rfl, rfl⟩)
 by_cases c2 : 0 <= m
 rotate_left
 ·rw [show shM (.mk k n m ks) = false by rw [W0, Zh, if_neg (by omega), if_neg (by omega), if_pos (by omega), if_neg (by omega)]]
  clear hi hty
  (repeat' first | refine Qu rfl ?_ | refine QA rfl ?_ | refine Qb rfl rfl rfl ?_ | refine ZN rfl rfl ?_ | refine Wh rfl rfl ?_ | refine QJ rfl rfl ?_ | refine WI rfl rfl ?_ | refine Wm rfl rfl ?_ | refine WC rfl ?_ | refine Qd rfl rfl ?_ | refine QU rfl rfl (fun _ _ => ?_) | refine Qe ?_ | refine Qs rfl ?_ | refine WK rfl rfl rfl rfl ?_ | refine W3 rfl rfl rfl rfl ?_ | refine Wg rfl rfl (by omega) ?_ | refine Wc rfl rfl (by omega) ?_ | refine Qg ?_ | refine Qa ?_ | refine Qf ?_ | refine QB rfl ?_ | refine Qp rfl (by omega) ?_ | refine Qr rfl (by omega) ?_ | refine Qq ?_ | fail)
  all_goals exact e_1 (Tryd.results89) (Qh rfl) (Qy (σ := []) (r := [_]) ⟨rfl, rfl⟩)
 by_cases c3 : m <= 1
 rotate_left
 ·rw [show shM (.mk k n m ks) = false by rw [W0, Zh, if_neg (by omega), if_neg (by omega), if_pos (by omega), if_neg (by omega)]]
  clear hi hty
  (repeat' first | refine Qu rfl ?_ | refine QA rfl ?_ | refine Qb rfl rfl rfl ?_ | refine ZN rfl rfl ?_ | refine Wh rfl rfl ?_ | refine QJ rfl rfl ?_ | refine WI rfl rfl ?_ | refine W7 rfl ?_ | refine Qd rfl rfl ?_ | refine QU rfl rfl (fun _ _ => ?_) | refine Qe ?_ | refine Qs rfl ?_ | refine WK rfl rfl rfl rfl ?_ | refine W3 rfl rfl rfl rfl ?_ | refine Wg rfl rfl (by omega) ?_ | refine Qg ?_ | refine Qa ?_ | refine Qf ?_ | refine QB rfl ?_ | refine Qp rfl (by omega) ?_ | refine Qr rfl (by omega) ?_ | refine Qq ?_ | fail)
  all_goals exact e_1 (Tryd.results89) (Qh rfl) (Qy (σ := []) (r := [_]) ⟨rfl, rfl⟩)
 have hS : shM (.mk k n m ks) = decide (ks.length = 0) := by
  rw [W0, Zh, if_neg (by omega), if_neg (by omega), if_pos (by omega), if_pos (by omega)]
  show (decide (ks.length = 0) && shL ks []) = _
  rw [shL_of (w := []) (fun i h h' => absurd h' (by simp)), Bool.and_true]
 rw [hS]
 clear hi hty hS
 by_cases hl : ks.length = 0
 ·rw [decide_eq_true hl]
  (repeat' first | refine Qu rfl ?_ | refine QA rfl ?_ | refine Qb rfl rfl rfl ?_ | refine ZN rfl rfl ?_ | refine Wh rfl rfl ?_ | refine QJ rfl rfl ?_ | refine Wu rfl rfl ?_ | refine Qj rfl ?_ | refine ZO rfl ?_ | refine WI rfl rfl ?_ | refine Wm rfl rfl ?_ | refine W7 rfl ?_ | refine Qd rfl rfl ?_ | refine QU rfl rfl (fun _ _ => ?_) | refine Qe ?_ | refine Qs rfl ?_ | refine WK rfl rfl rfl rfl ?_ | refine Wg rfl rfl (by omega) ?_ | refine Wc rfl rfl (by omega) ?_ | refine Qg ?_ | refine Qa ?_ | refine Qf ?_ | refine Qk ?_ | refine Qp rfl (by omega) ?_ | refine Qr rfl (by omega) ?_ | fail)
  rename_i g1 hg1
  refine Wv (fun _ : Unit => ⟨[(1, .ptr 0 g1 0), (3, .nil), (6, .i 0)], [.row g1 [.i k, .i n, .i m, QG ks]]⟩) (fun _ => True) (fun _ => 0) () ?_ trivial ?_
  ·exact zal rfl
  intro _ _
  (repeat' first | refine Qu rfl ?_ | refine QA rfl ?_ | refine QL rfl rfl ?_ | refine ZO rfl ?_ | refine Qe ?_ | refine Qs rfl ?_ | refine Qg ?_ | refine Qa ?_ | refine Qo rfl ?_ | refine Q2 rfl ?_ | refine Qq ?_ | fail)
  all_goals exact e_1 (Tryd.results89) (Qh rfl) (Qy (σ := []) (r := [_]) ⟨rfl, rfl⟩)
 ·rw [decide_eq_false hl]
  (repeat' first | refine Qu rfl ?_ | refine QA rfl ?_ | refine Qb rfl rfl rfl ?_ | refine ZN rfl rfl ?_ | refine Wh rfl rfl ?_ | refine QJ rfl rfl ?_ | refine Wu rfl rfl ?_ | refine Qj rfl ?_ | refine ZO rfl ?_ | refine WI rfl rfl ?_ | refine Wm rfl rfl ?_ | refine W7 rfl ?_ | refine Qd rfl rfl ?_ | refine QU rfl rfl (fun _ _ => ?_) | refine Qe ?_ | refine Qs rfl ?_ | refine WK rfl rfl rfl rfl ?_ | refine Wg rfl rfl (by omega) ?_ | refine Wc rfl rfl (by omega) ?_ | refine Qg ?_ | refine Qa ?_ | refine Qf ?_ | refine Qp rfl (by omega) ?_ | refine Qr rfl (by omega) ?_ | refine Qq ?_ | fail)
  all_goals exact e_1 (Tryd.results89) (Qh rfl) (Qy (σ := []) (r := [_]) ⟨rfl, rfl⟩)
theorem shaped_9 (k n m : Int) (ks : List Nd) (hks : ks.length <= 1048576) (hi : ∀ x ∈ ks, Go.Av.Pure Tryd.prog G 89 [.agg (Enc.enc x)] (.b (shM x))) (hty : ∀ x ∈ ks, Go.Av.Pure Tryd.prog G 90 [.agg (Enc.enc x)] (.i (Z8 x))) (h4 : k ≠ 4) (h5 : k ≠ 5) (h6 : k ≠ 6) (h9 : k = 9) : Go.Av.Pure Tryd.prog G 89 [.agg (Enc.enc (Nd.mk k n m ks))] (.b (shM (.mk k n m ks))) := fun B => by
 rw [Q9]
 refine Qc Tryd.func89 rfl Tryd.ntmps89 rfl (t := [(0, .agg [.i k, .i n, .i m, QG ks])]) rfl fun E hE => ?_
 have hdummy := 0
 by_cases c0 : m = 0
 rotate_left
 ·rw [show shM (.mk k n m ks) = false by rw [W0, Zh, if_neg (by omega), if_neg (by omega), if_neg (by omega), if_pos (by omega), if_neg (by omega)]]
  clear hi hty
  by_cases h12 : n = 12
  all_goals by_cases h13 : n = 13
  all_goals
   (repeat' first | refine Qu rfl ?_ | refine QA rfl ?_ | refine Qb rfl rfl rfl ?_ | refine ZN rfl rfl ?_ | refine Wh rfl rfl ?_ | refine QJ rfl rfl ?_ | refine WI rfl rfl ?_ | refine Wm rfl rfl ?_ | refine WO [(_ : Int), _] rfl rfl (by decide) rfl ?_ | refine W7 rfl ?_ | refine WC rfl ?_ | refine Qd rfl rfl ?_ | refine QU rfl rfl (fun _ _ => ?_) | refine Qe ?_ | refine Qs rfl ?_ | refine WK rfl rfl rfl rfl ?_ | refine W3 rfl rfl rfl rfl ?_ | refine Wg rfl rfl (by omega) ?_ | refine Wc rfl rfl (by omega) ?_ | refine Qg ?_ | refine Qa ?_ | refine Qf ?_ | refine Qk ?_ | refine QB rfl ?_ | refine Qp rfl (by omega) ?_ | refine Qr rfl (by omega) ?_ | refine Qq ?_ | fail)
   all_goals exact e_1 (Tryd.results89) (Qh rfl) (Qy (σ := []) (r := [_]) ⟨rfl, rfl⟩)
 by_cases c1 : 0 <= n
 rotate_left
 ·rw [show shM (.mk k n m ks) = false by rw [W0, Zh, if_neg (by omega), if_neg (by omega), if_neg (by omega), if_pos (by omega), if_neg (by omega)]]
  clear hi hty
  (repeat' first | refine Qu rfl ?_ | refine QA rfl ?_ | refine Qb rfl rfl rfl ?_ | refine Wh rfl rfl ?_ | refine QJ rfl rfl ?_ | refine WI rfl rfl ?_ | refine Wm rfl rfl ?_ | refine WO [(_ : Int), _] rfl rfl (by decide) rfl ?_ | refine WC rfl ?_ | refine Qd rfl rfl ?_ | refine QU rfl rfl (fun _ _ => ?_) | refine Qe ?_ | refine Qs rfl ?_ | refine WK rfl rfl rfl rfl ?_ | refine W3 rfl rfl rfl rfl ?_ | refine Wg rfl rfl (by omega) ?_ | refine Wc rfl rfl (by omega) ?_ | refine Qg ?_ | refine Qa ?_ | refine Qf ?_ | refine Qk ?_ | refine QB rfl ?_ | refine Qp rfl (by omega) ?_ | refine Qr rfl (by omega) ?_ | refine Qq ?_ | fail)
  all_goals exact e_1 (Tryd.results89) (Qh rfl) (Qy (σ := []) (r := [_]) ⟨rfl, rfl⟩)
 by_cases c2 : n < 14
 rotate_left
 ·rw [show shM (.mk k n m ks) = false by rw [W0, Zh, if_neg (by omega), if_neg (by omega), if_neg (by omega), if_pos (by omega), if_neg (by omega)]]
  clear hi hty
  (repeat' first | refine Qu rfl ?_ | refine QA rfl ?_ | refine Qb rfl rfl rfl ?_ | refine QL rfl rfl ?_ | refine Wh rfl rfl ?_ | refine QJ rfl rfl ?_ | refine WI rfl rfl ?_ | refine Wm rfl rfl ?_ | refine WO [(_ : Int), _] rfl rfl (by decide) rfl ?_ | refine W7 rfl ?_ | refine Qd rfl rfl ?_ | refine QU rfl rfl (fun _ _ => ?_) | refine Qe ?_ | refine Qs rfl ?_ | refine WK rfl rfl rfl rfl ?_ | refine W3 rfl rfl rfl rfl ?_ | refine Wg rfl rfl (by omega) ?_ | refine Wc rfl rfl (by omega) ?_ | refine Qg ?_ | refine Qa ?_ | refine Qf ?_ | refine Qk ?_ | refine QB rfl ?_ | refine Qp rfl (by omega) ?_ | refine Qr rfl (by omega) ?_ | refine Qq ?_ | fail)
  all_goals exact e_1 (Tryd.results89) (Qh rfl) (Qy (σ := []) (r := [_]) ⟨rfl, rfl⟩)
 by_cases h12 : n = 12
 ·have hS : shM (.mk k n m ks) = (decide (ks.length = 2) && shL ks [1, 1]) := by
   rw [W0, Zh, if_neg (by omega), if_neg (by omega), if_neg (by omega), if_pos (by omega), if_pos (by omega), if_pos (by omega)]; rfl
  have hWl : ([1, 1] : List Int).length = 2 := rfl
  by_cases hl : ks.length = 2
  rotate_left
  ·rw [hS, decide_eq_false hl, Bool.false_and]
   clear hi hty hS
   all_goals
    (repeat' first | refine Qu rfl ?_ | refine QA rfl ?_ | refine Qb rfl rfl rfl ?_ | refine QL rfl rfl ?_ | refine Wh rfl rfl ?_ | refine QJ rfl rfl ?_ | refine Wu rfl rfl ?_ | refine Qj rfl ?_ | refine WI rfl rfl ?_ | refine Wm rfl rfl ?_ | refine WO [(_ : Int), _] rfl rfl (by decide) rfl ?_ | refine W7 rfl ?_ | refine Qd rfl rfl ?_ | refine QU rfl rfl (fun _ _ => ?_) | refine Qe ?_ | refine Qs rfl ?_ | refine WK rfl rfl rfl rfl ?_ | refine W3 rfl rfl rfl rfl ?_ | refine Wg rfl rfl (by omega) ?_ | refine Wc rfl rfl (by omega) ?_ | refine Qg ?_ | refine Qa ?_ | refine Qf ?_ | refine QB rfl ?_ | refine Qp rfl (by omega) ?_ | refine Qr rfl (by omega) ?_ | refine Qq ?_ | fail)
    all_goals exact e_1 (Tryd.results89) (Qh rfl) (Qy (σ := []) (r := [_]) ⟨rfl, rfl⟩)
  rw [hS, decide_eq_true hl, Bool.true_and]
  clear hS
  (repeat' first | refine Qu rfl ?_ | refine QA rfl ?_ | refine Qb rfl rfl rfl ?_ | refine QL rfl rfl ?_ | refine Wh rfl rfl ?_ | refine QJ rfl rfl ?_ | refine Wu rfl rfl ?_ | refine Qj rfl ?_ | refine WI rfl rfl ?_ | refine Wm rfl rfl ?_ | refine WO [(_ : Int), _] rfl rfl (by decide) rfl ?_ | refine W7 rfl ?_ | refine Qd rfl rfl ?_ | refine QU rfl rfl (fun _ _ => ?_) | refine Qe ?_ | refine Qs rfl ?_ | refine WK rfl rfl rfl rfl ?_ | refine W3 rfl rfl rfl rfl ?_ | refine Wg rfl rfl (by omega) ?_ | refine Wc rfl rfl (by omega) ?_ | refine Qg ?_ | refine Qa ?_ | refine Qf ?_ | refine Qk ?_ | refine QB rfl ?_ | refine Qp rfl (by omega) ?_ | refine Qr rfl (by omega) ?_ | fail)
  rename_i g1 hg1
  obtain ⟨w, hw⟩ : ∃ w : List Int, w = [1, 1] := ⟨_, rfl⟩
  have hwl : w.length = 2 := by rw [hw]; rfl
  refine Wv (fun (i : Nat) => ⟨[(1, .ptr 0 g1 0), (3, QG w), (6, .i i)], [.row g1 [.i k, .i n, .i m, QG ks]]⟩) (fun i => i <= w.length /\ ∀ j (h : j < ks.length) (h' : j < w.length), j < i -> shM ks[j] = true /\ Z8 ks[j] = w[j]) (fun i => w.length - i) 0 ?_ ⟨by omega, fun j _ _ h => absurd h (by omega)⟩ ?_
  ·subst hw
   exact zal rfl
  rw [<- hw]
  clear hw
  intro i ⟨hi2, hall⟩
  by_cases hil : i < w.length
  ·have hik : i < ks.length := by omega
   have hs1 := hi _ (List.getElem_mem hik)
   have ht1 := hty _ (List.getElem_mem hik)
   have hF : ¬ (shM ks[i] = true /\ Z8 ks[i] = w[i]) -> shL ks w = false := fun hn => Bool.eq_false_iff.2 fun h => hn (shL_at h i hik hil)
   cases hb : shM ks[i] with
   | false =>
    rw [hF (by rw [hb]; simp)]
    rw [hb] at hs1
    clear hF hall hi hty
    (repeat' first | refine Qu rfl ?_ | refine QA rfl ?_ | refine QL rfl rfl ?_ | refine Qj rfl ?_ | refine x_gn rfl rfl rfl rfl ?_ | refine Qe ?_ | refine Qs rfl ?_ | refine Qg ?_ | refine Qa ?_ | refine Qf ?_ | (refine Q0 ?_; first | refine Q3 (by rfl) (by kernel_rfl) (by kernel_rfl) ?_ | refine QP (by kernel_rfl) (by kernel_rfl) ?_) | refine Qk ?_ | refine QB rfl ?_ | refine Qp rfl (by omega) ?_ | refine Qq ?_ | refine qb rfl (by (repeat' first | refine Qu rfl ?_ | refine QC rfl ?_ | refine Qb rfl rfl rfl ?_ | refine Ql rfl rfl (by first | assumption | omega | (simp; done) | (simp; omega)) ?_ | refine Wa rfl rfl (hs1) ?_ | refine WI rfl rfl ?_ | refine WC rfl ?_ | refine Qd rfl rfl ?_ | exact ⟨rfl, rfl⟩)) ?_ | refine ZS ?_ | fail)
    all_goals exact e_1 (Tryd.results89) (Qh rfl) (Qy (σ := []) (r := [_]) ⟨rfl, rfl⟩)
   | true =>
    rw [hb] at hs1
    by_cases hq : Z8 ks[i] = w[i]
    ·have hall2 : ∀ j (h : j < ks.length) (h' : j < w.length), j < i + 1 -> shM ks[j] = true /\ Z8 ks[j] = w[j] := fun j h h' hj => by
      by_cases e : j = i
      ·subst e; exact ⟨hb, hq⟩
      ·exact hall j h h' (by omega)
     clear hF hall hi hty
     (repeat' first | refine Qu rfl ?_ | refine QA rfl ?_ | refine QL rfl rfl ?_ | refine Q5 rfl rfl (by omega) ?_ | refine Qj rfl ?_ | refine Qe ?_ | refine Qs rfl ?_ | refine Qg ?_ | refine Qa ?_ | refine Qf ?_ | (refine Q0 ?_; first | refine Q3 (by rfl) (by kernel_rfl) (by kernel_rfl) ?_ | refine QP (by kernel_rfl) (by kernel_rfl) ?_) | refine Qk ?_ | refine Qp rfl (by omega) ?_ | refine Qr rfl (by omega) ?_ | refine qb rfl (by (repeat' first | refine Qu rfl ?_ | refine Qv rfl ?_ | refine QC rfl ?_ | refine Qb rfl rfl rfl ?_ | refine Ql rfl rfl (by first | assumption | omega | (simp; done) | (simp; omega)) ?_ | refine Wu rfl rfl ?_ | refine Wa rfl rfl (hs1) ?_ | refine Wa rfl rfl (ht1) ?_ | refine Wm rfl rfl ?_ | refine WC rfl ?_ | refine Qd rfl rfl ?_ | exact ⟨rfl, rfl⟩)) ?_ | refine x_gy rfl rfl rfl rfl (by (repeat' first | refine Qu rfl ?_ | refine Qv rfl ?_ | refine QC rfl ?_ | refine Qb rfl rfl rfl ?_ | refine Ql rfl rfl (by first | assumption | omega | (simp; done) | (simp; omega)) ?_ | refine Wu rfl rfl ?_ | refine Wa rfl rfl (hs1) ?_ | refine Wa rfl rfl (ht1) ?_ | refine Wm rfl rfl ?_ | refine WC rfl ?_ | refine Qd rfl rfl ?_ | exact ⟨rfl, rfl⟩)) ?_ | refine ZS ?_ | fail)
     refine ⟨i + 1, ⟨by omega, hall2⟩, by omega, ?_⟩
     exact zal rfl
    ·rw [hF (fun h => hq h.2)]
     clear hF hall hi hty
     (repeat' first | refine Qu rfl ?_ | refine QA rfl ?_ | refine QL rfl rfl ?_ | refine Qj rfl ?_ | refine Qe ?_ | refine Qs rfl ?_ | refine Qg ?_ | refine Qa ?_ | refine Qf ?_ | (refine Q0 ?_; first | refine Q3 (by rfl) (by kernel_rfl) (by kernel_rfl) ?_ | refine QP (by kernel_rfl) (by kernel_rfl) ?_) | refine Qk ?_ | refine Qp rfl (by omega) ?_ | refine Qq ?_ | refine qb rfl (by (repeat' first | refine Qu rfl ?_ | refine Qv rfl ?_ | refine QC rfl ?_ | refine Qb rfl rfl rfl ?_ | refine Ql rfl rfl (by first | assumption | omega | (simp; done) | (simp; omega)) ?_ | refine Wu rfl rfl ?_ | refine Wa rfl rfl (hs1) ?_ | refine Wa rfl rfl (ht1) ?_ | refine Wm rfl rfl ?_ | refine WC rfl ?_ | refine Qd rfl rfl ?_ | exact ⟨rfl, rfl⟩)) ?_ | refine x_gy rfl rfl rfl rfl (by (repeat' first | refine Qu rfl ?_ | refine Qv rfl ?_ | refine QC rfl ?_ | refine Qb rfl rfl rfl ?_ | refine Ql rfl rfl (by first | assumption | omega | (simp; done) | (simp; omega)) ?_ | refine Wu rfl rfl ?_ | refine Wa rfl rfl (hs1) ?_ | refine Wa rfl rfl (ht1) ?_ | refine Wm rfl rfl ?_ | refine WC rfl ?_ | refine Qd rfl rfl ?_ | exact ⟨rfl, rfl⟩)) ?_ | refine ZS ?_ | fail)
     all_goals exact e_1 (Tryd.results89) (Qh rfl) (Qy (σ := []) (r := [_]) ⟨rfl, rfl⟩)
  ·rw [shL_of fun j h h' => hall j h h' (by omega)]
   clear hall hi hty
   (repeat' first | refine Qu rfl ?_ | refine QA rfl ?_ | refine QL rfl rfl ?_ | refine Qj rfl ?_ | refine Qe ?_ | refine Qs rfl ?_ | refine Qg ?_ | refine Qa ?_ | refine Qr rfl (by omega) ?_ | refine Q2 rfl ?_ | refine Qq ?_ | fail)
   all_goals exact e_1 (Tryd.results89) (Qh rfl) (Qy (σ := []) (r := [_]) ⟨rfl, rfl⟩)
 by_cases h13 : n = 13
 ·have hS : shM (.mk k n m ks) = (decide (ks.length = 2) && shL ks [1, 1]) := by
   rw [W0, Zh, if_neg (by omega), if_neg (by omega), if_neg (by omega), if_pos (by omega), if_pos (by omega), if_pos (by omega)]; rfl
  have hWl : ([1, 1] : List Int).length = 2 := rfl
  by_cases hl : ks.length = 2
  rotate_left
  ·rw [hS, decide_eq_false hl, Bool.false_and]
   clear hi hty hS
   all_goals
    (repeat' first | refine Qu rfl ?_ | refine QA rfl ?_ | refine Qb rfl rfl rfl ?_ | refine QL rfl rfl ?_ | refine Wh rfl rfl ?_ | refine QJ rfl rfl ?_ | refine Wu rfl rfl ?_ | refine Qj rfl ?_ | refine WI rfl rfl ?_ | refine Wm rfl rfl ?_ | refine WO [(_ : Int), _] rfl rfl (by decide) rfl ?_ | refine W7 rfl ?_ | refine Qd rfl rfl ?_ | refine QU rfl rfl (fun _ _ => ?_) | refine Qe ?_ | refine Qs rfl ?_ | refine WK rfl rfl rfl rfl ?_ | refine Wg rfl rfl (by omega) ?_ | refine Wc rfl rfl (by omega) ?_ | refine Qg ?_ | refine Qa ?_ | refine Qf ?_ | refine Qp rfl (by omega) ?_ | refine Qr rfl (by omega) ?_ | refine Qq ?_ | fail)
    all_goals exact e_1 (Tryd.results89) (Qh rfl) (Qy (σ := []) (r := [_]) ⟨rfl, rfl⟩)
  rw [hS, decide_eq_true hl, Bool.true_and]
  clear hS
  (repeat' first | refine Qu rfl ?_ | refine QA rfl ?_ | refine Qb rfl rfl rfl ?_ | refine QL rfl rfl ?_ | refine Wh rfl rfl ?_ | refine QJ rfl rfl ?_ | refine Wu rfl rfl ?_ | refine Qj rfl ?_ | refine WI rfl rfl ?_ | refine Wm rfl rfl ?_ | refine WO [(_ : Int), _] rfl rfl (by decide) rfl ?_ | refine W7 rfl ?_ | refine Qd rfl rfl ?_ | refine QU rfl rfl (fun _ _ => ?_) | refine Qe ?_ | refine Qs rfl ?_ | refine WK rfl rfl rfl rfl ?_ | refine Wg rfl rfl (by omega) ?_ | refine Wc rfl rfl (by omega) ?_ | refine Qg ?_ | refine Qa ?_ | refine Qf ?_ | refine Qk ?_ | refine Qp rfl (by omega) ?_ | refine Qr rfl (by omega) ?_ | fail)
  rename_i g1 hg1
  obtain ⟨w, hw⟩ : ∃ w : List Int, w = [1, 1] := ⟨_, rfl⟩
  have hwl : w.length = 2 := by rw [hw]; rfl
  refine Wv (fun (i : Nat) => ⟨[(1, .ptr 0 g1 0), (3, QG w), (6, .i i)], [.row g1 [.i k, .i n, .i m, QG ks]]⟩) (fun i => i <= w.length /\ ∀ j (h : j < ks.length) (h' : j < w.length), j < i -> shM ks[j] = true /\ Z8 ks[j] = w[j]) (fun i => w.length - i) 0 ?_ ⟨by omega, fun j _ _ h => absurd h (by omega)⟩ ?_
  ·subst hw
   exact zal rfl
  rw [<- hw]
  clear hw
  intro i ⟨hi2, hall⟩
  by_cases hil : i < w.length
  ·have hik : i < ks.length := by omega
   have hs1 := hi _ (List.getElem_mem hik)
   have ht1 := hty _ (List.getElem_mem hik)
   have hF : ¬ (shM ks[i] = true /\ Z8 ks[i] = w[i]) -> shL ks w = false := fun hn => Bool.eq_false_iff.2 fun h => hn (shL_at h i hik hil)
   cases hb : shM ks[i] with
   | false =>
    rw [hF (by rw [hb]; simp)]
    rw [hb] at hs1
    clear hF hall hi hty
    (repeat' first | refine Qu rfl ?_ | refine QA rfl ?_ | refine QL rfl rfl ?_ | refine Qj rfl ?_ | refine x_gn rfl rfl rfl rfl ?_ | refine Qe ?_ | refine Qs rfl ?_ | refine Qg ?_ | refine Qa ?_ | refine Qf ?_ | (refine Q0 ?_; first | refine Q3 (by rfl) (by kernel_rfl) (by kernel_rfl) ?_ | refine QP (by kernel_rfl) (by kernel_rfl) ?_) | refine Qk ?_ | refine QB rfl ?_ | refine Qp rfl (by omega) ?_ | refine Qq ?_ | refine qb rfl (by (repeat' first | refine Qu rfl ?_ | refine QC rfl ?_ | refine Qb rfl rfl rfl ?_ | refine Ql rfl rfl (by first | assumption | omega | (simp; done) | (simp; omega)) ?_ | refine Wa rfl rfl (hs1) ?_ | refine WI rfl rfl ?_ | refine WC rfl ?_ | refine Qd rfl rfl ?_ | exact ⟨rfl, rfl⟩)) ?_ | refine ZS ?_ | fail)
    all_goals exact e_1 (Tryd.results89) (Qh rfl) (Qy (σ := []) (r := [_]) ⟨rfl, rfl⟩)
   | true =>
    rw [hb] at hs1
    by_cases hq : Z8 ks[i] = w[i]
    ·have hall2 : ∀ j (h : j < ks.length) (h' : j < w.length), j < i + 1 -> shM ks[j] = true /\ Z8 ks[j] = w[j] := fun j h h' hj => by
      by_cases e : j = i
      ·subst e; exact ⟨hb, hq⟩
      ·exact hall j h h' (by omega)
     clear hF hall hi hty
     (repeat' first | refine Qu rfl ?_ | refine QA rfl ?_ | refine QL rfl rfl ?_ | refine Q5 rfl rfl (by omega) ?_ | refine Qj rfl ?_ | refine Qe ?_ | refine Qs rfl ?_ | refine Qg ?_ | refine Qa ?_ | refine Qf ?_ | (refine Q0 ?_; first | refine Q3 (by rfl) (by kernel_rfl) (by kernel_rfl) ?_ | refine QP (by kernel_rfl) (by kernel_rfl) ?_) | refine Qk ?_ | refine Qp rfl (by omega) ?_ | refine Qr rfl (by omega) ?_ | refine qb rfl (by (repeat' first | refine Qu rfl ?_ | refine Qv rfl ?_ | refine QC rfl ?_ | refine Qb rfl rfl rfl ?_ | refine Ql rfl rfl (by first | assumption | omega | (simp; done) | (simp; omega)) ?_ | refine Wu rfl rfl ?_ | refine Wa rfl rfl (hs1) ?_ | refine Wa rfl rfl (ht1) ?_ | refine Wm rfl rfl ?_ | refine WC rfl ?_ | refine Qd rfl rfl ?_ | exact ⟨rfl, rfl⟩)) ?_ | refine x_gy rfl rfl rfl rfl (by (repeat' first | refine Qu rfl ?_ | refine Qv rfl ?_ | refine QC rfl ?_ | refine Qb rfl rfl rfl ?_ | refine Ql rfl rfl (by first | assumption | omega | (simp; done) | (simp; omega)) ?_ | refine Wu rfl rfl ?_ | refine Wa rfl rfl (hs1) ?_ | refine Wa rfl rfl (ht1) ?_ | refine Wm rfl rfl ?_ | refine WC rfl ?_ | refine Qd rfl rfl ?_ | exact ⟨rfl, rfl⟩)) ?_ | refine ZS ?_ | fail)
     refine ⟨i + 1, ⟨by omega, hall2⟩, by omega, ?_⟩
     exact zal rfl
    ·rw [hF (fun h => hq h.2)]
     clear hF hall hi hty
     (repeat' first | refine Qu rfl ?_ | refine QA rfl ?_ | refine QL rfl rfl ?_ | refine Qj rfl ?_ | refine Qe ?_ | refine Qs rfl ?_ | refine Qg ?_ | refine Qa ?_ | refine Qf ?_ | (refine Q0 ?_; first | refine Q3 (by rfl) (by kernel_rfl) (by kernel_rfl) ?_ | refine QP (by kernel_rfl) (by kernel_rfl) ?_) | refine Qk ?_ | refine Qp rfl (by omega) ?_ | refine Qq ?_ | refine qb rfl (by (repeat' first | refine Qu rfl ?_ | refine Qv rfl ?_ | refine QC rfl ?_ | refine Qb rfl rfl rfl ?_ | refine Ql rfl rfl (by first | assumption | omega | (simp; done) | (simp; omega)) ?_ | refine Wu rfl rfl ?_ | refine Wa rfl rfl (hs1) ?_ | refine Wa rfl rfl (ht1) ?_ | refine Wm rfl rfl ?_ | refine WC rfl ?_ | refine Qd rfl rfl ?_ | exact ⟨rfl, rfl⟩)) ?_ | refine x_gy rfl rfl rfl rfl (by (repeat' first | refine Qu rfl ?_ | refine Qv rfl ?_ | refine QC rfl ?_ | refine Qb rfl rfl rfl ?_ | refine Ql rfl rfl (by first | assumption | omega | (simp; done) | (simp; omega)) ?_ | refine Wu rfl rfl ?_ | refine Wa rfl rfl (hs1) ?_ | refine Wa rfl rfl (ht1) ?_ | refine Wm rfl rfl ?_ | refine WC rfl ?_ | refine Qd rfl rfl ?_ | exact ⟨rfl, rfl⟩)) ?_ | refine ZS ?_ | fail)
     all_goals exact e_1 (Tryd.results89) (Qh rfl) (Qy (σ := []) (r := [_]) ⟨rfl, rfl⟩)
  ·rw [shL_of fun j h h' => hall j h h' (by omega)]
   clear hall hi hty
   (repeat' first | refine Qu rfl ?_ | refine QA rfl ?_ | refine QL rfl rfl ?_ | refine Qj rfl ?_ | refine Qe ?_ | refine Qs rfl ?_ | refine Qg ?_ | refine Qa ?_ | refine Qr rfl (by omega) ?_ | refine Q2 rfl ?_ | refine Qq ?_ | fail)
   all_goals exact e_1 (Tryd.results89) (Qh rfl) (Qy (σ := []) (r := [_]) ⟨rfl, rfl⟩)
 ·have hS : shM (.mk k n m ks) = (decide (ks.length = 2) && shL ks [0, 0]) := by
   rw [W0, Zh, if_neg (by omega), if_neg (by omega), if_neg (by omega), if_pos (by omega), if_pos (by omega), if_neg (by omega)]; rfl
  have hWl : ([0, 0] : List Int).length = 2 := rfl
  by_cases hl : ks.length = 2
  rotate_left
  ·rw [hS, decide_eq_false hl, Bool.false_and]
   clear hi hty hS
   all_goals
    (repeat' first | refine Qu rfl ?_ | refine QA rfl ?_ | refine Qb rfl rfl rfl ?_ | refine QL rfl rfl ?_ | refine Wh rfl rfl ?_ | refine QJ rfl rfl ?_ | refine Wu rfl rfl ?_ | refine Qj rfl ?_ | refine WI rfl rfl ?_ | refine Wm rfl rfl ?_ | refine WO [(_ : Int), _] rfl rfl (by decide) rfl ?_ | refine W7 rfl ?_ | refine Qd rfl rfl ?_ | refine QU rfl rfl (fun _ _ => ?_) | refine Qe ?_ | refine Qs rfl ?_ | refine WK rfl rfl rfl rfl ?_ | refine Wg rfl rfl (by omega) ?_ | refine Wc rfl rfl (by omega) ?_ | refine Qg ?_ | refine Qa ?_ | refine Qf ?_ | refine Qk ?_ | refine Qp rfl (by omega) ?_ | refine Qr rfl (by omega) ?_ | refine Qq ?_ | fail)
    all_goals exact e_1 (Tryd.results89) (Qh rfl) (Qy (σ := []) (r := [_]) ⟨rfl, rfl⟩)
  rw [hS, decide_eq_true hl, Bool.true_and]
  clear hS
  (repeat' first | refine Qu rfl ?_ | refine QA rfl ?_ | refine Qb rfl rfl rfl ?_ | refine QL rfl rfl ?_ | refine Wh rfl rfl ?_ | refine QJ rfl rfl ?_ | refine Wu rfl rfl ?_ | refine Qj rfl ?_ | refine WI rfl rfl ?_ | refine Wm rfl rfl ?_ | refine WO [(_ : Int), _] rfl rfl (by decide) rfl ?_ | refine W7 rfl ?_ | refine Qd rfl rfl ?_ | refine QU rfl rfl (fun _ _ => ?_) | refine Qe ?_ | refine Qs rfl ?_ | refine WK rfl rfl rfl rfl ?_ | refine Wg rfl rfl (by omega) ?_ | refine Wc rfl rfl (by omega) ?_ | refine Qg ?_ | refine Qa ?_ | refine Qf ?_ | refine Qk ?_ | refine Qp rfl (by omega) ?_ | refine Qr rfl (by omega) ?_ | fail)
  rename_i g1 hg1
  obtain ⟨w, hw⟩ : ∃ w : List Int, w = [0, 0] := ⟨_, rfl⟩
  have hwl : w.length = 2 := by rw [hw]; rfl
  refine Wv (fun (i : Nat) => ⟨[(1, .ptr 0 g1 0), (3, QG w), (6, .i i)], [.row g1 [.i k, .i n, .i m, QG ks]]⟩) (fun i => i <= w.length /\ ∀ j (h : j < ks.length) (h' : j < w.length), j < i -> shM ks[j] = true /\ Z8 ks[j] = w[j]) (fun i => w.length - i) 0 ?_ ⟨by omega, fun j _ _ h => absurd h (by omega)⟩ ?_
  ·subst hw
   exact zal rfl
  rw [<- hw]
  clear hw
  intro i ⟨hi2, hall⟩
  by_cases hil : i < w.length
  ·have hik : i < ks.length := by omega
   have hs1 := hi _ (List.getElem_mem hik)
   have ht1 := hty _ (List.getElem_mem hik)
   have hF : ¬ (shM ks[i] = true /\ Z8 ks[i] = w[i]) -> shL ks w = false := fun hn => Bool.eq_false_iff.2 fun h => hn (shL_at h i hik hil)
   cases hb : shM ks[i] with
   | false =>
    rw [hF (by rw [hb]; simp)]
    rw [hb] at hs1
    clear hF hall hi hty
    (repeat' first | refine Qu rfl ?_ | refine QA rfl ?_ | refine QL rfl rfl ?_ | refine Qj rfl ?_ | refine x_gn rfl rfl rfl rfl ?_ | refine Qe ?_ | refine Qs rfl ?_ | refine Qg ?_ | refine Qa ?_ | refine Qf ?_ | (refine Q0 ?_; first | refine Q3 (by rfl) (by kernel_rfl) (by kernel_rfl) ?_ | refine QP (by kernel_rfl) (by kernel_rfl) ?_) | refine Qk ?_ | refine QB rfl ?_ | refine Qp rfl (by omega) ?_ | refine Qq ?_ | refine qb rfl (by (repeat' first | refine Qu rfl ?_ | refine QC rfl ?_ | refine Qb rfl rfl rfl ?_ | refine Ql rfl rfl (by first | assumption | omega | (simp; done) | (simp; omega)) ?_ | refine Wa rfl rfl (hs1) ?_ | refine WI rfl rfl ?_ | refine WC rfl ?_ | refine Qd rfl rfl ?_ | exact ⟨rfl, rfl⟩)) ?_ | refine ZS ?_ | fail)
    all_goals exact e_1 (Tryd.results89) (Qh rfl) (Qy (σ := []) (r := [_]) ⟨rfl, rfl⟩)
   | true =>
    rw [hb] at hs1
    by_cases hq : Z8 ks[i] = w[i]
    ·have hall2 : ∀ j (h : j < ks.length) (h' : j < w.length), j < i + 1 -> shM ks[j] = true /\ Z8 ks[j] = w[j] := fun j h h' hj => by
      by_cases e : j = i
      ·subst e; exact ⟨hb, hq⟩
      ·exact hall j h h' (by omega)
     clear hF hall hi hty
     (repeat' first | refine Qu rfl ?_ | refine QA rfl ?_ | refine QL rfl rfl ?_ | refine Q5 rfl rfl (by omega) ?_ | refine Qj rfl ?_ | refine Qe ?_ | refine Qs rfl ?_ | refine Qg ?_ | refine Qa ?_ | refine Qf ?_ | (refine Q0 ?_; first | refine Q3 (by rfl) (by kernel_rfl) (by kernel_rfl) ?_ | refine QP (by kernel_rfl) (by kernel_rfl) ?_) | refine Qk ?_ | refine Qp rfl (by omega) ?_ | refine Qr rfl (by omega) ?_ | refine qb rfl (by (repeat' first | refine Qu rfl ?_ | refine Qv rfl ?_ | refine QC rfl ?_ | refine Qb rfl rfl rfl ?_ | refine Ql rfl rfl (by first | assumption | omega | (simp; done) | (simp; omega)) ?_ | refine Wu rfl rfl ?_ | refine Wa rfl rfl (hs1) ?_ | refine Wa rfl rfl (ht1) ?_ | refine Wm rfl rfl ?_ | refine WC rfl ?_ | refine Qd rfl rfl ?_ | exact ⟨rfl, rfl⟩)) ?_ | refine x_gy rfl rfl rfl rfl (by (repeat' first | refine Qu rfl ?_ | refine Qv rfl ?_ | refine QC rfl ?_ | refine Qb rfl rfl rfl ?_ | refine Ql rfl rfl (by first | assumption | omega | (simp; done) | (simp; omega)) ?_ | refine Wu rfl rfl ?_ | refine Wa rfl rfl (hs1) ?_ | refine Wa rfl rfl (ht1) ?_ | refine Wm rfl rfl ?_ | refine WC rfl ?_ | refine Qd rfl rfl ?_ | exact ⟨rfl, rfl⟩)) ?_ | refine ZS ?_ | fail)
     refine ⟨i + 1, ⟨by omega, hall2⟩, by omega, ?_⟩
     exact zal rfl
    ·rw [hF (fun h => hq h.2)]
     clear hF hall hi hty
     (repeat' first | refine Qu rfl ?_ | refine QA rfl ?_ | refine QL rfl rfl ?_ | refine Qj rfl ?_ | refine Qe ?_ | refine Qs rfl ?_ | refine Qg ?_ | refine Qa ?_ | refine Qf ?_ | (refine Q0 ?_; first | refine Q3 (by rfl) (by kernel_rfl) (by kernel_rfl) ?_ | refine QP (by kernel_rfl) (by kernel_rfl) ?_) | refine Qk ?_ | refine Qp rfl (by omega) ?_ | refine Qq ?_ | refine qb rfl (by (repeat' first | refine Qu rfl ?_ | refine Qv rfl ?_ | refine QC rfl ?_ | refine Qb rfl rfl rfl ?_ | refine Ql rfl rfl (by first | assumption | omega | (simp; done) | (simp; omega)) ?_ | refine Wu rfl rfl ?_ | refine Wa rfl rfl (hs1) ?_ | refine Wa rfl rfl (ht1) ?_ | refine Wm rfl rfl ?_ | refine WC rfl ?_ | refine Qd rfl rfl ?_ | exact ⟨rfl, rfl⟩)) ?_ | refine x_gy rfl rfl rfl rfl (by (repeat' first | refine Qu rfl ?_ | refine Qv rfl ?_ | refine QC rfl ?_ | refine Qb rfl rfl rfl ?_ | refine Ql rfl rfl (by first | assumption | omega | (simp; done) | (simp; omega)) ?_ | refine Wu rfl rfl ?_ | refine Wa rfl rfl (hs1) ?_ | refine Wa rfl rfl (ht1) ?_ | refine Wm rfl rfl ?_ | refine WC rfl ?_ | refine Qd rfl rfl ?_ | exact ⟨rfl, rfl⟩)) ?_ | refine ZS ?_ | fail)
     all_goals exact e_1 (Tryd.results89) (Qh rfl) (Qy (σ := []) (r := [_]) ⟨rfl, rfl⟩)
  ·rw [shL_of fun j h h' => hall j h h' (by omega)]
   clear hall hi hty
   (repeat' first | refine Qu rfl ?_ | refine QA rfl ?_ | refine QL rfl rfl ?_ | refine Qj rfl ?_ | refine Qe ?_ | refine Qs rfl ?_ | refine Qg ?_ | refine Qa ?_ | refine Qr rfl (by omega) ?_ | refine Q2 rfl ?_ | refine Qq ?_ | fail)
   all_goals exact e_1 (Tryd.results89) (Qh rfl) (Qy (σ := []) (r := [_]) ⟨rfl, rfl⟩)
theorem shaped_10 (k n m : Int) (ks : List Nd) (hks : ks.length <= 1048576) (hi : ∀ x ∈ ks, Go.Av.Pure Tryd.prog G 89 [.agg (Enc.enc x)] (.b (shM x))) (hty : ∀ x ∈ ks, Go.Av.Pure Tryd.prog G 90 [.agg (Enc.enc x)] (.i (Z8 x))) (h4 : k ≠ 4) (h5 : k ≠ 5) (h6 : k ≠ 6) (h9 : k ≠ 9) (h10 : k = 10) : Go.Av.Pure Tryd.prog G 89 [.agg (Enc.enc (Nd.mk k n m ks))] (.b (shM (.mk k n m ks))) := fun B => by
 rw [Q9]
 refine Qc Tryd.func89 rfl Tryd.ntmps89 rfl (t := [(0, .agg [.i k, .i n, .i m, QG ks])]) rfl fun E hE => ?_
 have hdummy := 0
 by_cases c0 : m = 0
 rotate_left
 ·rw [show shM (.mk k n m ks) = false by rw [W0, Zh, if_neg (by omega), if_neg (by omega), if_neg (by omega), if_neg (by omega), if_pos (by omega), if_neg (by omega)]]
  clear hi hty
  (repeat' first | refine Qu rfl ?_ | refine QA rfl ?_ | refine Qb rfl rfl rfl ?_ | refine QJ rfl rfl ?_ | refine WI rfl rfl ?_ | refine Wm rfl rfl ?_ | refine WO [(_ : Int)] rfl rfl (by decide) rfl ?_ | refine WC rfl ?_ | refine Qd rfl rfl ?_ | refine QU rfl rfl (fun _ _ => ?_) | refine Qe ?_ | refine Qs rfl ?_ | refine W3 rfl rfl rfl rfl ?_ | refine Wc rfl rfl (by omega) ?_ | refine Qg ?_ | refine Qa ?_ | refine Qf ?_ | refine QB rfl ?_ | refine Qp rfl (by omega) ?_ | refine Qr rfl (by omega) ?_ | refine Qq ?_ | fail)
  all_goals exact e_1 (Tryd.results89) (Qh rfl) (Qy (σ := []) (r := [_]) ⟨rfl, rfl⟩)
 by_cases c1 : n = 0
 rotate_left
 ·rw [show shM (.mk k n m ks) = false by rw [W0, Zh, if_neg (by omega), if_neg (by omega), if_neg (by omega), if_neg (by omega), if_pos (by omega), if_neg (by omega)]]
  clear hi hty
  (repeat' first | refine Qu rfl ?_ | refine QA rfl ?_ | refine Qb rfl rfl rfl ?_ | refine QJ rfl rfl ?_ | refine WI rfl rfl ?_ | refine WO [(_ : Int)] rfl rfl (by decide) rfl ?_ | refine W7 rfl ?_ | refine Qd rfl rfl ?_ | refine QU rfl rfl (fun _ _ => ?_) | refine Qe ?_ | refine Qs rfl ?_ | refine WK rfl rfl rfl rfl ?_ | refine W3 rfl rfl rfl rfl ?_ | refine Wg rfl rfl (by omega) ?_ | refine Qg ?_ | refine Qa ?_ | refine Qf ?_ | refine QB rfl ?_ | refine Qp rfl (by omega) ?_ | refine Qr rfl (by omega) ?_ | refine Qq ?_ | fail)
  all_goals exact e_1 (Tryd.results89) (Qh rfl) (Qy (σ := []) (r := [_]) ⟨rfl, rfl⟩)
 ·have hS : shM (.mk k n m ks) = (decide (ks.length = 1) && shL ks [1]) := by
   rw [W0, Zh, if_neg (by omega), if_neg (by omega), if_neg (by omega), if_neg (by omega), if_pos (by omega), if_pos (by omega)]; rfl
  have hWl : ([1] : List Int).length = 1 := rfl
  by_cases hl : ks.length = 1
  rotate_left
  ·rw [hS, decide_eq_false hl, Bool.false_and]
   clear hi hty hS
   all_goals
    (repeat' first | refine Qu rfl ?_ | refine QA rfl ?_ | refine Qb rfl rfl rfl ?_ | refine QJ rfl rfl ?_ | refine Wu rfl rfl ?_ | refine Qj rfl ?_ | refine WI rfl rfl ?_ | refine Wm rfl rfl ?_ | refine WO [(_ : Int)] rfl rfl (by decide) rfl ?_ | refine W7 rfl ?_ | refine Qd rfl rfl ?_ | refine QU rfl rfl (fun _ _ => ?_) | refine Qe ?_ | refine Qs rfl ?_ | refine WK rfl rfl rfl rfl ?_ | refine Wg rfl rfl (by omega) ?_ | refine Wc rfl rfl (by omega) ?_ | refine Qg ?_ | refine Qa ?_ | refine Qf ?_ | refine Qp rfl (by omega) ?_ | refine Qr rfl (by omega) ?_ | refine Qq ?_ | fail)
    all_goals exact e_1 (Tryd.results89) (Qh rfl) (Qy (σ := []) (r := [_]) ⟨rfl, rfl⟩)
  rw [hS, decide_eq_true hl, Bool.true_and]
  clear hS
  (repeat' first | refine Qu rfl ?_ | refine QA rfl ?_ | refine Qb rfl rfl rfl ?_ | refine QJ rfl rfl ?_ | refine Wu rfl rfl ?_ | refine Qj rfl ?_ | refine WI rfl rfl ?_ | refine Wm rfl rfl ?_ | refine WO [(_ : Int)] rfl rfl (by decide) rfl ?_ | refine W7 rfl ?_ | refine Qd rfl rfl ?_ | refine QU rfl rfl (fun _ _ => ?_) | refine Qe ?_ | refine Qs rfl ?_ | refine WK rfl rfl rfl rfl ?_ | refine Wg rfl rfl (by omega) ?_ | refine Wc rfl rfl (by omega) ?_ | refine Qg ?_ | refine Qa ?_ | refine Qf ?_ | refine Qk ?_ | refine Qp rfl (by omega) ?_ | refine Qr rfl (by omega) ?_ | fail)
  rename_i g1 hg1
  obtain ⟨w, hw⟩ : ∃ w : List Int, w = [1] := ⟨_, rfl⟩
  have hwl : w.length = 1 := by rw [hw]; rfl
  refine Wv (fun (i : Nat) => ⟨[(1, .ptr 0 g1 0), (3, QG w), (6, .i i)], [.row g1 [.i k, .i n, .i m, QG ks]]⟩) (fun i => i <= w.length /\ ∀ j (h : j < ks.length) (h' : j < w.length), j < i -> shM ks[j] = true /\ Z8 ks[j] = w[j]) (fun i => w.length - i) 0 ?_ ⟨by omega, fun j _ _ h => absurd h (by omega)⟩ ?_
  ·subst hw
   exact zal rfl
  rw [<- hw]
  clear hw
  intro i ⟨hi2, hall⟩
  by_cases hil : i < w.length
  ·have hik : i < ks.length := by omega
   have hs1 := hi _ (List.getElem_mem hik)
   have ht1 := hty _ (List.getElem_mem hik)
   have hF : ¬ (shM ks[i] = true /\ Z8 ks[i] = w[i]) -> shL ks w = false := fun hn => Bool.eq_false_iff.2 fun h => hn (shL_at h i hik hil)
   cases hb : shM ks[i] with
   | false =>
    rw [hF (by rw [hb]; simp)]
    rw [hb] at hs1
    clear hF hall hi hty
    (repeat' first | refine Qu rfl ?_ | refine QA rfl ?_ | refine QL rfl rfl ?_ | refine Qj rfl ?_ | refine x_gn rfl rfl rfl rfl ?_ | refine Qe ?_ | refine Qs rfl ?_ | refine Qg ?_ | refine Qa ?_ | refine Qf ?_ | (refine Q0 ?_; first | refine Q3 (by rfl) (by kernel_rfl) (by kernel_rfl) ?_ | refine QP (by kernel_rfl) (by kernel_rfl) ?_) | refine Qk ?_ | refine QB rfl ?_ | refine Qp rfl (by omega) ?_ | refine Qq ?_ | refine qb rfl (by (repeat' first | refine Qu rfl ?_ | refine QC rfl ?_ | refine Qb rfl rfl rfl ?_ | refine Ql rfl rfl (by first | assumption | omega | (simp; done) | (simp; omega)) ?_ | refine Wa rfl rfl (hs1) ?_ | refine WI rfl rfl ?_ | refine WC rfl ?_ | refine Qd rfl rfl ?_ | exact ⟨rfl, rfl⟩)) ?_ | refine ZS ?_ | fail)
    all_goals exact e_1 (Tryd.results89) (Qh rfl) (Qy (σ := []) (r := [_]) ⟨rfl, rfl⟩)
   | true =>
    rw [hb] at hs1
    by_cases hq : Z8 ks[i] = w[i]
    ·have hall2 : ∀ j (h : j < ks.length) (h' : j < w.length), j < i + 1 -> shM ks[j] = true /\ Z8 ks[j] = w[j] := fun j h h' hj => by
      by_cases e : j = i
      ·subst e; exact ⟨hb, hq⟩
      ·exact hall j h h' (by omega)
     clear hF hall hi hty
     (repeat' first | refine Qu rfl ?_ | refine QA rfl ?_ | refine QL rfl rfl ?_ | refine Q5 rfl rfl (by omega) ?_ | refine Qj rfl ?_ | refine Qe ?_ | refine Qs rfl ?_ | refine Qg ?_ | refine Qa ?_ | refine Qf ?_ | (refine Q0 ?_; first | refine Q3 (by rfl) (by kernel_rfl) (by kernel_rfl) ?_ | refine QP (by kernel_rfl) (by kernel_rfl) ?_) | refine Qk ?_ | refine Qp rfl (by omega) ?_ | refine Qr rfl (by omega) ?_ | refine qb rfl (by (repeat' first | refine Qu rfl ?_ | refine Qv rfl ?_ | refine QC rfl ?_ | refine Qb rfl rfl rfl ?_ | refine Ql rfl rfl (by first | assumption | omega | (simp; done) | (simp; omega)) ?_ | refine Wu rfl rfl ?_ | refine Wa rfl rfl (hs1) ?_ | refine Wa rfl rfl (ht1) ?_ | refine Wm rfl rfl ?_ | refine WC rfl ?_ | refine Qd rfl rfl ?_ | exact ⟨rfl, rfl⟩)) ?_ | refine x_gy rfl rfl rfl rfl (by (repeat' first | refine Qu rfl ?_ | refine Qv rfl ?_ | refine QC rfl ?_ | refine Qb rfl rfl rfl ?_ | refine Ql rfl rfl (by first | assumption | omega | (simp; done) | (simp; omega)) ?_ | refine Wu rfl rfl ?_ | refine Wa rfl rfl (hs1) ?_ | refine Wa rfl rfl (ht1) ?_ | refine Wm rfl rfl ?_ | refine WC rfl ?_ | refine Qd rfl rfl ?_ | exact ⟨rfl, rfl⟩)) ?_ | refine ZS ?_ | fail)
     refine ⟨i + 1, ⟨by omega, hall2⟩, by omega, ?_⟩
     exact zal rfl
    ·rw [hF (fun h => hq h.2)]
     clear hF hall hi hty
     (repeat' first | refine Qu rfl ?_ | refine QA rfl ?_ | refine QL rfl rfl ?_ | refine Qj rfl ?_ | refine Qe ?_ | refine Qs rfl ?_ | refine Qg ?_ | refine Qa ?_ | refine Qf ?_ | (refine Q0 ?_; first | refine Q3 (by rfl) (by kernel_rfl) (by kernel_rfl) ?_ | refine QP (by kernel_rfl) (by kernel_rfl) ?_) | refine Qk ?_ | refine Qp rfl (by omega) ?_ | refine Qq ?_ | refine qb rfl (by (repeat' first | refine Qu rfl ?_ | refine Qv rfl ?_ | refine QC rfl ?_ | refine Qb rfl rfl rfl ?_ | refine Ql rfl rfl (by first | assumption | omega | (simp; done) | (simp; omega)) ?_ | refine Wu rfl rfl ?_ | refine Wa rfl rfl (hs1) ?_ | refine Wa rfl rfl (ht1) ?_ | refine Wm rfl rfl ?_ | refine WC rfl ?_ | refine Qd rfl rfl ?_ | exact ⟨rfl, rfl⟩)) ?_ | refine x_gy rfl rfl rfl rfl (by (repeat' first | refine Qu rfl ?_ | refine Qv rfl ?_ | refine QC rfl ?_ | refine Qb rfl rfl rfl ?_ | refine Ql rfl rfl (by first | assumption | omega | (simp; done) | (simp; omega)) ?_ | refine Wu rfl rfl ?_ | refine Wa rfl rfl (hs1) ?_ | refine Wa rfl rfl (ht1) ?_ | refine Wm rfl rfl ?_ | refine WC rfl ?_ | refine Qd rfl rfl ?_ | exact ⟨rfl, rfl⟩)) ?_ | refine ZS ?_ | fail)
     all_goals exact e_1 (Tryd.results89) (Qh rfl) (Qy (σ := []) (r := [_]) ⟨rfl, rfl⟩)
  ·rw [shL_of fun j h h' => hall j h h' (by omega)]
   clear hall hi hty
   (repeat' first | refine Qu rfl ?_ | refine QA rfl ?_ | refine QL rfl rfl ?_ | refine Qj rfl ?_ | refine Qe ?_ | refine Qs rfl ?_ | refine Qg ?_ | refine Qa ?_ | refine Qr rfl (by omega) ?_ | refine Q2 rfl ?_ | refine Qq ?_ | fail)
   all_goals exact e_1 (Tryd.results89) (Qh rfl) (Qy (σ := []) (r := [_]) ⟨rfl, rfl⟩)
theorem shaped_29 (k n m : Int) (ks : List Nd) (hks : ks.length <= 1048576) (hi : ∀ x ∈ ks, Go.Av.Pure Tryd.prog G 89 [.agg (Enc.enc x)] (.b (shM x))) (hty : ∀ x ∈ ks, Go.Av.Pure Tryd.prog G 90 [.agg (Enc.enc x)] (.i (Z8 x))) (h4 : k ≠ 4) (h5 : k ≠ 5) (h6 : k ≠ 6) (h9 : k ≠ 9) (h10 : k ≠ 10) (h29 : k = 29) : Go.Av.Pure Tryd.prog G 89 [.agg (Enc.enc (Nd.mk k n m ks))] (.b (shM (.mk k n m ks))) := fun B => by
 rw [Q9]
 refine Qc Tryd.func89 rfl Tryd.ntmps89 rfl (t := [(0, .agg [.i k, .i n, .i m, QG ks])]) rfl fun E hE => ?_
 have hdummy := 0
 by_cases c0 : m = 0
 rotate_left
 ·rw [show shM (.mk k n m ks) = false by rw [W0, Zh, if_neg (by omega), if_neg (by omega), if_neg (by omega), if_neg (by omega), if_neg (by omega), if_pos (by omega), if_neg (by omega)]]
  clear hi hty
  (repeat' first | refine Qu rfl ?_ | refine QA rfl ?_ | refine Qb rfl rfl rfl ?_ | refine QJ rfl rfl ?_ | refine WI rfl rfl ?_ | refine Wm rfl rfl ?_ | refine WC rfl ?_ | refine Qd rfl rfl ?_ | refine QU rfl rfl (fun _ _ => ?_) | refine Qe ?_ | refine Qs rfl ?_ | refine W3 rfl rfl rfl rfl ?_ | refine Wc rfl rfl (by omega) ?_ | refine Qg ?_ | refine Qa ?_ | refine Qf ?_ | refine Qk ?_ | refine QB rfl ?_ | refine Qo rfl ?_ | refine Qp rfl (by omega) ?_ | refine Qr rfl (by omega) ?_ | refine Qq ?_ | fail)
  all_goals exact e_1 (Tryd.results89) (Qh rfl) (Qy (σ := []) (r := [_]) ⟨rfl, rfl⟩)
 by_cases c1 : n = 0
 rotate_left
 ·rw [show shM (.mk k n m ks) = false by rw [W0, Zh, if_neg (by omega), if_neg (by omega), if_neg (by omega), if_neg (by omega), if_neg (by omega), if_pos (by omega), if_neg (by omega)]]
  clear hi hty
  (repeat' first | refine Qu rfl ?_ | refine QA rfl ?_ | refine Qb rfl rfl rfl ?_ | refine QJ rfl rfl ?_ | refine WI rfl rfl ?_ | refine Wm rfl rfl ?_ | refine WC rfl ?_ | refine Qd rfl rfl ?_ | refine QU rfl rfl (fun _ _ => ?_) | refine Qe ?_ | refine Qs rfl ?_ | refine WK rfl rfl rfl rfl ?_ | refine W3 rfl rfl rfl rfl ?_ | refine Wg rfl rfl (by omega) ?_ | refine Wc rfl rfl (by omega) ?_ | refine Qg ?_ | refine Qa ?_ | refine Qf ?_ | refine Qk ?_ | refine QB rfl ?_ | refine Qo rfl ?_ | refine Qp rfl (by omega) ?_ | refine Qr rfl (by omega) ?_ | refine Qq ?_ | fail)
  all_goals exact e_1 (Tryd.results89) (Qh rfl) (Qy (σ := []) (r := [_]) ⟨rfl, rfl⟩)
 by_cases c2 : ks.length = 3
 rotate_left
 ·rw [show shM (.mk k n m ks) = false by rw [W0, Zh, if_neg (by omega), if_neg (by omega), if_neg (by omega), if_neg (by omega), if_neg (by omega), if_pos (by omega), if_neg (by omega)]]
  clear hi hty
  (repeat' first | refine Qu rfl ?_ | refine QA rfl ?_ | refine Qb rfl rfl rfl ?_ | refine QJ rfl rfl ?_ | refine Qj rfl ?_ | refine WI rfl rfl ?_ | refine W7 rfl ?_ | refine Qd rfl rfl ?_ | refine QU rfl rfl (fun _ _ => ?_) | refine Qe ?_ | refine Qs rfl ?_ | refine WK rfl rfl rfl rfl ?_ | refine W3 rfl rfl rfl rfl ?_ | refine Wg rfl rfl (by omega) ?_ | refine Qg ?_ | refine Qa ?_ | refine Qf ?_ | refine Qk ?_ | refine QB rfl ?_ | refine Qp rfl (by omega) ?_ | refine Qr rfl (by omega) ?_ | refine Qq ?_ | fail)
  all_goals exact e_1 (Tryd.results89) (Qh rfl) (Qy (σ := []) (r := [_]) ⟨rfl, rfl⟩)
 ·have hS : shM (.mk k n m ks) = (decide (ks.length = 3) && shL ks [1, typ3 ks, typ3 ks]) := by
   rw [W0, Zh, if_neg (by omega), if_neg (by omega), if_neg (by omega), if_neg (by omega), if_neg (by omega), if_pos (by omega), if_pos (by omega)]; rfl
  have hk1 : 1 < ks.length := by omega
  have hty1 := hty _ (List.getElem_mem hk1)
  have h3 := typ3_at c2
  rw [<- h3] at hty1
  generalize typ3 ks = ty at *
  have hWl : ([1, ty, ty] : List Int).length = 3 := rfl
  by_cases hl : ks.length = 3
  rotate_left
  ·rw [hS, decide_eq_false hl, Bool.false_and]
   clear hi hty hS
   all_goals
    (repeat' first | refine Qu rfl ?_ | refine QA rfl ?_ | refine Qb rfl rfl rfl ?_ | refine ZN rfl rfl ?_ | refine Wh rfl rfl ?_ | refine QJ rfl rfl ?_ | refine WI rfl rfl ?_ | refine W7 rfl ?_ | refine Qd rfl rfl ?_ | refine QU rfl rfl (fun _ _ => ?_) | refine Qe ?_ | refine Qs rfl ?_ | refine WK rfl rfl rfl rfl ?_ | refine W3 rfl rfl rfl rfl ?_ | refine Wg rfl rfl (by omega) ?_ | refine Qg ?_ | refine Qa ?_ | refine Qf ?_ | refine QB rfl ?_ | refine Qp rfl (by omega) ?_ | refine Qq ?_ | fail)
    all_goals exact e_1 (Tryd.results89) (Qh rfl) (Qy (σ := []) (r := [_]) ⟨rfl, rfl⟩)
  rw [hS, decide_eq_true hl, Bool.true_and]
  clear hS
  (repeat' first | refine Qu rfl ?_ | refine QA rfl ?_ | refine QC rfl ?_ | refine Qb rfl rfl rfl ?_ | refine Ql rfl rfl (by first | assumption | omega | (simp; done) | (simp; omega)) ?_ | refine QJ rfl rfl ?_ | refine Wu rfl rfl ?_ | refine Qj rfl ?_ | refine Wa rfl rfl (hty1) ?_ | refine WI rfl rfl ?_ | refine Wm rfl rfl ?_ | refine WO [(_ : Int), _, _] rfl rfl (by decide) rfl ?_ | refine W7 rfl ?_ | refine Qd rfl rfl ?_ | refine QU rfl rfl (fun _ _ => ?_) | refine Qe ?_ | refine Qs rfl ?_ | refine WK rfl rfl rfl rfl ?_ | refine Wg rfl rfl (by omega) ?_ | refine Wc rfl rfl (by omega) ?_ | refine Qg ?_ | refine Qa ?_ | refine Qf ?_ | refine Qk ?_ | refine Qp rfl (by omega) ?_ | refine Qr rfl (by omega) ?_ | fail)
  rename_i g1 hg1
  obtain ⟨w, hw⟩ : ∃ w : List Int, w = [1, ty, ty] := ⟨_, rfl⟩
  have hwl : w.length = 3 := by rw [hw]; rfl
  refine Wv (fun (i : Nat) => ⟨[(1, .ptr 0 g1 0), (3, QG w), (6, .i i)], [.row g1 [.i k, .i n, .i m, QG ks]]⟩) (fun i => i <= w.length /\ ∀ j (h : j < ks.length) (h' : j < w.length), j < i -> shM ks[j] = true /\ Z8 ks[j] = w[j]) (fun i => w.length - i) 0 ?_ ⟨by omega, fun j _ _ h => absurd h (by omega)⟩ ?_
  ·subst hw
   exact zal rfl
  rw [<- hw]
  clear hw
  intro i ⟨hi2, hall⟩
  by_cases hil : i < w.length
  ·have hik : i < ks.length := by omega
   have hs1 := hi _ (List.getElem_mem hik)
   have ht1 := hty _ (List.getElem_mem hik)
   have hF : ¬ (shM ks[i] = true /\ Z8 ks[i] = w[i]) -> shL ks w = false := fun hn => Bool.eq_false_iff.2 fun h => hn (shL_at h i hik hil)
   cases hb : shM ks[i] with
   | false =>
    rw [hF (by rw [hb]; simp)]
    rw [hb] at hs1
    clear hF hall hi hty
    (repeat' first | refine Qu rfl ?_ | refine QA rfl ?_ | refine QL rfl rfl ?_ | refine Qj rfl ?_ | refine x_gn rfl rfl rfl rfl ?_ | refine Qe ?_ | refine Qs rfl ?_ | refine Qg ?_ | refine Qa ?_ | refine Qf ?_ | (refine Q0 ?_; first | refine Q3 (by rfl) (by kernel_rfl) (by kernel_rfl) ?_ | refine QP (by kernel_rfl) (by kernel_rfl) ?_) | refine Qk ?_ | refine QB rfl ?_ | refine Qp rfl (by omega) ?_ | refine Qq ?_ | refine qb rfl (by (repeat' first | refine Qu rfl ?_ | refine QC rfl ?_ | refine Qb rfl rfl rfl ?_ | refine Ql rfl rfl (by first | assumption | omega | (simp; done) | (simp; omega)) ?_ | refine Wa rfl rfl (hs1) ?_ | refine WI rfl rfl ?_ | refine WC rfl ?_ | refine Qd rfl rfl ?_ | exact ⟨rfl, rfl⟩)) ?_ | refine ZS ?_ | fail)
    all_goals exact e_1 (Tryd.results89) (Qh rfl) (Qy (σ := []) (r := [_]) ⟨rfl, rfl⟩)
   | true =>
    rw [hb] at hs1
    by_cases hq : Z8 ks[i] = w[i]
    ·have hall2 : ∀ j (h : j < ks.length) (h' : j < w.length), j < i + 1 -> shM ks[j] = true /\ Z8 ks[j] = w[j] := fun j h h' hj => by
      by_cases e : j = i
      ·subst e; exact ⟨hb, hq⟩
      ·exact hall j h h' (by omega)
     clear hF hall hi hty
     (repeat' first | refine Qu rfl ?_ | refine QA rfl ?_ | refine QL rfl rfl ?_ | refine Q5 rfl rfl (by omega) ?_ | refine Qj rfl ?_ | refine Qe ?_ | refine Qs rfl ?_ | refine Qg ?_ | refine Qa ?_ | refine Qf ?_ | (refine Q0 ?_; first | refine Q3 (by rfl) (by kernel_rfl) (by kernel_rfl) ?_ | refine QP (by kernel_rfl) (by kernel_rfl) ?_) | refine Qk ?_ | refine Qp rfl (by omega) ?_ | refine Qr rfl (by omega) ?_ | refine qb rfl (by (repeat' first | refine Qu rfl ?_ | refine Qv rfl ?_ | refine QC rfl ?_ | refine Qb rfl rfl rfl ?_ | refine Ql rfl rfl (by first | assumption | omega | (simp; done) | (simp; omega)) ?_ | refine Wu rfl rfl ?_ | refine Wa rfl rfl (hs1) ?_ | refine Wa rfl rfl (ht1) ?_ | refine Wm rfl rfl ?_ | refine WC rfl ?_ | refine Qd rfl rfl ?_ | exact ⟨rfl, rfl⟩)) ?_ | refine x_gy rfl rfl rfl rfl (by (repeat' first | refine Qu rfl ?_ | refine Qv rfl ?_ | refine QC rfl ?_ | refine Qb rfl rfl rfl ?_ | refine Ql rfl rfl (by first | assumption | omega | (simp; done) | (simp; omega)) ?_ | refine Wu rfl rfl ?_ | refine Wa rfl rfl (hs1) ?_ | refine Wa rfl rfl (ht1) ?_ | refine Wm rfl rfl ?_ | refine WC rfl ?_ | refine Qd rfl rfl ?_ | exact ⟨rfl, rfl⟩)) ?_ | refine ZS ?_ | fail)
     refine ⟨i + 1, ⟨by omega, hall2⟩, by omega, ?_⟩
     exact zal rfl
    ·rw [hF (fun h => hq h.2)]
     clear hF hall hi hty
     (repeat' first | refine Qu rfl ?_ | refine QA rfl ?_ | refine QL rfl rfl ?_ | refine Qj rfl ?_ | refine Qe ?_ | refine Qs rfl ?_ | refine Qg ?_ | refine Qa ?_ | refine Qf ?_ | (refine Q0 ?_; first | refine Q3 (by rfl) (by kernel_rfl) (by kernel_rfl) ?_ | refine QP (by kernel_rfl) (by kernel_rfl) ?_) | refine Qk ?_ | refine Qp rfl (by omega) ?_ | refine Qq ?_ | refine qb rfl (by (repeat' first | refine Qu rfl ?_ | refine Qv rfl ?_ | refine QC rfl ?_ | refine Qb rfl rfl rfl ?_ | refine Ql rfl rfl (by first | assumption | omega | (simp; done) | (simp; omega)) ?_ | refine Wu rfl rfl ?_ | refine Wa rfl rfl (hs1) ?_ | refine Wa rfl rfl (ht1) ?_ | refine Wm rfl rfl ?_ | refine WC rfl ?_ | refine Qd rfl rfl ?_ | exact ⟨rfl, rfl⟩)) ?_ | refine x_gy rfl rfl rfl rfl (by (repeat' first | refine Qu rfl ?_ | refine Qv rfl ?_ | refine QC rfl ?_ | refine Qb rfl rfl rfl ?_ | refine Ql rfl rfl (by first | assumption | omega | (simp; done) | (simp; omega)) ?_ | refine Wu rfl rfl ?_ | refine Wa rfl rfl (hs1) ?_ | refine Wa rfl rfl (ht1) ?_ | refine Wm rfl rfl ?_ | refine WC rfl ?_ | refine Qd rfl rfl ?_ | exact ⟨rfl, rfl⟩)) ?_ | refine ZS ?_ | fail)
     all_goals exact e_1 (Tryd.results89) (Qh rfl) (Qy (σ := []) (r := [_]) ⟨rfl, rfl⟩)
  ·rw [shL_of fun j h h' => hall j h h' (by omega)]
   clear hall hi hty
   (repeat' first | refine Qu rfl ?_ | refine QA rfl ?_ | refine QL rfl rfl ?_ | refine Qj rfl ?_ | refine Qe ?_ | refine Qs rfl ?_ | refine Qg ?_ | refine Qa ?_ | refine Qr rfl (by omega) ?_ | refine Q2 rfl ?_ | refine Qq ?_ | fail)
   all_goals exact e_1 (Tryd.results89) (Qh rfl) (Qy (σ := []) (r := [_]) ⟨rfl, rfl⟩)
theorem shaped_x (k n m : Int) (ks : List Nd) (hks : ks.length <= 1048576) (hi : ∀ x ∈ ks, Go.Av.Pure Tryd.prog G 89 [.agg (Enc.enc x)] (.b (shM x))) (hty : ∀ x ∈ ks, Go.Av.Pure Tryd.prog G 90 [.agg (Enc.enc x)] (.i (Z8 x))) (h4 : k ≠ 4) (h5 : k ≠ 5) (h6 : k ≠ 6) (h9 : k ≠ 9) (h10 : k ≠ 10) (h29 : k ≠ 29) : Go.Av.Pure Tryd.prog G 89 [.agg (Enc.enc (Nd.mk k n m ks))] (.b (shM (.mk k n m ks))) := fun B => by
 rw [Q9]
 refine Qc Tryd.func89 rfl Tryd.ntmps89 rfl (t := [(0, .agg [.i k, .i n, .i m, QG ks])]) rfl fun E hE => ?_
 rw [show shM (.mk k n m ks) = false by rw [W0, Zh, if_neg (by omega), if_neg (by omega), if_neg (by omega), if_neg (by omega), if_neg (by omega), if_neg (by omega)]]
 clear hi hty
 (repeat' first | refine QA rfl ?_ | refine Qb rfl rfl rfl ?_ | refine QJ rfl rfl ?_ | refine Qd rfl rfl ?_ | refine QU rfl rfl (fun _ _ => ?_) | refine Qe ?_ | refine Qs rfl ?_ | refine Qg ?_ | refine Qa ?_ | refine Qf ?_ | refine Qr rfl (by omega) ?_ | refine Qq ?_ | fail)
 all_goals exact e_1 (Tryd.results89) (Qh rfl) (Qy (σ := []) (r := [_]) ⟨rfl, rfl⟩)
theorem shaped_c (t : Nd) : Fit t -> Go.Av.Pure Tryd.prog G 89 [.agg (Enc.enc t)] (.b (shM t)) := by
 induction t using Nd.ind with
 | h k n m ks ih =>
 intro hfit
 have hks := hfit.len
 have hi : ∀ x ∈ ks, Go.Av.Pure Tryd.prog G 89 [.agg (Enc.enc x)] (.b (shM x)) := fun x hx => ih x hx (hfit.kids x hx)
 have hty : ∀ x ∈ ks, Go.Av.Pure Tryd.prog G 90 [.agg (Enc.enc x)] (.i (Z8 x)) := fun x hx => r20Type_c x (hfit.kids x hx)
 by_cases h4 : k = 4
 ·exact shaped_4 k n m ks hks hi hty h4
 by_cases h5 : k = 5
 ·exact shaped_5 k n m ks hks hi hty h4 h5
 by_cases h6 : k = 6
 ·exact shaped_6 k n m ks hks hi hty h4 h5 h6
 by_cases h9 : k = 9
 ·exact shaped_9 k n m ks hks hi hty h4 h5 h6 h9
 by_cases h10 : k = 10
 ·exact shaped_10 k n m ks hks hi hty h4 h5 h6 h9 h10
 by_cases h29 : k = 29
 ·exact shaped_29 k n m ks hks hi hty h4 h5 h6 h9 h10 h29
 exact shaped_x k n m ks hks hi hty h4 h5 h6 h9 h10 h29
theorem enc_drop2 (t : Nd) : (Enc.enc t : List DV).drop 2 = .i (ndM t) :: (Enc.enc t : List DV).drop 3 := by cases t; rfl
def prN (x : Nd) : Int × Int := (ndN x, ndM x)
theorem nodesN_pr (t : Nd) : (Ze t).map prN = QM t := nodesN_vars t
theorem fitS_step (L : List Nd) (A : List Int) {B : List Int} {q : Nat} (hq : q < L.length) (h : fitS ((L.take q).map prN) A = some B) :
  fitS ((L.take (q + 1)).map prN) A = if B.getD (ndN L[q]).toNat 0 = 2 - ndM L[q] then none else some (B.set (ndN L[q]).toNat (1 + ndM L[q])) := by
 rw [List.take_succ_eq_append_getElem hq, List.map_append, fitS_app, h]
 rfl
theorem fitS_bad (L : List Nd) (A : List Int) {q : Nat} (h : fitS ((L.take q).map prN) A = none) : fitS (L.map prN) A = none := by
 have : L = L.take q ++ L.drop q := (List.take_append_drop q L).symm
 rw [this, List.map_append, fitS_app, h]; rfl
theorem varsL_app (a b : List Nd) : QO (a ++ b) = QO a ++ QO b := by
 induction a with
 | nil => rfl
 | cons x r ih => rw [List.cons_append, QO, QO, ih, List.append_assoc]
theorem varsL_take {ks : List Nd} {i : Nat} (h : i < ks.length) : QO (ks.take (i + 1)) = QO (ks.take i) ++ QM ks[i] := by
 rw [List.take_succ_eq_append_getElem h, varsL_app, QO, QO, List.append_nil]
theorem r20Fit_c (ts : List Nd) (hsz : QN ts <= 100000) (hr : Rng (QO ts)) : Go.Av.Pure Tryd.prog G 44 [QG ts] (.b (fitL (QO ts))) := fun B => by
 have hlen := Zf ts
 have hz : WS [Value.int .i64 0] (64 : Int).toNat = Qt (List.replicate 64 (0 : Int)) := Zc _
 refine Qc Tryd.func44 rfl Tryd.ntmps44 rfl (t := [(0, QG ts)]) rfl fun E hE => ?_
 (repeat' first | refine QA rfl ?_ | refine s_make rfl rfl rfl (by omega) (by omega) (by omega) (by omega) (fun _ _ => ?_) | refine Qe ?_ | refine Qs rfl ?_ | refine Qg ?_ | refine Qa ?_ | refine Qf ?_ | fail)
 rename_i g hg
 refine ZV (fun (i : Nat) (A : List Int) => ⟨[(0, QG ts), (3, .ref 0 g 0 64 1), (4, .i i)], [.row g (Qt A)]⟩) (fun i A => i <= ts.length /\ fitS (QO (ts.take i)) (List.replicate 64 0) = some A) (fun i _ => ts.length - i) 0 (List.replicate 64 0) ?_ ⟨by omega, rfl⟩ ?_
 ·rw [<- hz]
  exact zal rfl
 intro i A ⟨hi, hA⟩
 have hAl : A.length = 64 := by rw [fitS_len hA, List.length_replicate]
 (repeat' first | refine Qu rfl ?_ | refine QL rfl rfl ?_ | refine Qj rfl ?_ | refine Qe ?_ | refine Qs rfl ?_ | refine Qg ?_ | refine Qa ?_ | fail)
 refine QE rfl (fun h => ?_) (fun h => ?_)
 ·have hj : i < ts.length := by omega
  have hle := WT (List.getElem_mem hj)
  have hn := (nodes_c (G := G) ts[i] (by omega)).read
  have hnl := nodesN_len ts[i]
  have hLr : ∀ q (h : q < (Ze ts[i]).length), (0 <= ndN (Ze ts[i])[q] /\ ndN (Ze ts[i])[q] <= 63) /\ (ndM (Ze ts[i])[q] = 0 \/ ndM (Ze ts[i])[q] = 1) := fun q h => by
   refine hr (prN (Ze ts[i])[q]) (mem_varsL (List.getElem_mem hj) ?_)
   rw [<- nodesN_pr]
   exact List.mem_map.2 ⟨_, List.getElem_mem h, rfl⟩
  have hsu := varsL_take hj
  rw [<- nodesN_pr] at hsu
  have hbad : fitS ((Ze ts[i]).map prN) A = none -> fitL (QO ts) = false := fun h => by
   have e : QO ts = QO (ts.take (i + 1)) ++ QO (ts.drop (i + 1)) := by rw [<- varsL_app, List.take_append_drop]
   unfold fitL
   rw [e, fitS_app, hsu, fitS_app, hA]
   show ((fitS ((Ze ts[i]).map prN) A).bind _).isSome = false
   rw [h]; rfl
  have hgood : ∀ B, fitS ((Ze ts[i]).map prN) A = some B -> fitS (QO (ts.take (i + 1))) (List.replicate 64 0) = some B := fun B h => by
   rw [hsu, fitS_app, hA]; exact h
  have hll : (Ze ts[i]).length <= 100000 := by omega
  clear hsu hnl hr hA
  generalize Ze ts[i] = L at *
  (repeat' first | refine Qu rfl ?_ | refine QA rfl ?_ | refine QC rfl ?_ | refine Ql rfl rfl (by first | assumption | omega | (simp; done) | (simp; omega)) ?_ | refine Wa rfl rfl (hn) ?_ | refine Qe ?_ | refine Qs rfl ?_ | refine Qg ?_ | refine Qa ?_ | refine Qf ?_ | refine Qk ?_ | fail)
  refine ZV (fun (q : Nat) (C : List Int) => ⟨[(0, QG ts), (3, .ref 0 g 0 64 1), (4, .i i), (5, QG L), (6, .i q)], [.row g (Qt C)]⟩) (fun q C => q <= L.length /\ fitS ((L.take q).map prN) A = some C) (fun q _ => L.length - q) 0 A ?_ ⟨by omega, rfl⟩ ?_
  ·exact zal rfl
  intro q C ⟨hq, hC⟩
  have hCl : C.length = 64 := by rw [fitS_len hC, hAl]
  (repeat' first | refine Qu rfl ?_ | refine QL rfl rfl ?_ | refine Qj rfl ?_ | refine Qe ?_ | refine Qs rfl ?_ | refine Qg ?_ | refine Qa ?_ | fail)
  refine QE rfl (fun h => ?_) (fun h => ?_)
  ·have hj2 : q < L.length := by omega
   obtain ⟨⟨u0, u1⟩, u2⟩ := hLr q hj2
   have hst := fitS_step L A hj2 hC
   obtain ⟨u, hu⟩ : ∃ u : Nat, ndN L[q] = (u : Int) := ⟨(ndN L[q]).toNat, by omega⟩
   have hd1 : (Enc.enc L[q] : List DV).drop 1 = .i ((u : Nat) : Int) :: (Enc.enc L[q] : List DV).drop 2 := by rw [enc_drop1, hu]
   have hd2 := enc_drop2 L[q]
   rw [hu] at hst u0 u1
   rw [show ((u : Nat) : Int).toNat = u by omega] at hst
   have hu64 : u < C.length := by omega
   rw [Ord.getD_lt hu64] at hst
   generalize ndM L[q] = v at *
   clear hLr
   by_cases hbd : C[u] = 2 - v
   ·rw [hbad (fitS_bad L A (by rw [hst, if_pos hbd]))]
    clear hbad hgood hst
    (repeat' first | refine Qu rfl ?_ | refine QA rfl ?_ | refine Qv rfl ?_ | refine Ql rfl rfl (by first | assumption | omega | (simp; done) | (simp; omega)) ?_ | refine s_fld_ep rfl hd1 ?_ | refine Qe ?_ | refine Qs rfl ?_ | refine Qg ?_ | refine Qa ?_ | refine Qf ?_ | (refine Q0 ?_; first | refine Q3 (by rfl) (by kernel_rfl) (by kernel_rfl) ?_ | refine QP (by kernel_rfl) (by kernel_rfl) ?_) | refine Qk ?_ | refine Qp rfl (by omega) ?_ | refine Qq ?_ | refine qb rfl (by (repeat' first | refine Qu rfl ?_ | refine Qv rfl ?_ | refine Wj rfl rfl rfl (by first | assumption | omega) rfl ?_ | refine Ql rfl rfl (by first | assumption | omega | (simp; done) | (simp; omega)) ?_ | refine WF rfl rfl rfl (by omega) ?_ | refine QJ rfl rfl ?_ | refine qd rfl rfl (by omega) ?_ | refine s_fld_ep rfl hd2 ?_ | exact ⟨rfl, rfl⟩)) ?_ | refine ZS ?_ | fail)
    all_goals exact e_1 (Tryd.results44) (Qh rfl) (Qy (σ := []) (r := [_]) ⟨rfl, rfl⟩)
   ·rw [if_neg hbd] at hst
    clear hbad hgood
    (repeat' first | refine Qu rfl ?_ | refine QA rfl ?_ | refine Qv rfl ?_ | refine Ql rfl rfl (by first | assumption | omega | (simp; done) | (simp; omega)) ?_ | refine WF rfl rfl rfl (by omega) ?_ | refine Q5 rfl rfl (by omega) ?_ | refine Wk rfl rfl rfl rfl rfl (by first | assumption | omega) rfl ?_ | refine s_fld_ep rfl hd1 ?_ | refine s_fld_ep rfl hd2 ?_ | refine Qe ?_ | refine Qs rfl ?_ | refine QZ ?_ | refine Qg ?_ | refine Qa ?_ | refine Qf ?_ | (refine Q0 ?_; first | refine Q3 (by rfl) (by kernel_rfl) (by kernel_rfl) ?_ | refine QP (by kernel_rfl) (by kernel_rfl) ?_) | refine Qk ?_ | refine Qr rfl (by omega) ?_ | refine qb rfl (by (repeat' first | refine Qu rfl ?_ | refine Qv rfl ?_ | refine Wj rfl rfl rfl (by first | assumption | omega) rfl ?_ | refine Ql rfl rfl (by first | assumption | omega | (simp; done) | (simp; omega)) ?_ | refine WF rfl rfl rfl (by omega) ?_ | refine QJ rfl rfl ?_ | refine qd rfl rfl (by omega) ?_ | refine s_fld_ep rfl hd2 ?_ | exact ⟨rfl, rfl⟩)) ?_ | refine ZS ?_ | fail)
    refine ⟨q + 1, _, ⟨by omega, hst⟩, by omega, ?_⟩
    exact zal rfl
  ·have hq2 : q = L.length := by omega
   subst hq2
   rw [List.take_length] at hC
   have hnx := hgood C hC
   clear hbad hgood hLr
   (repeat' first | refine Qu rfl ?_ | refine QA rfl ?_ | refine Q5 rfl rfl (by omega) ?_ | refine Qe ?_ | refine Qs rfl ?_ | refine Qa ?_ | refine Q2 rfl ?_ | fail)
   refine ⟨i + 1, C, ⟨by omega, hnx⟩, by omega, ?_⟩
   exact zal rfl
 ·have hi3 : i = ts.length := by omega
  subst hi3
  rw [List.take_length] at hA
  rw [show fitL (QO ts) = true by unfold fitL; rw [hA]; rfl]
  (repeat' first | refine QA rfl ?_ | refine Qe ?_ | refine Qs rfl ?_ | refine Qg ?_ | refine Qa ?_ | refine Q2 rfl ?_ | refine Qq ?_ | fail)
  all_goals exact e_1 (Tryd.results44) (Qh rfl) (Qy (σ := []) (r := [_]) ⟨rfl, rfl⟩)
def valR (t : Nd) : DV := if (shM t && fitL (QM t)) = true then .tup [.i (Z8 t), .b true] else .tup [.i 0, .b false]
theorem r20Valid_c (t : Nd) (hf : Fit t) (hsz : QI t <= 100000) : Go.Av.Pure Tryd.prog G 72 [.agg (Enc.enc t)] (valR t) := fun B => by
 have hsh := shaped_c (G := G) t hf
 have hty := r20Type_c (G := G) t hf
 have hfi0 : shM t = true -> Go.Av.Pure Tryd.prog G 44 [QG [t]] (.b (fitL (QM t))) := fun h => by
  have e : QO [t] = QM t := by rw [QO, QO, List.append_nil]
  have := r20Fit_c (G := G) [t] (by rw [QN, QN]; omega) (by rw [e]; exact varsN_rng (sh_tt t h))
  rwa [e] at this
 unfold valR
 generalize Z8 t = ty at *
 generalize fitL (QM t) = fi at *
 generalize shM t = sh at *
 obtain ⟨k, n, m, ks⟩ := t
 rw [<- sl_nd1] at hfi0
 rw [Q9] at hsh hty ⊢
 clear hf hsz
 cases sh with
 | false =>
  clear hfi0 hty
  refine Qc Tryd.func72 rfl Tryd.ntmps72 rfl (t := [(0, .agg [.i k, .i n, .i m, QG ks])]) rfl fun E hE => ?_
  (repeat' first | refine QA rfl ?_ | refine Qm rfl rfl (by first | assumption | exact Enc.len _ | rfl) ?_ | refine Wa rfl rfl (hsh) ?_ | refine WC rfl ?_ | refine QU rfl rfl (fun _ _ => ?_) | refine Qe ?_ | refine Qs rfl ?_ | refine Qg ?_ | refine Qa ?_ | refine QB rfl ?_ | refine Qq ?_ | fail)
  all_goals exact e_2 (Tryd.results72) (Qh rfl) (Qh rfl) (Qy (σ := []) (r := [_]) ⟨rfl, rfl⟩)
 | true =>
  have hfi := hfi0 rfl
  clear hfi0
  cases fi with
  | false =>
   refine Qc Tryd.func72 rfl Tryd.ntmps72 rfl (t := [(0, .agg [.i k, .i n, .i m, QG ks])]) rfl fun E hE => ?_
   (repeat' first | refine QA rfl ?_ | refine Qm rfl rfl (by first | assumption | exact Enc.len _ | rfl) ?_ | refine Wa rfl rfl (hsh) ?_ | refine Wa rfl rfl (hfi) ?_ | refine WC rfl ?_ | refine Wi rfl rfl (by decide) rfl ?_ | refine QU rfl rfl (fun _ _ => ?_) | refine Qe ?_ | refine Qs rfl ?_ | refine Qg ?_ | refine Qa ?_ | refine Qk ?_ | refine QB rfl ?_ | refine Qo rfl ?_ | refine Qq ?_ | fail)
   all_goals exact e_2 (Tryd.results72) (Qh rfl) (Qh rfl) (Qy (σ := []) (r := [_]) ⟨rfl, rfl⟩)
  | true =>
   refine Qc Tryd.func72 rfl Tryd.ntmps72 rfl (t := [(0, .agg [.i k, .i n, .i m, QG ks])]) rfl fun E hE => ?_
   (repeat' first | refine QA rfl ?_ | refine Qm rfl rfl (by first | assumption | exact Enc.len _ | rfl) ?_ | refine Wa rfl rfl (hsh) ?_ | refine Wa rfl rfl (hty) ?_ | refine Wa rfl rfl (hfi) ?_ | refine WC rfl ?_ | refine Wi rfl rfl (by decide) rfl ?_ | refine QU rfl rfl (fun _ _ => ?_) | refine Qe ?_ | refine Qs rfl ?_ | refine Qg ?_ | refine Qa ?_ | refine Qk ?_ | refine Qo rfl ?_ | refine Qq ?_ | fail)
   all_goals exact e_2 (Tryd.results72) (Qh rfl) (Qh rfl) (Qy (σ := []) (r := [_]) ⟨rfl, rfl⟩)
theorem r20Truth_c (t : Nd) (hf : Fit t) (hsz : QI t <= 100000) : Go.Av.Pure Tryd.prog G 43 [.agg (Enc.enc t)] (.b (truM t)) := fun B => by
 have hva := r20Valid_c (G := G) t hf hsz
 unfold valR at hva
 unfold truM
 generalize Z8 t = ty at *
 generalize (shM t && fitL (QM t)) = ok at *
 obtain ⟨k, n, m, ks⟩ := t
 rw [Q9] at hva ⊢
 clear hf hsz
 cases ok with
 | false =>
  rw [if_neg (by decide)] at hva
  rw [Bool.false_and]
  refine Qc Tryd.func43 rfl Tryd.ntmps43 rfl (t := [(0, .agg [.i k, .i n, .i m, QG ks])]) rfl fun E hE => ?_
  (repeat' first | refine Qu rfl ?_ | refine QA rfl ?_ | refine Qm rfl rfl (by first | assumption | exact Enc.len _ | rfl) ?_ | refine Wa rfl rfl (hva) ?_ | refine Wm rfl rfl ?_ | refine Q4 rfl rfl rfl ?_ | refine QU rfl rfl (fun _ _ => ?_) | refine Qe ?_ | refine Qs rfl ?_ | refine W3 rfl rfl rfl rfl ?_ | refine Qg ?_ | refine Qa ?_ | refine Qq ?_ | fail)
  all_goals exact e_1 (Tryd.results43) (Qh rfl) (Qy (σ := []) (r := [_]) ⟨rfl, rfl⟩)
 | true =>
  rw [if_pos rfl] at hva
  rw [Bool.true_and]
  refine Qc Tryd.func43 rfl Tryd.ntmps43 rfl (t := [(0, .agg [.i k, .i n, .i m, QG ks])]) rfl fun E hE => ?_
  (repeat' first | refine Qu rfl ?_ | refine QA rfl ?_ | refine Qm rfl rfl (by first | assumption | exact Enc.len _ | rfl) ?_ | refine QJ rfl rfl ?_ | refine Wa rfl rfl (hva) ?_ | refine WI rfl rfl ?_ | refine Q4 rfl rfl rfl ?_ | refine QU rfl rfl (fun _ _ => ?_) | refine Qe ?_ | refine Qs rfl ?_ | refine WK rfl rfl rfl rfl ?_ | refine Qg ?_ | refine Qa ?_ | refine Qq ?_ | fail)
  all_goals exact e_1 (Tryd.results43) (Qh rfl) (Qy (σ := []) (r := [_]) ⟨rfl, rfl⟩)
theorem possible_c (ts : List Nd) (hf : ∀ t ∈ ts, Fit t) (hsz : QN ts <= 100000) : Go.Av.Pure Tryd.prog G 13 [QG ts] (.b (possM ts)) := fun B => by
 have hlen := Zf ts
 have ht : ∀ t ∈ ts, Go.Av.Pure Tryd.prog G 43 [.agg (Enc.enc t)] (.b (truM t)) := fun t h => r20Truth_c t (hf t h) (Nat.le_trans (WT h) hsz)
 have hfa0 : (∀ t ∈ ts, truM t = true) -> Go.Av.Pure Tryd.prog G 44 [QG ts] (.b (fitL (QO ts))) := fun h => r20Fit_c ts hsz (rngL fun t ht => truM_tt (h t ht))
 unfold possM
 generalize fitL (QO ts) = fa at *
 refine Qc Tryd.func13 rfl Tryd.ntmps13 rfl (t := [(0, QG ts)]) rfl fun E hE => ?_
 (repeat' first | refine QA rfl ?_ | refine Qe ?_ | refine Qs rfl ?_ | refine Qg ?_ | refine Qa ?_ | refine Qf ?_ | fail)
 refine Wv (fun (i : Nat) => ⟨[(0, QG ts), (3, .i i)], []⟩) (fun i => i <= ts.length /\ ∀ j (h : j < ts.length), j < i -> truM ts[j] = true) (fun i => ts.length - i) 0 ?_ ⟨by omega, fun j _ h => absurd h (by omega)⟩ ?_
 ·exact zal rfl
 intro i ⟨hi, hall⟩
 (repeat' first | refine Qu rfl ?_ | refine QL rfl rfl ?_ | refine Qj rfl ?_ | refine Qe ?_ | refine Qs rfl ?_ | refine Qg ?_ | refine Qa ?_ | fail)
 refine QE rfl (fun h => ?_) (fun h => ?_)
 ·have hj : i < ts.length := by omega
  have htr := ht _ (List.getElem_mem hj)
  cases hb : truM ts[i] with
  | false =>
   rw [hb] at htr
   rw [show ts.all truM = false from Bool.eq_false_iff.2 fun h => (by have := List.all_eq_true.1 h _ (List.getElem_mem hj); rw [hb] at this; cases this), Bool.false_and]
   clear hall hfa0 ht hf
   (repeat' first | refine Qu rfl ?_ | refine QA rfl ?_ | refine QC rfl ?_ | refine Ql rfl rfl (by first | assumption | omega | (simp; done) | (simp; omega)) ?_ | refine Wa rfl rfl (htr) ?_ | refine WC rfl ?_ | refine Qe ?_ | refine Qs rfl ?_ | refine Qg ?_ | refine Qa ?_ | refine Qf ?_ | refine Qk ?_ | refine QB rfl ?_ | refine Qq ?_ | fail)
   all_goals exact e_1 (Tryd.results13) (Qh rfl) (QD rfl)
  | true =>
   rw [hb] at htr
   have hall2 : ∀ j (h : j < ts.length), j < i + 1 -> truM ts[j] = true := fun j h hj => by
    by_cases e : j = i
    ·subst e; exact hb
    ·exact hall j h (by omega)
   clear hall hfa0 ht hf
   (repeat' first | refine Qu rfl ?_ | refine QA rfl ?_ | refine QC rfl ?_ | refine Ql rfl rfl (by first | assumption | omega | (simp; done) | (simp; omega)) ?_ | refine Q5 rfl rfl (by omega) ?_ | refine Wa rfl rfl (htr) ?_ | refine WC rfl ?_ | refine Qe ?_ | refine Qs rfl ?_ | refine Qg ?_ | refine Qa ?_ | refine Qf ?_ | refine Qk ?_ | refine Qo rfl ?_ | fail)
   refine ⟨i + 1, ⟨by omega, hall2⟩, by omega, ?_⟩
   exact zal rfl
 ·have hA : ∀ t ∈ ts, truM t = true := fun t h => by
   obtain ⟨j, hj, rfl⟩ := List.getElem_of_mem h
   exact hall j hj (by omega)
  have hfa := hfa0 hA
  rw [List.all_eq_true.2 hA, Bool.true_and]
  clear hall hfa0 ht hf hA
  (repeat' first | refine Qu rfl ?_ | refine QA rfl ?_ | refine Wa rfl rfl (hfa) ?_ | refine Qe ?_ | refine Qs rfl ?_ | refine Qg ?_ | refine Qa ?_ | refine Q2 rfl ?_ | refine Qq ?_ | fail)
  all_goals exact e_1 (Tryd.results13) (Qh rfl) (QD rfl)
theorem fit_of (t : Nd) : QI t <= 1048576 -> Fit t := by
 induction t using Nd.ind with
 | h k n m ks ih =>
 intro h
 rw [QI] at h
 have := Zf ks
 exact .mk (by omega) fun x hx => ih x hx (by have := WT hx; omega)
theorem blast_err (hG0 : G 0 = qE) (ts : List Nd) (hsz : QN ts <= 100000) (hno : ¬ Poss ts) : Go.Av.Pure Tryd.prog G 12 [QG ts] (.tup [.agg [.i 0, .nil, .nil, .nil, .nil], .i 1]) := fun B => by
 have hlen := Zf ts
 have hlen2 : ts.length <= 100000 := by omega
 have hfit : ∀ t ∈ ts, Fit t := fun t ht => fit_of t (by have := WT ht; omega)
 refine Qc Tryd.func12 rfl Tryd.ntmps12 rfl (t := [(0, QG ts)]) rfl fun E hE => ?_
 (repeat' first | refine Qu rfl ?_ | refine QA rfl ?_ | refine Qj rfl ?_ | refine s_mkmap_i (fun _ _ => ?_) | refine QH (fun _ _ => ?_) | refine Qe ?_ | refine Qs rfl ?_ | refine Qg ?_ | refine Qa ?_ | refine Qf ?_ | fail)
 rename_i gR hgR gF hgF
 refine Wv (fun (i : Nat) => ⟨[(0, QG ts), (2, .ptr 0 gR 0), (3, .i 0), (4, .mp 1 gF), (16, QG ts), (17, .i ts.length), (18, .i i)], [.row gR [.i 0, .nil, .nil, .nil, .nil], .mapb gF (Wp (Zv (Q1 (ts.take i) []).2))]⟩) (fun i => i <= ts.length /\ (∀ j (h : j < ts.length), j < i -> (Wq ts[j] []).1 = 1) /\ (Q1 (ts.take i) []).1 = true) (fun i => ts.length - i) 0 ?_ ⟨by omega, fun j _ h => absurd h (by omega), rfl⟩ ?_
 ·exact zal rfl
 intro i ⟨hi, hc1, ht1⟩
 by_cases hi2 : i < ts.length
 ·have hva := valid_of (G := G) ts[i] (ctypes_c hG0 ts[i] (hfit _ (List.getElem_mem hi2)) [])
  have htm := types_c (G := G) ts[i] (hfit _ (List.getElem_mem hi2)) (Q1 (ts.take i) []).2
  have hsu := typesL_take hi2 ht1
  clear hno hfit hsz
  by_cases hq : (Wq ts[i] []).1 = 1
  ·have hc2 : ∀ j (h : j < ts.length), j < i + 1 -> (Wq ts[j] []).1 = 1 := fun j h hj => by
    by_cases e : j = i
    ·subst e; exact hq
    ·exact hc1 j h (by omega)
   rw [hq] at hva
   have hva : Go.Av.Pure Tryd.prog G 36 [.agg (Enc.enc ts[i])] (.tup [.i 1, .b true]) := hva
   rw [<- hsu] at htm
   clear hc1 hsu
   cases hb : (Q1 (ts.take (i + 1)) []).1 with
   | false =>
    rw [hb] at htm
    clear hc2
    (repeat' first | refine Qu rfl ?_ | refine QA rfl ?_ | refine Qm rfl rfl (by first | assumption | exact Enc.len _ | rfl) ?_ | refine QC rfl ?_ | refine Ql rfl rfl (by first | assumption | omega | (simp; done) | (simp; omega)) ?_ | refine QL rfl rfl ?_ | refine Wu rfl rfl ?_ | refine Wa rfl rfl (hva) ?_ | refine s_ctm 1 (htm) rfl rfl rfl ?_ | refine Wm rfl rfl ?_ | refine Qi rfl rfl rfl (by first | assumption | exact Enc.len _ | rfl) (by first | assumption | exact Enc.len _ | rfl) rfl ?_ | refine WC rfl ?_ | refine Q4 rfl rfl rfl ?_ | refine W1 rfl rfl ?_ | refine QH (fun _ _ => ?_) | refine Qe ?_ | refine Qs rfl ?_ | refine QZ ?_ | refine WK rfl rfl rfl rfl ?_ | refine Qg ?_ | refine Qa ?_ | refine Qf ?_ | refine Qk ?_ | refine QB rfl ?_ | refine Qp rfl (by omega) ?_ | refine Qq ?_ | fail)
    all_goals exact e_2 (Tryd.results12) (QR (size := 5) rfl rfl rfl rfl) (Qh rfl) (QD rfl)
   | true =>
    rw [hb] at htm
    (repeat' first | refine Qu rfl ?_ | refine QA rfl ?_ | refine Qm rfl rfl (by first | assumption | exact Enc.len _ | rfl) ?_ | refine QC rfl ?_ | refine Ql rfl rfl (by first | assumption | omega | (simp; done) | (simp; omega)) ?_ | refine QL rfl rfl ?_ | refine Wu rfl rfl ?_ | refine Q5 rfl rfl (by omega) ?_ | refine Wa rfl rfl (hva) ?_ | refine s_ctm 1 (htm) rfl rfl rfl ?_ | refine Wm rfl rfl ?_ | refine Qi rfl rfl rfl (by first | assumption | exact Enc.len _ | rfl) (by first | assumption | exact Enc.len _ | rfl) rfl ?_ | refine WC rfl ?_ | refine Q4 rfl rfl rfl ?_ | refine QH (fun _ _ => ?_) | refine Qe ?_ | refine Qs rfl ?_ | refine QZ ?_ | refine WK rfl rfl rfl rfl ?_ | refine Qg ?_ | refine Qa ?_ | refine Qf ?_ | refine Qk ?_ | refine Qo rfl ?_ | refine Qp rfl (by omega) ?_ | fail)
    refine ⟨i + 1, ⟨by omega, hc2, hb⟩, by omega, ?_⟩
    exact zal rfl
  ·clear hc1 htm hsu
   generalize (Wq ts[i] []).1 = v at *
   by_cases h0 : 0 <= v
   ·rw [show max v 0 = v by omega, decide_eq_true h0] at hva
    (repeat' first | refine Qu rfl ?_ | refine QA rfl ?_ | refine Qm rfl rfl (by first | assumption | exact Enc.len _ | rfl) ?_ | refine QC rfl ?_ | refine Ql rfl rfl (by first | assumption | omega | (simp; done) | (simp; omega)) ?_ | refine QL rfl rfl ?_ | refine Wu rfl rfl ?_ | refine Wa rfl rfl (hva) ?_ | refine WI rfl rfl ?_ | refine Wm rfl rfl ?_ | refine Qi rfl rfl rfl (by first | assumption | exact Enc.len _ | rfl) (by first | assumption | exact Enc.len _ | rfl) rfl ?_ | refine WC rfl ?_ | refine Q4 rfl rfl rfl ?_ | refine W1 rfl rfl ?_ | refine QH (fun _ _ => ?_) | refine Qe ?_ | refine Qs rfl ?_ | refine QZ ?_ | refine WK rfl rfl rfl rfl ?_ | refine W3 rfl rfl rfl rfl ?_ | refine Wg rfl rfl (by omega) ?_ | refine Qg ?_ | refine Qa ?_ | refine Qf ?_ | refine Qk ?_ | refine QB rfl ?_ | refine Qp rfl (by omega) ?_ | refine Qq ?_ | fail)
    all_goals exact e_2 (Tryd.results12) (QR (size := 5) rfl rfl rfl rfl) (Qh rfl) (QD rfl)
   ·rw [show max v 0 = 0 by omega, decide_eq_false h0] at hva
    (repeat' first | refine Qu rfl ?_ | refine QA rfl ?_ | refine Qm rfl rfl (by first | assumption | exact Enc.len _ | rfl) ?_ | refine QC rfl ?_ | refine Ql rfl rfl (by first | assumption | omega | (simp; done) | (simp; omega)) ?_ | refine QL rfl rfl ?_ | refine Wa rfl rfl (hva) ?_ | refine WI rfl rfl ?_ | refine Qi rfl rfl rfl (by first | assumption | exact Enc.len _ | rfl) (by first | assumption | exact Enc.len _ | rfl) rfl ?_ | refine WC rfl ?_ | refine Q4 rfl rfl rfl ?_ | refine W1 rfl rfl ?_ | refine QH (fun _ _ => ?_) | refine Qe ?_ | refine Qs rfl ?_ | refine QZ ?_ | refine W3 rfl rfl rfl rfl ?_ | refine Qg ?_ | refine Qa ?_ | refine Qf ?_ | refine Qk ?_ | refine QB rfl ?_ | refine Qp rfl (by omega) ?_ | refine Qq ?_ | fail)
    all_goals exact e_2 (Tryd.results12) (QR (size := 5) rfl rfl rfl rfl) (Qh rfl) (QD rfl)
 ·have hi3 : i = ts.length := by omega
  subst hi3
  rw [List.take_length] at ht1
  exact absurd (poss_of (fun t ht => by
   obtain ⟨j, hj, rfl⟩ := List.getElem_of_mem ht
   exact hc1 j hj hj) ht1) hno
end Go.Proofs
end
