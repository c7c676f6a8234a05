/-
  Part 5 of the proof: E8 M4 E9 AvS M5 AvR Q0 V0 V1 V4 Q1.
-/
import Derived.ProofKit
import Derived.SizedLaws
import Derived.Test.YtecbcpilcjmhlaaDoorZB1
import Derived.Test.YtecbcpilcjmhlaaDoorZB3
import Derived.Test.YtecbcpilcjmhlaaDoorZB4
set_option linter.unusedSimpArgs false
set_option linter.unusedVariables false
set_option maxRecDepth 10000
set_option maxHeartbeats 4000000
section
namespace Go.Proofs
open Go.Av
variable {G : Nat -> DV}
attribute [local irreducible] OpSem WE WY W0 ACalls ZE QV RV
open Go.Bl
theorem made_cond (A : List (Int × Int)) (n m : Int) (c a b : Nd) (ty : Int) (s : St) (S : ZP) (r q u : List Int × St × ZP) (hrl : r.1.length = 4) (hql : q.1.length = 4) (hul : u.1.length = 4)
  (hval : Go.Av.Pure Tryd.prog G 36 [.agg (Enc.enc (Nd.mk 29 n m [c, a, b]))] (.tup [.i ty, .b true]))
  (hk1 : BS Tryd.prog G 41 [.agg (Enc.enc c)] A s.vars s.cl S (.agg (Qq r.1)) r.2.1 r.2.2) (hk2 : BS Tryd.prog G 41 [.agg (Enc.enc a)] A r.2.1.vars r.2.1.cl r.2.2 (.agg (Qq q.1)) q.2.1 q.2.2) (hk3 : BS Tryd.prog G 41 [.agg (Enc.enc b)] A q.2.1.vars q.2.1.cl q.2.2 (.agg (Qq u.1)) u.2.1 u.2.2)
  (hus : Ok u.2.1) (huv : u.2.1.vars + 100 < 1099511627776) (hr : Lim u.2.1 (r.1.getD 0 0)) (hq : ∀ v ∈ q.1, Lim u.2.1 v) (hu : ∀ v ∈ u.1, Lim u.2.1 v) :
  BS Tryd.prog G 71 [.agg (Enc.enc (Nd.mk 29 n m [c, a, b]))] A s.vars s.cl S (.agg (Qq (condM ty u.2.1 (r.1.getD 0 0) q.1 u.1).1)) (condM ty u.2.1 (r.1.getD 0 0) q.1 u.1).2 u.2.2 := fun g0 g1 g2 g3 c2 c3 c4 h2 h3 h4 B b0 b1 b2 b3 => by
 have hsn := qk (S := u.2.2)
 have hm := ZA (M := A)
 have hrl0 : 0 < r.1.length := by omega
 have hql0 : 0 < q.1.length := by omega
 have hul0 : 0 < u.1.length := by omega
 have hwr : (Qq r.1).length = 4 := by rw [Qz, hrl]; rfl
 have hwq : (Qq q.1).length = 4 := by rw [Qz, hql]; rfl
 have hwu : (Qq u.1).length = 4 := by rw [Qz, hul]; rfl
 have hnot := hval
 rw [We] at hval ⊢
 by_cases hty : ty = 1
 ·subst hty
  have hmux := mux_c (G := G) u.2.1 hus (by omega) (r.1.getD 0 0) q.1[0] u.1[0] hr (hq _ (List.getElem_mem hql0)) (hu _ (List.getElem_mem hul0))
  have er : condM 1 u.2.1 (r.1.getD 0 0) q.1 u.1 = ([(muxM u.2.1 (r.1.getD 0 0) q.1[0] u.1[0]).1, 0, 0, 0], (muxM u.2.1 (r.1.getD 0 0) q.1[0] u.1[0]).2) := by
   unfold condM; rw [if_pos rfl, <- Ord.getD_lt hql0 0, <- Ord.getD_lt hul0 0]
  rw [er]
  generalize muxM u.2.1 (r.1.getD 0 0) q.1[0] u.1[0] = z at *
  clear er hr hq hu hnot
  refine Qb Tryd.func71 rfl Tryd.ntmps71 rfl (t := [(0, .ptr 0 g0 0), (1, .agg [.i 29, .i n, .i m, Qy [c, a, b]])]) rfl fun E hE => ?_
  (repeat' first | refine Qt rfl ?_ | refine Qv rfl ?_ | refine Qu rfl rfl (by first | assumption | rfl) ?_ | refine Qc rfl rfl rfl ?_ | refine Q9 rfl rfl rfl (by first | assumption | omega) rfl ?_ | refine Zp rfl rfl rfl (by omega) (by omega) ?_ | refine QH rfl rfl ?_ | refine ZR rfl rfl hk1 rfl (by assumption) (by assumption) (by assumption) (by repeat' first | exact QX | refine QN ?_ ?_ | exact QA | exact QB (Enc.clo _) | exact QB (Qk _)) (QB (Qk _)) (fun _ _ => ?_) | refine ZR rfl rfl hk2 rfl (by assumption) (by assumption) (by assumption) (by repeat' first | exact QX | refine QN ?_ ?_ | exact QA | exact QB (Enc.clo _) | exact QB (Qk _)) (QB (Qk _)) (fun _ _ => ?_) | refine ZR rfl rfl hk3 rfl (by assumption) (by assumption) (by assumption) (by repeat' first | exact QX | refine QN ?_ ?_ | exact QA | exact QB (Enc.clo _) | exact QB (Qk _)) (QB (Qk _)) (fun _ _ => ?_) | refine Zd rfl rfl (hmux) rfl (fun _ _ => ?_) | refine QZ rfl rfl (hval) ?_ | refine Ql rfl rfl rfl (by first | assumption | rfl) (by first | assumption | rfl) rfl ?_ | refine Wf rfl rfl rfl rfl (by rfl) (by rfl) (by rfl) ?_ | refine Q5 (ds := [.ptr 0 g0 0]) rfl rfl (fun gt2 hgt2 => ?_) | refine Q5 (ds := [.i _, .i n, .i m, Qy _]) rfl rfl (fun gt3 hgt3 => ?_) | refine Qd rfl rfl ?_ | refine Wh rfl rfl rfl ?_ | refine s_build_a rfl rfl ?_ | refine QJ (fun _ _ => ?_) | refine Qe ?_ | refine Qp rfl ?_ | refine Q0 ?_ | refine Qf ?_ | refine Qa ?_ | refine Qg ?_ | (refine Wa ?_; first | (refine r_drawa (fun p => p.1 :: p.2.1 :: p.2.2.1 :: p.2.2.2.1 :: .row gt2 [.ptr 0 g0 0] :: .row gt3 [.i 29, .i n, .i m, Qy [c, a, b]] :: p.2.2.2.2) (fun p k B => (p.1, p.2.1, p.2.2.1, p.2.2.2.1, p.2.2.2.2.set (k + 1) B)) [⟨19, 7, [.int .i64 0]⟩, ⟨20, 8, [.int .i64 0, .int .i64 0, .int .i64 0, .int .i64 0]⟩, ⟨21, 9, [.int .i64 0, .int .i64 0, .int .i64 0, .int .i64 0]⟩] [(0, true), (1, true), (2, true), (3, true), (4, true), (7, true), (8, true), (9, true), (10, true), (11, true), (13, true), (14, true), (15, true), (16, true), (17, true), (5, false), (6, true), (12, false), (18, false)] [(22, false), (23, false), (24, false)] (by rfl) (by rfl) (by rfl) (by kernel_rfl) (by decide +kernel) (by decide) (by decide) ⟨(_, _, _, _, _), rfl⟩ (fun _ _ _ => rfl) (List.forall_mem_cons.2 ⟨allocOk_of rfl rfl, List.forall_mem_cons.2 ⟨allocOk_of rfl rfl, List.forall_mem_cons.2 ⟨allocOk_of rfl rfl, fun _ h => absurd h (by simp)⟩⟩⟩) ?_) | (refine Wu (fun p => p.1 :: p.2.1 :: p.2.2.1 :: p.2.2.2.1 :: .row gt2 [.ptr 0 g0 0] :: .row gt3 [.i 10, .i n, .i m, Qy [a]] :: p.2.2.2.2) 10 [(0, true), (1, true), (2, true), (3, true), (4, true), (5, false), (6, true), (7, true), (8, true), (9, false)] (by rfl) (by rfl) (by kernel_rfl) (by decide +kernel) (by decide +kernel) ⟨(_, _, _, _, _), rfl⟩ ?_) | refine Wj (by rfl) (by kernel_rfl) (by kernel_rfl) ?_ | refine QT (by kernel_rfl) (by kernel_rfl) ?_) | refine Qs rfl ?_ | refine Qi rfl ?_ | refine Qm ?_ | refine i_nil ?_ | refine i_ef0 ?_ | refine And.intro (Exists.intro ((_, _, _, _, _)) rfl) ?_ | refine p_nil3 rfl rfl rfl (fun _ _ _ _ _ _ => ?_) | refine p_st rfl (fun _ => (by (repeat' first | refine QM rfl ?_ | refine Qc rfl rfl rfl ?_ | refine Qo rfl rfl (by first | assumption | omega | (simp; done) | (simp; omega)) ?_ | refine s_index_e rfl rfl (by decide) (by assumption) ?_ | refine Qd rfl rfl ?_ | exact ⟨rfl, rfl⟩))) ?_ | refine p_ef rfl (fun _ _ => ?_) | refine Exists.intro ([_, _, _, _, _, _, _]) (And.intro rfl (And.intro rfl (And.intro (Exists.intro ((_, _, _, _, _)) rfl) ?_))))
  exact e_1 (Tryd.results71) (QY (size := 4) rfl rfl rfl rfl) (QC (σ := [_, _, _, _]) (r := [_, _, _, _, _, _]) ⟨rfl, _, by omega, rfl⟩)
 ·have hea := each6_c (G := G) u.2.1 hus (by omega) (r.1.getD 0 0) q.1 u.1 hql hul hr hq hu
  have er : condM ty u.2.1 (r.1.getD 0 0) q.1 u.1 = eachTo (muxG (r.1.getD 0 0)) u.2.1 q.1 u.1 4 := if_neg hty
  have hel := eachTo_len (muxG (r.1.getD 0 0)) u.2.1 u.1 hql 4
  rw [er]
  generalize eachTo (muxG (r.1.getD 0 0)) u.2.1 q.1 u.1 4 = z at *
  have hwz : (Qq z.1).length = 4 := by rw [Qz, hel]; rfl
  clear er hr hq hu hnot
  refine Qb Tryd.func71 rfl Tryd.ntmps71 rfl (t := [(0, .ptr 0 g0 0), (1, .agg [.i 29, .i n, .i m, Qy [c, a, b]])]) rfl fun E hE => ?_
  (repeat' first | refine Qt rfl ?_ | refine Qv rfl ?_ | refine Qu rfl rfl (by first | assumption | rfl) ?_ | refine Qc rfl rfl rfl ?_ | refine QH rfl rfl ?_ | refine ZR rfl rfl hk1 rfl (by assumption) (by assumption) (by assumption) (by repeat' first | exact QX | refine QN ?_ ?_ | exact QA | exact QB (Enc.clo _) | exact QB (Qk _)) (QB (Qk _)) (fun _ _ => ?_) | refine ZR rfl rfl hk2 rfl (by assumption) (by assumption) (by assumption) (by repeat' first | exact QX | refine QN ?_ ?_ | exact QA | exact QB (Enc.clo _) | exact QB (Qk _)) (QB (Qk _)) (fun _ _ => ?_) | refine ZR rfl rfl hk3 rfl (by assumption) (by assumption) (by assumption) (by repeat' first | exact QX | refine QN ?_ ?_ | exact QA | exact QB (Enc.clo _) | exact QB (Qk _)) (QB (Qk _)) (fun _ _ => ?_) | refine s_call_b6 rfl rfl hea rfl (by assumption) (by assumption) (by assumption) (by assumption) (by assumption) (fun _ => .cons (.s (.clo (QB (Qk _)))) (.cons (.s (.clo (QB (Qk _)))) (.cons (.fn .nil (.cons (.ptr rfl) (.cons (.ptr rfl) .nil))) .nil))) (QB (Qk _)) (fun _ _ => ?_) | refine QZ rfl rfl (hval) ?_ | refine Ql rfl rfl rfl (by first | assumption | rfl) (by first | assumption | rfl) rfl ?_ | refine Wf rfl rfl rfl rfl (by rfl) (by rfl) (by rfl) ?_ | refine Q5 (ds := [.ptr 0 g0 0]) rfl rfl (fun gt2 hgt2 => ?_) | refine Q5 (ds := [.i _, .i n, .i m, Qy _]) rfl rfl (fun gt3 hgt3 => ?_) | refine Qd rfl rfl ?_ | refine Wh rfl rfl rfl ?_ | refine Zt rfl rfl ?_ | refine QJ (fun _ _ => ?_) | refine Qe ?_ | refine Qp rfl ?_ | refine Q0 ?_ | refine Qf ?_ | refine Qa ?_ | refine Qg ?_ | (refine Wa ?_; first | (refine r_drawa (fun p => p.1 :: p.2.1 :: p.2.2.1 :: p.2.2.2.1 :: .row gt2 [.ptr 0 g0 0] :: .row gt3 [.i 29, .i n, .i m, Qy [c, a, b]] :: p.2.2.2.2) (fun p k B => (p.1, p.2.1, p.2.2.1, p.2.2.2.1, p.2.2.2.2.set (k + 1) B)) [⟨19, 7, [.int .i64 0]⟩, ⟨20, 8, [.int .i64 0, .int .i64 0, .int .i64 0, .int .i64 0]⟩, ⟨21, 9, [.int .i64 0, .int .i64 0, .int .i64 0, .int .i64 0]⟩] [(0, true), (1, true), (2, true), (3, true), (4, true), (7, true), (8, true), (9, true), (10, true), (11, true), (13, true), (14, true), (15, true), (16, true), (17, true), (5, false), (6, true), (12, false), (18, false)] [(22, false), (23, false), (24, false)] (by rfl) (by rfl) (by rfl) (by kernel_rfl) (by decide +kernel) (by decide) (by decide) ⟨(_, _, _, _, _), rfl⟩ (fun _ _ _ => rfl) (List.forall_mem_cons.2 ⟨allocOk_of rfl rfl, List.forall_mem_cons.2 ⟨allocOk_of rfl rfl, List.forall_mem_cons.2 ⟨allocOk_of rfl rfl, fun _ h => absurd h (by simp)⟩⟩⟩) ?_) | (refine Wu (fun p => p.1 :: p.2.1 :: p.2.2.1 :: p.2.2.2.1 :: .row gt2 [.ptr 0 g0 0] :: .row gt3 [.i 10, .i n, .i m, Qy [a]] :: p.2.2.2.2) 10 [(0, true), (1, true), (2, true), (3, true), (4, true), (5, false), (6, true), (7, true), (8, true), (9, false)] (by rfl) (by rfl) (by kernel_rfl) (by decide +kernel) (by decide +kernel) ⟨(_, _, _, _, _), rfl⟩ ?_) | refine Wj (by rfl) (by kernel_rfl) (by kernel_rfl) ?_ | refine QT (by kernel_rfl) (by kernel_rfl) ?_) | refine Qj ?_ | refine Qs rfl ?_ | refine Qi rfl ?_ | refine QD rfl (by omega) ?_ | refine Qm ?_ | refine i_nil ?_ | refine i_ef0 ?_ | refine And.intro (Exists.intro ((_, _, _, _, _)) rfl) ?_ | refine p_nil3 rfl rfl rfl (fun _ _ _ _ _ _ => ?_) | refine p_st rfl (fun _ => (by (repeat' first | refine QM rfl ?_ | refine Qc rfl rfl rfl ?_ | refine Qo rfl rfl (by first | assumption | omega | (simp; done) | (simp; omega)) ?_ | refine s_index_e rfl rfl (by decide) (by assumption) ?_ | refine Qd rfl rfl ?_ | exact ⟨rfl, rfl⟩))) ?_ | refine p_ef rfl (fun _ _ => ?_) | refine Exists.intro ([_, _, _, _, _, _, _]) (And.intro rfl (And.intro rfl (And.intro (Exists.intro ((_, _, _, _, _)) rfl) ?_))))
  exact e_1 (Tryd.results71) (QY (size := 4) rfl rfl (Q4 hwz) hwz) (QC (σ := [_, _, _, _]) (r := [_, _, _, _, _, _]) ⟨rfl, _, by omega, rfl⟩)
end Go.Proofs
end
section
namespace Go.Proofs
open Go.Av Go.Bl
mutual
def QR : Nd -> Nat
 | .mk _ _ _ ks => 1 + QW ks
def QW : List Nd -> Nat
 | [] => 0
 | x :: r => QR x + QW r
end
mutual
def QL : Nd -> List (Int × Int)
 | .mk k n m ks => (if k = 6 then [(n, m)] else []) ++ QP ks
def QP : List Nd -> List (Int × Int)
 | [] => []
 | x :: r => QL x ++ QP r
end
inductive Tt : Nd -> Int -> Prop
 | num {n : Int} : -8 <= n /\ n <= 7 -> Tt (.mk 4 n 0 []) 0
 | tru {n : Int} : n = 0 \/ n = 1 -> Tt (.mk 5 n 0 []) 1
 | var {n m : Int} : 0 <= n /\ n <= 63 -> m = 0 \/ m = 1 -> Tt (.mk 6 n m []) m
 | bin {n : Int} {a b : Nd} : 0 <= n /\ n < 12 -> Tt a 0 -> Tt b 0 -> Tt (.mk 9 n 0 [a, b]) (if truthM n = true then 1 else 0)
 | log {n : Int} {a b : Nd} : n = 12 \/ n = 13 -> Tt a 1 -> Tt b 1 -> Tt (.mk 9 n 0 [a, b]) 1
 | not {a : Nd} : Tt a 1 -> Tt (.mk 10 0 0 [a]) 1
 | cond {c a b : Nd} {k : Int} : Tt c 1 -> Tt a k -> Tt b k -> Tt (.mk 29 0 0 [c, a, b]) k
theorem Tt.ty {t : Nd} {k : Int} (h : Tt t k) : k = 0 \/ k = 1 := by
 induction h with
 | num _ => exact .inl rfl
 | tru _ => exact .inr rfl
 | var _ h => exact h
 | bin _ _ _ =>
   split
   ·exact .inr rfl
   ·exact .inl rfl
 | log _ _ _ => exact .inr rfl
 | not _ => exact .inr rfl
 | cond _ _ _ _ ih _ => exact ih
theorem Tt.fit {t : Nd} {k : Int} (h : Tt t k) : Fit t := by
 induction h with
 | num _ => exact .mk (by decide) fun x hx => by cases hx
 | tru _ => exact .mk (by decide) fun x hx => by cases hx
 | var _ _ => exact .mk (by decide) fun x hx => by cases hx
 | bin _ _ _ h1 h2 => exact .mk (by simp) fun x hx => by simp at hx; rcases hx with rfl | rfl <;> assumption
 | log _ _ _ h1 h2 => exact .mk (by simp) fun x hx => by simp at hx; rcases hx with rfl | rfl <;> assumption
 | not _ h1 => exact .mk (by simp) fun x hx => by simp at hx; rcases hx with rfl; assumption
 | cond _ _ _ h1 h2 h3 => exact .mk (by simp) fun x hx => by simp at hx; rcases hx with rfl | rfl | rfl <;> assumption
theorem Tt.tin {t : Nd} {k : Int} (h : Tt t k) : Tin t := by
 induction h with
 | num h => exact .mk (by omega) (by omega) (by simp) fun x hx => by cases hx
 | tru h => exact .mk (by omega) (by omega) (by simp) fun x hx => by cases hx
 | var h _ => exact .mk (by omega) (by omega) (by simp) fun x hx => by cases hx
 | bin h _ _ h1 h2 => exact .mk (by omega) (by omega) (by simp) fun x hx => by simp at hx; rcases hx with rfl | rfl <;> assumption
 | log h _ _ h1 h2 => exact .mk (by omega) (by omega) (by simp) fun x hx => by simp at hx; rcases hx with rfl | rfl <;> assumption
 | not _ h1 => exact .mk (by omega) (by omega) (by simp) fun x hx => by simp at hx; rcases hx with rfl; assumption
 | cond _ _ _ h1 h2 h3 => exact .mk (by omega) (by omega) (by simp) fun x hx => by simp at hx; rcases hx with rfl | rfl | rfl <;> assumption
theorem keyS_len {t : Nd} (ht : Tin t) : (keyS t).length <= 8 * QR t := by
 induction ht with
 | @mk k n m ks hk hn hks _ ih =>
  have h1 := itoa_len (n := k) ⟨by omega, by omega⟩
  have h2 := itoa_len hn
  have h3 : ∀ l : List Nd, (∀ x ∈ l, (keyS x).length <= 8 * QR x) -> (qq l).length <= 8 * QW l := fun l => by
   induction l with
   | nil => intro _; exact Nat.le_refl _
   | cons x r ihr =>
    intro h
    have a1 := h x (by simp)
    have a2 := ihr fun y hy => h y (by simp [hy])
    rw [qq, QW, List.length_append]; omega
  have h4 := h3 ks ih
  rw [keyS, QR]
  simp only [List.length_append, List.length_cons, List.length_nil]
  omega
theorem sizeN_pos : ∀ t : Nd, 1 <= QR t
 | .mk _ _ _ ks => by rw [QR]; omega
/-! The types of the variables. -/
def Con (F : Int -> Int) (t : Nd) : Prop := ∀ p ∈ QL t, p.2 = F p.1
def SubF (M : List (Int × Int)) (F : Int -> Int) : Prop := ∀ n m, W7 M n = some m -> m = F n
theorem getI_put (M : List (Int × Int)) (x v y : Int) : W7 (putI M x v) y = if y = x then some v else W7 M y := by
 have hidx : ∀ (M : List (Int × Int)) (y : Int), idxI M y = M.findIdx? fun p => decide (p.1 = y) := fun _ _ => rfl
 unfold putI
 cases hx : idxI M x with
 | some j =>
  obtain ⟨h1, h2, h3⟩ := List.findIdx?_eq_some_iff_getElem.1 hx
  have h2 : M[j].1 = x := of_decide_eq_true h2
  have hk : ∀ i (hi : i < M.length), ((M.set j (x, v))[i]'(by simpa using hi)).1 = M[i].1 := fun i hi => by
   rw [List.getElem_set]
   split
   ·rename_i h; subst h; exact h2.symm
   ·rfl
  have e : idxI (M.set j (x, v)) y = idxI M y := by
   have e1 : (M.set j (x, v)).map Prod.fst = M.map Prod.fst := by
    apply List.ext_getElem (by simp)
    intro i h1 h2
    simp only [List.getElem_map]
    exact hk i (by simpa using h2)
   have e2 : ∀ N : List (Int × Int), idxI N y = (N.map Prod.fst).findIdx? fun z => decide (z = y) := fun N => by
    unfold idxI; rw [List.findIdx?_map]; rfl
   rw [e2, e2, e1]
  unfold W7
  show (idxI (M.set j (x, v)) y).map _ = _
  rw [e]
  by_cases hy : y = x
  ·subst hy
   rw [if_pos rfl, hx, Option.map_some, List.getD_eq_getElem?_getD, List.getElem?_set_self h1]; rfl
  ·rw [if_neg hy]
   cases hyi : idxI M y with
   | none => rfl
   | some i =>
    obtain ⟨q1, q2, _⟩ := List.findIdx?_eq_some_iff_getElem.1 hyi
    have q2 : M[i].1 = y := of_decide_eq_true q2
    have hij : j ≠ i := fun e => by subst e; exact hy (q2.symm.trans h2)
    rw [Option.map_some, Option.map_some, List.getD_eq_getElem?_getD, List.getD_eq_getElem?_getD, List.getElem?_set_ne hij]
 | none =>
  have hno := List.findIdx?_eq_none_iff.1 hx
  unfold W7
  show (idxI (M ++ [(x, v)]) y).map _ = _
  rw [hidx, List.findIdx?_append, <- hidx]
  by_cases hy : y = x
  ·subst hy
   rw [if_pos rfl, hx]
   simp [List.findIdx?_cons]
  ·rw [if_neg hy]
   cases hyi : idxI M y with
   | none =>
    simp [List.findIdx?_cons, show ¬ x = y from fun e => hy e.symm]
   | some i =>
    obtain ⟨q1, _, _⟩ := List.findIdx?_eq_some_iff_getElem.1 hyi
    simp [List.getD_eq_getElem?_getD, List.getElem?_append, q1]
theorem cty_ok {F : Int -> Int} {t : Nd} {k : Int} (h : Tt t k) : Con F t -> ∀ M, SubF M F -> (Wt t M).1 = k /\ SubF (Wt t M).2 F := by
 induction h with
 | num h =>
   intro _ M hM
   rw [Wt, if_neg (by omega)]
   show (WF 4 _ 0 [] M).1 = 0 /\ SubF (WF 4 _ 0 [] M).2 F
   unfold WF
   rw [if_pos rfl, if_pos ⟨rfl, h.1, h.2⟩]
   exact ⟨rfl, hM⟩
 | tru h =>
   intro _ M hM
   rw [Wt, if_neg (by omega)]
   show (WF 5 _ 0 [] M).1 = 1 /\ SubF (WF 5 _ 0 [] M).2 F
   unfold WF
   rw [if_neg (by decide), if_pos rfl, if_pos ⟨rfl, h⟩]
   exact ⟨rfl, hM⟩
 | @var n m h1 h2 =>
   intro hc M hM
   have hF : m = F n := hc (n, m) (by simp [QL])
   rw [Wt, if_neg (by omega)]
   show (WF 6 n m [] M).1 = m /\ SubF (WF 6 n m [] M).2 F
   unfold WF
   rw [if_neg (by decide), if_neg (by decide), if_pos rfl, if_pos ⟨rfl, h1.1, h1.2, h2⟩]
   rw [if_neg]
   ·refine ⟨rfl, fun n' m' hg => ?_⟩
    rw [getI_put] at hg
    split at hg
    ·rename_i e; cases hg; rw [e]; exact hF
    ·exact hM n' m' hg
   ·rintro ⟨q1, q2⟩
    obtain ⟨x, hx⟩ := Option.isSome_iff_exists.1 q1
    rw [hx] at q2
    exact q2 ((hM n x hx).trans hF.symm)
 | @bin n a b hn _ _ iha ihb =>
   intro hc M hM
   obtain ⟨a1, a2⟩ := iha (fun p hp => hc p (by simp [QL, QP]; simp [hp])) M hM
   obtain ⟨b1, b2⟩ := ihb (fun p hp => hc p (by simp [QL, QP]; simp [hp])) _ a2
   have e : Wy [a, b] M = (some [0, 0], (Wt b (Wt a M).2).2) := by
    rw [Wy, if_neg (by omega), Wy, if_neg (by omega), Wy, a1, b1]
   rw [Wt, if_neg (by omega), e]
   show (WF 9 n 0 [0, 0] _).1 = _ /\ SubF (WF 9 n 0 [0, 0] _).2 F
   unfold WF
   rw [if_neg (by decide), if_neg (by decide), if_neg (by decide), if_pos rfl, if_pos ⟨hn.1, hn.2, rfl⟩]
   exact ⟨rfl, b2⟩
 | @log n a b hn _ _ iha ihb =>
   intro hc M hM
   obtain ⟨a1, a2⟩ := iha (fun p hp => hc p (by simp [QL, QP]; simp [hp])) M hM
   obtain ⟨b1, b2⟩ := ihb (fun p hp => hc p (by simp [QL, QP]; simp [hp])) _ a2
   have e : Wy [a, b] M = (some [1, 1], (Wt b (Wt a M).2).2) := by
    rw [Wy, if_neg (by omega), Wy, if_neg (by omega), Wy, a1, b1]
   rw [Wt, if_neg (by omega), e]
   show (WF 9 n 0 [1, 1] _).1 = _ /\ SubF (WF 9 n 0 [1, 1] _).2 F
   unfold WF
   rw [if_neg (by decide), if_neg (by decide), if_neg (by decide), if_pos rfl, if_neg (by omega), if_pos ⟨hn, rfl⟩]
   exact ⟨rfl, b2⟩
 | @not a _ iha =>
   intro hc M hM
   obtain ⟨a1, a2⟩ := iha (fun p hp => hc p (by simp [QL, QP]; simp [hp])) M hM
   have e : Wy [a] M = (some [1], (Wt a M).2) := by
    rw [Wy, if_neg (by omega), Wy, a1]
   rw [Wt, if_neg (by omega), e]
   show (WF 10 0 0 [1] _).1 = _ /\ SubF (WF 10 0 0 [1] _).2 F
   unfold WF
   rw [if_neg (by decide), if_neg (by decide), if_neg (by decide), if_neg (by decide), if_pos rfl, if_pos ⟨rfl, rfl⟩]
   exact ⟨rfl, a2⟩
 | @cond c a b k hcc haa _ ihc iha ihb =>
   intro hc M hM
   obtain ⟨c1, c2⟩ := ihc (fun p hp => hc p (by simp [QL, QP]; simp [hp])) M hM
   obtain ⟨a1, a2⟩ := iha (fun p hp => hc p (by simp [QL, QP]; simp [hp])) _ c2
   obtain ⟨b1, b2⟩ := ihb (fun p hp => hc p (by simp [QL, QP]; simp [hp])) _ a2
   have hk := haa.ty
   have e : Wy [c, a, b] M = (some [1, k, k], (Wt b (Wt a (Wt c M).2).2).2) := by
    rw [Wy, if_neg (by omega), Wy, if_neg (by omega), Wy, if_neg (by omega), Wy, c1, a1, b1]
   rw [Wt, if_neg (by omega), e]
   show (WF 29 0 0 [1, k, k] _).1 = _ /\ SubF (WF 29 0 0 [1, k, k] _).2 F
   unfold WF
   rw [if_neg (by decide), if_neg (by decide), if_neg (by decide), if_neg (by decide), if_neg (by decide), if_pos rfl, if_pos ⟨rfl, rfl, rfl, rfl⟩]
   exact ⟨rfl, b2⟩
theorem cty_nil {F : Int -> Int} {t : Nd} {k : Int} (h : Tt t k) (hc : Con F t) : (Wt t []).1 = k := (cty_ok h hc [] fun n m h => by cases h).1
/-! What the builder has behind a term. -/
def SOk (s : St) (S : ZP) : Prop := ∀ p ∈ S, p.2.length = 4 /\ ∀ v ∈ p.2, Lim s v
def AtOk (A : List (Int × Int)) (v : Int) (t : Nd) : Prop := ∀ p ∈ QL t, 1 <= (W7 A p.1).getD 0 /\ (W7 A p.1).getD 0 + (if p.2 = 1 then 0 else 3) <= v
structure BOk (k : Nat) (s : St) (r : List Int × St × ZP) : Prop where
 g : Gate s r.2.1 (100 * k)
 len : r.1.length = 4
 lim : ∀ v ∈ r.1, Lim r.2.1 v
 seen : SOk r.2.1 r.2.2
theorem SOk.mono {s s' : St} {S : ZP} (h : SOk s S) (hv : s.vars <= s'.vars) : SOk s' S := fun p hp => ⟨(h p hp).1, fun v hx => ((h p hp).2 v hx).mono hv⟩
theorem AtOk.mono {A : List (Int × Int)} {v w : Int} {t : Nd} (h : AtOk A v t) (hv : v <= w) : AtOk A w t := fun p hp => ⟨(h p hp).1, Int.le_trans (h p hp).2 hv⟩
theorem getS_mem {S : ZP} {x : List UInt8} {v : List Int} (h : getS S x = some v) : (x, v) ∈ S := by
 unfold getS at h
 cases hi : idxS S x with
 | none => rw [hi] at h; cases h
 | some j =>
  rw [hi] at h
  obtain ⟨h1, h2, _⟩ := List.findIdx?_eq_some_iff_getElem.1 hi
  have h2 : S[j].1 = x := of_decide_eq_true h2
  rw [Option.map_some, List.getD_eq_getElem?_getD, List.getElem?_eq_getElem h1] at h
  have e : S[j].2 = v := Option.some.inj h
  have : S[j] = (x, v) := by rw [<- h2, <- e]
  rw [<- this]; exact List.getElem_mem h1
theorem mem_putS {S : ZP} {x : List UInt8} {v : List Int} {p : List UInt8 × List Int} (h : p ∈ putS S x v) : p ∈ S \/ p = (x, v) := by
 unfold putS at h
 split at h
 ·exact List.mem_or_eq_of_mem_set h
 ·simpa using h
theorem zeros_lim {s : St} (h : Ok s) : ∀ v ∈ ([0, 0, 0, 0] : List Int), Lim s v := fun v hv => by
 have hv : v = 0 := by simpa using hv
 subst hv; exact zero_lim h
theorem bits_of_made {A : List (Int × Int)} {t : Nd} {k : Nat} {s : St} {S : ZP} (hs : Ok s) (hS : SOk s S) (h : BOk k s (Ze A t s S)) : BOk k s (QK A t s S) := by
 cases hget : getS S (keyS t) with
 | some x =>
  rw [bitsM_some hget]
  have := hS _ (getS_mem hget)
  exact ⟨⟨hs, Int.le_refl _, by show s.vars <= _; omega⟩, this.1, this.2, hS⟩
 | none =>
  cases hf : Zy s with
  | true =>
   rw [bitsM_full hget hf]
   exact ⟨⟨hs, Int.le_refl _, by show s.vars <= _; omega⟩, rfl, zeros_lim hs, hS⟩
  | false =>
   rw [bitsM_new hget hf]
   exact ⟨h.g, h.len, h.lim, fun p hp => by
    rcases mem_putS hp with hp | rfl
    ·exact h.seen p hp
    ·exact ⟨h.len, h.lim⟩⟩
theorem number_lim {s : St} (h : Ok s) (n : Int) : ∀ v ∈ qo n, Lim s v := by
 have : ∀ i, ∀ v ∈ W3 n i, Lim s v := fun i => by
  induction i with
  | zero => exact zeros_lim h
  | succ i ih =>
   intro v hv
   rw [W3] at hv
   rcases List.mem_or_eq_of_mem_set hv with hv | rfl
   ·exact ih v hv
   ·have := h.v0
    split
    ·exact ⟨by omega, by omega⟩
    ·exact ⟨by omega, by omega⟩
 exact this 4
theorem varTo_lim {s : St} (h : Ok s) {a : Int} (h0 : 0 <= a) : ∀ i : Nat, a + (i : Int) <= s.vars + 1 -> ∀ v ∈ varTo a i, Lim s v
 | 0, _ => zeros_lim h
 | i + 1, hi => fun v hv => by
  rw [varTo] at hv
  rcases List.mem_or_eq_of_mem_set hv with hv | rfl
  ·exact varTo_lim h h0 i (by omega) v hv
  ·exact ⟨by omega, by omega⟩
theorem Z6 {F : Int -> Int} {A : List (Int × Int)} {t : Nd} {k : Int} (h : Tt t k) : Con F t -> ∀ (s : St) (S : ZP), Ok s -> s.vars + 100 * QR t + 300 < 1099511627776 -> SOk s S -> AtOk A s.vars t -> BOk (QR t) s (Ze A t s S) /\ BOk (QR t) s (QK A t s S) := by
 have fin : ∀ {t : Nd} {s : St} {S : ZP}, Ok s -> SOk s S -> BOk (QR t) s (Ze A t s S) -> BOk (QR t) s (Ze A t s S) /\ BOk (QR t) s (QK A t s S) := fun h1 h2 h3 => ⟨h3, bits_of_made h1 h2 h3⟩
 induction h with
 | @num n hn =>
  intro _ s S hs hv hS hA
  refine fin hs hS ?_
  rw [Zx, if_pos rfl]
  exact ⟨⟨hs, Int.le_refl _, by show s.vars <= _; omega⟩, ZX n 4, number_lim hs n, hS⟩
 | @tru n hn =>
  intro _ s S hs hv hS hA
  refine fin hs hS ?_
  rw [Zx, if_neg (by decide), if_pos rfl]
  refine ⟨⟨hs, Int.le_refl _, by show s.vars <= _; omega⟩, rfl, fun v hv => ?_, hS⟩
  have h0 := hs.v0
  have hv : v ∈ [1 * (2 * n - 1), 0, 0, 0] := hv
  simp only [List.mem_cons, List.not_mem_nil, or_false] at hv
  rcases hv with rfl | rfl | rfl | rfl
  ·rcases hn with rfl | rfl
   ·exact ⟨by show -(s.vars + 1) <= (-1 : Int); omega, by show (-1 : Int) <= s.vars + 1; omega⟩
   ·exact ⟨by show -(s.vars + 1) <= (1 : Int); omega, by show (1 : Int) <= s.vars + 1; omega⟩
  all_goals exact zero_lim hs
 | @var n m h1 h2 =>
  intro _ s S hs hv hS hA
  refine fin hs hS ?_
  rw [Zx, if_neg (by decide), if_neg (by decide)]
  have a0 := hA (n, m) (by simp [QL])
  have a1 : 1 <= (W7 A n).getD 0 := a0.1
  have a2 : (W7 A n).getD 0 + (if m = 1 then 0 else 3) <= s.vars := a0.2
  refine ⟨⟨hs, Int.le_refl _, by show s.vars <= _; omega⟩, ?_, fun v hv => ?_, hS⟩
  ·show (varM _ m).length = 4
   unfold varM; split <;> exact qi _ _
  ·have hv : v ∈ varM ((W7 A n).getD 0) m := hv
   unfold varM at hv
   split at hv
   ·rename_i hm; rw [if_pos hm] at a2; exact varTo_lim hs (by omega) 1 (by omega) v hv
   ·rename_i hm; rw [if_neg hm] at a2; exact varTo_lim hs (by omega) 4 (by omega) v hv
 | @bin n a b hn _ _ iha ihb =>
  intro hc s S hs hv hS hA
  refine fin hs hS ?_
  have hsz : QR (.mk 9 n 0 [a, b]) = 1 + (QR a + (QR b + 0)) := by rw [QR, QW, QW, QW]
  rw [hsz] at hv ⊢
  have q := (iha (fun p hp => hc p (by simp [QL, QP]; simp [hp])) s S hs (by omega) hS (fun p hp => hA p (by simp [QL, QP]; simp [hp]))).2
  rw [madeM_2]
  generalize QK A a s S = x at q
  have q1 := q.g.lo
  have q2 := q.g.hi
  have r := (ihb (fun p hp => hc p (by simp [QL, QP]; simp [hp])) x.2.1 x.2.2 q.g.ok (by omega) q.seen ((AtOk.mono (fun p hp => hA p (by simp [QL, QP]; simp [hp])) q1))).2
  generalize QK A b x.2.1 x.2.2 = y at r
  have r1 := r.g.lo
  have r2 := r.g.hi
  obtain ⟨o1, o2, o3⟩ := opNM_gate n y.2.1 r.g.ok (by omega) x.1 y.1 q.len r.len (fun v hv => (q.lim v hv).mono r1) r.lim
  have o4 := o1.lo
  have o5 := o1.hi
  exact ⟨⟨o1.ok, by show s.vars <= (Zv n y.2.1 x.1 y.1).2.vars; omega, by show (Zv n y.2.1 x.1 y.1).2.vars <= _; omega⟩, o2, o3, r.seen.mono o4⟩
 | @log n a b hn _ _ iha ihb =>
  intro hc s S hs hv hS hA
  refine fin hs hS ?_
  have hsz : QR (.mk 9 n 0 [a, b]) = 1 + (QR a + (QR b + 0)) := by rw [QR, QW, QW, QW]
  rw [hsz] at hv ⊢
  have q := (iha (fun p hp => hc p (by simp [QL, QP]; simp [hp])) s S hs (by omega) hS (fun p hp => hA p (by simp [QL, QP]; simp [hp]))).2
  rw [madeM_2]
  generalize QK A a s S = x at q
  have q1 := q.g.lo
  have q2 := q.g.hi
  have r := (ihb (fun p hp => hc p (by simp [QL, QP]; simp [hp])) x.2.1 x.2.2 q.g.ok (by omega) q.seen ((AtOk.mono (fun p hp => hA p (by simp [QL, QP]; simp [hp])) q1))).2
  generalize QK A b x.2.1 x.2.2 = y at r
  have r1 := r.g.lo
  have r2 := r.g.hi
  obtain ⟨o1, o2, o3⟩ := opNM_gate n y.2.1 r.g.ok (by omega) x.1 y.1 q.len r.len (fun v hv => (q.lim v hv).mono r1) r.lim
  have o4 := o1.lo
  have o5 := o1.hi
  exact ⟨⟨o1.ok, by show s.vars <= (Zv n y.2.1 x.1 y.1).2.vars; omega, by show (Zv n y.2.1 x.1 y.1).2.vars <= _; omega⟩, o2, o3, r.seen.mono o4⟩
 | @not a _ iha =>
  intro hc s S hs hv hS hA
  refine fin hs hS ?_
  have hsz : QR (.mk 10 0 0 [a]) = 1 + (QR a + 0) := by rw [QR, QW, QW]
  rw [hsz] at hv ⊢
  have q := (iha (fun p hp => hc p (by simp [QL, QP]; simp [hp])) s S hs (by omega) hS (fun p hp => hA p (by simp [QL, QP]; simp [hp]))).2
  rw [madeM_1]
  generalize QK A a s S = x at q
  have q1 := q.g.lo
  have q2 := q.g.hi
  refine ⟨⟨q.g.ok, q1, by show x.2.1.vars <= _; omega⟩, rfl, fun v hv => ?_, q.seen⟩
  have hv : v ∈ [-(x.1.getD 0 0), 0, 0, 0] := hv
  simp only [List.mem_cons, List.not_mem_nil, or_false] at hv
  rcases hv with rfl | rfl | rfl | rfl
  ·exact (Wq q.lim q.g.ok.v0 0).neg
  all_goals exact zero_lim q.g.ok
 | @cond c a b k hcc haa hbb ihc iha ihb =>
  intro hc s S hs hv hS hA
  refine fin hs hS ?_
  have hsz : QR (.mk 29 0 0 [c, a, b]) = 1 + (QR c + (QR a + (QR b + 0))) := by rw [QR, QW, QW, QW, QW]
  rw [hsz] at hv ⊢
  have q := (ihc (fun p hp => hc p (by simp [QL, QP]; simp [hp])) s S hs (by omega) hS (fun p hp => hA p (by simp [QL, QP]; simp [hp]))).2
  rw [madeM_3]
  generalize QK A c s S = x at q
  have q1 := q.g.lo
  have q2 := q.g.hi
  have r := (iha (fun p hp => hc p (by simp [QL, QP]; simp [hp])) x.2.1 x.2.2 q.g.ok (by omega) q.seen ((AtOk.mono (fun p hp => hA p (by simp [QL, QP]; simp [hp])) q1))).2
  generalize QK A a x.2.1 x.2.2 = y at r
  have r1 := r.g.lo
  have r2 := r.g.hi
  have u := (ihb (fun p hp => hc p (by simp [QL, QP]; simp [hp])) y.2.1 y.2.2 r.g.ok (by omega) r.seen ((AtOk.mono (fun p hp => hA p (by simp [QL, QP]; simp [hp])) (Int.le_trans q1 r1)))).2
  generalize QK A b y.2.1 y.2.2 = z at u
  have u1 := u.g.lo
  have u2 := u.g.hi
  have lx : Lim z.2.1 (x.1.getD 0 0) := (Wq q.lim q.g.ok.v0 0).mono (Int.le_trans r1 u1)
  have ly : ∀ v ∈ y.1, Lim z.2.1 v := fun v hv => (r.lim v hv).mono u1
  generalize (Wt (.mk 29 0 0 [c, a, b]) []).1 = ty
  unfold condM
  split
  ·obtain ⟨o1, o2⟩ := mux_gate u.g.ok (by omega) lx (Wq ly u.g.ok.v0 0) (Wq u.lim u.g.ok.v0 0)
   have o3 := o1.lo
   have o4 := o1.hi
   refine ⟨⟨o1.ok, by show s.vars <= (muxM z.2.1 _ _ _).2.vars; omega, by show (muxM z.2.1 _ _ _).2.vars <= _; omega⟩, rfl, fun v hv => ?_, u.seen.mono o3⟩
   have hv : v ∈ [(muxM z.2.1 (x.1.getD 0 0) (y.1.getD 0 0) (z.1.getD 0 0)).1, 0, 0, 0] := hv
   simp only [List.mem_cons, List.not_mem_nil, or_false] at hv
   rcases hv with rfl | rfl | rfl | rfl
   ·exact o2
   all_goals exact zero_lim o1.ok
  ·obtain ⟨o1, o2⟩ := muxTo_gate u.g.ok (by omega) lx ly u.lim 4 (by omega)
   have o3 := o1.lo
   have o4 := o1.hi
   exact ⟨⟨o1.ok, by show s.vars <= (eachTo _ z.2.1 _ _ 4).2.vars; omega, by show (eachTo _ z.2.1 _ _ 4).2.vars <= _; omega⟩, eachTo_len _ _ _ r.len 4, o2, u.seen.mono o3⟩
end Go.Proofs
end
section
namespace Go.Proofs
open Go.Av
variable {G : Nat -> DV}
attribute [local irreducible] OpSem WE WY W0 ACalls ZE QV RV
open Go.Bl
theorem valid_tt (hG : G 0 = opsD) {F : Int -> Int} {t : Nd} {k : Int} (h : Tt t k) (hc : Con F t) : Go.Av.Pure Tryd.prog G 36 [.agg (Enc.enc t)] (.tup [.i k, .b true]) := by
 have hv := valid_of (G := G) t (ctypes_c hG t h.fit [])
 have hk := h.ty
 rw [cty_nil h hc, Int.max_eq_left (by omega), decide_eq_true (show (0 : Int) <= k by omega)] at hv
 exact hv
theorem bits_c (hG0 : G 0 = opsD) (hG1 : G 1 = pow10T) {F : Int -> Int} {A : List (Int × Int)} {t : Nd} {k : Int} (h : Tt t k) : Con F t -> QR t <= 100000 -> ∀ (s : St) (S : ZP), Ok s -> s.vars + 100 * QR t + 300 < 1099511627776 -> SOk s S -> AtOk A s.vars t ->
  BS Tryd.prog G 41 [.agg (Enc.enc t)] A s.vars s.cl S (.agg (Qq (QK A t s S).1)) (QK A t s S).2.1 (QK A t s S).2.2 := by
 have fin : ∀ {t : Nd} {k : Int}, Tt t k -> Con F t -> QR t <= 100000 -> ∀ (s : St) (S : ZP), Ok s -> s.vars + 100 * QR t + 300 < 1099511627776 -> SOk s S -> AtOk A s.vars t ->
   BS Tryd.prog G 71 [.agg (Enc.enc t)] A s.vars s.cl S (.agg (Qq (Ze A t s S).1)) (Ze A t s S).2.1 (Ze A t s S).2.2 -> BS Tryd.prog G 41 [.agg (Enc.enc t)] A s.vars s.cl S (.agg (Qq (QK A t s S).1)) (QK A t s S).2.1 (QK A t s S).2.2 := by
  intro t k h hc hsz s S hs hv hS hA hm
  refine bits_of hG1 A t h.tin (by have := keyS_len h.tin; omega) s S hs (fun p hp => (hS p hp).1) fun _ _ => ⟨(Z6 h hc s S hs hv hS hA).1.len, hm⟩
 have big : ∀ {s : St}, Ok s -> ∀ {v : Int}, Lim s v -> -2000000000000 <= v /\ v <= 2000000000000 := fun hs v hv => by
  have := hs.v1
  obtain ⟨h1, h2⟩ := hv
  exact ⟨by omega, by omega⟩
 induction h with
 | @num n hn =>
  intro hc hsz s S hs hv hS hA
  refine fin (.num hn) hc hsz s S hs hv hS hA ?_
  rw [Zx, if_pos rfl]
  exact made_num A n 0 s S
 | @tru n hn =>
  intro hc hsz s S hs hv hS hA
  refine fin (.tru hn) hc hsz s S hs hv hS hA ?_
  rw [Zx, if_neg (by decide), if_pos rfl]
  exact made_tru A n 0 hn s S
 | @var n m h1 h2 =>
  intro hc hsz s S hs hv hS hA
  refine fin (.var h1 h2) hc hsz s S hs hv hS hA ?_
  have a0 := hA (n, m) (by simp [QL])
  have a1 : 1 <= (W7 A n).getD 0 := a0.1
  have a2 : (W7 A n).getD 0 + (if m = 1 then 0 else 3) <= s.vars := a0.2
  have a3 : (0 : Int) <= if m = 1 then 0 else 3 := by split <;> omega
  rw [Zx, if_neg (by decide), if_neg (by decide)]
  exact made_var A n m ⟨by omega, by have := hs.v1; omega⟩ s S
 | @bin n a b hn ha hb iha ihb =>
  intro hc hsz s S hs hv hS hA
  refine fin (.bin hn ha hb) hc hsz s S hs hv hS hA ?_
  have hse : QR (.mk 9 n 0 [a, b]) = 1 + (QR a + (QR b + 0)) := by rw [QR, QW, QW, QW]
  rw [hse] at hv hsz
  have ca : Con F a := fun p hp => hc p (by simp [QL, QP]; simp [hp])
  have cb : Con F b := fun p hp => hc p (by simp [QL, QP]; simp [hp])
  have aa : AtOk A s.vars a := fun p hp => hA p (by simp [QL, QP]; simp [hp])
  have ab : AtOk A s.vars b := fun p hp => hA p (by simp [QL, QP]; simp [hp])
  have q := (Z6 ha ca s S hs (by omega) hS aa).2
  have w1 := iha ca (by omega) s S hs (by omega) hS aa
  rw [madeM_2]
  generalize QK A a s S = x at q w1
  have q1 := q.g.lo
  have q2 := q.g.hi
  have r := (Z6 hb cb x.2.1 x.2.2 q.g.ok (by omega) q.seen (ab.mono q1)).2
  have w2 := ihb cb (by omega) x.2.1 x.2.2 q.g.ok (by omega) q.seen (ab.mono q1)
  generalize QK A b x.2.1 x.2.2 = y at r w2
  have r1 := r.g.lo
  have r2 := r.g.hi
  have hop := operation_c (G := G) hG0 n (by omega) y.2.1 r.g.ok (by omega) x.1 y.1 q.len r.len (fun v hv => (q.lim v hv).mono r1) r.lim
  obtain ⟨_, o2, _⟩ := opNM_gate n y.2.1 r.g.ok (by omega) x.1 y.1 q.len r.len (fun v hv => (q.lim v hv).mono r1) r.lim
  exact made_bin A n 0 a b s S x y (Zv n y.2.1 x.1 y.1) q.len o2 w1 w2 hop
 | @log n a b hn ha hb iha ihb =>
  intro hc hsz s S hs hv hS hA
  refine fin (.log hn ha hb) hc hsz s S hs hv hS hA ?_
  have hse : QR (.mk 9 n 0 [a, b]) = 1 + (QR a + (QR b + 0)) := by rw [QR, QW, QW, QW]
  rw [hse] at hv hsz
  have ca : Con F a := fun p hp => hc p (by simp [QL, QP]; simp [hp])
  have cb : Con F b := fun p hp => hc p (by simp [QL, QP]; simp [hp])
  have aa : AtOk A s.vars a := fun p hp => hA p (by simp [QL, QP]; simp [hp])
  have ab : AtOk A s.vars b := fun p hp => hA p (by simp [QL, QP]; simp [hp])
  have q := (Z6 ha ca s S hs (by omega) hS aa).2
  have w1 := iha ca (by omega) s S hs (by omega) hS aa
  rw [madeM_2]
  generalize QK A a s S = x at q w1
  have q1 := q.g.lo
  have q2 := q.g.hi
  have r := (Z6 hb cb x.2.1 x.2.2 q.g.ok (by omega) q.seen (ab.mono q1)).2
  have w2 := ihb cb (by omega) x.2.1 x.2.2 q.g.ok (by omega) q.seen (ab.mono q1)
  generalize QK A b x.2.1 x.2.2 = y at r w2
  have r1 := r.g.lo
  have r2 := r.g.hi
  have hop := operation_c (G := G) hG0 n (by omega) y.2.1 r.g.ok (by omega) x.1 y.1 q.len r.len (fun v hv => (q.lim v hv).mono r1) r.lim
  obtain ⟨_, o2, _⟩ := opNM_gate n y.2.1 r.g.ok (by omega) x.1 y.1 q.len r.len (fun v hv => (q.lim v hv).mono r1) r.lim
  exact made_bin A n 0 a b s S x y (Zv n y.2.1 x.1 y.1) q.len o2 w1 w2 hop
 | @not a ha iha =>
  intro hc hsz s S hs hv hS hA
  refine fin (.not ha) hc hsz s S hs hv hS hA ?_
  have hse : QR (.mk 10 0 0 [a]) = 1 + (QR a + 0) := by rw [QR, QW, QW]
  rw [hse] at hv hsz
  have ca : Con F a := fun p hp => hc p (by simp [QL, QP]; simp [hp])
  have aa : AtOk A s.vars a := fun p hp => hA p (by simp [QL, QP]; simp [hp])
  have q := (Z6 ha ca s S hs (by omega) hS aa).2
  have w1 := iha ca (by omega) s S hs (by omega) hS aa
  rw [madeM_1]
  generalize QK A a s S = x at q w1
  exact made_not A 0 0 a s S x q.len (big q.g.ok (Wq q.lim q.g.ok.v0 0)) w1
 | @cond c a b k hcc ha hb ihc iha ihb =>
  intro hc hsz s S hs hv hS hA
  refine fin (.cond hcc ha hb) hc hsz s S hs hv hS hA ?_
  have hval := valid_tt (G := G) hG0 (.cond hcc ha hb) hc
  have hse : QR (.mk 29 0 0 [c, a, b]) = 1 + (QR c + (QR a + (QR b + 0))) := by rw [QR, QW, QW, QW, QW]
  rw [hse] at hv hsz
  have hty := cty_nil (.cond hcc ha hb) hc
  have cc : Con F c := fun p hp => hc p (by simp [QL, QP]; simp [hp])
  have ca : Con F a := fun p hp => hc p (by simp [QL, QP]; simp [hp])
  have cb : Con F b := fun p hp => hc p (by simp [QL, QP]; simp [hp])
  have ac : AtOk A s.vars c := fun p hp => hA p (by simp [QL, QP]; simp [hp])
  have aa : AtOk A s.vars a := fun p hp => hA p (by simp [QL, QP]; simp [hp])
  have ab : AtOk A s.vars b := fun p hp => hA p (by simp [QL, QP]; simp [hp])
  have q := (Z6 hcc cc s S hs (by omega) hS ac).2
  have w1 := ihc cc (by omega) s S hs (by omega) hS ac
  rw [madeM_3, hty]
  generalize QK A c s S = x at q w1
  have q1 := q.g.lo
  have q2 := q.g.hi
  have r := (Z6 ha ca x.2.1 x.2.2 q.g.ok (by omega) q.seen (aa.mono q1)).2
  have w2 := iha ca (by omega) x.2.1 x.2.2 q.g.ok (by omega) q.seen (aa.mono q1)
  generalize QK A a x.2.1 x.2.2 = y at r w2
  have r1 := r.g.lo
  have r2 := r.g.hi
  have u := (Z6 hb cb y.2.1 y.2.2 r.g.ok (by omega) r.seen (ab.mono (Int.le_trans q1 r1))).2
  have w3 := ihb cb (by omega) y.2.1 y.2.2 r.g.ok (by omega) r.seen (ab.mono (Int.le_trans q1 r1))
  generalize QK A b y.2.1 y.2.2 = z at u w3
  have u1 := u.g.lo
  have u2 := u.g.hi
  exact made_cond A 0 0 c a b k s S x y z q.len r.len u.len hval w1 w2 w3 u.g.ok (by omega) ((Wq q.lim q.g.ok.v0 0).mono (Int.le_trans r1 u1)) (fun v hv => (r.lim v hv).mono u1) u.lim
end Go.Proofs
end
section
namespace Go.Av
open Classical
section
variable {P : Program} {G : Nat -> DV} {E : AX} {n : Nat} {ops : Array Oper} {md : Region.Mode} {Fin : (Nat -> DV) -> List ABlk -> Prop} {Inv : List ABlk -> Prop} {Z Pu : List Nat}
def lateB (md : Region.Mode) (ops : Array Oper) (Z Pu : List Nat) : Bool := Z.all fun z => Pu.contains z || match ops[z]? with
 | none => true
 | some _ => (List.range ops.size).all fun k => Z.contains k || (clos md ops 8 (deps md ops z)).contains k
theorem lateB_spec {z k : Nat} {oz : Oper} {listed : Array Bool} (h : lateB md ops Z Pu = true) (hzZ : Z.contains z = true) (hzP : Pu.contains z = false) (hz : ops[z]? = some oz) (hc : Closed md ops listed) (hall : ∀ e ∈ oz.after, Region.binds md e = true -> listed.getD e.on false = true) (hk : k < ops.size) (hne : Z.contains k = false) : listed.getD k false = true := by
 have h := List.all_eq_true.1 h z (List.contains_iff_mem.1 hzZ)
 rw [hzP, Bool.false_or, hz] at h
 have := List.all_eq_true.1 h k (List.mem_range.2 hk)
 rw [Bool.or_eq_true] at this
 rcases this with h1 | h1
 ·rw [h1] at hne; cases hne
 ·refine clos_listed hc 8 _ (fun m hm => ?_) k (List.contains_iff_mem.1 h1)
  obtain ⟨o, ho, e, he, hb, rfl⟩ := mem_deps hm
  rw [hz] at ho; cases ho
  exact hall e he hb
def anyZ (P : Program) (G : Nat -> DV) (B n : Nat) (md : Region.Mode) (ops : Array Oper) (Fin : (Nat -> DV) -> List ABlk -> Prop) (Inv : List ABlk -> Prop) (Z : List Nat) : Nat -> Array Bool -> (Nat -> DV) -> List ABlk -> Prop
 | 0, listed, φ, σ => Region.ready md ops listed = [] /\ Fin φ σ
 | f + 1, listed, φ, σ => (Region.ready md ops listed = [] -> Fin φ σ) /\ ∀ i ∈ Region.ready md ops listed, ∃ o, ops[i]? = some o /\ (∀ s, o.dst = some s -> s < n) /\
   ((Wd n ops o φ true /\ OpSem P G B o (aevF G φ) σ (fun d σ' => (Z.contains i = false -> Inv σ') /\ anyZ P G B n md ops Fin Inv Z f (listed.setIfInBounds i true) (ZO o.dst d φ) σ')) \/
   (Wd n ops o φ false /\ anyZ P G B n md ops Fin Inv Z f (listed.setIfInBounds i true) (ZO o.dst (.sc undef) φ) σ))
theorem getD_set_t {listed : Array Bool} {i j : Nat} (h : listed.getD j true = true) : (listed.setIfInBounds i true).getD j true = true := by
 by_cases hij : i = j
 ·subst hij
  simp only [Array.getD_eq_getD_getElem?, Array.getElem?_setIfInBounds, if_true]
  split <;> rfl
 ·rw [getD_set_ne true hij]; exact h
theorem anyZ_first {B : Nat} {i : Nat} {oi : Oper} {d : DV} (hi : ops[i]? = some oi) (hz : lateB md ops Z Pu = true) (hiz : Z.contains i = false) : ∀ (f : Nat) (listed : Array Bool) (φ : Nat -> DV) (σ : List ABlk), (∀ z, Pu.contains z = true -> listed.getD z true = true) -> Closed md ops listed ->
   (∀ j oj, ops[j]? = some oj -> j ≠ i -> listed.getD j true = false -> (∀ e ∈ oj.after, Region.binds md e = true -> e.on ≠ i) -> oi.apart ops oj = true) ->
   i ∈ Region.ready md ops listed -> (∀ σ, Inv σ -> YA P G B n ops σ oi d φ) -> Inv σ ->
   anyZ P G B n md ops Fin Inv Z f (listed.setIfInBounds i true) (ZO oi.dst d φ) σ -> anyZ P G B n md ops Fin Inv Z (f + 1) listed φ σ := by
 intro f
 have now : ∀ (f : Nat) (listed : Array Bool) (φ : Nat -> DV) (σ : List ABlk), (∀ σ, Inv σ -> YA P G B n ops σ oi d φ) -> Inv σ -> anyZ P G B n md ops Fin Inv Z f (listed.setIfInBounds i true) (ZO oi.dst d φ) σ ->
   ∃ o, ops[i]? = some o /\ (∀ s, o.dst = some s -> s < n) /\ ((Wd n ops o φ true /\ OpSem P G B o (aevF G φ) σ (fun d σ' => (Z.contains i = false -> Inv σ') /\ anyZ P G B n md ops Fin Inv Z f (listed.setIfInBounds i true) (ZO o.dst d φ) σ')) \/
   (Wd n ops o φ false /\ anyZ P G B n md ops Fin Inv Z f (listed.setIfInBounds i true) (ZO o.dst (.sc undef) φ) σ)) := fun f listed φ σ hy hI H => by
  obtain ⟨h0, h⟩ := hy σ hI
  refine ⟨oi, hi, h0, ?_⟩
  rcases h with ⟨h1, h2⟩ | ⟨h1, h2⟩
  ·exact .inl ⟨h1, h2.mono fun d' σ' ⟨e1, e2⟩ => by rw [e1, e2]; exact ⟨fun _ => hI, H⟩⟩
  ·exact .inr ⟨h1, by rw [<- h2]; exact H⟩
 induction f with
 | zero =>
  intro listed φ σ hpu hc hfree hr hy hI H
  refine ⟨fun h => (by rw [h] at hr; cases hr), fun j hj => ?_⟩
  by_cases hji : j = i
  ·subst hji; exact now 0 listed φ σ hy hI H
  ·have := ready_mono hj hji
   rw [H.1] at this; cases this
 | succ f ih =>
  intro listed φ σ hpu hc hfree hr hy hI H
  refine ⟨fun h => (by rw [h] at hr; cases hr), fun j hj => ?_⟩
  by_cases hji : j = i
  ·subst hji; exact now (f + 1) listed φ σ hy hI H
  ·obtain ⟨oj, hoj, hdst, Hj⟩ := H.2 j (ready_mono hj hji)
   obtain ⟨hjun, oj', hoj', hall⟩ := mem_ready.1 hj
   rw [hoj] at hoj'; cases hoj'
   have hnot : ∀ e ∈ oj.after, Region.binds md e = true -> e.on ≠ i := fun e he hb heq => by
    have h1 := hall e he hb
    have h0 := (mem_ready.1 hr).1
    rw [heq] at h1
    rcases Nat.lt_or_ge i listed.size with h' | h'
    ·simp [h'] at h0 h1; rw [h0] at h1; cases h1
    ·simp [Array.getElem?_eq_none h'] at h1
   obtain ⟨a1, a2, a3⟩ := Oper.apart_spec (hfree j oj hoj hji hjun hnot)
   have hjz : Z.contains j = false := by
    cases hzj : Z.contains j
    ·rfl
    exfalso
    have hjP : Pu.contains j = false := by
     cases hjp : Pu.contains j
     ·rfl
     ·rw [hpu j hjp] at hjun; cases hjun
    have hl := lateB_spec hz hzj hjP hoj hc (fun e he hb => by simpa using hall e he hb) (show i < ops.size from (Array.getElem?_eq_some_iff.1 hi).1) hiz
    have h0 := (mem_ready.1 hr).1
    rcases Nat.lt_or_ge i listed.size with h' | h'
    ·simp [h'] at h0 hl; rw [h0] at hl; cases hl
    ·simp [Array.getElem?_eq_none h'] at hl
   have next : ∀ d' σ', Inv σ' -> anyZ P G B n md ops Fin Inv Z f ((listed.setIfInBounds i true).setIfInBounds j true) (ZO oj.dst d' (ZO oi.dst d φ)) σ' -> anyZ P G B n md ops Fin Inv Z (f + 1) (listed.setIfInBounds j true) (ZO oj.dst d' φ) σ' := fun d' σ' hI' h => by
    refine ih _ _ _ (fun z hzp => getD_set_t (hpu z hzp)) (hc.step hj) ?_ (ready_mono hr (Ne.symm hji)) (fun σ hs => (hy σ hs).same (qj a3)) hI' ?_
    ·intro k ok hk hki hun hno
     refine hfree k ok hk hki ?_ hno
     by_cases hjk : j = k
     ·subst hjk; exact hjun
     ·rw [getD_set_ne true hjk] at hun; exact hun
    ·rw [Array.setIfInBounds_comm _ _ hji, <- updF_comm d d' φ a2]
     exact h
   refine ⟨oj, hoj, hdst, ?_⟩
   have looks : ∀ t ∈ oj.looksAt ops, φ t = ZO oi.dst d φ t := fun t ht => (qj (d := d) (φ := φ) a1 t ht).symm
   rcases Hj with ⟨h1, h2⟩ | ⟨h1, h2⟩
   ·refine .inl ⟨h1.same looks, (h2.same fun x hx => ?_).mono fun d' σ' h => ⟨h.1, next d' σ' (h.1 hjz) h.2⟩⟩
    cases x with
    | tmp t => exact looks t (List.mem_append_left _ (List.mem_filterMap.2 ⟨.tmp t, by simpa using hx, rfl⟩))
    | _ => rfl
   ·exact .inr ⟨h1.same looks, next _ _ hI h2⟩
theorem anyZ_pure {B : Nat} {i : Nat} {oi : Oper} {d : DV} (hi : ops[i]? = some oi) (hiz : Z.contains i = true) : ∀ (f : Nat) (listed : Array Bool) (φ : Nat -> DV) (σ : List ABlk), Closed md ops listed ->
   (∀ j oj, ops[j]? = some oj -> j ≠ i -> listed.getD j true = false -> (∀ e ∈ oj.after, Region.binds md e = true -> e.on ≠ i) -> oi.apart ops oj = true) ->
   i ∈ Region.ready md ops listed -> (∀ σ, YA P G B n ops σ oi d φ) ->
   anyZ P G B n md ops Fin Inv Z f (listed.setIfInBounds i true) (ZO oi.dst d φ) σ -> anyZ P G B n md ops Fin Inv Z (f + 1) listed φ σ := by
 intro f
 have now : ∀ (f : Nat) (listed : Array Bool) (φ : Nat -> DV) (σ : List ABlk), (∀ σ, YA P G B n ops σ oi d φ) -> anyZ P G B n md ops Fin Inv Z f (listed.setIfInBounds i true) (ZO oi.dst d φ) σ ->
   ∃ o, ops[i]? = some o /\ (∀ s, o.dst = some s -> s < n) /\ ((Wd n ops o φ true /\ OpSem P G B o (aevF G φ) σ (fun d σ' => (Z.contains i = false -> Inv σ') /\ anyZ P G B n md ops Fin Inv Z f (listed.setIfInBounds i true) (ZO o.dst d φ) σ')) \/
   (Wd n ops o φ false /\ anyZ P G B n md ops Fin Inv Z f (listed.setIfInBounds i true) (ZO o.dst (.sc undef) φ) σ)) := fun f listed φ σ hy H => by
  obtain ⟨h0, h⟩ := hy σ
  refine ⟨oi, hi, h0, ?_⟩
  rcases h with ⟨h1, h2⟩ | ⟨h1, h2⟩
  ·exact .inl ⟨h1, h2.mono fun d' σ' ⟨e1, e2⟩ => by rw [e1, e2]; exact ⟨fun hh => (by rw [hiz] at hh; cases hh), H⟩⟩
  ·exact .inr ⟨h1, by rw [<- h2]; exact H⟩
 induction f with
 | zero =>
  intro listed φ σ hc hfree hr hy H
  refine ⟨fun h => (by rw [h] at hr; cases hr), fun j hj => ?_⟩
  by_cases hji : j = i
  ·subst hji; exact now 0 listed φ σ hy H
  ·have := ready_mono hj hji
   rw [H.1] at this; cases this
 | succ f ih =>
  intro listed φ σ hc hfree hr hy H
  refine ⟨fun h => (by rw [h] at hr; cases hr), fun j hj => ?_⟩
  by_cases hji : j = i
  ·subst hji; exact now (f + 1) listed φ σ hy H
  ·obtain ⟨oj, hoj, hdst, Hj⟩ := H.2 j (ready_mono hj hji)
   obtain ⟨hjun, oj', hoj', hall⟩ := mem_ready.1 hj
   rw [hoj] at hoj'; cases hoj'
   have hnot : ∀ e ∈ oj.after, Region.binds md e = true -> e.on ≠ i := fun e he hb heq => by
    have h1 := hall e he hb
    have h0 := (mem_ready.1 hr).1
    rw [heq] at h1
    rcases Nat.lt_or_ge i listed.size with h' | h'
    ·simp [h'] at h0 h1; rw [h0] at h1; cases h1
    ·simp [Array.getElem?_eq_none h'] at h1
   obtain ⟨a1, a2, a3⟩ := Oper.apart_spec (hfree j oj hoj hji hjun hnot)
   have next : ∀ d' σ', anyZ P G B n md ops Fin Inv Z f ((listed.setIfInBounds i true).setIfInBounds j true) (ZO oj.dst d' (ZO oi.dst d φ)) σ' -> anyZ P G B n md ops Fin Inv Z (f + 1) (listed.setIfInBounds j true) (ZO oj.dst d' φ) σ' := fun d' σ' h => by
    refine ih _ _ _ (hc.step hj) ?_ (ready_mono hr (Ne.symm hji)) (fun σ => (hy σ).same (qj a3)) ?_
    ·intro k ok hk hki hun hno
     refine hfree k ok hk hki ?_ hno
     by_cases hjk : j = k
     ·subst hjk; exact hjun
     ·rw [getD_set_ne true hjk] at hun; exact hun
    ·rw [Array.setIfInBounds_comm _ _ hji, <- updF_comm d d' φ a2]
     exact h
   refine ⟨oj, hoj, hdst, ?_⟩
   have looks : ∀ t ∈ oj.looksAt ops, φ t = ZO oi.dst d φ t := fun t ht => (qj (d := d) (φ := φ) a1 t ht).symm
   rcases Hj with ⟨h1, h2⟩ | ⟨h1, h2⟩
   ·refine .inl ⟨h1.same looks, (h2.same fun x hx => ?_).mono fun d' σ' h => ⟨h.1, next d' σ' h.2⟩⟩
    cases x with
    | tmp t => exact looks t (List.mem_append_left _ (List.mem_filterMap.2 ⟨.tmp t, by simpa using hx, rfl⟩))
    | _ => rfl
   ·exact .inr ⟨h1.same looks, next _ _ h2⟩
theorem anyZ_run : ∀ (f : Nat) (listed : Array Bool) (φ : Nat -> DV) (σ : List ABlk), anyZ P G E.N n md ops Fin Inv Z f listed φ σ -> ∀ a w, RelF G E n φ σ a w -> wpAny P md ops (fun e a w => e = .normal /\ ∃ φ σ, RelF G E n φ σ a w /\ Fin φ σ) f listed a w
 | 0, listed, φ, σ, h, a, w, hr => ⟨h.1, rfl, φ, σ, hr, h.2⟩
 | f + 1, listed, φ, σ, h, a, w, hr => by
  refine ⟨fun h0 => ⟨rfl, φ, σ, hr, h.1 h0⟩, fun i hi => ?_⟩
  obtain ⟨o, ho, hdst, hn⟩ := h.2 i hi
  unfold wpOp
  simp only [ho]
  obtain ⟨X, h1, h2, h3, h4, h5, h6, h7, h8⟩ := hr
  have hput : ∀ {X' : AX} {v : Value} {d' : DV} {σ' : List ABlk}, X'.σ = σ' -> Sto X' -> WExt X X' -> VRep X'.lay d' v -> RelF G E n (ZO o.dst d' φ) σ' (a.put o.dst v) X'.w := by
   intro X' v d' σ' g1 g2 g3 g4
   refine ⟨X', rfl, g1, g2, h4.trans g3, h5.ext g3, ?_, ?_, fun j => ?_⟩
   ·cases ho : o.dst <;> exact h6
   ·cases ho : o.dst <;> simp [Act.put, h7]
   ·cases ho : o.dst with
    | none => exact (h8 j).ext g3
    | some s =>
     have hs := hdst s ho
     simp only [ZO, Act.put]
     by_cases hsj : s = j
     ·subst hsj
      rw [if_pos rfl]
      simpa [Array.getD_eq_getD_getElem?, Array.getElem?_setIfInBounds, h7, hs] using g4
     ·rw [if_neg hsj]
      have := (h8 j).ext g3
      simpa [Array.getD_eq_getD_getElem?, Array.getElem?_setIfInBounds_ne hsj] using this
  have hwd : ∀ b, Wd n ops o φ b -> Region.wanted o (yielded ops a.tmps) = b := by
   intro b hb
   unfold Wd at hb
   cases hg : o.guard with
   | none => rw [hg] at hb; simp [Region.wanted, hg, hb]
   | some gw =>
    obtain ⟨j, want⟩ := gw
    rw [hg] at hb
    obtain ⟨s, c, e1, e2, e3, e4⟩ := hb
    have hv := h8 s
    rw [e3] at hv
    have hv := VRep.sc_eq hv
    have hget : a.tmps[s]? = some c := by
     have hlt : s < a.tmps.size := by rw [h7]; exact e2
     simp only [Array.getD_eq_getD_getElem?] at hv
     rw [Array.getElem?_eq_getElem hlt] at hv ⊢
     simpa using hv
    have : yielded ops a.tmps j = yv c := by rw [yielded, e1, Option.bind_some, hget]; cases c <;> rfl
    simp only [Region.wanted, hg, this, e4]
  rcases hn with ⟨hw, hs⟩ | ⟨hw, hK⟩
  ·rw [hwd true hw]
   simp only [if_true]
   refine .inl ?_
   have hx : ∀ x ∈ o.op.operands, VRep X.lay (aevF G φ x) (a.eval x) := fun x _ => by
    cases x with
    | tmp i => exact h8 i
    | const v => exact .sc v
    | global g => exact (h5 g).2
    | func f => exact .fn _ [] [] #[] #[] rfl rfl (fun j d h => by simp at h) (fun j d h => by simp at h)
   have hs := hs X a.eval h3 h2 h4.top h5 hx
   rw [h1] at hs
   unfold Oper.wp
   generalize (execOp a.eval o).run P w = x at *
   cases x with
   | ok nx w' =>
    cases nx <;> simp only [OPost] at hs <;> simp only [Oper.upon]
    case value v =>
     obtain ⟨X', e1, e2, e3, d', hv, _, hσ'⟩ := hs
     subst e1
     exact anyZ_run f _ _ _ hσ' _ _ (hput rfl e2 e3 hv)
    case skip =>
     obtain ⟨X', e1, e2, e3, d', hv, _, hσ'⟩ := hs
     subst e1
     exact anyZ_run f _ _ _ hσ' _ _ (hput rfl e2 e3 hv)
    case enter g args =>
     refine hs.2.mono fun e w'' ⟨v, he, X', e1, e2, e3, d', hv, _, hσ'⟩ => ?_
     subst he
     subst e1
     exact anyZ_run f _ _ _ hσ' _ _ (hput rfl e2 e3 hv)
   | halt hh w' => simp only [OPost] at hs
  ·rw [hwd false hw]
   simp only [Bool.false_eq_true, if_false]
   have := hput (X' := X) (v := undef) h2 h3 (.refl X) (VRep.sc undef)
   rw [h1] at this
   exact anyZ_run f _ _ _ hK _ _ this
def ZMix (P : Program) (G : Nat -> DV) (B n : Nat) (ops : Array Oper) (Fin : (Nat -> DV) -> List ABlk -> Prop) (Inv : List ABlk -> Prop) (Z : List Nat) : List (Nat × Oper × Bool) -> (Nat -> DV) -> List ABlk -> Prop
 | [], φ, σ => Fin φ σ
 | (j, o, true) :: l, φ, σ => Z.contains j = false /\ ∃ d, (∀ σ, Inv σ -> YA P G B n ops σ o d φ) /\ ZMix P G B n ops Fin Inv Z l (ZO o.dst d φ) σ
 | (j, o, false) :: l, φ, σ => (∀ s, o.dst = some s -> s < n) /\ ((Wd n ops o φ true /\ OpSem P G B o (aevF G φ) σ (fun d σ' => (Z.contains j = false -> Inv σ') /\ ((l.any fun x => !Z.contains x.1) = true -> Inv σ') /\ ZMix P G B n ops Fin Inv Z l (ZO o.dst d φ) σ')) \/ (Wd n ops o φ false /\ ZMix P G B n ops Fin Inv Z l (ZO o.dst (.sc undef) φ) σ))
theorem anyZ_mix {B : Nat} (hz : lateB md ops Z Pu = true) : ∀ (js : List (Nat × Bool)) (l : List (Nat × Oper × Bool)) (listed : Array Bool) (φ : Nat -> DV) (σ : List ABlk), js.map (fun p => (p.1, ops[p.1]?, p.2)) = l.map (fun p => (p.1, some p.2.1, p.2.2)) -> Closed md ops listed -> mixB md ops js listed = true -> (∀ z, Pu.contains z = true -> listed.getD z true = true) -> ((l.any fun x => !Z.contains x.1) = true -> Inv σ) ->
  ZMix P G B n ops Fin Inv Z l φ σ -> anyZ P G B n md ops Fin Inv Z js.length listed φ σ
 | [], [], listed, φ, σ, _, _, hB, _, _, h => ⟨by simpa [mixB] using hB, h⟩
 | [], _ :: _, _, _, _, he, _, _, _, _, _ => by simp at he
 | _ :: _, [], _, _, _, he, _, _, _, _, _ => by simp at he
 | (j, b) :: js, (j', o, b') :: l, listed, φ, σ, he, hc, hB, hpu, hI, h => by
  have hpu' : ∀ z, Pu.contains z = true -> (listed.setIfInBounds j true).getD z true = true := fun z hz => getD_set_t (hpu z hz)
  simp only [List.map_cons, List.cons.injEq, Prod.mk.injEq] at he
  obtain ⟨⟨rfl, ho, rfl⟩, he⟩ := he
  cases b with
  | true =>
   simp only [mixB, Bool.and_eq_true] at hB
   obtain ⟨⟨h1, h2⟩, h3⟩ := hB
   obtain ⟨hjz, d, hy, hK⟩ := h
   have hI' : Inv σ := hI (by rw [List.any_cons, hjz]; rfl)
   have hr : j ∈ Region.ready md ops listed := by simpa using h1
   exact anyZ_first ho hz hjz js.length listed φ σ hpu hc (Region.free_spec ho h2) hr hy hI' (anyZ_mix hz js l _ _ _ he (hc.step hr) h3 hpu' (fun _ => hI') hK)
  | false =>
   simp only [mixB, Bool.and_eq_true, beq_iff_eq] at hB
   obtain ⟨h1, h3⟩ := hB
   have hr : j ∈ Region.ready md ops listed := by rw [h1]; simp
   refine ⟨fun h0 => (by rw [h1] at h0; cases h0), fun i hi => ?_⟩
   rw [h1, List.mem_singleton] at hi
   subst hi
   refine ⟨o, ho, h.1, ?_⟩
   rcases h.2 with ⟨h4, h5⟩ | ⟨h4, h5⟩
   ·exact .inl ⟨h4, h5.mono fun d σ' hK => ⟨hK.1, anyZ_mix hz js l _ _ _ he (hc.step hr) h3 hpu' hK.2.1 hK.2.2⟩⟩
   ·exact .inr ⟨h4, anyZ_mix hz js l _ _ _ he (hc.step hr) h3 hpu' (fun hl => hI (by rw [List.any_cons, hl, Bool.or_true])) h5⟩
def pureB (md : Region.Mode) (ops : Array Oper) : List Nat -> List (Nat × Bool) -> Array Bool -> Bool
 | [], js, listed => mixB md ops js listed
 | j :: r, js, listed => (Region.ready md ops listed).contains j && Region.free md ops listed j && pureB md ops r js (listed.setIfInBounds j true)
def ZPure (P : Program) (G : Nat -> DV) (B n : Nat) (ops : Array Oper) (Nx : (Nat -> DV) -> Prop) : List (Nat × Oper × Bool) -> (Nat -> DV) -> Prop
 | [], φ => Nx φ
 | (j, o, _) :: l, φ => ∃ d, (∀ σ, YA P G B n ops σ o d φ) /\ ZPure P G B n ops Nx l (ZO o.dst d φ)
theorem anyZ_zpure {B : Nat} (hz : lateB md ops Z Pu = true) {js : List (Nat × Bool)} {l : List (Nat × Oper × Bool)} {σ : List ABlk} (he : js.map (fun p => (p.1, ops[p.1]?, p.2)) = l.map (fun p => (p.1, some p.2.1, p.2.2))) (hI : Inv σ) :
  ∀ (ps : List Nat) (lp : List (Nat × Oper × Bool)) (listed : Array Bool) (φ : Nat -> DV), (ps.map (·, true)).map (fun p => (p.1, ops[p.1]?, p.2)) = lp.map (fun p => (p.1, some p.2.1, p.2.2)) -> (∀ z ∈ ps, Z.contains z = true) -> (∀ z, Pu.contains z = true -> z ∈ ps \/ listed.getD z true = true) -> Closed md ops listed -> pureB md ops ps js listed = true ->
   ZPure P G B n ops (fun φ => ZMix P G B n ops Fin Inv Z l φ σ) lp φ -> anyZ P G B n md ops Fin Inv Z (ps.length + js.length) listed φ σ
 | [], [], listed, φ, _, _, hp, hc, hB, h => by
  rw [show ([] : List Nat).length + js.length = js.length by simp]
  exact anyZ_mix hz js l listed φ σ he hc hB (fun z hz => (hp z hz).resolve_left (by simp)) (fun _ => hI) h
 | [], _ :: _, _, _, he, _, _, _, _, _ => by simp at he
 | _ :: _, [], _, _, he, _, _, _, _, _ => by simp at he
 | j :: ps, (j', o, b') :: lp, listed, φ, he', hZ, hp, hc, hB, h => by
  simp only [List.map_cons, List.cons.injEq, Prod.mk.injEq] at he'
  obtain ⟨⟨rfl, ho, rfl⟩, he'⟩ := he'
  simp only [pureB, Bool.and_eq_true] at hB
  obtain ⟨⟨h1, h2⟩, h3⟩ := hB
  obtain ⟨d, hy, hK⟩ := h
  have hr : j ∈ Region.ready md ops listed := by simpa using h1
  rw [show (j :: ps).length + js.length = (ps.length + js.length) + 1 by simp; omega]
  refine anyZ_pure ho (hZ j (by simp)) _ listed φ σ hc (Region.free_spec ho h2) hr hy (anyZ_zpure hz he hI ps lp _ _ he' (fun z hz => hZ z (by simp [hz])) (fun z hz => ?_) (hc.step hr) h3 hK)
  rcases hp z hz with hp | hp
  ·rcases List.mem_cons.1 hp with rfl | hp
   ·right
    simp only [Array.getD_eq_getD_getElem?, Array.getElem?_setIfInBounds]
    split
    ·split <;> rfl
    ·rename_i hne; exact absurd trivial hne
   ·exact .inl hp
  ·exact .inr (getD_set_t hp)
variable {N : ASt -> Prop} {xs : List (Nat × (ASt -> Prop))} {R : ASt -> Prop} {σ : List ABlk} {t : Fr}
theorem r_drawz {ι : Type} (I : ι -> List ABlk) (Z Pu : List Nat) (js : List (Nat × Bool)) {id : Nat} {l : List Oper} {m0 m : List (Nat × Oper × Bool)} (hp0 : pickI l (Pu.map (·, true)) = some m0) (hp : pickI l js = some m) (hl : Nat.beq (Pu.length + js.length) l.length = true) (hm : P.follows .mixedOrders = true) (hB : pureB .any l.toArray Pu js (Array.replicate l.toArray.size false) = true) (hPu : Pu.all (fun z => Z.contains z) = true)
  (hz : lateB .any l.toArray Z Pu = true) (hI : ∃ p, σ = I p) (h : ZPure P G E.N n l.toArray (fun φ => ZMix P G E.N n l.toArray (fun φ σ => ∃ t', (∀ i, Wp t' i = .any \/ Wp t' i = φ i) /\ N ⟨t', σ⟩) (fun σ => ∃ p, σ = I p) Z m φ σ) m0 (Wp t)) : WE P G E n (.region id l.toArray true) N xs R ⟨t, σ⟩ := fun a w hr => by
 have hr' : RelF G E n (Wp t) σ a { w with drawn := w.drawn + 1 } := by
  obtain ⟨X, e1, e2, e3, e4, e5, e6, e7, e8⟩ := hr
  have hk := Keep.drew X.w
  subst e1
  exact ⟨X.inW X.w.drew, rfl, e2, e3.inW hk, e4.trans (WExt.inW hk), e5.ext (WExt.inW hk), e6, e7, fun i => (e8 i).ext (WExt.inW hk)⟩
 have hany := anyZ_zpure (md := .any) hz (pickI_eq hp) hI Pu m0 (Array.replicate l.toArray.size false) (Wp t) (pickI_eq hp0) (fun z hz => List.all_eq_true.1 hPu z hz) (fun z hz => .inl (List.contains_iff_mem.1 hz)) (fun j o _ hl => by simp [Array.getElem?_replicate] at hl; split at hl <;> simp at hl) hB h
 rw [Nat.eq_of_beq_eq_true hl, show l.length = l.toArray.size from by simp] at hany
 refine wp_mono (wp_region_any hm (anyZ_run _ _ _ _ hany a _ hr')) fun e a' w' ⟨he, φ, σ', ⟨X, e1, e2, e3, e4, e5, e6, e7, e8⟩, t', ht', hN⟩ => ?_
 subst he
 refine ⟨⟨t', σ'⟩, ⟨X, e1, e2, e3, e4, e5, e6, e7, fun i => ?_⟩, hN⟩
 rcases ht' i with h' | h'
 ·rw [h']; exact .any _
 ·rw [h']; exact e8 i
variable {B : Nat} {l : List (Nat × Oper × Bool)} {ι : Type} {I : ι -> List ABlk} {j : Nat}
theorem zp_nil {Nx : (Nat -> DV) -> Prop} (h : Nx (Wp t)) : ZPure P G B n ops Nx [] (Wp t) := h
theorem zp_st {Nx : (Nat -> DV) -> Prop} {i : Tmp} {op : Op} {type : TypeId} {pos : String} {after : Array Edge} {d : DV} {b : Bool} (hd : Nat.blt i n = true) (h : ∀ σ, OpSem P G B ⟨some i, op, type, pos, after, none⟩ (aev G t) σ (fun d' s => d' = d /\ s = σ)) (k : ZPure P G B n ops Nx l (Wp ((i, d) :: t))) :
  ZPure P G B n ops Nx ((j, ⟨some i, op, type, pos, after, none⟩, b) :: l) (Wp t) := by
 refine ⟨d, fun σ' => ⟨fun j hj => (by cases hj; exact Nat.ble_eq.mp hd), .inl ⟨rfl, by rw [Zl]; exact h σ'⟩⟩, ?_⟩
 rw [Z5] at k; exact k
theorem z_nil {I : List ABlk -> Prop} (h : N ⟨t, σ⟩) : ZMix P G B n ops (fun φ σ => ∃ t', (∀ i, Wp t' i = .any \/ Wp t' i = φ i) /\ N ⟨t', σ⟩) I Z [] (Wp t) σ := ⟨t, fun _ => .inr rfl, h⟩
theorem z_st {i : Tmp} {op : Op} {type : TypeId} {pos : String} {after : Array Edge} {d : DV} (hj : Z.contains j = false) (hd : Nat.blt i n = true) (h : ∀ p, OpSem P G B ⟨some i, op, type, pos, after, none⟩ (aev G t) (I p) (fun d' s => d' = d /\ s = I p)) (k : ZMix P G B n ops Fin (fun σ => ∃ p, σ = I p) Z l (Wp ((i, d) :: t)) σ) :
  ZMix P G B n ops Fin (fun σ => ∃ p, σ = I p) Z ((j, ⟨some i, op, type, pos, after, none⟩, true) :: l) (Wp t) σ := by
 refine ⟨hj, d, fun σ' ⟨p, hp⟩ => ⟨fun j hj => (by cases hj; exact Nat.ble_eq.mp hd), .inl ⟨rfl, by rw [Zl, hp]; exact h p⟩⟩, ?_⟩
 rw [Z5] at k; exact k
theorem z_ef {i : Tmp} {op : Op} {type : TypeId} {pos : String} {after : Array Edge} (hj : Z.contains j = false) (hd : Nat.blt i n = true) (h : OpSem P G B ⟨some i, op, type, pos, after, none⟩ (aev G t) σ (fun d σ' => (∃ p, σ' = I p) /\ ZMix P G B n ops Fin (fun σ => ∃ p, σ = I p) Z l (Wp ((i, d) :: t)) σ')) :
  ZMix P G B n ops Fin (fun σ => ∃ p, σ = I p) Z ((j, ⟨some i, op, type, pos, after, none⟩, false) :: l) (Wp t) σ := by
 refine ⟨fun j hj => by cases hj; exact Nat.ble_eq.mp hd, .inl ⟨rfl, ?_⟩⟩
 rw [Zl]
 exact h.mono fun d σ' k => by obtain ⟨k1, k⟩ := k; rw [Z5] at k; exact ⟨fun _ => k1, fun _ => k1, k⟩
theorem z_lf {i : Tmp} {I : List ABlk -> Prop} {op : Op} {type : TypeId} {pos : String} {after : Array Edge} (hj : Z.contains j = true) (hl : (l.any fun x => !Z.contains x.1) = false) (hd : Nat.blt i n = true) (h : OpSem P G B ⟨some i, op, type, pos, after, none⟩ (aev G t) σ (fun d σ' => ZMix P G B n ops Fin I Z l (Wp ((i, d) :: t)) σ')) :
  ZMix P G B n ops Fin I Z ((j, ⟨some i, op, type, pos, after, none⟩, false) :: l) (Wp t) σ := by
 refine ⟨fun j hj => by cases hj; exact Nat.ble_eq.mp hd, .inl ⟨rfl, ?_⟩⟩
 rw [Zl]
 exact h.mono fun d σ' k => by rw [Z5] at k; exact ⟨fun h => (by rw [hj] at h; cases h), fun h => (by rw [hl] at h; cases h), k⟩
theorem z_lf0 {I : List ABlk -> Prop} {op : Op} {type : TypeId} {pos : String} {after : Array Edge} (hj : Z.contains j = true) (hl : (l.any fun x => !Z.contains x.1) = false) (h : OpSem P G B ⟨none, op, type, pos, after, none⟩ (aev G t) σ (fun _ σ' => ZMix P G B n ops Fin I Z l (Wp t) σ')) :
  ZMix P G B n ops Fin I Z ((j, ⟨none, op, type, pos, after, none⟩, false) :: l) (Wp t) σ := by
 refine ⟨fun j hj => (by cases hj), .inl ⟨rfl, ?_⟩⟩
 rw [Zl]
 exact h.mono fun d σ' k => ⟨fun h => (by rw [hj] at h; cases h), fun h => (by rw [hl] at h; cases h), k⟩
end
end Go.Av
end
section
namespace Go.Av
open Go.Bl
section
variable {P : Program} {G : Nat -> DV} {B : Nat} {f : Operand -> DV} {σ : List ABlk} {K : DV -> List ABlk -> Prop} {dst : Option Tmp} {type : TypeId} {pos : String} {after : Array Edge} {gd : Option (Nat × Bool)}
theorem s_call_bs5 {args : Array Operand} {ts : Array TypeId} {fid : FuncId} {ds : List DV} {A : List (Int × Int)} {v : Int} {cl : List (List Int)} {S S' : ZP} {res : DV} {s' : St} {g0 g1 g2 g3 : Nat} {c2 c3 c4 : DV} {x0 x1 : ABlk} {rest : List ABlk} [FnOk P fid]
  (hx : f (.func fid) = .fn (.func fid) [] []) (hds : reL (args.toList.map f) = some (.ptr 4 g0 0 :: ds)) (h : BS P G fid ds A v cl S res s' S')
  (hσ : σ = x0 :: x1 :: .mapb g2 (Wg (Zq A)) :: .mapb g3 (Zo S) :: .row g0 [.sc (.int .i64 v), .ref 5 g1 0 cl.length 1, c2, c3, c4, .mp 2 g2, .mp 3 g3] :: .row g1 (Qq cl) :: rest)
  (h2 : c2.clo = true) (h3 : c3.clo = true) (h4 : c4.clo = true) (hdc : ∀ d ∈ ds, d.clo = true) (hres : res.clo = true)
  (k : ∀ g1', (g1' = g1 \/ B < g1') -> K res (x0 :: x1 :: .mapb g2 (Wg (Zq A)) :: .mapb g3 (Zo S') :: .row g0 [.sc (.int .i64 s'.vars), .ref 5 g1' 0 s'.cl.length 1, c2, c3, c4, .mp 2 g2, .mp 3 g3] :: .row g1' (Qq s'.cl) :: rest)) :
  OpSem P G B ⟨dst, .call ⟨.value (.func fid), args, ts⟩, type, pos, after, gd⟩ f σ K := by
 subst hσ
 have hrow : ∀ {n : Nat} {v : Int} {g1 l : Nat}, RenB (qf [4, 5, 2, 3] n) (.row g0 [.sc (.int .i64 v), .ref 5 g1 0 l 1, c2, c3, c4, .mp 2 g2, .mp 3 g3]) (.row g0 [.sc (.int .i64 v), .ref 1 g1 0 l 1, c2, c3, c4, .mp 2 g2, .mp 3 g3]) := fun {n v g1 l} =>
  .row (.cons (.clo (by simp [DV.clo])) (.cons (.ref rfl) (.cons (.clo h2) (.cons (.clo h3) (.cons (.clo h4) (.cons (.mp rfl) (.cons (.mp rfl) .nil)))))))
 have hbs : ∀ {n : Nat} {v : Int} {cl : List (List Int)} {g1 : Nat} {S : ZP}, RenBs (qf [4, 5, 2, 3] n) [.row g0 [.sc (.int .i64 v), .ref 5 g1 0 cl.length 1, c2, c3, c4, .mp 2 g2, .mp 3 g3], .row g1 (Qq cl), .mapb g2 (Wg (Zq A)), .mapb g3 (Zo S)] [.row g0 [.sc (.int .i64 v), .ref 1 g1 0 cl.length 1, c2, c3, c4, .mp 2 g2, .mp 3 g3], .row g1 (Qq cl), .mapb g2 (Wg (Zq A)), .mapb g3 (Zo S)] := fun {n v cl g1 S} =>
  .cons hrow (.cons (.rowc (Qk cl)) (.cons (.map ZA) (.cons (.map qk) .nil)))
 refine Zh (R := fun B d' τ' => d' = res /\ ∃ g1', (g1' = g1 \/ B < g1') /\ τ' = [.row g0 [.sc (.int .i64 s'.vars), .ref 1 g1' 0 s'.cl.length 1, c2, c3, c4, .mp 2 g2, .mp 3 g3], .row g1' (Qq s'.cl), .mapb g2 (Wg (Zq A)), .mapb g3 (Zo S')]) [4, 5, 2, 3] hx hds (.cons (.s (.ptr rfl)) (renl_clo hdc)) (by decide) rfl hbs (fun B' hB hg => h g0 g1 g2 g3 c2 c3 c4 h2 h3 h4 B' (hg 0 _ _ rfl rfl) (hg 1 _ _ rfl rfl) (hg 2 _ _ rfl rfl) (hg 3 _ _ rfl rfl)) ?_
 rintro B' d' τ' hB ⟨rfl, g1', hg, rfl⟩
 exact ⟨d', _, _, .s (.clo hres), hbs, rfl, k g1' (by omega)⟩
theorem s_call_bm5 {args : Array Operand} {ts : Array TypeId} {fid : FuncId} {ds : List DV} {v : Int} {cl : List (List Int)} {res : DV} {s' : St} {g0 g1 g2 g3 : Nat} {c2 c3 c4 : DV} {m : List (Int × DV)} {sn : List (Value × DV)} {x0 x1 : ABlk} {rest : List ABlk} [FnOk P fid]
  (hx : f (.func fid) = .fn (.func fid) [] []) (hds : reL (args.toList.map f) = some (.ptr 4 g0 0 :: ds)) (h : BM P G fid ds v cl res s')
  (hσ : σ = x0 :: x1 :: .mapb g2 (Wg m) :: .mapb g3 sn :: .row g0 [.sc (.int .i64 v), .ref 5 g1 0 cl.length 1, c2, c3, c4, .mp 2 g2, .mp 3 g3] :: .row g1 (Qq cl) :: rest)
  (h2 : c2.clo = true) (h3 : c3.clo = true) (h4 : c4.clo = true) (hm : ∀ p ∈ Wg m, p.2.clo = true) (hsn : ∀ p ∈ sn, p.2.clo = true) (hdc : ∀ d ∈ ds, d.clo = true) (hres : res.clo = true)
  (k : ∀ g1', (g1' = g1 \/ B < g1') -> K res (x0 :: x1 :: .mapb g2 (Wg m) :: .mapb g3 sn :: .row g0 [.sc (.int .i64 s'.vars), .ref 5 g1' 0 s'.cl.length 1, c2, c3, c4, .mp 2 g2, .mp 3 g3] :: .row g1' (Qq s'.cl) :: rest)) :
  OpSem P G B ⟨dst, .call ⟨.value (.func fid), args, ts⟩, type, pos, after, gd⟩ f σ K := by
 subst hσ
 have hrow : ∀ {n : Nat} {v : Int} {g1 l : Nat}, RenB (qf [4, 5, 2, 3] n) (.row g0 [.sc (.int .i64 v), .ref 5 g1 0 l 1, c2, c3, c4, .mp 2 g2, .mp 3 g3]) (.row g0 [.sc (.int .i64 v), .ref 1 g1 0 l 1, c2, c3, c4, .mp 2 g2, .mp 3 g3]) := fun {n v g1 l} =>
  .row (.cons (.clo (by simp [DV.clo])) (.cons (.ref rfl) (.cons (.clo h2) (.cons (.clo h3) (.cons (.clo h4) (.cons (.mp rfl) (.cons (.mp rfl) .nil)))))))
 have hbs : ∀ {n : Nat} {v : Int} {cl : List (List Int)} {g1 : Nat}, RenBs (qf [4, 5, 2, 3] n) [.row g0 [.sc (.int .i64 v), .ref 5 g1 0 cl.length 1, c2, c3, c4, .mp 2 g2, .mp 3 g3], .row g1 (Qq cl), .mapb g2 (Wg m), .mapb g3 sn] [.row g0 [.sc (.int .i64 v), .ref 1 g1 0 cl.length 1, c2, c3, c4, .mp 2 g2, .mp 3 g3], .row g1 (Qq cl), .mapb g2 (Wg m), .mapb g3 sn] := fun {n v cl g1} =>
  .cons hrow (.cons (.rowc (Qk cl)) (.cons (.map hm) (.cons (.map hsn) .nil)))
 refine Zh (R := fun B d' τ' => d' = res /\ ∃ g1', (g1' = g1 \/ B < g1') /\ τ' = [.row g0 [.sc (.int .i64 s'.vars), .ref 1 g1' 0 s'.cl.length 1, c2, c3, c4, .mp 2 g2, .mp 3 g3], .row g1' (Qq s'.cl), .mapb g2 (Wg m), .mapb g3 sn]) [4, 5, 2, 3] hx hds (.cons (.s (.ptr rfl)) (renl_clo hdc)) (by decide) rfl hbs (fun B' hB hg => h g0 g1 g2 g3 c2 c3 c4 m sn h2 h3 h4 hm hsn B' (hg 0 _ _ rfl rfl) (hg 1 _ _ rfl rfl) (hg 2 _ _ rfl rfl) (hg 3 _ _ rfl rfl)) ?_
 rintro B' d' τ' hB ⟨rfl, g1', hg, rfl⟩
 exact ⟨d', _, _, .s (.clo hres), hbs, rfl, k g1' (by omega)⟩
def FR (P : Program) (G : Nat -> DV) (f : FuncId) (v : Int) (res : DV) (v' : Int) : Prop :=
 ∀ (g0 g1 g2 g3 : Nat) (c2 c3 c4 : DV) (cl : List (List Int)) (m : List (Int × DV)) (sn : List (Value × DV)), c2.clo = true -> c3.clo = true -> c4.clo = true -> (∀ p ∈ Wg m, p.2.clo = true) -> (∀ p ∈ sn, p.2.clo = true) -> ∀ B, g0 <= B -> g1 <= B -> g2 <= B -> g3 <= B ->
  ACalls P G B f [.ptr 0 g0 0] [.row g0 [.sc (.int .i64 v), .ref 1 g1 0 cl.length 1, c2, c3, c4, .mp 2 g2, .mp 3 g3], .row g1 (Qq cl), .mapb g2 (Wg m), .mapb g3 sn]
   (fun d' τ' => d' = res /\ τ' = [.row g0 [.sc (.int .i64 v'), .ref 1 g1 0 cl.length 1, c2, c3, c4, .mp 2 g2, .mp 3 g3], .row g1 (Qq cl), .mapb g2 (Wg m), .mapb g3 sn])
theorem s_call_fr5 {args : Array Operand} {ts : Array TypeId} {fid : FuncId} {v v' : Int} {cl : List (List Int)} {res : DV} {g0 g1 g2 g3 : Nat} {c2 c3 c4 : DV} {m : List (Int × DV)} {sn : List (Value × DV)} {x0 x1 : ABlk} {rest : List ABlk} [FnOk P fid]
  (hx : f (.func fid) = .fn (.func fid) [] []) (hds : reL (args.toList.map f) = some [.ptr 4 g0 0]) (h : FR P G fid v res v')
  (hσ : σ = x0 :: x1 :: .mapb g2 (Wg m) :: .mapb g3 sn :: .row g0 [.sc (.int .i64 v), .ref 5 g1 0 cl.length 1, c2, c3, c4, .mp 2 g2, .mp 3 g3] :: .row g1 (Qq cl) :: rest)
  (h2 : c2.clo = true) (h3 : c3.clo = true) (h4 : c4.clo = true) (hm : ∀ p ∈ Wg m, p.2.clo = true) (hsn : ∀ p ∈ sn, p.2.clo = true) (hres : res.clo = true)
  (k : K res (x0 :: x1 :: .mapb g2 (Wg m) :: .mapb g3 sn :: .row g0 [.sc (.int .i64 v'), .ref 5 g1 0 cl.length 1, c2, c3, c4, .mp 2 g2, .mp 3 g3] :: .row g1 (Qq cl) :: rest)) :
  OpSem P G B ⟨dst, .call ⟨.value (.func fid), args, ts⟩, type, pos, after, gd⟩ f σ K := by
 subst hσ
 have hrow : ∀ {n : Nat} {v : Int} {g1 l : Nat}, RenB (qf [4, 5, 2, 3] n) (.row g0 [.sc (.int .i64 v), .ref 5 g1 0 l 1, c2, c3, c4, .mp 2 g2, .mp 3 g3]) (.row g0 [.sc (.int .i64 v), .ref 1 g1 0 l 1, c2, c3, c4, .mp 2 g2, .mp 3 g3]) := fun {n v g1 l} =>
  .row (.cons (.clo (by simp [DV.clo])) (.cons (.ref rfl) (.cons (.clo h2) (.cons (.clo h3) (.cons (.clo h4) (.cons (.mp rfl) (.cons (.mp rfl) .nil)))))))
 have hbs : ∀ {n : Nat} {v : Int} {cl : List (List Int)} {g1 : Nat}, RenBs (qf [4, 5, 2, 3] n) [.row g0 [.sc (.int .i64 v), .ref 5 g1 0 cl.length 1, c2, c3, c4, .mp 2 g2, .mp 3 g3], .row g1 (Qq cl), .mapb g2 (Wg m), .mapb g3 sn] [.row g0 [.sc (.int .i64 v), .ref 1 g1 0 cl.length 1, c2, c3, c4, .mp 2 g2, .mp 3 g3], .row g1 (Qq cl), .mapb g2 (Wg m), .mapb g3 sn] := fun {n v cl g1} =>
  .cons hrow (.cons (.rowc (Qk cl)) (.cons (.map hm) (.cons (.map hsn) .nil)))
 refine Zh (R := fun B d' τ' => d' = res /\ τ' = [.row g0 [.sc (.int .i64 v'), .ref 1 g1 0 cl.length 1, c2, c3, c4, .mp 2 g2, .mp 3 g3], .row g1 (Qq cl), .mapb g2 (Wg m), .mapb g3 sn]) [4, 5, 2, 3] hx hds (.cons (.s (.ptr rfl)) .nil) (by decide) rfl hbs (fun B' hB hg => h g0 g1 g2 g3 c2 c3 c4 cl m sn h2 h3 h4 hm hsn B' (hg 0 _ _ rfl rfl) (hg 1 _ _ rfl rfl) (hg 2 _ _ rfl rfl) (hg 3 _ _ rfl rfl)) ?_
 rintro B' d' τ' hB ⟨rfl, rfl⟩
 exact ⟨d', _, _, .s (.clo hres), hbs, rfl, k⟩
theorem s_call_ba5 {args : Array Operand} {ts : Array TypeId} {fid : FuncId} {l : List Int} {v : Int} {cl : List (List Int)} {s' : St} {g0 g1 g2 g3 gl ki len es : Nat} {c2 c3 c4 : DV} {m : List (Int × DV)} {sn : List (Value × DV)} {cs : List DV} {x0 x1 : ABlk} {rest rest' : List ABlk} [FnOk P fid]
  (hx : f (.func fid) = .fn (.func fid) [] []) (hds : reL (args.toList.map f) = some [.ptr 4 g0 0, .ref ki gl 0 len es]) (h : BA P G fid l v cl s')
  (hσ : σ = x0 :: x1 :: .mapb g2 (Wg m) :: .mapb g3 sn :: .row g0 [.sc (.int .i64 v), .ref 5 g1 0 cl.length 1, c2, c3, c4, .mp 2 g2, .mp 3 g3] :: .row g1 (Qq cl) :: rest)
  (h2 : c2.clo = true) (h3 : c3.clo = true) (h4 : c4.clo = true) (hm : ∀ p ∈ Wg m, p.2.clo = true) (hsn : ∀ p ∈ sn, p.2.clo = true) (hlen : len = l.length) (hes : es = 1) (hcs : cs = Qq l) (hki : Nat.ble 6 ki = true) (hk : rest[ki - 6]? = some (.row gl cs)) (hr : setA rest (ki - 6) .gone = some rest')
  (k : ∀ g1', (g1' = g1 \/ B < g1') -> K (.tup []) (x0 :: x1 :: .mapb g2 (Wg m) :: .mapb g3 sn :: .row g0 [.sc (.int .i64 s'.vars), .ref 5 g1' 0 s'.cl.length 1, c2, c3, c4, .mp 2 g2, .mp 3 g3] :: .row g1' (Qq s'.cl) :: rest')) :
  OpSem P G B ⟨dst, .call ⟨.value (.func fid), args, ts⟩, type, pos, after, gd⟩ f σ K := by
 subst hσ hlen hes hcs
 obtain ⟨kl, rfl⟩ : ∃ kl, ki = kl + 6 := ⟨ki - 6, by have := Nat.ble_eq.mp hki; omega⟩
 rw [Nat.add_sub_cancel] at hk hr
 have hrow : ∀ {n : Nat} {v : Int} {g1 l : Nat}, RenB (qf [4, 5, 2, 3, kl + 6] n) (.row g0 [.sc (.int .i64 v), .ref 5 g1 0 l 1, c2, c3, c4, .mp 2 g2, .mp 3 g3]) (.row g0 [.sc (.int .i64 v), .ref 1 g1 0 l 1, c2, c3, c4, .mp 2 g2, .mp 3 g3]) := fun {n v g1 l} =>
  .row (.cons (.clo (by simp [DV.clo])) (.cons (.ref rfl) (.cons (.clo h2) (.cons (.clo h3) (.cons (.clo h4) (.cons (.mp rfl) (.cons (.mp rfl) .nil)))))))
 refine Zh (R := fun B d' τ' => d' = .tup [] /\ ∃ g1', (g1' = g1 \/ B < g1') /\ τ' = [.row g0 [.sc (.int .i64 s'.vars), .ref 1 g1' 0 s'.cl.length 1, c2, c3, c4, .mp 2 g2, .mp 3 g3], .row g1' (Qq s'.cl), .mapb g2 (Wg m), .mapb g3 sn, .gone]) [4, 5, 2, 3, kl + 6] hx hds
  (.cons (.s (.ptr rfl)) (.cons (.s (.ref rfl)) .nil)) (by simp [List.nodup_cons]) (cs := [.row g0 [.sc (.int .i64 v), .ref 5 g1 0 cl.length 1, c2, c3, c4, .mp 2 g2, .mp 3 g3], .row g1 (Qq cl), .mapb g2 (Wg m), .mapb g3 sn, .row gl (Qq l)]) (by simp [pickA, hk]) (.cons hrow (.cons (.rowc (Qk cl)) (.cons (.map hm) (.cons (.map hsn) (.cons (.rowc (Qk l)) .nil)))))
  (fun B' hB hg => h g0 g1 g2 g3 gl c2 c3 c4 m sn h2 h3 h4 hm hsn B' (hg 0 _ _ rfl rfl) (hg 1 _ _ rfl rfl) (hg 2 _ _ rfl rfl) (hg 3 _ _ rfl rfl) (hg 4 _ _ rfl rfl)) ?_
 rintro B' d' τ' hB ⟨rfl, g1', hg, rfl⟩
 exact ⟨_, _, _, .s (.clo (by simp [DV.clo])), .cons hrow (.cons (.rowc (Qk _)) (.cons (.map hm) (.cons (.map hsn) (.cons .gone .nil)))), (by simp [setAll, setA, hr]), k g1' (by omega)⟩
theorem s_lookup_i1 {t kt et : TypeId} {agg a1 : Bool} {size s1 : Nat} {m ix : Operand} {k g : Nat} {M : List (Int × Int)} {x v : Int} [ht : TyI P t (.map kt et) agg size] [hkt : TyI P kt (.int .i64) a1 s1] (hm : f m = .mp k g) (hσk : σ[k]? = some (.mapb g (Wg (Zq M)))) (hx : f ix = .sc (.int .i64 x)) (hz : (P.info? et).bind (·.zero) = some (.int .i64 0)) (hget : W7 M x = some v)
  (kk : K (.tup [.i v, .b true]) σ) : OpSem P G B ⟨dst, .lookup t m ix true, type, pos, after, gd⟩ f σ K := qm hm hσk hx hz (by rw [hget]; exact kk)
theorem s_lookup_i0 {t kt et : TypeId} {agg a1 : Bool} {size s1 : Nat} {m ix : Operand} {k g : Nat} {M : List (Int × Int)} {x : Int} [ht : TyI P t (.map kt et) agg size] [hkt : TyI P kt (.int .i64) a1 s1] (hm : f m = .mp k g) (hσk : σ[k]? = some (.mapb g (Wg (Zq M)))) (hx : f ix = .sc (.int .i64 x)) (hz : (P.info? et).bind (·.zero) = some (.int .i64 0)) (hget : W7 M x = none)
  (kk : K (.tup [.i 0, .b false]) σ) : OpSem P G B ⟨dst, .lookup t m ix true, type, pos, after, gd⟩ f σ K := qm hm hσk hx hz (by rw [hget]; exact kk)
end
end Go.Av
namespace Go.Proofs
open Go.Av Go.Bl
structure BV where
 A : List (Int × Int)
 nm : List Int
 ty : List Int
 fi : List Int
 v : Int
def stepV (M : List (Int × Int)) (q : BV) (n : Int) : BV := match W7 M n with
 | none => q
 | some m => ⟨putI q.A n (q.v + 1), q.nm ++ [n], q.ty ++ [m], q.fi ++ [(W7 (putI q.A n (q.v + 1)) n).getD 0], q.v + width m⟩
def WL (M : List (Int × Int)) : Nat -> BV
 | 0 => ⟨[], [], [], [], 1⟩
 | i + 1 => stepV M (WL M i) i
def WN (A : List (Int × Int)) (s0 : St) (ts : List Nd) : St × ZP := ts.foldl (fun q t => (add (QK A t q.1 q.2).2.1 [(QK A t q.1 q.2).1.getD 0 0], (QK A t q.1 q.2).2.2)) (s0, [])
def WT (ts : List Nd) : List (Int × Int) := (Q6 ts []).2
def Qw (ts : List Nd) : BV := WL (WT ts) 64
def Wo (ts : List Nd) : St × ZP := WN (Qw ts).A ⟨(Qw ts).v, [[1]]⟩ ts
/-! The types of the variables of terms fit. -/
theorem types_ok {F : Int -> Int} {t : Nd} {k : Int} (h : Tt t k) : Con F t -> ∀ M, SubF M F -> (Zc t M).1 = true /\ SubF (Zc t M).2 F /\ ∀ n, (W7 (Zc t M).2 n).isSome = true ↔ ((W7 M n).isSome = true \/ ∃ p ∈ QL t, p.1 = n) := by
 have leaf : ∀ (k n m : Int) (M : List (Int × Int)), k ≠ 6 -> Zc (.mk k n m []) M = (true, M) := fun k n m M hk => by
  rw [Zc, if_neg (fun h => hk h.1), if_neg hk, Q6]
 have inner : ∀ (k n m : Int) (ks : List Nd) (M : List (Int × Int)), k ≠ 6 -> Zc (.mk k n m ks) M = Q6 ks M := fun k n m ks M hk => by
  rw [Zc, if_neg (fun h => hk h.1), if_neg hk]
 induction h with
 | num h =>
  intro _ M hM
  rw [leaf _ _ _ _ (by decide)]
  exact ⟨rfl, hM, fun n => ⟨.inl, fun h => h.elim id fun ⟨p, hp, _⟩ => by simp [QL, QP] at hp⟩⟩
 | tru h =>
  intro _ M hM
  rw [leaf _ _ _ _ (by decide)]
  exact ⟨rfl, hM, fun n => ⟨.inl, fun h => h.elim id fun ⟨p, hp, _⟩ => by simp [QL, QP] at hp⟩⟩
 | @var n m h1 h2 =>
  intro hc M hM
  have hF : m = F n := hc (n, m) (by simp [QL])
  rw [Zc, if_neg, if_pos rfl, Q6]
  ·refine ⟨rfl, fun n' m' hg => ?_, fun n' => ?_⟩
   ·have hg : W7 (putI M n m) n' = some m' := hg
    rw [getI_put] at hg
    split at hg
    ·rename_i e; cases hg; rw [e]; exact hF
    ·exact hM n' m' hg
   ·show (W7 (putI M n m) n').isSome = true ↔ _
    rw [getI_put]
    by_cases hn : n' = n
    ·rw [if_pos hn]
     exact ⟨fun _ => .inr ⟨(n, m), by simp [QL], hn.symm⟩, fun _ => rfl⟩
    ·rw [if_neg hn]
     refine ⟨.inl, fun h => h.elim id fun ⟨p, hp, hpn⟩ => ?_⟩
     have : p = (n, m) := by simpa [QL, QP] using hp
     rw [this] at hpn
     exact absurd hpn.symm hn
  ·rintro ⟨_, q1, q2⟩
   obtain ⟨x, hx⟩ := Option.isSome_iff_exists.1 q1
   rw [hx] at q2
   exact q2 ((hM n x hx).trans hF.symm)
 | @bin n a b hn ha hb iha ihb =>
  intro hc M hM
  obtain ⟨a1, a2, a3⟩ := iha (fun p hp => hc p (by simp [QL, QP]; simp [hp])) M hM
  obtain ⟨b1, b2, b3⟩ := ihb (fun p hp => hc p (by simp [QL, QP]; simp [hp])) _ a2
  rw [inner _ _ _ _ _ (by decide), Q6, if_pos a1, Q6, if_pos b1, Q6]
  refine ⟨rfl, b2, fun n => ?_⟩
  rw [b3 n, a3 n]
  simp only [QL, QP, List.mem_append, List.append_nil]
  constructor
  ·rintro ((h | ⟨p, h, e⟩) | ⟨p, h, e⟩)
   ·exact .inl h
   ·exact .inr ⟨p, .inr (.inl h), e⟩
   ·exact .inr ⟨p, .inr (.inr h), e⟩
  ·rintro (h | ⟨p, h | h | h, e⟩)
   ·exact .inl (.inl h)
   ·simp at h
   ·exact .inl (.inr ⟨p, h, e⟩)
   ·exact .inr ⟨p, h, e⟩
 | @log n a b hn ha hb iha ihb =>
  intro hc M hM
  obtain ⟨a1, a2, a3⟩ := iha (fun p hp => hc p (by simp [QL, QP]; simp [hp])) M hM
  obtain ⟨b1, b2, b3⟩ := ihb (fun p hp => hc p (by simp [QL, QP]; simp [hp])) _ a2
  rw [inner _ _ _ _ _ (by decide), Q6, if_pos a1, Q6, if_pos b1, Q6]
  refine ⟨rfl, b2, fun n => ?_⟩
  rw [b3 n, a3 n]
  simp only [QL, QP, List.mem_append, List.append_nil]
  constructor
  ·rintro ((h | ⟨p, h, e⟩) | ⟨p, h, e⟩)
   ·exact .inl h
   ·exact .inr ⟨p, .inr (.inl h), e⟩
   ·exact .inr ⟨p, .inr (.inr h), e⟩
  ·rintro (h | ⟨p, h | h | h, e⟩)
   ·exact .inl (.inl h)
   ·simp at h
   ·exact .inl (.inr ⟨p, h, e⟩)
   ·exact .inr ⟨p, h, e⟩
 | @not a ha iha =>
  intro hc M hM
  obtain ⟨a1, a2, a3⟩ := iha (fun p hp => hc p (by simp [QL, QP]; simp [hp])) M hM
  rw [inner _ _ _ _ _ (by decide), Q6, if_pos a1, Q6]
  refine ⟨rfl, a2, fun n => ?_⟩
  rw [a3 n]
  simp only [QL, QP, List.mem_append, List.append_nil]
  constructor
  ·rintro (h | ⟨p, h, e⟩)
   ·exact .inl h
   ·exact .inr ⟨p, .inr h, e⟩
  ·rintro (h | ⟨p, h | h, e⟩)
   ·exact .inl h
   ·simp at h
   ·exact .inr ⟨p, h, e⟩
 | @cond c a b k hcc ha hb ihc iha ihb =>
  intro hc M hM
  obtain ⟨c1, c2, c3⟩ := ihc (fun p hp => hc p (by simp [QL, QP]; simp [hp])) M hM
  obtain ⟨a1, a2, a3⟩ := iha (fun p hp => hc p (by simp [QL, QP]; simp [hp])) _ c2
  obtain ⟨b1, b2, b3⟩ := ihb (fun p hp => hc p (by simp [QL, QP]; simp [hp])) _ a2
  rw [inner _ _ _ _ _ (by decide), Q6, if_pos c1, Q6, if_pos a1, Q6, if_pos b1, Q6]
  refine ⟨rfl, b2, fun n => ?_⟩
  rw [b3 n, a3 n, c3 n]
  simp only [QL, QP, List.mem_append, List.append_nil]
  constructor
  ·rintro (((h | ⟨p, h, e⟩) | ⟨p, h, e⟩) | ⟨p, h, e⟩)
   ·exact .inl h
   ·exact .inr ⟨p, .inr (.inl h), e⟩
   ·exact .inr ⟨p, .inr (.inr (.inl h)), e⟩
   ·exact .inr ⟨p, .inr (.inr (.inr h)), e⟩
  ·rintro (h | ⟨p, h | h | h | h, e⟩)
   ·exact .inl (.inl (.inl h))
   ·simp at h
   ·exact .inl (.inl (.inr ⟨p, h, e⟩))
   ·exact .inl (.inr ⟨p, h, e⟩)
   ·exact .inr ⟨p, h, e⟩
structure Lot (F : Int -> Int) (ts : List Nd) : Prop where
 ty : ∀ t ∈ ts, Tt t 1
 con : ∀ t ∈ ts, Con F t
 size : QW ts <= 100000
 len : ts.length <= 100000
theorem sizeL_mem {t : Nd} : ∀ {ts : List Nd}, t ∈ ts -> QR t <= QW ts
 | x :: r, h => by
  rw [QW]
  rcases List.mem_cons.1 h with rfl | h
  ·omega
  ·have := sizeL_mem h; omega
theorem found_ok {F : Int -> Int} : ∀ {ts : List Nd} {M : List (Int × Int)}, (∀ t ∈ ts, Tt t 1) -> (∀ t ∈ ts, Con F t) -> SubF M F -> (Q6 ts M).1 = true /\ SubF (Q6 ts M).2 F /\ ∀ n, (W7 (Q6 ts M).2 n).isSome = true ↔ ((W7 M n).isSome = true \/ ∃ p ∈ QP ts, p.1 = n)
 | [], M, _, _, hM => by
  rw [Q6]
  exact ⟨rfl, hM, fun n => ⟨.inl, fun h => h.elim id fun ⟨p, hp, _⟩ => by simp [QP] at hp⟩⟩
 | t :: r, M, h1, h2, hM => by
  obtain ⟨a1, a2, a3⟩ := types_ok (h1 t (by simp)) (h2 t (by simp)) M hM
  obtain ⟨b1, b2, b3⟩ := found_ok (ts := r) (fun t ht => h1 t (by simp [ht])) (fun t ht => h2 t (by simp [ht])) a2
  rw [Q6, if_pos a1]
  refine ⟨b1, b2, fun n => ?_⟩
  rw [b3 n, a3 n]
  simp only [QP, List.mem_append]
  constructor
  ·rintro ((h | ⟨p, h, e⟩) | ⟨p, h, e⟩)
   ·exact .inl h
   ·exact .inr ⟨p, .inl h, e⟩
   ·exact .inr ⟨p, .inr h, e⟩
  ·rintro (h | ⟨p, h | h, e⟩)
   ·exact .inl (.inl h)
   ·exact .inl (.inr ⟨p, h, e⟩)
   ·exact .inr ⟨p, h, e⟩
/-! The variables' first literals. -/
structure VOk (M : List (Int × Int)) (F : Int -> Int) (i : Nat) (q : BV) : Prop where
 v1 : 1 <= q.v
 v2 : q.v <= 1 + 4 * i
 l1 : q.nm.length <= i
 l2 : q.ty.length = q.nm.length
 l3 : q.fi.length = q.nm.length
 at' : ∀ n, (W7 q.A n).isSome = true ↔ (0 <= n /\ n < i /\ (W7 M n).isSome = true)
 fit : ∀ n a, W7 q.A n = some a -> 2 <= a /\ a + (if F n = 1 then 0 else 3) <= q.v
theorem varsT_ok {M : List (Int × Int)} {F : Int -> Int} (hM : SubF M F) : ∀ i : Nat, VOk M F i (WL M i)
 | 0 => ⟨Int.le_refl 1, Int.le_refl 1, Nat.le_refl 0, rfl, rfl, fun n => ⟨fun h => (by cases h), fun h => (by have := h.1; have := h.2.1; omega)⟩, fun n a h => (by cases h)⟩
 | i + 1 => by
  have ih := varsT_ok hM i
  rw [WL]
  generalize WL M i = q at ih ⊢
  unfold stepV
  cases hg : W7 M (i : Int) with
  | none =>
   refine ⟨ih.v1, by have := ih.v2; show q.v <= _; omega, by have := ih.l1; show q.nm.length <= _; omega, ih.l2, ih.l3, fun n => ?_, ih.fit⟩
   rw [ih.at' n]
   constructor
   ·rintro ⟨h1, h2, h3⟩; exact ⟨h1, by omega, h3⟩
   ·rintro ⟨h1, h2, h3⟩
    have : n ≠ i := fun e => by rw [e, hg] at h3; cases h3
    exact ⟨h1, by omega, h3⟩
  | some m =>
   have hF := hM i m hg
   have hw : width m = if F (i : Int) = 1 then 1 else 4 := by unfold width; rw [hF]
   have hw2 : (if F (i : Int) = 1 then (0 : Int) else 3) = width m - 1 := by rw [hw]; split <;> rfl
   have hw3 : 1 <= width m /\ width m <= 4 := by unfold width; split <;> omega
   have h1 := ih.v1
   have h2 := ih.v2
   have h3 := ih.l1
   have h4 := ih.l2
   have h5 := ih.l3
   refine ⟨by show 1 <= q.v + width m; omega, by show q.v + width m <= 1 + 4 * ((i + 1 : Nat) : Int); omega, by show (q.nm ++ [_]).length <= _; simp; omega, by show (q.ty ++ [_]).length = (q.nm ++ [_]).length; simp; omega, by show (q.fi ++ [_]).length = (q.nm ++ [_]).length; simp; omega, fun n => ?_, fun n a ha => ?_⟩
   ·show (W7 (putI q.A (i : Int) (q.v + 1)) n).isSome = true ↔ _
    rw [getI_put]
    by_cases hn : n = i
    ·rw [if_pos hn]
     exact ⟨fun _ => ⟨by omega, by omega, by rw [hn, hg]; rfl⟩, fun _ => rfl⟩
    ·rw [if_neg hn, ih.at' n]
     constructor
     ·rintro ⟨h1, h2, h3⟩; exact ⟨h1, by omega, h3⟩
     ·rintro ⟨h1, h2, h3⟩; exact ⟨h1, by omega, h3⟩
   ·have ha : W7 (putI q.A (i : Int) (q.v + 1)) n = some a := ha
    rw [getI_put] at ha
    show 2 <= a /\ a + _ <= q.v + width m
    by_cases hn : n = i
    ·rw [if_pos hn] at ha
     cases ha
     subst hn
     rw [hw2]; omega
    ·rw [if_neg hn] at ha
     have := ih.fit n a ha
     exact ⟨this.1, by omega⟩
theorem at_ok {F : Int -> Int} {ts : List Nd} (hts : Lot F ts) (h : VOk (WT ts) F 64 (Qw ts)) : ∀ t ∈ ts, AtOk (Qw ts).A (Qw ts).v t := fun t ht p hp => by
 have hv : ∀ {t : Nd} {k : Int}, Tt t k -> ∀ p ∈ QL t, 0 <= p.1 /\ p.1 <= 63 := fun {t k} h => by
  induction h with
  | num _ => intro p hp; simp [QL, QP] at hp
  | tru _ => intro p hp; simp [QL, QP] at hp
  | @var n m h1 h2 =>
    intro p hp; have : p = (n, m) := by simpa [QL, QP] using hp
    rw [this]; exact h1
  | bin _ _ _ h1 h2 => intro p hp; simp [QL, QP] at hp; rcases hp with hp | hp; exact h1 p hp; exact h2 p hp
  | log _ _ _ h1 h2 => intro p hp; simp [QL, QP] at hp; rcases hp with hp | hp; exact h1 p hp; exact h2 p hp
  | not _ h1 => intro p hp; simp [QL, QP] at hp; exact h1 p hp
  | cond _ _ _ h1 h2 h3 => intro p hp; simp [QL, QP] at hp; rcases hp with hp | hp | hp; exact h1 p hp; exact h2 p hp; exact h3 p hp
 have hmem : ∀ {ts : List Nd}, t ∈ ts -> p ∈ QP ts := fun {ts} => by
  induction ts with
  | nil => intro h; cases h
  | cons x r ih =>
   intro h
   rw [QP, List.mem_append]
   rcases List.mem_cons.1 h with rfl | h
   ·exact .inl hp
   ·exact .inr (ih h)
 have hfo := found_ok (F := F) (ts := ts) (M := []) hts.ty hts.con (fun n m h => by cases h)
 have h1 : (W7 (WT ts) p.1).isSome = true := (hfo.2.2 p.1).2 (.inr ⟨p, hmem ht, rfl⟩)
 have hr := hv (hts.ty t ht) p hp
 have h2 := (h.at' p.1).2 ⟨hr.1, by omega, h1⟩
 obtain ⟨a, ha⟩ := Option.isSome_iff_exists.1 h2
 have h3 := h.fit p.1 a ha
 have hF : p.2 = F p.1 := hts.con t ht p hp
 rw [ha, hF]
 exact ⟨by show 1 <= a; omega, h3.2⟩
theorem termsT_succ (A : List (Int × Int)) (s0 : St) {ts : List Nd} {i : Nat} (hi : i < ts.length) : WN A s0 (ts.take (i + 1)) = (add (QK A ts[i] (WN A s0 (ts.take i)).1 (WN A s0 (ts.take i)).2).2.1 [(QK A ts[i] (WN A s0 (ts.take i)).1 (WN A s0 (ts.take i)).2).1.getD 0 0], (QK A ts[i] (WN A s0 (ts.take i)).1 (WN A s0 (ts.take i)).2).2.2) := by
 unfold WN
 rw [List.take_succ_eq_append_getElem hi, List.foldl_append]; rfl
theorem sizeL_take : ∀ (ts : List Nd) (i : Nat) (hi : i < ts.length), QW (ts.take (i + 1)) = QW (ts.take i) + QR ts[i] := fun ts i hi => by
 have app : ∀ a b : List Nd, QW (a ++ b) = QW a + QW b := fun a b => by
  induction a with
  | nil => simp [QW]
  | cons x r ih => rw [List.cons_append, QW, QW, ih]; omega
 rw [List.take_succ_eq_append_getElem hi, app, QW, QW]; omega
theorem ZM (ts : List Nd) (i : Nat) : QW (ts.take i) <= QW ts := by
 have app : ∀ a b : List Nd, QW (a ++ b) = QW a + QW b := fun a b => by
  induction a with
  | nil => simp [QW]
  | cons x r ih => rw [List.cons_append, QW, QW, ih]; omega
 have := app (ts.take i) (ts.drop i)
 rw [List.take_append_drop] at this
 omega
theorem termsT_ok {F : Int -> Int} {ts : List Nd} {A : List (Int × Int)} {s0 : St} (hs : Ok s0) (hts : Lot F ts) (h0 : s0.vars <= 1000) (hA : ∀ t ∈ ts, AtOk A s0.vars t) : ∀ i : Nat,
  Ok (WN A s0 (ts.take i)).1 /\ SOk (WN A s0 (ts.take i)).1 (WN A s0 (ts.take i)).2 /\ (∀ t ∈ ts, AtOk A (WN A s0 (ts.take i)).1.vars t) /\ (s0.vars <= (WN A s0 (ts.take i)).1.vars /\ (WN A s0 (ts.take i)).1.vars <= s0.vars + 100 * QW (ts.take i) /\ (WN A s0 (ts.take i)).1.vars <= 100000000)
 | 0 => ⟨hs, fun p hp => (by cases hp), hA, Int.le_refl s0.vars, (by show s0.vars <= s0.vars + 100 * ((0 : Nat) : Int); omega), (by show s0.vars <= 100000000; omega)⟩
 | i + 1 => by
  obtain ⟨h1, h2, h3, h4, h5, h6⟩ := termsT_ok hs hts h0 hA i
  by_cases hi : i < ts.length
  ·rw [termsT_succ A s0 hi]
   have hti := hts.ty _ (List.getElem_mem hi)
   have hci := hts.con _ (List.getElem_mem hi)
   have hsz := sizeL_take ts i hi
   have hle := ZM ts (i + 1)
   have hts' := hts.size
   rw [hsz]
   generalize WN A s0 (ts.take i) = x at *
   have hb := (Z6 hti hci x.1 x.2 h1 (by omega) h2 (h3 _ (List.getElem_mem hi))).2
   generalize QK A ts[i] x.1 x.2 = y at *
   have k1 := hb.g.lo
   have k2 := hb.g.hi
   refine ⟨add_ok hb.g.ok _, fun p hp => ?_, fun t ht => ?_, ?_⟩
   ·have := hb.seen p hp
    exact ⟨this.1, fun v hv => (this.2 v hv).mono (by rw [WG]; exact Int.le_refl _)⟩
   ·have := h3 t ht
    exact this.mono (by show x.1.vars <= (add _ _).vars; rw [WG]; exact k1)
   ·show s0.vars <= (add _ _).vars /\ (add _ _).vars <= _ /\ (add _ _).vars <= _
    rw [WG]
    omega
  ·have e : ts.take (i + 1) = ts.take i := by rw [List.take_of_length_le (by omega), List.take_of_length_le (by omega)]
   rw [e]; exact ⟨h1, h2, h3, h4, h5, h6⟩
end Go.Proofs
end
section
namespace Go.Av
open Classical Go.ChangeShapes Go.WideShapes Go.ChangeAt Go.RowKit
def Sees (w : World) (L : Lay) : Prop := ∀ b o v, w.cell? ⟨b, o, none⟩ = some v -> L.imm b o = some v
class Rd (P : Program) (t : TypeId) (α : outParam Type) [Enc α] (ok : outParam (α -> Prop)) : Prop where
 rd : ∀ {H : Type} (enc : TypeId × Value -> H) (w : World) (base : Nat) (spare : Nat -> Bool) (held : Bool) (fuel : Nat) (cs : List Value) (x : DataW H × List MemPlace), DataW.trod enc P w base spare held fuel t cs = some x ->
  ∃ y : α, ok y /\ cs.length = Enc.es α /\ ∀ L, Sees w L -> ∀ j d, (Enc.enc y)[j]? = some d -> VRep L d (cs.getD j undef)
 top : ∀ (W : World) (base : Nat) (v : Value), Enc.es α = 1 -> Value.okWide P W .any base t v -> v.cells.toList = [v]
def I64 (n : Int) : Prop := -9223372036854775808 <= n /\ n <= 9223372036854775807
variable {P : Program}
theorem rd_one {t : TypeId} {α : Type} [Enc α] {ok : α -> Prop} [h : Rd P t α ok] (he : Enc.es α = 1) {H : Type} {enc : TypeId × Value -> H} {W : World} {base : Nat} {spare : Nat -> Bool} {held : Bool} {v : Value} {d : DataW H} {p : List MemPlace}
  (hv : Value.okWide P W .any base t v) (ht : DataW.Trod enc P W 0 spare held t v d p) : ∃ y : α, ok y /\ ∀ L, Sees W L -> ∀ e, Enc.enc y = [e] -> VRep L e v := by
 obtain ⟨fuel, hf⟩ := ht
 rw [h.top W base v he hv] at hf
 obtain ⟨y, h1, _, h3⟩ := h.rd enc W 0 spare held fuel _ _ hf
 exact ⟨y, h1, fun L hL e hy => h3 L hL 0 e (by rw [hy]; rfl)⟩
instance rd_int {t : TypeId} {z : Nat} [ht : TyI P t (.int .i64) false z] : Rd P t Int I64 where
 rd enc w base spare held fuel cs x h := by
  obtain ⟨n, rfl, _, hw⟩ := DataW.trod_int ht.u h
  refine ⟨n, ?_, rfl, fun L _ j d hj => ?_⟩
  ·have h1 : IntKind.i64.min = -9223372036854775808 := rfl
   have h2 : IntKind.i64.max = 9223372036854775807 := rfl
   simp only [Lit.wf, Bool.and_eq_true, decide_eq_true_eq, h1, h2] at hw
   exact hw
  ·cases j with
   | zero => cases hj; exact .sc _
   | succ j => simp [Enc.enc] at hj
 top W base v _ hv := by
  cases v <;> first | rfl | (simp [Value.okWide, ht.u, Cell.okWide, Cell.ok] at hv)
theorem spot_of {w : World} {a : Addr} {v : Value} (h : w.cell? a = some v) : a.spot = none := World.cell?_spot h
instance rd_slice {t e : TypeId} {z : Nat} {g : Bool} {de : TypeDesc} {β : Type} [Enc β] {okb : β -> Prop} [ht : TyI P t (.slice e) false z] [he : TyI P e de g (Enc.es β)] [hr : Rd P e β okb] : Rd P t (List β) (fun l => l.length <= 9223372036854775807 /\ ∀ x ∈ l, okb x) where
 rd enc w base spare held fuel cs x h := by
  have hcell : P.cellsOf e = Enc.es β := by
   have := he.s
   cases hi : P.info? e with
   | none => simp [hi] at this
   | some i => simp [hi] at this; simp [Program.cellsOf, hi, this]
  rcases DataW.trod_slice ht.u h with ⟨rfl, _⟩ | ⟨a, len, cap, elems, rest, n, _, rfl, _, _, hlc, hcap, hel, hget, _⟩
  ·refine ⟨[], ⟨by simp, fun x hx => by simp at hx⟩, rfl, fun L _ j d hj => ?_⟩
   cases j with
   | zero => cases hj; exact .sl _ _ _ _ _ (fun _ => undef) (by simp [Qq]) (Nat.le_refl _) (fun d hd => by simp [Qq] at hd) (.inl rfl) (fun j d hj => by simp [Qq] at hj)
   | succ j => simp [Enc.enc] at hj
  ·have each : ∀ i : Fin len, ∃ y : β, ∃ ci : List Value, okb y /\ ci.length = Enc.es β /\ (∀ r, r < Enc.es β -> w.cell? ((a.add (i.1 * Enc.es β)).add r) = ci[r]?) /\ ∀ L, Sees w L -> ∀ j d, (Enc.enc y)[j]? = some d -> VRep L d (ci.getD j undef) := fun i => by
    have h1 := hget i.1 i.2
    rw [List.getElem?_eq_getElem (by omega), hcell] at h1
    obtain ⟨ci, h2, h3⟩ := Option.bind_eq_some_iff.1 h1
    obtain ⟨_, h4, h5⟩ := World.cells?_some h2
    obtain ⟨y, h6, h7, h8⟩ := hr.rd enc w base spare held n ci _ h3
    exact ⟨y, ci, h6, h4, h5, h8⟩
   let y : Fin len -> β := fun i => Classical.choose (each i)
   have hy : ∀ i, ∃ ci : List Value, okb (y i) /\ ci.length = Enc.es β /\ (∀ r, r < Enc.es β -> w.cell? ((a.add (i.1 * Enc.es β)).add r) = ci[r]?) /\ ∀ L, Sees w L -> ∀ j d, (Enc.enc (y i))[j]? = some d -> VRep L d (ci.getD j undef) := fun i => Classical.choose_spec (each i)
   refine ⟨List.ofFn y, ⟨by rw [List.length_ofFn]; exact Nat.le_trans hlc (Nat.le_trans hcap (by decide)), fun x hx => ?_⟩, rfl, fun L hL j d hj => ?_⟩
   ·obtain ⟨i, rfl⟩ := List.mem_ofFn.1 hx
    obtain ⟨ci, h1, _⟩ := hy i
    exact h1
   ·cases j with
    | succ j => simp [Enc.enc] at hj
    | zero =>
     cases hj
     have hp := Enc.pos (α := β)
     have hlen : (Qq (List.ofFn y)).length = len * Enc.es β := by rw [Qz, List.length_ofFn]
     let f : Nat -> Value := fun k => if h : k / Enc.es β < len then (Classical.choose (hy ⟨k / Enc.es β, h⟩)).getD (k % Enc.es β) undef else undef
     show VRep L (Qy (List.ofFn y)) _
     refine .sl _ _ _ _ _ f hlen.symm hlc (encs_one _) ?_ (fun k d hk => ?_)
     ·by_cases h0 : len = 0
      ·left
       exact List.eq_nil_of_length_eq_zero (by rw [hlen, h0, Nat.zero_mul])
      ·right
       obtain ⟨b, o, sp⟩ := a
       obtain ⟨c0, _, hc0, hc1, _⟩ := hy ⟨0, by omega⟩
       have hs := hc1 0 hp
       rw [List.getElem?_eq_getElem (by omega)] at hs
       have hsp : sp = none := by simpa [Addr.add] using spot_of hs
       subst hsp
       refine ⟨b, o, rfl, fun k hk => ?_⟩
       rw [hlen] at hk
       have hkd : k / Enc.es β < len := Nat.div_lt_of_lt_mul (by rw [Nat.mul_comm]; exact hk)
       have hfk : f k = (Classical.choose (hy ⟨k / Enc.es β, hkd⟩)).getD (k % Enc.es β) undef := dif_pos hkd
       obtain ⟨_, h4, h5, _⟩ := Classical.choose_spec (hy ⟨k / Enc.es β, hkd⟩)
       have hm := Nat.mod_lt k hp
       have h6 := h5 (k % Enc.es β) hm
       rw [List.getElem?_eq_getElem (by omega)] at h6
       refine hL b (o + k) (f k) ?_
       rw [hfk, List.getD_eq_getElem?_getD, List.getElem?_eq_getElem (by omega)]
       have hadd : ((⟨b, o, none⟩ : Addr).add (k / Enc.es β * Enc.es β)).add (k % Enc.es β) = ⟨b, o + k, none⟩ := by
        rw [qh, qh, Nat.add_assoc, Nat.mul_comm, Nat.div_add_mod]
       rw [hadd] at h6
       exact h6
     ·have hk' := (List.getElem?_eq_some_iff.1 hk).1
      rw [hlen] at hk'
      have hkd : k / Enc.es β < len := Nat.div_lt_of_lt_mul (by rw [Nat.mul_comm]; exact hk')
      have hfk : f k = (Classical.choose (hy ⟨k / Enc.es β, hkd⟩)).getD (k % Enc.es β) undef := dif_pos hkd
      obtain ⟨_, _, _, h7⟩ := Classical.choose_spec (hy ⟨k / Enc.es β, hkd⟩)
      have hm := Nat.mod_lt k hp
      have := encs_at (List.ofFn y) (k / Enc.es β) (by rw [List.length_ofFn]; exact hkd) (k % Enc.es β) hm
      rw [Nat.mul_comm, Nat.div_add_mod, hk, List.getElem_ofFn] at this
      rw [hfk]
      exact h7 L hL _ d this.symm
 top W base v _ hv := by
  obtain ⟨a0, len, cap, rfl⟩ := okWide_slice ht.u hv
  rfl
inductive Sub : DV -> DV -> Prop
 | refl (d : DV) : Sub d d
 | nil (es : Nat) : Sub (.sc (.slice none 0 0)) (.sl es [])
 | sl (es : Nat) (cs cs' : List DV) : cs.length = cs'.length -> (∀ (j : Nat) (d d' : DV), cs[j]? = some d -> cs'[j]? = some d' -> Sub d d') -> Sub (.sl es cs) (.sl es cs')
theorem Sub.one {d d' : DV} (h : Sub d d') : d.one = true -> d'.one = true := by
 cases h with
 | refl => exact id
 | nil => intro _; rfl
 | sl => intro _; rfl
theorem Sub.rep {L : Lay} {d d' : DV} (h : Sub d d') : ∀ {v : Value}, VRep L d v -> VRep L d' v := by
 induction h with
 | refl => exact id
 | nil es => intro v hv; rw [VRep.sc_eq hv]; exact .sl _ _ _ _ _ (fun _ => undef) (by simp) (Nat.le_refl _) (fun d hd => by simp at hd) (.inl rfl) (fun j d hj => by simp at hj)
 | sl es cs cs' hl hs ih =>
  intro v hv
  obtain ⟨a, len, cap, f, rfl, h1, h2, h3, h4, h5⟩ := hv.sl_inv
  have get : ∀ (j : Nat) (d' : DV), cs'[j]? = some d' -> ∃ d, cs[j]? = some d := fun j d' hj => ⟨cs[j]'(by rw [hl]; exact (List.getElem?_eq_some_iff.1 hj).1), List.getElem?_eq_getElem _⟩
  refine .sl _ _ _ _ _ f (by rw [h1, hl]) h2 (fun d' hd => ?_) ?_ (fun j d' hj => ?_)
  ·obtain ⟨j, hj⟩ := List.mem_iff_getElem?.1 hd
   obtain ⟨d, hd0⟩ := get j d' hj
   exact (hs j d d' hd0 hj).one (h3 d (List.mem_of_getElem? hd0))
  ·rcases h4 with h4 | ⟨b, o, h6, h7⟩
   ·left
    subst h4
    exact List.eq_nil_of_length_eq_zero hl.symm
   ·right
    exact ⟨b, o, h6, fun j hj => h7 j (by rw [hl]; exact hj)⟩
  ·obtain ⟨d, hd0⟩ := get j d' hj
   exact ih j d d' hd0 hj (h5 j d hd0)
theorem Pure.sub {G : Nat -> DV} {f : FuncId} {args args' : List DV} {d : DV} (h : Pure P G f args' d) (hl : args.length = args'.length) (hs : ∀ (j : Nat) (e e' : DV), args[j]? = some e -> args'[j]? = some e' -> Sub e e') : Pure P G f args d := fun B X vs hS hσ hB hG hv =>
 h B X vs hS hσ hB hG ⟨by rw [hv.1, hl], fun j e' hj => by
  have hlt : j < args.length := by rw [hl]; exact (List.getElem?_eq_some_iff.1 hj).1
  exact (hs j _ e' (List.getElem?_eq_getElem hlt) hj).rep (hv.2 j _ (List.getElem?_eq_getElem hlt))⟩
theorem sub_nil : ∀ (j : Nat) (e e' : DV), ([] : List DV)[j]? = some e -> ([] : List DV)[j]? = some e' -> Sub e e' := fun j e e' h => by simp at h
theorem sub_cons {d d' : DV} {r r' : List DV} (h : Sub d d') (k : ∀ (j : Nat) (e e' : DV), r[j]? = some e -> r'[j]? = some e' -> Sub e e') : ∀ (j : Nat) (e e' : DV), (d :: r)[j]? = some e -> (d' :: r')[j]? = some e' -> Sub e e' := fun j e e' h1 h2 => by
 cases j with
 | zero => cases h1; cases h2; exact h
 | succ j => exact k j e e' (by simpa using h1) (by simpa using h2)
end Go.Av
end
section
namespace Go.Av
open Go.Bl
inductive SubA : DV -> DV -> Prop
 | s {d d' : DV} : Sub d d' -> SubA d d'
 | agg (cs cs' : List DV) : cs.length = cs'.length -> (∀ (j : Nat) (d d' : DV), cs[j]? = some d -> cs'[j]? = some d' -> Sub d d') -> SubA (.agg cs) (.agg cs')
theorem SubA.rep {L : Lay} {d d' : DV} (h : SubA d d') {v : Value} (hv : VRep L d v) : VRep L d' v := by
 cases h with
 | s h => exact h.rep hv
 | agg cs cs' hl hs =>
  obtain ⟨vs, rfl, h2, h3, h4⟩ := hv.agg_inv
  have get : ∀ (j : Nat) (d' : DV), cs'[j]? = some d' -> ∃ d, cs[j]? = some d := fun j d' hj => ⟨cs[j]'(by rw [hl]; exact (List.getElem?_eq_some_iff.1 hj).1), List.getElem?_eq_getElem _⟩
  refine .agg _ _ (by rw [h2, hl]) (fun d' hd => ?_) fun j d' hj => ?_
  ·obtain ⟨j, hj⟩ := List.mem_iff_getElem?.1 hd
   obtain ⟨d, hd0⟩ := get j d' hj
   exact (hs j d d' hd0 hj).one (h3 d (List.mem_of_getElem? hd0))
  ·obtain ⟨d, hd0⟩ := get j d' hj
   exact (hs j d d' hd0 hj).rep (h4 j d hd0)
section
variable {P : Program} {G : Nat -> DV}
theorem c_out {E : AX} {R : DV -> List ABlk -> Prop} {d d' : DV} {σ : List ABlk} (h : SubA d d') (k : QV E R d' σ) : QV E R d σ := fun X v h1 h2 h3 hv => k X v h1 h2 h3 (h.rep hv)
theorem sub_nd (a b c : DV) (es : Nat) : SubA (.agg [a, b, c, .nil]) (.agg [a, b, c, .sl es []]) := .agg _ _ rfl (sub_cons (.refl _) (sub_cons (.refl _) (sub_cons (.refl _) (sub_cons (.nil _) sub_nil))))
def MK (P : Program) (G : Nat -> DV) (f : FuncId) (args : List DV) (l : List Int) (a b : Int) (res : DV) (a' b' : Int) : Prop :=
 ∀ g B, g <= B -> ACalls P G B f (.ptr 0 g 0 :: args) [.row g [Qy l, .i a, .i b]] (fun d τ => d = res /\ τ = [.row g [Qy l, .i a', .i b']])
variable {B : Nat} {f : Operand -> DV} {σ : List ABlk} {K : DV -> List ABlk -> Prop} {dst : Option Tmp} {type : TypeId} {pos : String} {after : Array Edge} {gd : Option (Nat × Bool)}
theorem Wb {args : Array Operand} {ts : Array TypeId} {fid : FuncId} {ds : List DV} {l : List Int} {a b a' b' : Int} {res : DV} {g : Nat} {rest : List ABlk} [FnOk P fid] (hx : f (.func fid) = .fn (.func fid) [] []) (hds : reL (args.toList.map f) = some (.ptr 0 g 0 :: ds)) (h : MK P G fid ds l a b res a' b')
  (hσ : σ = .row g [Qy l, .i a, .i b] :: rest) (hdc : ∀ d ∈ ds, d.clo = true) (hres : res.clo = true) (k : K res (.row g [Qy l, .i a', .i b'] :: rest)) : OpSem P G B ⟨dst, .call ⟨.value (.func fid), args, ts⟩, type, pos, after, gd⟩ f σ K := by
 subst hσ
 have hrow : ∀ {n : Nat} {a b : Int}, RenB (qf [0] n) (.row g [Qy l, .i a, .i b]) (.row g [Qy l, .i a, .i b]) := fun {n a b} => .rowc (by intro d hd; simp only [List.mem_cons, List.not_mem_nil, or_false] at hd; rcases hd with rfl | rfl | rfl; exact QQ _; exact QA; exact QA)
 refine Zh (R := fun _ d τ => d = res /\ τ = [.row g [Qy l, .i a', .i b']]) [0] hx hds (.cons (.s (.ptr rfl)) (renl_clo hdc)) (by decide) rfl (.cons hrow .nil) (fun B' hB hg => h g B' (hg 0 _ _ rfl rfl)) ?_
 rintro B' d' τ' hB ⟨rfl, rfl⟩
 exact ⟨d', _, _, .s (.clo hres), .cons hrow .nil, rfl, k⟩
end
end Go.Av
namespace Go.Proofs
open Go.Av Go.Bl
def atM (l : List Int) (i : Nat) (n : Int) : Int := if i < l.length then Ord.around (l.getD i 0) n else 0
theorem atM_bd (l : List Int) (i : Nat) {n : Int} (hn : 0 < n) : 0 <= atM l i n /\ atM l i n < n := by
 unfold atM
 split
 ·exact Ord.around_bound _ hn
 ·omega
def leafM (l : List Int) (kind : Int) (a : Nat) : Nd × Nat :=
 if 0 < atM l a 4 then (.mk 6 (2 * kind + atM l (a + 1) 2) kind [], a + 2) else if kind = 1 then (.mk 5 (atM l (a + 1) 2) 0 [], a + 2) else (.mk 4 (atM l (a + 1) 16 - 8) 0 [], a + 2)
def W1 (l : List Int) : Nat -> Int -> Nat -> Int -> Nd × Nat × Int
 | 0, kind, a, b => ((leafM l kind (a + 1)).1, (leafM l kind (a + 1)).2, b - 1)
 | d + 1, kind, a, b =>
  if b - 1 < 3 \/ atM l a 10 < 2 then ((leafM l kind (a + 1)).1, (leafM l kind (a + 1)).2, b - 1)
  else if atM l a 10 = 2 then
   let x := W1 l d 1 (a + 1) (b - 1)
   let y := W1 l d kind x.2.1 x.2.2
   let z := W1 l d kind y.2.1 y.2.2
   (.mk 29 0 0 [x.1, y.1, z.1], z.2.1, z.2.2)
  else if kind = 1 /\ atM l a 10 = 3 then
   let x := W1 l d 1 (a + 1) (b - 1)
   (.mk 10 0 0 [x.1], x.2.1, x.2.2)
  else if kind = 1 then
   let op := 10 + atM l (a + 2) 4
   let x := W1 l d (if 12 <= op then 1 else 0) (a + 3) (b - 1)
   let y := W1 l d (if 12 <= op then 1 else 0) x.2.1 x.2.2
   (.mk 9 op 0 [x.1, y.1], y.2.1, y.2.2)
  else
   let x := W1 l d 0 (a + 2) (b - 1)
   let y := W1 l d 0 x.2.1 x.2.2
   (.mk 9 (atM l (a + 1) 10) 0 [x.1, y.1], y.2.1, y.2.2)
def F4 (n : Int) : Int := if n < 2 then 0 else if n < 4 then 1 else 2
theorem leaf_ok (l : List Int) {kind : Int} (hk : kind = 0 \/ kind = 1) (a : Nat) : Tt (leafM l kind a).1 kind /\ Con F4 (leafM l kind a).1 /\ QR (leafM l kind a).1 = 1 /\ (leafM l kind a).2 = a + 2 := by
 have h2 := atM_bd l (a + 1) (n := 2) (by decide)
 have h16 := atM_bd l (a + 1) (n := 16) (by decide)
 unfold leafM
 split
 ·refine ⟨.var (by omega) hk, fun p hp => ?_, rfl, rfl⟩
  have : p = (2 * kind + atM l (a + 1) 2, kind) := by simpa [QL, QP] using hp
  rw [this]
  show kind = F4 _
  unfold F4
  split <;> omega
 ·split
  ·rename_i h
   subst h
   exact ⟨.tru (by omega), fun p hp => by simp [QL, QP] at hp, rfl, rfl⟩
  ·have : kind = 0 := by omega
   subst this
   exact ⟨.num (by omega), fun p hp => by simp [QL, QP] at hp, rfl, rfl⟩
theorem make_ok (l : List Int) : ∀ (d : Nat) (kind : Int) (a : Nat) (b : Int), kind = 0 \/ kind = 1 -> Tt (W1 l d kind a b).1 kind /\ Con F4 (W1 l d kind a b).1 /\ (QR (W1 l d kind a b).1 : Int) = b - (W1 l d kind a b).2.2 /\ 2 * QR (W1 l d kind a b).1 + 1 <= 3 ^ (d + 1) /\ (W1 l d kind a b).2.1 + 2 <= a + 2 * 3 ^ (d + 1)
 | 0, kind, a, b, hk => by
  obtain ⟨h1, h2, h3, h4⟩ := leaf_ok l hk (a + 1)
  refine ⟨h1, h2, ?_, ?_, ?_⟩
  ·show (QR (leafM l kind (a + 1)).1 : Int) = b - (b - 1)
   rw [h3]; omega
  ·show 2 * QR (leafM l kind (a + 1)).1 + 1 <= _
   rw [h3]; decide
  ·show (leafM l kind (a + 1)).2 + 2 <= _
   rw [h4]; omega
 | d + 1, kind, a, b, hk => by
  have ih := make_ok l d
  have p1 : 3 ^ (d + 1 + 1) = 3 * 3 ^ (d + 1) := by rw [Nat.pow_succ 3 (d + 1)]; omega
  have p4 : 3 ^ (d + 1) = 3 * 3 ^ d := by rw [Nat.pow_succ 3 d]; omega
  have p5 : 1 <= 3 ^ d := Nat.one_le_pow _ _ (by decide)
  rw [W1]
  split
  ·obtain ⟨h1, h2, h3, h4⟩ := leaf_ok l hk (a + 1)
   refine ⟨h1, h2, ?_, ?_, ?_⟩
   ·show (QR (leafM l kind (a + 1)).1 : Int) = b - (b - 1)
    rw [h3]; omega
   ·show 2 * QR (leafM l kind (a + 1)).1 + 1 <= _
    rw [h3]; omega
   ·show (leafM l kind (a + 1)).2 + 2 <= _
    rw [h4]; omega
  ·split
   ·dsimp only
    obtain ⟨x1, x2, x3, x4, x5⟩ := ih 1 (a + 1) (b - 1) (.inr rfl)
    generalize W1 l d 1 (a + 1) (b - 1) = x at *
    obtain ⟨y1, y2, y3, y4, y5⟩ := ih kind x.2.1 x.2.2 hk
    generalize W1 l d kind x.2.1 x.2.2 = y at *
    obtain ⟨z1, z2, z3, z4, z5⟩ := ih kind y.2.1 y.2.2 hk
    generalize W1 l d kind y.2.1 y.2.2 = z at *
    have hs : QR (.mk 29 0 0 [x.1, y.1, z.1]) = 1 + (QR x.1 + (QR y.1 + (QR z.1 + 0))) := by rw [QR, QW, QW, QW, QW]
    refine ⟨.cond x1 y1 z1, fun p hp => ?_, ?_, ?_, ?_⟩
    ·have hp : p ∈ QL (.mk 29 0 0 [x.1, y.1, z.1]) := hp
     simp only [QL, QP, List.mem_append, List.append_nil] at hp
     rcases hp with hp | hp | hp | hp
     ·simp at hp
     ·exact x2 p hp
     ·exact y2 p hp
     ·exact z2 p hp
    ·show (QR (.mk 29 0 0 [x.1, y.1, z.1]) : Int) = b - z.2.2
     rw [hs]; omega
    ·show 2 * QR (.mk 29 0 0 [x.1, y.1, z.1]) + 1 <= _
     rw [hs]; omega
    ·show z.2.1 + 2 <= _
     omega
   ·split
    ·rename_i hk1
     obtain ⟨rfl, _⟩ := hk1
     obtain ⟨x1, x2, x3, x4, x5⟩ := ih 1 (a + 1) (b - 1) (.inr rfl)
     generalize W1 l d 1 (a + 1) (b - 1) = x at *
     have hs : QR (.mk 10 0 0 [x.1]) = 1 + (QR x.1 + 0) := by rw [QR, QW, QW]
     refine ⟨.not x1, fun p hp => ?_, ?_, ?_, ?_⟩
     ·have hp : p ∈ QL (.mk 10 0 0 [x.1]) := hp
      simp only [QL, QP, List.mem_append, List.append_nil] at hp
      rcases hp with hp | hp
      ·simp at hp
      ·exact x2 p hp
     ·show (QR (.mk 10 0 0 [x.1]) : Int) = b - x.2.2
      rw [hs]; omega
     ·show 2 * QR (.mk 10 0 0 [x.1]) + 1 <= _
      rw [hs]; omega
     ·show x.2.1 + 2 <= _
      omega
    ·split
     ·rename_i hk1
      subst hk1
      have h4 := atM_bd l (a + 2) (n := 4) (by decide)
      dsimp only
      generalize hop : 10 + atM l (a + 2) 4 = op
      have hside : (if 12 <= op then (1 : Int) else 0) = 0 \/ (if 12 <= op then (1 : Int) else 0) = 1 := by split; exact .inr rfl; exact .inl rfl
      obtain ⟨x1, x2, x3, x4, x5⟩ := ih (if 12 <= op then 1 else 0) (a + 3) (b - 1) hside
      generalize W1 l d (if 12 <= op then 1 else 0) (a + 3) (b - 1) = x at *
      obtain ⟨y1, y2, y3, y4, y5⟩ := ih (if 12 <= op then 1 else 0) x.2.1 x.2.2 hside
      generalize W1 l d (if 12 <= op then 1 else 0) x.2.1 x.2.2 = y at *
      have hs : QR (.mk 9 op 0 [x.1, y.1]) = 1 + (QR x.1 + (QR y.1 + 0)) := by rw [QR, QW, QW, QW]
      refine ⟨?_, fun p hp => ?_, ?_, ?_, ?_⟩
      ·by_cases h12 : 12 <= op
       ·rw [if_pos h12] at x1 y1
        exact .log (by omega) x1 y1
       ·rw [if_neg h12] at x1 y1
        have := Tt.bin (n := op) (a := x.1) (b := y.1) (by omega) x1 y1
        rwa [if_pos (show truthM op = true from decide_eq_true (by omega))] at this
      ·simp only [QL, QP, List.mem_append, List.append_nil] at hp
       rcases hp with hp | hp | hp
       ·simp at hp
       ·exact x2 p hp
       ·exact y2 p hp
      ·rw [hs]; omega
      ·rw [hs]; omega
      ·omega
     ·have hk0 : kind = 0 := by omega
      subst hk0
      have h4 := atM_bd l (a + 1) (n := 10) (by decide)
      dsimp only
      obtain ⟨x1, x2, x3, x4, x5⟩ := ih 0 (a + 2) (b - 1) (.inl rfl)
      generalize W1 l d 0 (a + 2) (b - 1) = x at *
      obtain ⟨y1, y2, y3, y4, y5⟩ := ih 0 x.2.1 x.2.2 (.inl rfl)
      generalize W1 l d 0 x.2.1 x.2.2 = y at *
      have hs : QR (.mk 9 (atM l (a + 1) 10) 0 [x.1, y.1]) = 1 + (QR x.1 + (QR y.1 + 0)) := by rw [QR, QW, QW, QW]
      refine ⟨?_, fun p hp => ?_, ?_, ?_, ?_⟩
      ·have := Tt.bin (n := atM l (a + 1) 10) (a := x.1) (b := y.1) (by omega) x1 y1
       rwa [if_neg (show ¬ truthM (atM l (a + 1) 10) = true by unfold truthM; simp; omega)] at this
      ·simp only [QL, QP, List.mem_append, List.append_nil] at hp
       rcases hp with hp | hp | hp
       ·simp at hp
       ·exact x2 p hp
       ·exact y2 p hp
      ·rw [hs]; omega
      ·rw [hs]; omega
      ·omega
def WU (l : List Int) : Nat -> List Nd × Nat
 | 0 => ([], 1)
 | i + 1 => ((WU l i).1 ++ [(W1 l 3 1 (WU l i).2 9).1], (W1 l 3 1 (WU l i).2 9).2.1)
def termsM (l : List Int) : List Nd := (WU l (atM l 0 4).toNat).1
end Go.Proofs
end
section
namespace Go.Fo
def addS (S : List Int) (x : Int) : List Int := if x ∈ S then S else S ++ [x]
def ZG (l : List Int) : List Int := l.foldl addS []
def qd (S : List Int) (x : Int) : Bool := !decide (-x ∈ S)
def stepM (S c : List Int) : Option (List Int × Bool) := match c.filter (qd S) with
 | [] => none
 | x :: r => if (∀ y ∈ r, y = x) /\ x ∉ S then some (S ++ [x], true) else some (S, false)
def ZK : List (List Int) -> List Int -> Bool -> Option (List Int × Bool)
 | [], S, ch => some (S, ch)
 | c :: r, S, ch => match stepM S c with
  | none => none
  | some (S', b) => ZK r S' (ch || b)
def fixM (cls : List (List Int)) : Nat -> List Int -> Option (List Int)
 | 0, _ => none
 | k + 1, S => match ZK cls S false with
  | none => none
  | some (S', false) => some S'
  | some (S', true) => fixM cls k S'
def outM (S : List Int) : Nat -> Option (List Int)
 | 0 => some []
 | n + 1 => match outM S n with
  | none => none
  | some l => if ((n : Int) + 1) ∈ S /\ -((n : Int) + 1) ∈ S then none else if ((n : Int) + 1) ∈ S then some (l ++ [(n : Int) + 1]) else if -((n : Int) + 1) ∈ S then some (l ++ [-((n : Int) + 1)]) else some l
def meas (cls : List (List Int)) (S : List Int) : Nat := (cls.flatten.filter fun x => decide (x ∉ S)).length
def followM (cls : List (List Int)) (l : List Int) : Option (List Int) := match fixM cls (meas cls (ZG l) + 1) (ZG l) with
 | none => none
 | some S => outM S 2000
theorem mem_addS {S : List Int} {x y : Int} : y ∈ addS S x ↔ y ∈ S \/ y = x := by
 unfold addS
 split
 ·rename_i h
  exact ⟨.inl, fun h' => h'.elim id fun e => by subst e; exact h⟩
 ·simp
theorem mem_foldl {l S : List Int} {y : Int} : y ∈ l.foldl addS S ↔ y ∈ S \/ y ∈ l := by
 induction l generalizing S with
 | nil => simp
 | cons x l ih => rw [List.foldl_cons, ih, mem_addS, List.mem_cons]; exact or_assoc
theorem mem_startM {l : List Int} {y : Int} : y ∈ ZG l ↔ y ∈ l := by unfold ZG; rw [mem_foldl]; simp
theorem startM_take {l : List Int} {k : Nat} (h : k < l.length) : ZG (l.take (k + 1)) = addS (ZG (l.take k)) l[k] := by
 unfold ZG
 rw [List.take_succ_eq_append_getElem h, List.foldl_append]; rfl
theorem meas_lt {cls : List (List Int)} {S : List Int} {x : Int} {c : List Int} (hc : c ∈ cls) (hx : x ∈ c) (hn : x ∉ S) : meas cls (S ++ [x]) < meas cls S := by
 unfold meas
 have hm : x ∈ cls.flatten := List.mem_flatten.2 ⟨c, hc, hx⟩
 generalize cls.flatten = l at hm
 have hle : ∀ l : List Int, (l.filter fun y => decide (y ∉ S ++ [x])).length <= (l.filter fun y => decide (y ∉ S)).length := fun l => by
  induction l with
  | nil => simp
  | cons a l ih =>
   simp only [List.filter_cons]
   by_cases h1 : a ∈ S
   ·simp [h1] at ih ⊢; exact ih
   ·by_cases h2 : a = x
    ·subst h2; simp [h1] at ih ⊢; omega
    ·simp [h1, h2] at ih ⊢; exact ih
 induction l with
 | nil => cases hm
 | cons a l ih =>
  simp only [List.filter_cons]
  by_cases h2 : a = x
  ·subst h2
   have := hle l
   simp [hn] at this ⊢; omega
  ·have hm' : x ∈ l := by
    rcases List.mem_cons.1 hm with h | h
    ·exact absurd h.symm h2
    ·exact h
   have := ih hm'
   by_cases h1 : a ∈ S
   ·simp [h1] at this ⊢; exact this
   ·simp [h1, h2] at this ⊢; exact this
theorem outM_none {S : List Int} {n : Nat} (h : outM S n = none) : ∀ {m}, n <= m -> outM S m = none := by
 intro m hm
 induction m with
 | zero =>
   have : n = 0 := by omega
   subst this; exact h
 | succ m ih =>
  rcases Nat.lt_or_ge m n with h' | h'
  ·have : n = m + 1 := by omega
   subst this; exact h
  ·rw [outM, ih h']
theorem stepM_none {S c : List Int} (h : Ord.findI (qd S) c = -1) : stepM S c = none := by
 have := Ord.findI_neg h
 unfold stepM
 rw [List.filter_eq_nil_iff.2 fun x hx => by rw [this x hx]; simp]
theorem stepM_some {S c : List Int} {i : Nat} (hi : i < c.length) (hp : qd S c[i] = true) (hno : ∀ j (h : j < c.length), j < i -> qd S c[j] = false) :
  stepM S c = if (c.any fun y => decide (y ≠ c[i]) && qd S y) = false /\ c[i] ∉ S then some (S ++ [c[i]], true) else some (S, false) := by
 have hc : c = c.take i ++ c[i] :: c.drop (i + 1) := by rw [List.getElem_cons_drop, List.take_append_drop]
 have hf0 : (c.take i).filter (qd S) = [] := List.filter_eq_nil_iff.2 fun x hx => by
  obtain ⟨j, hj, rfl⟩ := List.getElem_of_mem hx
  have hj' : j < i := by rw [List.length_take] at hj; omega
  rw [List.getElem_take, hno j (by omega) hj']; simp
 have hf : c.filter (qd S) = c[i] :: (c.drop (i + 1)).filter (qd S) := by
  conv => lhs; rw [hc]
  rw [List.filter_append, hf0, List.nil_append, List.filter_cons, hp]; rfl
 unfold stepM
 rw [hf]
 have hall : (∀ y ∈ (c.drop (i + 1)).filter (qd S), y = c[i]) ↔ (c.any fun y => decide (y ≠ c[i]) && qd S y) = false := by
  rw [List.any_eq_false]
  constructor
  ·intro h x hx
   intro hb
   simp only [Bool.and_eq_true, decide_eq_true_eq] at hb
   have hx' : x ∈ c.filter (qd S) := List.mem_filter.2 ⟨hx, hb.2⟩
   rw [hf] at hx'
   rcases List.mem_cons.1 hx' with h1 | h1
   ·exact hb.1 h1
   ·exact hb.1 (h x h1)
  ·intro h y hy
   obtain ⟨h1, h2⟩ := List.mem_filter.1 hy
   have := h y (List.mem_of_mem_drop h1)
   simp only [Bool.and_eq_true, decide_eq_true_eq, not_and] at this
   by_cases hy' : y = c[i]
   ·exact hy'
   ·exact absurd h2 (this hy')
 simp only [hall]
theorem stepM_cases {S c S' : List Int} {b : Bool} (h : stepM S c = some (S', b)) : (b = false /\ S' = S) \/ (b = true /\ ∃ x ∈ c, x ∉ S /\ S' = S ++ [x]) := by
 unfold stepM at h
 split at h
 ·cases h
 ·rename_i x r hx
  split at h
  ·rename_i hh
   cases h
   exact .inr ⟨rfl, x, (List.mem_filter.1 (by rw [hx]; simp : x ∈ c.filter (qd S))).1, hh.2, rfl⟩
  ·cases h; exact .inl ⟨rfl, rfl⟩
def tab (S : List Int) : List Bool := (List.range 4001).map fun j => decide (((j : Nat) : Int) - 2000 ∈ S)
theorem tab_len (S : List Int) : (tab S).length = 4001 := by simp [tab]
theorem tab_get (S : List Int) (x : Int) (h1 : -2000 <= x) (h2 : x <= 2000) (h : (2000 + x).toNat < (tab S).length) : (tab S)[(2000 + x).toNat] = decide (x ∈ S) := by
 simp only [tab, List.getElem_map, List.getElem_range]
 have : (((2000 + x).toNat : Nat) : Int) - 2000 = x := by omega
 rw [this]
theorem tab_set (S : List Int) (x : Int) (h1 : -2000 <= x) (h2 : x <= 2000) (S' : List Int) (hS : ∀ y, y ∈ S' ↔ y ∈ S \/ y = x) : (tab S).set (2000 + x).toNat true = tab S' := by
 apply List.ext_getElem
 ·simp [tab]
 ·intro j hj1 hj2
  rw [List.getElem_set]
  have hlt : j < 4001 := by rw [tab_len] at hj2; exact hj2
  split
  ·rename_i hj
   subst hj
   rw [tab_get S' x h1 h2, decide_eq_true ((hS x).2 (.inr rfl))]
  ·rename_i hj
   simp only [tab, List.getElem_map, List.getElem_range]
   apply decide_eq_decide.2
   rw [hS]
   constructor
   ·exact .inl
   ·intro h
    rcases h with h | h
    ·exact h
    ·exfalso; apply hj; omega
theorem tab_nil : tab [] = List.replicate 4001 false := by
 apply List.ext_getElem
 ·rw [tab_len, List.length_replicate]
 ·intro j h1 h2
  rw [List.getElem_replicate]
  simp only [tab, List.getElem_map]
  exact decide_eq_false (by intro h; cases h)
end Go.Fo
namespace Go.Av
open Go.Fo
section
variable {P : Program} {G : Nat -> DV} {B : Nat} {f : Operand -> DV} {σ : List ABlk} {K : DV -> List ABlk -> Prop} {dst : Option Tmp} {type : TypeId} {pos : String} {after : Array Edge} {gd : Option (Nat × Bool)}
theorem encs_drop1 {α : Type} [Enc α] (h1 : Enc.es α = 1) (l : List α) (i : Nat) (h : i < l.length) {d : DV} (hd : Enc.enc l[i] = [d]) : (Qq l).drop i = d :: Qq (l.drop (i + 1)) := by
 have := encs_drop l i
 rw [h1, Nat.mul_one] at this
 rw [this, List.drop_eq_getElem_cons h, WD, hd]; rfl
theorem s_idx_tab_ep {t e : TypeId} {d : TypeDesc} {g1 g2 : Bool} {z1 : Nat} {x y : Operand} {S : List Int} {kd : IntKind} {z : Int} [ht : TyI P t (.array 4001 e) g1 z1] [he : TyI P e d g2 1]
  (hx : f x = .ep (Qq (tab S))) (hy : f y = .sc (.int kd (2000 + z))) (hz : -2000 <= z /\ z <= 2000) (k : K (.ep (.b (decide (z ∈ S)) :: Qq ((tab S).drop ((2000 + z).toNat + 1)))) σ) : OpSem P G B ⟨dst, .indexAddr t x y, type, pos, after, gd⟩ f σ K := by
 refine WW hx hy (by omega) (by omega) ?_
 have hlt : (2000 + z).toNat < (tab S).length := by rw [tab_len]; omega
 rw [Nat.mul_one, encs_drop1 (d := .b (decide (z ∈ S))) rfl _ _ hlt (by rw [tab_get S z hz.1 hz.2 hlt]; rfl)]
 exact k
theorem s_idx_tab_p {t e : TypeId} {d : TypeDesc} {g1 g2 : Bool} {z1 m g : Nat} {x y : Operand} {S : List Int} {kd : IntKind} {z : Int} [ht : TyI P t (.array 4001 e) g1 z1] [he : TyI P e d g2 1]
  (hx : f x = .ptr m g 0) (hm : σ[m]? = some (.row g (Qq (tab S)))) (hy : f y = .sc (.int kd (2000 + z))) (hz : -2000 <= z /\ z <= 2000) (k : K (.ptr m g (2000 + z).toNat) σ) : OpSem P G B ⟨dst, .indexAddr t x y, type, pos, after, gd⟩ f σ K :=
 Zp hx hm hy (by omega) (by omega) (by rw [Nat.zero_add, Nat.mul_one]; exact k)
theorem s_store_tab {t : TypeId} {td : TypeDesc} {agg : Bool} {x y : Operand} {m g : Nat} {S S' : List Int} {z : Int} {σ' : List ABlk} [ht : TyI P t td agg 1] (hx : f x = .ptr m g (2000 + z).toNat) (hm : σ[m]? = some (.row g (Qq (tab S)))) (hy : f y = .b true) (hS : ∀ y, y ∈ S' ↔ y ∈ S \/ y = z) (hz : -2000 <= z /\ z <= 2000)
  (hσ' : setA σ m (.row g (Qq (tab S'))) = some σ') (k : K (.sc undef) σ') : OpSem P G B ⟨dst, .store t x y, type, pos, after, gd⟩ f σ K :=
 Q2 (z := true) hx hm rfl hy rfl (by rw [tab_len]; omega) (by rw [tab_set S z hz.1 hz.2 S' hS]; exact hσ') k
theorem s_alloc_tab {t : TypeId} [hz : TyZ P t (List.replicate 4001 (.bool false))] (k : ∀ g, B < g -> K (.ptr σ.length g 0) (σ ++ [.row g (Qq (tab []))])) : OpSem P G B ⟨dst, .alloc t, type, pos, after, gd⟩ f σ K := by
 have e : (List.replicate 4001 (Value.bool false)).map DV.sc = Qq (tab []) := by
  rw [tab_nil, List.map_replicate]
  have : ∀ n : Nat, List.replicate n (DV.sc (.bool false)) = Qq (List.replicate n false) := fun n => by
   induction n with
   | zero => rfl
   | succ n ih => rw [List.replicate_succ, List.replicate_succ, WD, ih]; rfl
  exact this 4001
 exact QJ (hz := hz) (by rw [e]; exact k)
end
theorem r_loop3 {P : Program} {G : Nat -> DV} {E : AX} {n : Nat} {N : ASt -> Prop} {xs : List (Nat × (ASt -> Prop))} {R : ASt -> Prop} {st : ASt} {c : Code} {α β γ : Type} (I : α -> β -> γ -> ASt) (pre : α -> β -> γ -> Prop) (μ : α -> β -> γ -> Nat) (x0 : α) (y0 : β) (z0 : γ) (h0 : ALe st (I x0 y0 z0)) (hp0 : pre x0 y0 z0)
  (round : ∀ x y z, pre x y z -> WE P G E n c (fun st' => ∃ x' y' z', pre x' y' z' /\ μ x' y' z' < μ x y z /\ ALe st' (I x' y' z')) xs R (I x y z)) : WE P G E n (.loop c) N xs R st :=
 Wi (fun s : α × β × γ => I s.1 s.2.1 s.2.2) (fun s => pre s.1 s.2.1 s.2.2) (fun s => μ s.1 s.2.1 s.2.2) (x0, y0, z0) h0 hp0 fun s hs a w hr => wp_mono (round s.1 s.2.1 s.2.2 hs a w hr) fun e a' w' ⟨st', hr', hq⟩ => ⟨st', hr', by
  cases e with
  | normal => obtain ⟨x', y', z', h1, h2, h3⟩ := hq; exact ⟨(x', y', z'), h1, h2, h3⟩
  | exit id => exact hq
  | ret => exact hq
  | goto l => exact hq
  | panic ch => exact hq
  | outgrown => exact hq⟩
end Go.Av
end
section
namespace Go.Proofs
open Go.Av
variable {G : Nat -> DV}
attribute [local irreducible] OpSem WE WY W0 ACalls ZE QV RV
open Go.Fo
instance : TyZ Tryd.prog 86 (List.replicate 4001 (.bool false)) := ⟨by kernel_rfl, by kernel_rfl⟩
theorem holds_c (S : List Int) (x : Int) (h : -2000 <= x /\ x <= 2000) : Go.Av.Pure Tryd.prog G 48 [.i x, .ep (Qq (tab S))] (.b (decide (x ∈ S))) := fun B => by
 refine Qb Tryd.func48 rfl Tryd.ntmps48 rfl (t := [(0, .i x), (1, .ep (Qq (tab S)))]) rfl fun E hE => ?_
 (repeat' first | refine Qt rfl ?_ | refine Qv rfl ?_ | refine QF rfl ?_ | refine s_idx_tab_ep rfl rfl (by omega) ?_ | refine QS rfl rfl (by omega) ?_ | refine Qe ?_ | refine Qp rfl ?_ | refine Qf ?_ | refine Qa ?_ | refine Qm ?_)
 refine e_1 Tryd.results48 (Qh rfl) (Qr ?_)
 rfl
theorem left_c (S : List Int) (x : Int) (h : -2000 <= x /\ x <= 2000) : Go.Av.Pure Tryd.prog G 49 [.i x, .ep [.fn (.func 48) [] [.ep (Qq (tab S))]]] (.b (qd S x)) := fun B => by
 have hfv := holds_c (G := G) S (-x) (by omega)
 refine Qb Tryd.func49 rfl Tryd.ntmps49 rfl (t := [(0, .i x), (1, .ep [.fn (.func 48) [] [.ep (Qq (tab S))]])]) rfl fun E hE => ?_
 (repeat' first | refine Qt rfl ?_ | refine Qv rfl ?_ | refine QF rfl ?_ | refine WQ rfl (hfv) (by repeat' first | exact QA | exact QQ _ | exact Q8 (Qk _) | exact Qk _ | refine WX ?_ ?_ | refine WV ?_ | refine Wz ?_ | refine QB ?_ | exact QX | refine QN ?_ ?_ | refine Q8 ?_) ?_ | refine s_not_d rfl ?_ | refine Z1 rfl (by omega) ?_ | refine Qe ?_ | refine Qp rfl ?_ | refine Qf ?_ | refine Qa ?_ | refine Qm ?_)
 refine e_1 Tryd.results49 (Qh rfl) (Qr ?_)
 first | rfl | (unfold qd; simp)
theorem other_c (S c : List Int) (i : Nat) (hi : i < c.length) (x : Int) (h : -2000 <= x /\ x <= 2000) : Go.Av.Pure Tryd.prog G 51 [.i x, .ep [Qy c], .ep [.i i], .ep [.fn (.func 49) [] [.ep [.fn (.func 48) [] [.ep (Qq (tab S))]]]]] (.b (decide (x ≠ c[i]) && qd S x)) := fun B => by
 have hfv := left_c (G := G) S x h
 refine Qb Tryd.func51 rfl Tryd.ntmps51 rfl (t := [(0, .i x), (1, .ep [Qy c]), (2, .ep [.i i]), (3, .ep [.fn (.func 49) [] [.ep [.fn (.func 48) [] [.ep (Qq (tab S))]]]])]) rfl fun E hE => ?_
 (repeat' first | refine Qt rfl ?_ | refine Qv rfl ?_ | refine QF rfl ?_ | refine Qo rfl rfl (by first | assumption | omega | (simp; done) | (simp; omega)) ?_ | refine W6 rfl rfl ?_ | refine WQ rfl (hfv) (by repeat' first | exact QA | exact QQ _ | exact Q8 (Qk _) | exact Qk _ | refine WX ?_ ?_ | refine WV ?_ | refine Wz ?_ | refine QB ?_ | exact QX | refine QN ?_ ?_ | refine Q8 ?_) ?_ | refine WR rfl rfl ?_ | refine Wk rfl rfl ?_ | refine Qe ?_ | refine Qp rfl ?_ | refine WC rfl rfl rfl rfl ?_ | refine WO rfl rfl rfl rfl ?_ | refine o_sp_d rfl rfl (fun _ => ?_) (fun _ => ?_) | refine Qf ?_ | refine Qa ?_ | refine Qm ?_)
 ·rename_i hne
  refine e_1 Tryd.results51 (Qh rfl) (Qr ?_)
  rw [decide_eq_true hne, Bool.true_and]
 ·rename_i hne
  refine e_1 Tryd.results51 (Qh rfl) (Qr ?_)
  rw [decide_eq_false hne, Bool.false_and]
theorem holds_t {S : List Int} {x : Int} (h : x ∈ S) (hz : -2000 <= x /\ x <= 2000) : Go.Av.Pure Tryd.prog G 48 [.i x, .ep (Qq (tab S))] (.b true) := by
 have := holds_c (G := G) S x hz
 rwa [decide_eq_true h] at this
theorem holds_f {S : List Int} {x : Int} (h : x ∉ S) (hz : -2000 <= x /\ x <= 2000) : Go.Av.Pure Tryd.prog G 48 [.i x, .ep (Qq (tab S))] (.b false) := by
 have := holds_c (G := G) S x hz
 rwa [decide_eq_false h] at this
def retM : Option (List Int) -> DV
 | none => .tup [.nil, .b false]
 | some o => .tup [Qy o, .b true]
def finV : Option (List Int) -> DV
 | none => .tup [.nil, .b false]
 | some S => retM (outM S 2000)
theorem finM_eq (cls : List (List Int)) (l : List Int) : retM (followM cls l) = finV (fixM cls (meas cls (ZG l) + 1) (ZG l)) := by
 unfold followM
 cases fixM cls (meas cls (ZG l) + 1) (ZG l) <;> rfl
theorem around_c (n most : Int) (hn : Ord.I64 n) (hm : 0 < most) : Go.Av.Pure Tryd.prog G 9 [.i n, .i most] (.i (Ord.around n most)) := fun B => by
 unfold Ord.I64 at hn
 refine Qb Tryd.func9 rfl Tryd.ntmps9 rfl (t := [(0, .i n), (1, .i most)]) rfl fun E hE => ?_
 (repeat' first | refine Qt rfl ?_ | refine Qv rfl ?_ | refine QG rfl rfl ?_ | refine Qe ?_ | refine Qp rfl ?_ | refine Qf ?_ | refine Qa ?_)
 refine QE rfl (fun h => ?_) (fun h => ?_)
 ·(repeat' first | refine Qt rfl ?_ | refine Qv rfl ?_ | refine QS rfl rfl (by omega) ?_ | refine s_rem rfl rfl (by first | omega | exact nn_shr (by omega)) (by omega) ?_ | refine Z1 rfl (by omega) ?_ | refine Qe ?_ | refine Qp rfl ?_ | refine Qf ?_ | refine Qa ?_ | refine Qm ?_)
  refine e_1 Tryd.results9 (Qh rfl) (Qr ?_)
  rw [Ord.around, if_pos h]
 ·(repeat' first | refine Qt rfl ?_ | refine Qv rfl ?_ | refine s_rem rfl rfl (by first | omega | exact nn_shr (by omega)) (by omega) ?_ | refine Qe ?_ | refine Qp rfl ?_ | refine Qf ?_ | refine Qa ?_ | refine Qj ?_ | refine Qm ?_)
  refine e_1 Tryd.results9 (Qh rfl) (Qr ?_)
  rw [Ord.around, if_neg h]
end Go.Proofs
end
section
namespace Go.Proofs
open Go.Av
variable {G : Nat -> DV}
attribute [local irreducible] OpSem WE WY W0 ACalls ZE QV RV
open Go.Bl
theorem at_c (l : List Int) (hl : ∀ x ∈ l, Ord.I64 x) (hll : l.length <= 4611686018427387904) (i : Nat) (n : Int) (hn : 0 < n) : Go.Av.Pure Tryd.prog G 61 [Qy l, .i i, .i n] (.i (atM l i n)) := fun B => by
 refine Qb Tryd.func61 rfl Tryd.ntmps61 rfl (t := [(0, Qy l), (1, .i i), (2, .i n)]) rfl fun E hE => ?_
 by_cases hi : i < l.length
 ·have haro := around_c (G := G) l[i] n (hl _ (List.getElem_mem hi)) hn
  (repeat' first | refine Qt rfl ?_ | refine Qv rfl ?_ | refine QF rfl ?_ | refine Qo rfl rfl (by first | assumption | omega | (simp; done) | (simp; omega)) ?_ | refine QG rfl rfl ?_ | refine Wv rfl rfl ?_ | refine Qn rfl ?_ | refine QZ rfl rfl (haro) ?_ | refine Wk rfl rfl ?_ | refine Qe ?_ | refine Qp rfl ?_ | refine WC rfl rfl rfl rfl ?_ | refine Qf ?_ | refine Qa ?_ | refine Qj ?_ | refine QD rfl (by omega) ?_ | refine Qm ?_)
  refine e_1 Tryd.results61 (Qh rfl) (Qr ?_)
  unfold atM; rw [if_pos hi, Ord.getD_lt hi]
 ·(repeat' first | refine Qt rfl ?_ | refine Qv rfl ?_ | refine QG rfl rfl ?_ | refine Wv rfl rfl ?_ | refine Qn rfl ?_ | refine Wk rfl rfl ?_ | refine Qe ?_ | refine Qp rfl ?_ | refine WC rfl rfl rfl rfl ?_ | refine Qf ?_ | refine Qa ?_ | refine Qx rfl (by omega) ?_ | refine Qm ?_)
  refine e_1 Tryd.results61 (Qh rfl) (Qr ?_)
  unfold atM; rw [if_neg hi]
theorem draw_c (l : List Int) (hl : ∀ x ∈ l, Ord.I64 x) (hll : l.length <= 4611686018427387904) (a : Nat) (ha : a <= 1099511627776) (b n : Int) (hn : 0 < n) : MK Tryd.prog G 28 [.i n] l a b (.i (atM l a n)) (a + 1) b := fun g B hg => by
 have hat0 := at_c (G := G) l hl hll a n hn
 have hat : Go.Av.Pure Tryd.prog G 61 [Qy l, .i ((a : Int) + 1 - 1), .i n] (.i (atM l a n)) := by rw [show (a : Int) + 1 - 1 = a by omega]; exact hat0
 refine Qb Tryd.func28 rfl Tryd.ntmps28 rfl (t := [(0, .ptr 0 g 0), (1, .i n)]) rfl fun E hE => ?_
 (repeat' first | refine Qt rfl ?_ | refine Qv rfl ?_ | refine Qc rfl rfl rfl ?_ | refine QS rfl rfl (by omega) ?_ | refine Wf rfl rfl rfl rfl (by rfl) (by rfl) (by rfl) ?_ | refine Qd rfl rfl ?_ | refine Q3 rfl rfl ?_ | refine Qe ?_ | refine Qp rfl ?_ | refine Q0 ?_ | refine Qf ?_ | refine Qa ?_ | (refine Wa ?_; first | refine Wj (by rfl) (by kernel_rfl) (by kernel_rfl) ?_ | refine QT (by kernel_rfl) (by kernel_rfl) ?_) | refine Qm ?_ | refine x_op rfl (by (repeat' first | refine Qt rfl ?_ | refine Qv rfl ?_ | refine Qc rfl rfl rfl ?_ | refine Zn rfl rfl (by omega) ?_ | refine QZ rfl rfl (hat) ?_ | refine Qd rfl rfl ?_ | refine Q3 rfl rfl ?_ | exact ⟨rfl, rfl⟩)) ?_ | refine x_nil ?_)
 exact e_1 (Tryd.results28) (Qh rfl) (Za ⟨rfl, rfl⟩)
theorem r20Var_c (n k : Int) : Go.Av.Pure Tryd.prog G 32 [.i n, .i k] (.agg (Enc.enc (Nd.mk 6 n k []))) := fun B => by
 refine Qb Tryd.func32 rfl Tryd.ntmps32 rfl (t := [(0, .i n), (1, .i k)]) rfl fun E hE => ?_
 (repeat' first | refine Qt rfl ?_ | refine Ql rfl rfl rfl (by first | assumption | exact Enc.len _ | rfl) (by first | assumption | exact Enc.len _ | rfl) rfl ?_ | refine Zi rfl rfl ?_ | refine QJ (fun _ _ => ?_) | refine Qe ?_ | refine Qp rfl ?_ | refine Q0 ?_ | refine Qf ?_ | refine Qa ?_ | refine Qm ?_)
 exact e_1 (Tryd.results32) (QY (size := 4) rfl rfl rfl rfl) (c_out (sub_nd _ _ _ _) (Qr (congrArg DV.agg (We 6 n k []).symm)))
theorem r20Bin_c (op : Int) (a b : Nd) : Go.Av.Pure Tryd.prog G 47 [.i op, .agg (Enc.enc a), .agg (Enc.enc b)] (.agg (Enc.enc (Nd.mk 9 op 0 [a, b]))) := fun B => by
 obtain ⟨k1, n1, m1, ks1⟩ := a
 obtain ⟨k2, n2, m2, ks2⟩ := b
 rw [We 9 op 0, We k1 n1 m1 ks1, We k2 n2 m2 ks2]
 refine Qb Tryd.func47 rfl Tryd.ntmps47 rfl (t := [(0, .i op), (1, .agg [.i k1, .i n1, .i m1, Qy ks1]), (2, .agg [.i k2, .i n2, .i m2, Qy ks2])]) rfl fun E hE => ?_
 (repeat' first | refine Qt rfl ?_ | refine Qu rfl rfl (by first | assumption | exact Enc.len _ | rfl) ?_ | refine Ql rfl rfl rfl (by first | assumption | exact Enc.len _ | rfl) (by first | assumption | exact Enc.len _ | rfl) rfl ?_ | refine Zi rfl rfl ?_ | refine Wl rfl rfl (by decide) rfl ?_ | refine QJ (fun _ _ => ?_) | refine Q5 rfl rfl (fun _ _ => ?_) | refine Qe ?_ | refine Qp rfl ?_ | refine Q0 ?_ | refine Qf ?_ | refine Qa ?_ | refine Qm ?_)
 exact e_1 (Tryd.results47) (QY (size := 4) rfl rfl rfl rfl) (Qr (by rw [show (Qy [Nd.mk k1 n1 m1 ks1, Nd.mk k2 n2 m2 ks2]) = .sl 4 [.i k1, .i n1, .i m1, Qy ks1, .i k2, .i n2, .i m2, Qy ks2] by show DV.sl 4 (Qq [Nd.mk k1 n1 m1 ks1, Nd.mk k2 n2 m2 ks2]) = _; rw [WD, WD, We, We]; rfl]; rfl))
theorem r20Not_c (a : Nd) : Go.Av.Pure Tryd.prog G 63 [.agg (Enc.enc a)] (.agg (Enc.enc (Nd.mk 10 0 0 [a]))) := fun B => by
 obtain ⟨k1, n1, m1, ks1⟩ := a
 rw [We 10 0 0, We k1 n1 m1 ks1]
 refine Qb Tryd.func63 rfl Tryd.ntmps63 rfl (t := [(0, .agg [.i k1, .i n1, .i m1, Qy ks1])]) rfl fun E hE => ?_
 (repeat' first | refine Qu rfl rfl (by first | assumption | exact Enc.len _ | rfl) ?_ | refine Ql rfl rfl rfl (by first | assumption | exact Enc.len _ | rfl) (by first | assumption | exact Enc.len _ | rfl) rfl ?_ | refine Zi rfl rfl ?_ | refine Wl rfl rfl (by decide) rfl ?_ | refine QJ (fun _ _ => ?_) | refine Q5 rfl rfl (fun _ _ => ?_) | refine Qe ?_ | refine Qp rfl ?_ | refine Q0 ?_ | refine Qf ?_ | refine Qa ?_ | refine Qm ?_)
 exact e_1 (Tryd.results63) (QY (size := 4) rfl rfl rfl rfl) (Qr (by rw [show (Qy [Nd.mk k1 n1 m1 ks1]) = .sl 4 [.i k1, .i n1, .i m1, Qy ks1] by show DV.sl 4 (Qq [Nd.mk k1 n1 m1 ks1]) = _; rw [WD, We]; rfl]; rfl))
theorem r20Cond_c (c a b : Nd) : Go.Av.Pure Tryd.prog G 62 [.agg (Enc.enc c), .agg (Enc.enc a), .agg (Enc.enc b)] (.agg (Enc.enc (Nd.mk 29 0 0 [c, a, b]))) := fun B => by
 obtain ⟨k0, n0, m0, ks0⟩ := c
 obtain ⟨k1, n1, m1, ks1⟩ := a
 obtain ⟨k2, n2, m2, ks2⟩ := b
 rw [We 29 0 0, We k0 n0 m0 ks0, We k1 n1 m1 ks1, We k2 n2 m2 ks2]
 refine Qb Tryd.func62 rfl Tryd.ntmps62 rfl (t := [(0, .agg [.i k0, .i n0, .i m0, Qy ks0]), (1, .agg [.i k1, .i n1, .i m1, Qy ks1]), (2, .agg [.i k2, .i n2, .i m2, Qy ks2])]) rfl fun E hE => ?_
 (repeat' first | refine Qu rfl rfl (by first | assumption | exact Enc.len _ | rfl) ?_ | refine Ql rfl rfl rfl (by first | assumption | exact Enc.len _ | rfl) (by first | assumption | exact Enc.len _ | rfl) rfl ?_ | refine Zi rfl rfl ?_ | refine Wl rfl rfl (by decide) rfl ?_ | refine QJ (fun _ _ => ?_) | refine Q5 rfl rfl (fun _ _ => ?_) | refine Qe ?_ | refine Qp rfl ?_ | refine Q0 ?_ | refine Qf ?_ | refine Qa ?_ | refine Qm ?_)
 exact e_1 (Tryd.results62) (QY (size := 4) rfl rfl rfl rfl) (Qr (by rw [show (Qy [Nd.mk k0 n0 m0 ks0, Nd.mk k1 n1 m1 ks1, Nd.mk k2 n2 m2 ks2]) = .sl 4 [.i k0, .i n0, .i m0, Qy ks0, .i k1, .i n1, .i m1, Qy ks1, .i k2, .i n2, .i m2, Qy ks2] by show DV.sl 4 (Qq [Nd.mk k0 n0 m0 ks0, Nd.mk k1 n1 m1 ks1, Nd.mk k2 n2 m2 ks2]) = _; rw [WD, WD, WD, We, We, We]; rfl]; rfl))
end Go.Proofs
end
