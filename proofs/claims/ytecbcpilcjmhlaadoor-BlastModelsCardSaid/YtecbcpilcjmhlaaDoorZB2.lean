/-
  Part 2 of the proof: B4 B5 B6 B7 D1 D2 D3 B8 D4 P1 P2 Laid N0 B9 M0 M1 B10 B11 B12 E0.
-/
import Derived.Shelf.Strconv.Itoa0
import Derived.Shelf.Strconv.Itoa1
import Derived.Shelf.LaysM
import Derived.Shelf.Strconv.Itoa2
import Derived.Shelf.Strconv.Itoa3
import Derived.Test.YtecbcpilcjmhlaaDoorProg
import Derived.Test.YtecbcpilcjmhlaaDoorZB1
set_option linter.unusedSimpArgs false
set_option linter.unusedVariables false
set_option maxRecDepth 10000
set_option maxHeartbeats 4000000
section
namespace Go.Proofs
open Go.Av
variable {G : Nat -> DV}
attribute [local irreducible] OpSem WE WY W0 ACalls ZE QV RV
open Go.Bl
theorem add_c (s : St) (hs : Ok s) (l : List Int) (hl : l.length <= 1048576) : BA Tryd.prog G 40 l s.vars s.cl (add s l) := fun g0 g1 g2 g3 gl c2 c3 c4 m sn h2 h3 h4 hm hsn B b0 b1 b2 b3 b4 => by
 have hc := hs.c
 refine Qb Tryd.func40 rfl Tryd.ntmps40 rfl (t := [(0, .ptr 0 g0 0), (1, .ref 4 gl 0 l.length 1)]) rfl fun E hE => ?_
 (repeat' first | refine Qt rfl ?_ | refine Z3 rfl rfl (.ref rfl (Qz l).symm (Qk l) (.same .nil)) (containsI_c l 1 (by omega)) rfl ?_ | refine Zd rfl rfl (full_c s hs) rfl (fun _ _ => ?_) | refine WR rfl rfl ?_ | refine Wk rfl rfl ?_ | refine Qe ?_ | refine Qp rfl ?_ | refine WC rfl rfl rfl rfl ?_ | refine WO rfl rfl rfl rfl ?_ | refine o_sp rfl rfl (fun _ => ?_) (fun _ => ?_) | refine Qf ?_ | refine Qa ?_ | refine Qs rfl ?_ | refine Qm ?_)
 ·rename_i gg hg hf
  have e : add s l = s := by unfold add; rw [hf]; rfl
  rw [e]
  exact e_0 (Tryd.results40) (c_gone 4 rfl (Za ⟨rfl, gg, by omega, rfl⟩))
 rename_i gg hg hf
 refine r_cond rfl (fun h1 => ?_) (fun h1 => ?_)
 ·have e : add s l = s := by unfold add; rw [h1, Bool.or_true]; rfl
  rw [e]
  (repeat' first | refine Qm ?_)
  exact e_0 (Tryd.results40) (c_gone 4 rfl (Za ⟨rfl, gg, by omega, rfl⟩))
 ·have e : add s l = ⟨s.vars, s.cl ++ [kept l]⟩ := by unfold add; rw [h1, hf]; rfl
  rw [e]
  have hd := deleteFuncI_c (G := G) l 69 [] [] (fun x => decide (x = -1)) (by omega) (fun x _ => add1_c x) gl
  have hk : (l.filter fun x => !decide (x = -1)) = kept l := rfl
  rw [hk] at hd
  (repeat' first | refine s_call_m rfl rfl (hd) rfl (by repeat' first | exact .nil | refine .cons .ref ?_ | refine .cons (.clo (by repeat' first | exact QA | exact QQ _ | exact Q8 (Qk _) | exact Qk _ | refine WX ?_ ?_ | refine WV ?_ | refine Wz ?_ | refine QB ?_ | exact QX | refine QN ?_ ?_ | refine Q8 ?_)) ?_) (by first | exact .ref | exact .clo (by repeat' first | exact QA | exact QQ _ | exact Q8 (Qk _) | exact Qk _ | refine WX ?_ ?_ | refine WV ?_ | refine Wz ?_ | refine QB ?_ | exact QX | refine QN ?_ ?_ | refine Q8 ?_)) (Qk _) (Qk _) (by rfl) ?_ | refine s_app1 rfl rfl rfl rfl rfl rfl rfl (by first | omega | (simp; omega)) (by first | omega | (simp; omega)) (fun _ => rfl) (fun _ _ => ?_) | refine Wf rfl rfl rfl rfl (by rfl) (by rfl) (by rfl) ?_ | refine s_bslice_pub rfl rfl (by first | rfl | exact (Qz _).symm) rfl ?_ | refine Wl rfl rfl (by decide) rfl ?_ | (refine Wa ?_; first | (refine Wu (fun p => .row g0 [.sc (.int .i64 s.vars), .ref 1 gg 0 s.cl.length 1, c2, c3, c4, .mp 2 g2, .mp 3 g3] :: p) 13 [(0, true), (1, true), (2, true), (3, true), (4, true), (5, true), (6, true), (7, false), (8, false), (9, false), (10, true), (11, true), (12, true), (13, false)] (by rfl) (by rfl) (by kernel_rfl) (by decide +kernel) (by decide +kernel) ⟨_, rfl⟩ ?_) | refine Wj (by rfl) (by kernel_rfl) (by kernel_rfl) ?_ | refine QT (by kernel_rfl) (by kernel_rfl) ?_) | refine Qj ?_ | refine i_nil ?_ | refine i_z0 ?_ | refine i_st rfl rfl (fun _ => (by (repeat' first | refine Qt rfl ?_ | refine Qc rfl rfl rfl ?_ | refine Qd rfl rfl ?_ | refine Q3 rfl rfl ?_ | exact ⟨rfl, rfl⟩))) ?_ | refine i_ef rfl ?_ | refine And.intro (Exists.intro (_) rfl) ?_)
  rename_i gg2 hg2
  exact e_0 (Tryd.results40) (Za ⟨rfl, gg2, by omega, rfl⟩)
theorem and_c (s : St) (hs : Ok s) (hv : s.vars < 1099511627776) (x y : Int) (hx : Lim s x) (hy : Lim s y) : BM Tryd.prog G 98 [.i x, .i y] s.vars s.cl (.i (and s x y).1) (and s x y).2 := fun g0 g1 g2 g3 c2 c3 c4 m sn h2 h3 h4 hm hsn B b0 b1 b2 b3 => by
 have hv0 := hs.v0
 have hv1 := hs.v1
 obtain ⟨hx1, hx2⟩ := hx
 obtain ⟨hy1, hy2⟩ := hy
 have hs1 := fresh_ok hs hv
 have hs2 := add_ok hs1 [-x, -y, s.vars + 1]
 have hs3 := add_ok hs2 [x, -(s.vars + 1)]
 refine Qb Tryd.func98 rfl Tryd.ntmps98 rfl (t := [(0, .ptr 0 g0 0), (1, .i x), (2, .i y)]) rfl fun E hE => ?_
 (repeat' first | refine Qt rfl ?_ | refine Qv rfl ?_ | refine QH rfl rfl ?_ | refine WR rfl rfl ?_ | refine Wk rfl rfl ?_ | refine Qe ?_ | refine Qp rfl ?_ | refine WC rfl rfl rfl rfl ?_ | refine WO rfl rfl rfl rfl ?_ | refine o_sp_d rfl rfl (fun _ => ?_) (fun _ => ?_) | refine Qf ?_ | refine Qa ?_ | refine Qg ?_ | refine Qs rfl ?_ | refine Qm ?_)
 ·rename_i h
  rw [show and s x y = (y, s) from if_pos (.inl h)]
  exact e_1 (Tryd.results98) (Qh rfl) (Za ⟨rfl, g1, .inl rfl, rfl⟩)
 rename_i h1
 refine QE rfl (fun h => ?_) (fun h2' => ?_)
 ·rw [show and s x y = (y, s) from if_pos (.inr h)]
  (repeat' first | refine Qt rfl ?_ | refine Qv rfl ?_ | refine Qe ?_ | refine Qp rfl ?_ | refine Qf ?_ | refine Qa ?_ | refine Qm ?_)
  exact e_1 (Tryd.results98) (Qh rfl) (Za ⟨rfl, g1, .inl rfl, rfl⟩)
 have e1 : and s x y = if y = 1 then (x, s) else if x = -1 \/ y = -1 \/ x = -y then (-1, s) else (s.vars + 1, add (add (add (fresh s) [-x, -y, s.vars + 1]) [x, -(s.vars + 1)]) [y, -(s.vars + 1)]) := if_neg (by omega)
 (repeat' first | refine Qt rfl ?_ | refine Qv rfl ?_ | refine QH rfl rfl ?_ | refine Qe ?_ | refine Qp rfl ?_ | refine Qf ?_ | refine Qa ?_)
 refine QE rfl (fun h => ?_) (fun h3' => ?_)
 ·rw [e1, if_pos h]
  (repeat' first | refine Qt rfl ?_ | refine Qv rfl ?_ | refine Qe ?_ | refine Qp rfl ?_ | refine Qf ?_ | refine Qa ?_ | refine Qm ?_)
  exact e_1 (Tryd.results98) (Qh rfl) (Za ⟨rfl, g1, .inl rfl, rfl⟩)
 rw [if_neg h3'] at e1
 (repeat' first | refine Qt rfl ?_ | refine Qv rfl ?_ | refine QH rfl rfl ?_ | refine WR rfl rfl ?_ | refine Wk rfl rfl ?_ | refine Z1 rfl (by omega) ?_ | refine Qe ?_ | refine Qp rfl ?_ | refine WC rfl rfl rfl rfl ?_ | refine WO rfl rfl rfl rfl ?_ | refine o_sp_d rfl rfl (fun _ => ?_) (fun _ => ?_) | refine Qf ?_ | refine Qa ?_ | refine Qs rfl ?_ | refine Qm ?_)
 ·rename_i h
  rw [e1, if_pos (.inl h)]
  exact e_1 (Tryd.results98) (Qh rfl) (Za ⟨rfl, g1, .inl rfl, rfl⟩)
 ·rename_i h
  rw [e1, if_pos (.inr (.inl h))]
  exact e_1 (Tryd.results98) (Qh rfl) (Za ⟨rfl, g1, .inl rfl, rfl⟩)
 rename_i h4 h5
 refine QE rfl (fun h => ?_) (fun h6 => ?_)
 ·rw [e1, if_pos (.inr (.inr h))]
  (repeat' first | refine Qv rfl ?_ | refine Qe ?_ | refine Qp rfl ?_ | refine Qf ?_ | refine Qa ?_ | refine Qm ?_)
  exact e_1 (Tryd.results98) (Qh rfl) (Za ⟨rfl, g1, .inl rfl, rfl⟩)
 rw [e1, if_neg (by omega)]
 (repeat' first | refine Qt rfl ?_ | refine Qv rfl ?_ | refine Zd rfl rfl (fresh_c s hs) rfl (fun _ _ => ?_) | refine qn rfl rfl (add_c _ hs1 [-x, -y, s.vars + 1] (by simp)) rfl (by assumption) (by assumption) (by assumption) (by assumption) (by assumption) (by rfl) (by rfl) (by rfl) (by rfl) (by rfl) (by rfl) (fun _ _ => ?_) | refine qn rfl rfl (add_c _ hs2 [x, -(s.vars + 1)] (by simp)) rfl (by assumption) (by assumption) (by assumption) (by assumption) (by assumption) (by rfl) (by rfl) (by rfl) (by rfl) (by rfl) (by rfl) (fun _ _ => ?_) | refine qn rfl rfl (add_c _ hs3 [y, -(s.vars + 1)] (by simp)) rfl (by assumption) (by assumption) (by assumption) (by assumption) (by assumption) (by rfl) (by rfl) (by rfl) (by rfl) (by rfl) (by rfl) (fun _ _ => ?_) | refine s_bslice_own rfl rfl (by decide) rfl rfl (fun _ _ => ?_) | refine Z1 rfl (by omega) ?_ | refine Qe ?_ | refine Qp rfl ?_ | refine Qf ?_ | refine Qa ?_ | refine Qj ?_ | refine Qm ?_)
 exact e_1 (Tryd.results98) (Qh rfl) (QC (σ := [_, _, _, _]) (r := [_, _, _]) ⟨rfl, _, by omega, rfl⟩)
theorem or_c (s : St) (hs : Ok s) (hv : s.vars < 1099511627776) (x y : Int) (hx : Lim s x) (hy : Lim s y) : BM Tryd.prog G 97 [.i x, .i y] s.vars s.cl (.i (or s x y).1) (or s x y).2 := fun g0 g1 g2 g3 c2 c3 c4 m sn h2 h3 h4 hm hsn B b0 b1 b2 b3 => by
 have hv0 := hs.v0
 have hv1 := hs.v1
 obtain ⟨hx1, hx2⟩ := hx
 obtain ⟨hy1, hy2⟩ := hy
 have hx' : Lim s (-x) := ⟨by omega, by omega⟩
 have hy' : Lim s (-y) := ⟨by omega, by omega⟩
 obtain ⟨hl1, hl2⟩ := Zz (s := s) hx' hy' hv0
 refine Qb Tryd.func97 rfl Tryd.ntmps97 rfl (t := [(0, .ptr 0 g0 0), (1, .i x), (2, .i y)]) rfl fun E hE => ?_
 (repeat' first | refine Qt rfl ?_ | refine Qv rfl ?_ | refine Zd rfl rfl (and_c s hs hv (-x) (-y) hx' hy') rfl (fun _ _ => ?_) | refine Z1 rfl (by omega) ?_ | refine Qe ?_ | refine Qp rfl ?_ | refine Qf ?_ | refine Qa ?_ | refine Qm ?_)
 exact e_1 (Tryd.results97) (Qh rfl) (Za ⟨rfl, _, by omega, rfl⟩)
theorem xor_c (s : St) (hs : Ok s) (hv : s.vars < 1099511627776) (x y : Int) (hx : Lim s x) (hy : Lim s y) : BM Tryd.prog G 102 [.i x, .i y] s.vars s.cl (.i (xor s x y).1) (xor s x y).2 := fun g0 g1 g2 g3 c2 c3 c4 m sn h2 h3 h4 hm hsn B b0 b1 b2 b3 => by
 have hv0 := hs.v0
 have hv1 := hs.v1
 obtain ⟨hx1, hx2⟩ := hx
 obtain ⟨hy1, hy2⟩ := hy
 have hs1 := fresh_ok hs hv
 have hs2 := add_ok hs1 [-x, -y, -(s.vars + 1)]
 have hs3 := add_ok hs2 [x, y, -(s.vars + 1)]
 have hs4 := add_ok hs3 [-x, y, s.vars + 1]
 refine Qb Tryd.func102 rfl Tryd.ntmps102 rfl (t := [(0, .ptr 0 g0 0), (1, .i x), (2, .i y)]) rfl fun E hE => ?_
 (repeat' first | refine Qt rfl ?_ | refine Qv rfl ?_ | refine QH rfl rfl ?_ | refine Qe ?_ | refine Qp rfl ?_ | refine Qf ?_ | refine Qa ?_ | refine Qg ?_)
 refine QE rfl (fun h => ?_) (fun n1 => ?_)
 ·rw [show xor s x y = (-1, s) from if_pos h]
  (repeat' first | refine Qv rfl ?_ | refine Qe ?_ | refine Qp rfl ?_ | refine Qf ?_ | refine Qa ?_ | refine Qm ?_)
  exact e_1 (Tryd.results102) (Qh rfl) (Za ⟨rfl, g1, .inl rfl, rfl⟩)
 have e1 : xor s x y = _ := if_neg n1
 (repeat' first | refine Qt rfl ?_ | refine Qv rfl ?_ | refine QH rfl rfl ?_ | refine Z1 rfl (by omega) ?_ | refine Qe ?_ | refine Qp rfl ?_ | refine Qf ?_ | refine Qa ?_)
 refine QE rfl (fun h => ?_) (fun n2 => ?_)
 ·rw [e1, if_pos h]
  (repeat' first | refine Qv rfl ?_ | refine Qe ?_ | refine Qp rfl ?_ | refine Qf ?_ | refine Qa ?_ | refine Qm ?_)
  exact e_1 (Tryd.results102) (Qh rfl) (Za ⟨rfl, g1, .inl rfl, rfl⟩)
 rw [if_neg n2] at e1
 (repeat' first | refine Qt rfl ?_ | refine Qv rfl ?_ | refine Z2 rfl rfl (by subst_vars; omega) ?_ | refine QH rfl rfl ?_ | refine WR rfl rfl ?_ | refine Wk rfl rfl ?_ | refine Z1 rfl (by omega) ?_ | refine Qe ?_ | refine Qp rfl ?_ | refine WC rfl rfl rfl rfl ?_ | refine WO rfl rfl rfl rfl ?_ | refine o_sp_d rfl rfl (fun _ => ?_) (fun _ => ?_) | refine Qf ?_ | refine Qa ?_ | refine Qs rfl ?_ | refine Qm ?_)
 ·rename_i h
  rw [e1, if_pos (.inl h)]
  exact e_1 (Tryd.results102) (Qh rfl) (Za ⟨rfl, g1, .inl rfl, rfl⟩)
 rename_i n3
 refine QE rfl (fun h => ?_) (fun n4 => ?_)
 ·rw [e1, if_pos (.inr h)]
  (repeat' first | refine Qt rfl ?_ | refine Qv rfl ?_ | refine Z2 rfl rfl (by subst_vars; omega) ?_ | refine Z1 rfl (by omega) ?_ | refine Qe ?_ | refine Qp rfl ?_ | refine Qf ?_ | refine Qa ?_ | refine Qm ?_)
  exact e_1 (Tryd.results102) (Qh rfl) (Za ⟨rfl, g1, .inl rfl, rfl⟩)
 rw [if_neg (by omega)] at e1
 (repeat' first | refine Qt rfl ?_ | refine Qv rfl ?_ | refine Z2 rfl rfl (by subst_vars; omega) ?_ | refine QH rfl rfl ?_ | refine WR rfl rfl ?_ | refine Wk rfl rfl ?_ | refine Z1 rfl (by omega) ?_ | refine Qe ?_ | refine Qp rfl ?_ | refine WC rfl rfl rfl rfl ?_ | refine WO rfl rfl rfl rfl ?_ | refine o_sp_d rfl rfl (fun _ => ?_) (fun _ => ?_) | refine Qf ?_ | refine Qa ?_ | refine Qs rfl ?_ | refine Qm ?_)
 ·rename_i h
  rw [e1, if_pos (.inl h)]
  exact e_1 (Tryd.results102) (Qh rfl) (Za ⟨rfl, g1, .inl rfl, rfl⟩)
 rename_i n5
 refine QE rfl (fun h => ?_) (fun n6 => ?_)
 ·rw [e1, if_pos (.inr h)]
  (repeat' first | refine Qt rfl ?_ | refine Qv rfl ?_ | refine Z2 rfl rfl (by subst_vars; omega) ?_ | refine Z1 rfl (by omega) ?_ | refine Qe ?_ | refine Qp rfl ?_ | refine Qf ?_ | refine Qa ?_ | refine Qm ?_)
  exact e_1 (Tryd.results102) (Qh rfl) (Za ⟨rfl, g1, .inl rfl, rfl⟩)
 rw [if_neg (by omega)] at e1
 rw [e1]
 (repeat' first | refine Qt rfl ?_ | refine Qv rfl ?_ | refine Zd rfl rfl (fresh_c s hs) rfl (fun _ _ => ?_) | refine qn rfl rfl (add_c _ hs1 [-x, -y, -(s.vars + 1)] (by simp)) rfl (by assumption) (by assumption) (by assumption) (by assumption) (by assumption) (by rfl) (by rfl) (by rfl) (by rfl) (by rfl) (by rfl) (fun _ _ => ?_) | refine qn rfl rfl (add_c _ hs2 [x, y, -(s.vars + 1)] (by simp)) rfl (by assumption) (by assumption) (by assumption) (by assumption) (by assumption) (by rfl) (by rfl) (by rfl) (by rfl) (by rfl) (by rfl) (fun _ _ => ?_) | refine qn rfl rfl (add_c _ hs3 [-x, y, s.vars + 1] (by simp)) rfl (by assumption) (by assumption) (by assumption) (by assumption) (by assumption) (by rfl) (by rfl) (by rfl) (by rfl) (by rfl) (by rfl) (fun _ _ => ?_) | refine qn rfl rfl (add_c _ hs4 [x, -y, s.vars + 1] (by simp)) rfl (by assumption) (by assumption) (by assumption) (by assumption) (by assumption) (by rfl) (by rfl) (by rfl) (by rfl) (by rfl) (by rfl) (fun _ _ => ?_) | refine s_bslice_own rfl rfl (by decide) rfl rfl (fun _ _ => ?_) | refine Z1 rfl (by omega) ?_ | refine Qe ?_ | refine Qp rfl ?_ | refine Qf ?_ | refine Qa ?_ | refine Qj ?_ | refine Qm ?_)
 exact e_1 (Tryd.results102) (Qh rfl) (QC (σ := [_, _, _, _]) (r := [_, _, _, _]) ⟨rfl, _, by omega, rfl⟩)
theorem less_c (s : St) (hs : Ok s) (hv : s.vars + 100 < 1099511627776) (x y : List Int) (hxl : x.length = 4) (hyl : y.length = 4) (hx : ∀ v ∈ x, Lim s v) (hy : ∀ v ∈ y, Lim s v) : BM Tryd.prog G 104 [.agg (Qq x), .agg (Qq y)] s.vars s.cl (.i (less s x y).1) (less s x y).2 := fun g0 g1 g2 g3 c2 c3 c4 m sn h2 h3 h4 hm hsn B b0 b1 b2 b3 => by
 have hv0 := hs.v0
 have hv1 := hs.v1
 refine Qb Tryd.func104 rfl Tryd.ntmps104 rfl (t := [(0, .ptr 0 g0 0), (1, .agg (Qq x)), (2, .agg (Qq y))]) rfl fun E hE => ?_
 have e3x : x.getD 3 0 = x[3] := Ord.getD_lt (by omega) 0
 have e3y : y.getD 3 0 = y[3] := Ord.getD_lt (by omega) 0
 have hX : ∀ v ∈ ZZ x y, Lim s v := fun v h => by
  rcases List.mem_or_eq_of_mem_set h with h | rfl
  ·exact hx v h
  ·exact Wq hy hv0 3
 have hY : ∀ v ∈ ZZ y x, Lim s v := fun v h => by
  rcases List.mem_or_eq_of_mem_set h with h | rfl
  ·exact hy v h
  ·exact Wq hx hv0 3
 have hXl : (ZZ x y).length = 4 := by unfold ZZ; rw [List.length_set, hxl]
 have hYl : (ZZ y x).length = 4 := by unfold ZZ; rw [List.length_set, hyl]
 have eX : x.set 3 y[3] = ZZ x y := by unfold ZZ; rw [e3y]
 have eY : y.set 3 x[3] = ZZ y x := by unfold ZZ; rw [e3x]
 have hlt := fun i hi => lessTo_gate hs hv hX hY i hi
 (repeat' first | refine Qt rfl ?_ | refine Qv rfl ?_ | refine Q9 rfl rfl rfl (by first | assumption | omega) rfl ?_ | refine Zp rfl rfl rfl (by omega) (by omega) ?_ | refine Q2 rfl rfl rfl rfl rfl (by first | assumption | omega) rfl ?_ | refine Q5 rfl rfl (fun _ _ => ?_) | refine Qe ?_ | refine Qp rfl ?_ | refine Q0 ?_ | refine Qf ?_ | refine Qa ?_ | refine Qg ?_)
 rename_i gx hgx gy hgy
 have er : less s x y = Zj s (ZZ x y) (ZZ y x) 4 := rfl
 rw [er]
 refine qb (fun (i gc : Nat) => ⟨[(0, .ptr 0 g0 0), (4, .ptr 4 gx 0), (5, .ptr 5 gy 0), (7, .i (Zj s (ZZ x y) (ZZ y x) i).1), (15, .i i)], [.row g0 [.sc (.int .i64 (Zj s (ZZ x y) (ZZ y x) i).2.vars), .ref 1 gc 0 (Zj s (ZZ x y) (ZZ y x) i).2.cl.length 1, c2, c3, c4, .mp 2 g2, .mp 3 g3], .row gc (Qq (Zj s (ZZ x y) (ZZ y x) i).2.cl), .mapb g2 (Wg m), .mapb g3 sn, .row gx (Qq (ZZ x y)), .row gy (Qq (ZZ y x))]⟩) (fun i gc => i <= 4 /\ (gc = g1 \/ E.N < gc)) (fun i _ => 4 - i) 0 g1 ?_ ⟨by omega, .inl rfl⟩ ?_
 ·rw [<- eX, <- eY]
  exact zal rfl
 clear eX eY
 generalize ZZ x y = X at *
 generalize ZZ y x = Y at *
 intro i gc ⟨hi, hgc⟩
 obtain ⟨hg, hl⟩ := hlt i (by omega)
 have hsucc : Zj s X Y (i + 1) = lessAt (Zj s X Y i).2 (X.getD i 0) (Y.getD i 0) (Zj s X Y i).1 := rfl
 (repeat' first | refine QG rfl rfl ?_ | refine Qe ?_ | refine Qp rfl ?_ | refine Qf ?_ | refine Qa ?_)
 refine QE rfl (fun h => ?_) (fun h => ?_)
 ·have hiX : i < X.length := by omega
  have hiY : i < Y.length := by omega
  rw [Ord.getD_lt hiX 0, Ord.getD_lt hiY 0] at hsucc
  have ho := hg.ok
  have hh := hg.hi
  have hov : (Zj s X Y i).2.vars < 1099511627776 := by omega
  have ha : Lim (Zj s X Y i).2 X[i] := (hX _ (List.getElem_mem hiX)).mono hg.lo
  have hb : Lim (Zj s X Y i).2 Y[i] := (hY _ (List.getElem_mem hiY)).mono hg.lo
  clear hlt er
  generalize Zj s X Y i = o at *
  have q1 := Zf ho hov (-X[i]) Y[i]
  have l1 := Zz (s := o.2) ha.neg hb ho.v0
  have k1 := q1.hi
  have hov1 : (and o.2 (-X[i]) Y[i]).2.vars < 1099511627776 := by omega
  have q2 := xor_gate q1.ok hov1 X[i] Y[i]
  have l2 := (xor_lim (s := (and o.2 (-X[i]) Y[i]).2) (ha.mono q1.lo) (hb.mono q1.lo) q1.ok.v0).neg.mono q2.lo
  have l2' := hl.mono (Int.le_trans q1.lo q2.lo)
  have k2 := q2.hi
  have hov2 : (xor (and o.2 (-X[i]) Y[i]).2 X[i] Y[i]).2.vars < 1099511627776 := by omega
  have q3 := Zf q2.ok hov2 (-(xor (and o.2 (-X[i]) Y[i]).2 X[i] Y[i]).1) o.1
  have k3 := q3.hi
  have hov3 : (and (xor (and o.2 (-X[i]) Y[i]).2 X[i] Y[i]).2 (-(xor (and o.2 (-X[i]) Y[i]).2 X[i] Y[i]).1) o.1).2.vars < 1099511627776 := by omega
  have l4 := (l1.mono (q1.lo)).mono (Int.le_trans q2.lo q3.lo)
  have l4' := (Zz l2 l2' q2.ok.v0).mono q3.lo
  have ha1 := ha.1
  have ha2 := ha.2
  have hb1 := l2.1
  have hb2 := l2.2
  (repeat' first | refine Qt rfl ?_ | refine Qv rfl ?_ | refine QS rfl rfl (by omega) ?_ | refine Zd rfl rfl (and_c _ ho hov _ _ ha.neg hb) rfl (fun _ _ => ?_) | refine Zd rfl rfl (xor_c _ q1.ok hov1 _ _ (ha.mono q1.lo) (hb.mono q1.lo)) rfl (fun _ _ => ?_) | refine Zd rfl rfl (and_c _ q2.ok hov2 _ _ l2 l2') rfl (fun _ _ => ?_) | refine Zd rfl rfl (or_c _ q3.ok hov3 _ _ l4 l4') rfl (fun _ _ => ?_) | refine Qe ?_ | refine Qp rfl ?_ | refine Qf ?_ | refine Qa ?_ | refine Qg ?_ | (refine Wa ?_; first | (refine Wu (fun p => p.1 :: p.2.1 :: p.2.2.1 :: p.2.2.2.1 :: .row gx (Qq X) :: .row gy (Qq Y) :: p.2.2.2.2) 24 [(0, true), (1, true), (2, true), (3, true), (4, true), (5, true), (6, true), (7, true), (8, true), (10, true), (11, true), (12, true), (13, true), (14, true), (15, true), (16, true), (17, true), (20, true), (9, false), (18, false), (19, true), (21, false), (22, false), (23, true)] (by rfl) (by rfl) (by kernel_rfl) (by decide +kernel) (by decide +kernel) ⟨(_, _, _, _, _), rfl⟩ ?_) | refine Wj (by rfl) (by kernel_rfl) (by kernel_rfl) ?_ | refine QT (by kernel_rfl) (by kernel_rfl) ?_) | refine Qj ?_ | refine i_nil ?_ | refine i_st rfl rfl (fun _ => (by (repeat' first | refine Qt rfl ?_ | refine Qv rfl ?_ | refine Q9 rfl rfl rfl (by first | assumption | omega) rfl ?_ | refine WB rfl rfl rfl (by omega) ?_ | refine Z1 rfl (by omega) ?_ | exact ⟨rfl, rfl⟩))) ?_ | refine i_ef rfl ?_ | refine And.intro (Exists.intro ((_, _, _, _, _)) rfl) ?_)
  rename_i ga hga gb hgb gd hgd ge hge
  refine ⟨i + 1, ge, ⟨by omega, by omega⟩, by omega, ?_⟩
  rw [hsucc]
  exact zal rfl
 ·have hi4 : i = 4 := by omega
  subst hi4
  (repeat' first | refine Qt rfl ?_ | refine Qv rfl ?_ | refine Qe ?_ | refine Qp rfl ?_ | refine Qf ?_ | refine Qa ?_ | refine QU rfl ?_ | refine Qm ?_)
  exact e_1 (Tryd.results104) (Qh rfl) (QC (σ := [_, _, _, _]) (r := [_, _]) ⟨rfl, gc, by omega, rfl⟩)
def muxM (s : St) (c x y : Int) : Int × St := or (and (and s c x).2 (-c) y).2 (and s c x).1 (and (and s c x).2 (-c) y).1
theorem mux_gate {s : St} (hs : Ok s) (hv : s.vars + 3 < 1099511627776) {c x y : Int} (hc : Lim s c) (hx : Lim s x) (hy : Lim s y) : Gate s (muxM s c x y).2 3 /\ Lim (muxM s c x y).2 (muxM s c x y).1 := by
 have q1 := Zf hs (by omega) c x
 have k1 := q1.hi
 have q2 := Zf q1.ok (by omega) (-c) y
 have k2 := q2.hi
 have q3 := or_gate q2.ok (by omega) (and s c x).1 (and (and s c x).2 (-c) y).1
 have l1 := Zz hc hx hs.v0
 have l2 := Zz (hc.neg.mono q1.lo) (hy.mono q1.lo) q1.ok.v0
 have l3 := or_lim (l1.mono (Int.le_trans q1.lo q2.lo)) (l2.mono q2.lo) q2.ok.v0
 exact ⟨(q1.trans q2).trans q3, l3.mono q3.lo⟩
theorem mux_c (s : St) (hs : Ok s) (hv0 : s.vars + 3 < 1099511627776) (c x y : Int) (hc : Lim s c) (hx : Lim s x) (hy : Lim s y) : BM Tryd.prog G 85 [.i c, .i x, .i y] s.vars s.cl (.i (muxM s c x y).1) (muxM s c x y).2 := fun g0 g1 g2 g3 c2 c3 c4 m sn h2 h3 h4 hm hsn B b0 b1 b2 b3 => by
 have hv : s.vars < 1099511627776 := by omega
 have q1 := Zf hs hv c x
 have k1 := q1.hi
 have hov1 : (and s c x).2.vars < 1099511627776 := by omega
 have q2 := Zf q1.ok hov1 (-c) y
 have k2 := q2.hi
 have hov2 : (and (and s c x).2 (-c) y).2.vars < 1099511627776 := by omega
 have hc' := hc.neg.mono q1.lo
 have hy' := hy.mono q1.lo
 have l1' := (Zz hc hx hs.v0).mono (Int.le_trans q1.lo q2.lo)
 have l2' := (Zz hc' hy' q1.ok.v0).mono q2.lo
 have c1 := hc.1
 have c2' := hc.2
 have hv1 := hs.v1
 have hv00 := hs.v0
 refine Qb Tryd.func85 rfl Tryd.ntmps85 rfl (t := [(0, .ptr 0 g0 0), (1, .i c), (2, .i x), (3, .i y)]) rfl fun E hE => ?_
 (repeat' first | refine Qt rfl ?_ | refine Qv rfl ?_ | refine Zd rfl rfl (and_c s hs hv c x hc hx) rfl (fun _ _ => ?_) | refine Zd rfl rfl (and_c _ q1.ok hov1 (-c) y hc' hy') rfl (fun _ _ => ?_) | refine Zd rfl rfl (or_c _ q2.ok hov2 _ _ l1' l2') rfl (fun _ _ => ?_) | refine Z1 rfl (by omega) ?_ | refine Qe ?_ | refine Qp rfl ?_ | refine Qf ?_ | refine Qa ?_ | refine Qm ?_)
 rename_i ga hga gb hgb gd hgd
 exact e_1 (Tryd.results85) (Qh rfl) (Za ⟨rfl, _, by omega, rfl⟩)
def sameAt (s : St) (a b out : Int) : Int × St := and (xor s a b).2 out (-(xor s a b).1)
def W5 (s : St) (x y : List Int) : Nat -> Int × St
 | 0 => (1, s)
 | i + 1 => sameAt (W5 s x y i).2 (x.getD i 0) (y.getD i 0) (W5 s x y i).1
theorem sameAt_gate {s : St} (hs : Ok s) (hv : s.vars + 2 < 1099511627776) {a b out : Int} (ha : Lim s a) (hb : Lim s b) (ho : Lim s out) : Gate s (sameAt s a b out).2 2 /\ Lim (sameAt s a b out).2 (sameAt s a b out).1 := by
 have q1 := xor_gate hs (by omega) a b
 have k1 := q1.hi
 have l1 := (xor_lim ha hb hs.v0).neg
 have q2 := Zf q1.ok (by omega) out (-(xor s a b).1)
 have l2 := Zz (ho.mono q1.lo) (l1.mono q1.lo) q1.ok.v0
 exact ⟨q1.trans q2, l2.mono q2.lo⟩
theorem sameTo_gate {s : St} (hs : Ok s) (hv : s.vars + 100 < 1099511627776) {x y : List Int} (hx : ∀ v ∈ x, Lim s v) (hy : ∀ v ∈ y, Lim s v) : ∀ i : Nat, i <= 8 -> Gate s (W5 s x y i).2 (2 * i) /\ Lim (W5 s x y i).2 (W5 s x y i).1
 | 0, _ => ⟨⟨hs, Int.le_refl _, by show s.vars <= _; omega⟩, by have := hs.v0; exact ⟨by show _ <= (1 : Int); show -(s.vars + 1) <= 1; omega, by show (1 : Int) <= s.vars + 1; omega⟩⟩
 | i + 1, hi => by
  obtain ⟨h1, h2⟩ := sameTo_gate hs hv hx hy i (by omega)
  have hh := h1.hi
  obtain ⟨k1, k2⟩ := sameAt_gate h1.ok (by omega) ((Wq hx hs.v0 i).mono h1.lo) ((Wq hy hs.v0 i).mono h1.lo) h2
  exact ⟨by have := h1.trans k1; rwa [show (2 : Int) * (i : Int) + 2 = 2 * ((i + 1 : Nat) : Int) by omega] at this, k2⟩
theorem same_c (s : St) (hs : Ok s) (hv : s.vars + 100 < 1099511627776) (x y : List Int) (hxl : x.length = 4) (hyl : y.length = 4) (hx : ∀ v ∈ x, Lim s v) (hy : ∀ v ∈ y, Lim s v) : BM Tryd.prog G 105 [.agg (Qq x), .agg (Qq y)] s.vars s.cl (.i (W5 s x y 4).1) (W5 s x y 4).2 := fun g0 g1 g2 g3 c2 c3 c4 m sn h2 h3 h4 hm hsn B b0 b1 b2 b3 => by
 have hv0 := hs.v0
 have hv1 := hs.v1
 refine Qb Tryd.func105 rfl Tryd.ntmps105 rfl (t := [(0, .ptr 0 g0 0), (1, .agg (Qq x)), (2, .agg (Qq y))]) rfl fun E hE => ?_
 have hlt := fun i hi => sameTo_gate hs hv hx hy i hi
 (repeat' first | refine Qt rfl ?_ | refine Qv rfl ?_ | refine Q5 rfl rfl (fun _ _ => ?_) | refine Qe ?_ | refine Qp rfl ?_ | refine Qf ?_ | refine Qa ?_ | refine Qg ?_)
 rename_i gx hgx gy hgy
 refine qb (fun (i gc : Nat) => ⟨[(0, .ptr 0 g0 0), (4, .ptr 4 gx 0), (5, .ptr 5 gy 0), (7, .i (W5 s x y i).1), (9, .i i)], [.row g0 [.sc (.int .i64 (W5 s x y i).2.vars), .ref 1 gc 0 (W5 s x y i).2.cl.length 1, c2, c3, c4, .mp 2 g2, .mp 3 g3], .row gc (Qq (W5 s x y i).2.cl), .mapb g2 (Wg m), .mapb g3 sn, .row gx (Qq x), .row gy (Qq y)]⟩) (fun i gc => i <= 4 /\ (gc = g1 \/ E.N < gc)) (fun i _ => 4 - i) 0 g1 ?_ ⟨by omega, .inl rfl⟩ ?_
 ·exact zal rfl
 intro i gc ⟨hi, hgc⟩
 obtain ⟨hg, hl⟩ := hlt i (by omega)
 have hsucc : W5 s x y (i + 1) = sameAt (W5 s x y i).2 (x.getD i 0) (y.getD i 0) (W5 s x y i).1 := rfl
 (repeat' first | refine QG rfl rfl ?_ | refine Qe ?_ | refine Qp rfl ?_ | refine Qf ?_ | refine Qa ?_)
 refine QE rfl (fun h => ?_) (fun h => ?_)
 ·have hiX : i < x.length := by omega
  have hiY : i < y.length := by omega
  rw [Ord.getD_lt hiX 0, Ord.getD_lt hiY 0] at hsucc
  have ho := hg.ok
  have hh := hg.hi
  have hov : (W5 s x y i).2.vars < 1099511627776 := by omega
  have ha : Lim (W5 s x y i).2 x[i] := (hx _ (List.getElem_mem hiX)).mono hg.lo
  have hb : Lim (W5 s x y i).2 y[i] := (hy _ (List.getElem_mem hiY)).mono hg.lo
  clear hlt
  generalize W5 s x y i = o at *
  have p1 := xor_gate ho hov x[i] y[i]
  have k1 := p1.hi
  have hov3 : (xor o.2 x[i] y[i]).2.vars < 1099511627776 := by omega
  have m1 := hl.mono p1.lo
  have m2 := ((xor_lim ha hb ho.v0).neg).mono p1.lo
  have mb := xor_lim ha hb ho.v0
  obtain ⟨mb1, mb2⟩ := mb
  have hov1' := ho.v1
  (repeat' first | refine Qt rfl ?_ | refine Qv rfl ?_ | refine QS rfl rfl (by omega) ?_ | refine Zd rfl rfl (xor_c _ ho hov _ _ ha hb) rfl (fun _ _ => ?_) | refine Zd rfl rfl (and_c _ p1.ok hov3 _ _ m1 m2) rfl (fun _ _ => ?_) | refine Qe ?_ | refine Qp rfl ?_ | refine Qf ?_ | refine Qa ?_ | refine Qg ?_ | (refine Wa ?_; first | (refine Wu (fun p => p.1 :: p.2.1 :: p.2.2.1 :: p.2.2.2.1 :: .row gx (Qq x) :: .row gy (Qq y) :: p.2.2.2.2) 13 [(0, true), (1, true), (2, true), (3, true), (4, true), (5, true), (6, true), (7, true), (8, true), (9, false), (10, true), (11, false), (12, true)] (by rfl) (by rfl) (by kernel_rfl) (by decide +kernel) (by decide +kernel) ⟨(_, _, _, _, _), rfl⟩ ?_) | refine Wj (by rfl) (by kernel_rfl) (by kernel_rfl) ?_ | refine QT (by kernel_rfl) (by kernel_rfl) ?_) | refine Qj ?_ | refine i_nil ?_ | refine i_st rfl rfl (fun _ => (by (repeat' first | refine Qt rfl ?_ | refine Qv rfl ?_ | refine Q9 rfl rfl rfl (by first | assumption | omega) rfl ?_ | refine WB rfl rfl rfl (by omega) ?_ | refine Z1 rfl (by omega) ?_ | exact ⟨rfl, rfl⟩))) ?_ | refine i_ef rfl ?_ | refine And.intro (Exists.intro ((_, _, _, _, _)) rfl) ?_)
  rename_i ga hga gb hgb
  refine ⟨i + 1, gb, ⟨by omega, by omega⟩, by omega, ?_⟩
  rw [hsucc]
  exact zal rfl
 ·have hi4 : i = 4 := by omega
  subst hi4
  (repeat' first | refine Qt rfl ?_ | refine Qv rfl ?_ | refine Qe ?_ | refine Qp rfl ?_ | refine Qf ?_ | refine Qa ?_ | refine QU rfl ?_ | refine Qm ?_)
  exact e_1 (Tryd.results105) (Qh rfl) (QC (σ := [_, _, _, _]) (r := [_, _]) ⟨rfl, gc, by omega, rfl⟩)
def Z0 (x : List Int) : Nat -> List Int
 | 0 => x
 | i + 1 => (Z0 x i).set i (-((Z0 x i).getD i 0))
theorem notTo_len (x : List Int) : ∀ i, (Z0 x i).length = x.length
 | 0 => rfl
 | i + 1 => by rw [Z0, List.length_set, notTo_len x i]
theorem notTo_bd {x : List Int} {M : Int} (h0 : 0 <= M) (h : ∀ v ∈ x, -M <= v /\ v <= M) : ∀ i, ∀ v ∈ Z0 x i, -M <= v /\ v <= M
 | 0 => h
 | i + 1 => fun v hv => by
  rw [Z0] at hv
  rcases List.mem_or_eq_of_mem_set hv with hv | rfl
  ·exact notTo_bd h0 h i v hv
  ·by_cases hi : i < (Z0 x i).length
   ·rw [Ord.getD_lt hi]
    have := notTo_bd h0 h i _ (List.getElem_mem hi)
    omega
   ·rw [List.getD_eq_getElem?_getD, List.getElem?_eq_none (by omega)]
    show -M <= -(0 : Int) /\ -(0 : Int) <= M
    omega
theorem not_c (x : List Int) (hx : x.length = 4) (hb : ∀ v ∈ x, -1099511627780 <= v /\ v <= 1099511627780) : Go.Av.Pure Tryd.prog G 100 [.agg (Qq x)] (.agg (Qq (Z0 x 4))) := fun B => by
 refine Qb Tryd.func100 rfl Tryd.ntmps100 rfl (t := [(0, .agg (Qq x))]) rfl fun E hE => ?_
 (repeat' first | refine Qt rfl ?_ | refine QJ (fun _ _ => ?_) | refine Q5 rfl rfl (fun _ _ => ?_) | refine Qe ?_ | refine Qp rfl ?_ | refine Qf ?_ | refine Qa ?_ | refine Qg ?_)
 rename_i ga hga gb hgb
 refine Wi (fun (i : Nat) => ⟨[(1, .ptr 0 ga 0), (2, .ptr 1 gb 0), (4, .i i)], [.row ga (Qq (Z0 x i)), .row gb [.i 0, .i 0, .i 0, .i 0]]⟩) (fun i => i <= 4) (fun i => 4 - i) 0 ?_ (by omega) ?_
 ·exact zal rfl
 intro i hi
 have hl : (Z0 x i).length = 4 := by rw [notTo_len, hx]
 have hbd := notTo_bd (by omega) hb i
 (repeat' first | refine QG rfl rfl ?_ | refine Qe ?_ | refine Qp rfl ?_ | refine Qf ?_ | refine Qa ?_)
 refine QE rfl (fun h => ?_) (fun h => ?_)
 ·have hil : i < (Z0 x i).length := by omega
  have hs1 : Z0 x (i + 1) = (Z0 x i).set i (-(Z0 x i)[i]) := by rw [Z0, Ord.getD_lt hil]
  have hbi := hbd _ (List.getElem_mem hil)
  clear hbd hb
  (repeat' first | refine Qt rfl ?_ | refine Qv rfl ?_ | refine Q9 rfl rfl rfl (by first | assumption | omega) rfl ?_ | refine WB rfl rfl rfl (by omega) ?_ | refine QS rfl rfl (by omega) ?_ | refine Z1 rfl (by omega) ?_ | refine Q2 rfl rfl rfl rfl rfl (by first | assumption | omega) rfl ?_ | refine Qe ?_ | refine Qp rfl ?_ | refine Q0 ?_ | refine Qf ?_ | refine Qa ?_ | refine Qg ?_ | refine Qj ?_)
  refine ⟨i + 1, by omega, by omega, ?_⟩
  rw [hs1]
  exact zal rfl
 ·have hi4 : i = 4 := by omega
  subst hi4
  obtain ⟨a, b, c, d, rfl⟩ : ∃ a b c d, x = [a, b, c, d] := by
   match x, hx with
   | [a, b, c, d], _ => exact ⟨a, b, c, d, rfl⟩
  (repeat' first | refine s_load_rowa rfl rfl (by rfl) (by rfl) ?_ | refine Wf rfl rfl rfl rfl (by rfl) (by rfl) (by rfl) ?_ | refine Qe ?_ | refine Qp rfl ?_ | refine Q0 ?_ | refine Qf ?_ | refine Qa ?_ | refine QU rfl ?_ | refine Qm ?_)
  exact e_1 (Tryd.results100) (QY (size := 4) rfl rfl rfl rfl) (Qr rfl)
def Wc (s : St) (x y : List Int) (c : Int) : Nat -> List Int × Int × St
 | 0 => ([0, 0, 0, 0], c, s)
 | i + 1 =>
  let p := Wc s x y c i
  let h := xor p.2.2 (x.getD i 0) (y.getD i 0)
  let o := xor h.2 h.1 p.2.1
  let a := and o.2 (x.getD i 0) (y.getD i 0)
  let b := and a.2 h.1 p.2.1
  let r := or b.2 a.1 b.1
  (p.1.set i o.1, r.1, r.2)
theorem ZF (s : St) (x y : List Int) (c : Int) : ∀ i, (Wc s x y c i).1.length = 4
 | 0 => rfl
 | i + 1 => by
  show ((Wc s x y c i).1.set i _).length = 4
  rw [List.length_set, ZF s x y c i]
theorem sumTo_gate {s : St} (hs : Ok s) (hv : s.vars + 100 < 1099511627776) {x y : List Int} {c : Int} (hx : ∀ v ∈ x, Lim s v) (hy : ∀ v ∈ y, Lim s v) (hc : Lim s c) : ∀ i : Nat, i <= 8 -> Gate s (Wc s x y c i).2.2 (5 * i) /\ Lim (Wc s x y c i).2.2 (Wc s x y c i).2.1 /\ ∀ v ∈ (Wc s x y c i).1, Lim (Wc s x y c i).2.2 v
 | 0, _ => ⟨⟨hs, Int.le_refl _, by show s.vars <= _; omega⟩, hc, fun v h => by
   have hv : v = 0 := by
    have h : v ∈ [(0 : Int), 0, 0, 0] := h
    simpa using h
   subst hv
   have := hs.v0
   exact ⟨by show -(s.vars + 1) <= 0; omega, by show 0 <= s.vars + 1; omega⟩⟩
 | i + 1, hi => by
  obtain ⟨h1, h2, h3⟩ := sumTo_gate hs hv hx hy hc i (by omega)
  have hh := h1.hi
  have hs1 : Wc s x y c (i + 1) = ((Wc s x y c i).1.set i (xor (xor (Wc s x y c i).2.2 (x.getD i 0) (y.getD i 0)).2 (xor (Wc s x y c i).2.2 (x.getD i 0) (y.getD i 0)).1 (Wc s x y c i).2.1).1, or (and (and (xor (xor (Wc s x y c i).2.2 (x.getD i 0) (y.getD i 0)).2 (xor (Wc s x y c i).2.2 (x.getD i 0) (y.getD i 0)).1 (Wc s x y c i).2.1).2 (x.getD i 0) (y.getD i 0)).2 (xor (Wc s x y c i).2.2 (x.getD i 0) (y.getD i 0)).1 (Wc s x y c i).2.1).2 (and (xor (xor (Wc s x y c i).2.2 (x.getD i 0) (y.getD i 0)).2 (xor (Wc s x y c i).2.2 (x.getD i 0) (y.getD i 0)).1 (Wc s x y c i).2.1).2 (x.getD i 0) (y.getD i 0)).1 (and (and (xor (xor (Wc s x y c i).2.2 (x.getD i 0) (y.getD i 0)).2 (xor (Wc s x y c i).2.2 (x.getD i 0) (y.getD i 0)).1 (Wc s x y c i).2.1).2 (x.getD i 0) (y.getD i 0)).2 (xor (Wc s x y c i).2.2 (x.getD i 0) (y.getD i 0)).1 (Wc s x y c i).2.1).1) := rfl
  have ha := (Wq hx hs.v0 i).mono h1.lo
  have hb := (Wq hy hs.v0 i).mono h1.lo
  generalize x.getD i 0 = a at *
  generalize y.getD i 0 = b at *
  generalize Wc s x y c i = p at *
  have g1 := xor_gate h1.ok (by omega) a b
  have l1 := (xor_lim ha hb h1.ok.v0).mono g1.lo
  have k1 := g1.hi
  have ha1 := ha.mono g1.lo
  have hb1 := hb.mono g1.lo
  have hc1 := h2.mono g1.lo
  have G1 := h1.trans g1
  have hm1 : ∀ v ∈ p.1, Lim (xor p.2.2 a b).2 v := fun v hv => (h3 v hv).mono g1.lo
  generalize xor p.2.2 a b = h at *
  have g2 := xor_gate g1.ok (by omega) h.1 p.2.1
  have l2 := (xor_lim l1 hc1 g1.ok.v0).mono g2.lo
  have k2 := g2.hi
  have ha2 := ha1.mono g2.lo
  have hb2 := hb1.mono g2.lo
  have hc2 := hc1.mono g2.lo
  have hh2 := l1.mono g2.lo
  have G2 := G1.trans g2
  have hm2 : ∀ v ∈ p.1, Lim (xor h.2 h.1 p.2.1).2 v := fun v hv => (hm1 v hv).mono g2.lo
  generalize xor h.2 h.1 p.2.1 = o at *
  have g3 := Zf g2.ok (by omega) a b
  have l3 := (Zz ha2 hb2 g2.ok.v0).mono g3.lo
  have k3 := g3.hi
  have hc3 := hc2.mono g3.lo
  have hh3 := hh2.mono g3.lo
  have lo3 := l2.mono g3.lo
  have G3 := G2.trans g3
  have hm3 : ∀ v ∈ p.1, Lim (and o.2 a b).2 v := fun v hv => (hm2 v hv).mono g3.lo
  generalize and o.2 a b = e at *
  have g4 := Zf g3.ok (by omega) h.1 p.2.1
  have l4 := (Zz hh3 hc3 g3.ok.v0).mono g4.lo
  have k4 := g4.hi
  have l34 := l3.mono g4.lo
  have lo4 := lo3.mono g4.lo
  have G4 := G3.trans g4
  have hm4 : ∀ v ∈ p.1, Lim (and e.2 h.1 p.2.1).2 v := fun v hv => (hm3 v hv).mono g4.lo
  generalize and e.2 h.1 p.2.1 = f at *
  have g5 := or_gate g4.ok (by omega) e.1 f.1
  have l5 := (or_lim l34 l4 g4.ok.v0).mono g5.lo
  have G5 := G4.trans g5
  rw [hs1]
  refine ⟨by rwa [show (5 : Int) * (i : Int) + 1 + 1 + 1 + 1 + 1 = 5 * ((i + 1 : Nat) : Int) by omega] at G5, l5, fun v hv => ?_⟩
  rcases List.mem_or_eq_of_mem_set hv with hv | rfl
  ·exact (hm4 v hv).mono g5.lo
  ·exact lo4.mono g5.lo
theorem sum_c (s : St) (hs : Ok s) (hv : s.vars + 100 < 1099511627776) (x y : List Int) (c : Int) (hxl : x.length = 4) (hyl : y.length = 4) (hx : ∀ v ∈ x, Lim s v) (hy : ∀ v ∈ y, Lim s v) (hc : Lim s c) : BM Tryd.prog G 99 [.agg (Qq x), .agg (Qq y), .i c] s.vars s.cl (.agg (Qq (Wc s x y c 4).1)) (Wc s x y c 4).2.2 := fun g0 g1 g2 g3 c2 c3 c4 m sn h2 h3 h4 hm hsn B b0 b1 b2 b3 => by
 have hv0 := hs.v0
 have hv1 := hs.v1
 refine Qb Tryd.func99 rfl Tryd.ntmps99 rfl (t := [(0, .ptr 0 g0 0), (1, .agg (Qq x)), (2, .agg (Qq y)), (3, .i c)]) rfl fun E hE => ?_
 have hlt := fun i hi => sumTo_gate hs hv hx hy hc i hi
 (repeat' first | refine Qt rfl ?_ | refine QJ (fun _ _ => ?_) | refine Q5 rfl rfl (fun _ _ => ?_) | refine Qe ?_ | refine Qp rfl ?_ | refine Qf ?_ | refine Qa ?_ | refine Qg ?_)
 rename_i gx hgx gy hgy gr hgr go hgo
 refine qb (fun (i gc : Nat) => ⟨[(0, .ptr 0 g0 0), (3, .i (Wc s x y c i).2.1), (5, .ptr 4 gx 0), (6, .ptr 5 gy 0), (8, .ptr 6 gr 0), (9, .ptr 7 go 0), (12, .i i)], [.row g0 [.sc (.int .i64 (Wc s x y c i).2.2.vars), .ref 1 gc 0 (Wc s x y c i).2.2.cl.length 1, c2, c3, c4, .mp 2 g2, .mp 3 g3], .row gc (Qq (Wc s x y c i).2.2.cl), .mapb g2 (Wg m), .mapb g3 sn, .row gx (Qq x), .row gy (Qq y), .row gr [.i 0, .i 0, .i 0, .i 0], .row go (Qq (Wc s x y c i).1)]⟩) (fun i gc => i <= 4 /\ (gc = g1 \/ E.N < gc)) (fun i _ => 4 - i) 0 g1 ?_ ⟨by omega, .inl rfl⟩ ?_
 ·exact zal rfl
 intro i gc ⟨hi, hgc⟩
 obtain ⟨hg, hl, hlo⟩ := hlt i (by omega)
 have hol := ZF s x y c i
 (repeat' first | refine QG rfl rfl ?_ | refine Qe ?_ | refine Qp rfl ?_ | refine Qf ?_ | refine Qa ?_)
 refine QE rfl (fun h => ?_) (fun h => ?_)
 ·have hiX : i < x.length := by omega
  have hiY : i < y.length := by omega
  have hs1 : Wc s x y c (i + 1) = ((Wc s x y c i).1.set i (xor (xor (Wc s x y c i).2.2 x[i] y[i]).2 (xor (Wc s x y c i).2.2 x[i] y[i]).1 (Wc s x y c i).2.1).1, or (and (and (xor (xor (Wc s x y c i).2.2 x[i] y[i]).2 (xor (Wc s x y c i).2.2 x[i] y[i]).1 (Wc s x y c i).2.1).2 x[i] y[i]).2 (xor (Wc s x y c i).2.2 x[i] y[i]).1 (Wc s x y c i).2.1).2 (and (xor (xor (Wc s x y c i).2.2 x[i] y[i]).2 (xor (Wc s x y c i).2.2 x[i] y[i]).1 (Wc s x y c i).2.1).2 x[i] y[i]).1 (and (and (xor (xor (Wc s x y c i).2.2 x[i] y[i]).2 (xor (Wc s x y c i).2.2 x[i] y[i]).1 (Wc s x y c i).2.1).2 x[i] y[i]).2 (xor (Wc s x y c i).2.2 x[i] y[i]).1 (Wc s x y c i).2.1).1) := by
   rw [<- Ord.getD_lt hiX 0, <- Ord.getD_lt hiY 0]; rfl
  have ho := hg.ok
  have hh := hg.hi
  have ha : Lim (Wc s x y c i).2.2 x[i] := (hx _ (List.getElem_mem hiX)).mono hg.lo
  have hb : Lim (Wc s x y c i).2.2 y[i] := (hy _ (List.getElem_mem hiY)).mono hg.lo
  clear hlt hlo
  generalize Wc s x y c i = p at *
  have hiP : i < p.1.length := by omega
  have hk1 := xor_c (G := G) p.2.2 ho (by omega) _ _ ha hb
  have q1 := xor_gate ho (by omega) x[i] y[i]
  have l1 := (xor_lim ha hb ho.v0).mono q1.lo
  have k1 := q1.hi
  have ha := ha.mono q1.lo
  have hb := hb.mono q1.lo
  have hl := hl.mono q1.lo
  generalize xor p.2.2 x[i] y[i] = h1 at *
  have hk2 := xor_c (G := G) h1.2 q1.ok (by omega) _ _ l1 hl
  have q2 := xor_gate q1.ok (by omega) h1.1 p.2.1
  have k2 := q2.hi
  have ha := ha.mono q2.lo
  have hb := hb.mono q2.lo
  have hl := hl.mono q2.lo
  have l1 := l1.mono q2.lo
  generalize xor h1.2 h1.1 p.2.1 = h2' at *
  have hk3 := and_c (G := G) h2'.2 q2.ok (by omega) _ _ ha hb
  have q3 := Zf q2.ok (by omega) x[i] y[i]
  have l3 := (Zz ha hb q2.ok.v0).mono q3.lo
  have k3 := q3.hi
  have hl := hl.mono q3.lo
  have l1 := l1.mono q3.lo
  generalize and h2'.2 x[i] y[i] = h3' at *
  have hk4 := and_c (G := G) h3'.2 q3.ok (by omega) _ _ l1 hl
  have q4 := Zf q3.ok (by omega) h1.1 p.2.1
  have l4 := (Zz l1 hl q3.ok.v0).mono q4.lo
  have k4 := q4.hi
  have l3 := l3.mono q4.lo
  generalize and h3'.2 h1.1 p.2.1 = h4' at *
  have hk5 := or_c (G := G) h4'.2 q4.ok (by omega) _ _ l3 l4
  generalize or h4'.2 h3'.1 h4'.1 = h5 at *
  clear hx hy hs hg ho ha hb hl l1 l3 l4 q1 q2 q3 q4 k1 k2 k3 k4 hh hc
  (repeat' first | refine Qt rfl ?_ | refine Qv rfl ?_ | refine WB rfl rfl rfl (by omega) ?_ | refine QS rfl rfl (by omega) ?_ | refine Zd rfl rfl (hk1) rfl (fun _ _ => ?_) | refine Zd rfl rfl (hk2) rfl (fun _ _ => ?_) | refine Zd rfl rfl (hk3) rfl (fun _ _ => ?_) | refine Zd rfl rfl (hk4) rfl (fun _ _ => ?_) | refine Zd rfl rfl (hk5) rfl (fun _ _ => ?_) | refine Q2 rfl rfl rfl rfl rfl (by first | assumption | omega) rfl ?_ | refine Qe ?_ | refine Qp rfl ?_ | refine Q0 ?_ | refine Qf ?_ | refine Qa ?_ | refine Qg ?_ | (refine Wa ?_; first | (refine Wu (fun p => p.1 :: p.2.1 :: p.2.2.1 :: p.2.2.2.1 :: .row gx (Qq x) :: .row gy (Qq y) :: p.2.2.2.2) 9 [(0, true), (1, true), (2, true), (3, true), (4, true), (5, true), (6, true), (7, false), (8, true)] (by rfl) (by rfl) (by kernel_rfl) (by decide +kernel) (by decide +kernel) ⟨(_, _, _, _, _), rfl⟩ ?_) | (refine Wu (fun p => p.1 :: p.2.1 :: p.2.2.1 :: p.2.2.2.1 :: .row gx (Qq x) :: .row gy (Qq y) :: p.2.2.2.2) 15 [(0, true), (1, true), (2, true), (3, true), (4, true), (5, true), (6, true), (7, true), (9, true), (10, true), (11, true), (8, false), (12, false), (13, false), (14, true)] (by rfl) (by rfl) (by kernel_rfl) (by decide +kernel) (by decide +kernel) ⟨(_, _, _, _, _), rfl⟩ ?_) | refine Wj (by rfl) (by kernel_rfl) (by kernel_rfl) ?_ | refine QT (by kernel_rfl) (by kernel_rfl) ?_) | refine Qj ?_ | refine i_nil ?_ | refine i_st rfl rfl (fun _ => (by (repeat' first | refine Qt rfl ?_ | refine Qv rfl ?_ | refine Q9 rfl rfl rfl (by first | assumption | omega) rfl ?_ | refine WB rfl rfl rfl (by omega) ?_ | exact ⟨rfl, rfl⟩))) ?_ | refine i_ef rfl ?_ | refine And.intro (Exists.intro ((_, _, _, _, _)) rfl) ?_)
  rename_i ga hga gb hgb gd hgd ge hge gf hgf
  refine ⟨i + 1, gf, ⟨by omega, by omega⟩, by omega, ?_⟩
  rw [hs1]
  exact zal rfl
 ·have hi4 : i = 4 := by omega
  subst hi4
  (repeat' first | refine s_load_rowa rfl rfl (by rfl) (by rfl) ?_ | refine Wf rfl rfl rfl rfl (by rfl) (by rfl) (by rfl) ?_ | refine Qe ?_ | refine Qp rfl ?_ | refine Q0 ?_ | refine Qf ?_ | refine Qa ?_ | refine QU rfl ?_ | refine Qm ?_)
  exact e_1 (Tryd.results99) (QY (size := 4) rfl rfl rfl rfl) (QC (σ := [_, _, _, _]) (r := [_, _, _, _]) ⟨rfl, gc, by omega, rfl⟩)
def movedM (x : List Int) (k : Int) : Int := if 4 <= k then x.getD 3 0 else if 0 <= k then x.getD k.toNat 0 else -1
def QO (s : St) (x : List Int) (c n : Int) : Nat -> List Int × St
 | 0 => ([0, 0, 0, 0], s)
 | i + 1 => ((QO s x c n i).1.set i (muxM (QO s x c n i).2 c (movedM x ((i : Int) - n)) (x.getD i 0)).1, (muxM (QO s x c n i).2 c (movedM x ((i : Int) - n)) (x.getD i 0)).2)
theorem Zb (s : St) (x : List Int) (c n : Int) : ∀ i, (QO s x c n i).1.length = 4
 | 0 => rfl
 | i + 1 => by
  show ((QO s x c n i).1.set i _).length = 4
  rw [List.length_set, Zb s x c n i]
theorem moved_lim {s : St} (hs : Ok s) {x : List Int} (hx : ∀ v ∈ x, Lim s v) (k : Int) : Lim s (movedM x k) := by
 unfold movedM
 split
 ·exact Wq hx hs.v0 3
 ·split
  ·exact Wq hx hs.v0 _
  ·have := hs.v0
   exact ⟨by omega, by omega⟩
theorem ZU {s : St} (hs : Ok s) (hv : s.vars + 100 < 1099511627776) {x : List Int} {c : Int} (n : Int) (hx : ∀ v ∈ x, Lim s v) (hc : Lim s c) : ∀ i : Nat, i <= 8 -> Gate s (QO s x c n i).2 (3 * i) /\ ∀ v ∈ (QO s x c n i).1, Lim (QO s x c n i).2 v
 | 0, _ => ⟨⟨hs, Int.le_refl _, by show s.vars <= _; omega⟩, fun v h => by
   have hv : v = 0 := by
    have h : v ∈ [(0 : Int), 0, 0, 0] := h
    simpa using h
   subst hv
   have := hs.v0
   exact ⟨by show -(s.vars + 1) <= 0; omega, by show 0 <= s.vars + 1; omega⟩⟩
 | i + 1, hi => by
  obtain ⟨h1, h3⟩ := ZU hs hv n hx hc i (by omega)
  have hh := h1.hi
  obtain ⟨g1, l1⟩ := mux_gate (c := c) (x := movedM x ((i : Int) - n)) (y := x.getD i 0) h1.ok (by omega) (hc.mono h1.lo) ((moved_lim hs hx _).mono h1.lo) ((Wq hx hs.v0 i).mono h1.lo)
  refine ⟨by have := h1.trans g1; rwa [show (3 : Int) * (i : Int) + 3 = 3 * ((i + 1 : Nat) : Int) by omega] at this, fun v hv => ?_⟩
  rcases List.mem_or_eq_of_mem_set hv with hv | rfl
  ·exact (h3 v hv).mono g1.lo
  ·exact l1
theorem shifted_c (s : St) (hs : Ok s) (hv : s.vars + 100 < 1099511627776) (x : List Int) (c n : Int) (hxl : x.length = 4) (hx : ∀ v ∈ x, Lim s v) (hc : Lim s c) (hn : -8 <= n /\ n <= 8) : BM Tryd.prog G 103 [.agg (Qq x), .i c, .i n] s.vars s.cl (.agg (Qq (QO s x c n 4).1)) (QO s x c n 4).2 := fun g0 g1 g2 g3 c2 c3 c4 m sn h2 h3 h4 hm hsn B b0 b1 b2 b3 => by
 have hv0 := hs.v0
 have hv1 := hs.v1
 refine Qb Tryd.func103 rfl Tryd.ntmps103 rfl (t := [(0, .ptr 0 g0 0), (1, .agg (Qq x)), (2, .i c), (3, .i n)]) rfl fun E hE => ?_
 have hlt := fun i hi => ZU hs hv n hx hc i hi
 (repeat' first | refine Qt rfl ?_ | refine QJ (fun _ _ => ?_) | refine Q5 rfl rfl (fun _ _ => ?_) | refine Qe ?_ | refine Qp rfl ?_ | refine Qf ?_ | refine Qa ?_ | refine Qg ?_)
 rename_i gx hgx gr hgr go hgo
 refine qb (fun (i gc : Nat) => ⟨[(0, .ptr 0 g0 0), (2, .i c), (3, .i n), (5, .ptr 4 gx 0), (8, .ptr 5 gr 0), (9, .ptr 6 go 0), (13, .i i)], [.row g0 [.sc (.int .i64 (QO s x c n i).2.vars), .ref 1 gc 0 (QO s x c n i).2.cl.length 1, c2, c3, c4, .mp 2 g2, .mp 3 g3], .row gc (Qq (QO s x c n i).2.cl), .mapb g2 (Wg m), .mapb g3 sn, .row gx (Qq x), .row gr [.i 0, .i 0, .i 0, .i 0], .row go (Qq (QO s x c n i).1)]⟩) (fun i gc => i <= 4 /\ (gc = g1 \/ E.N < gc)) (fun i _ => 4 - i) 0 g1 ?_ ⟨by omega, .inl rfl⟩ ?_
 ·exact zal rfl
 intro i gc ⟨hi, hgc⟩
 obtain ⟨hg, hlo⟩ := hlt i (by omega)
 have hol := Zb s x c n i
 (repeat' first | refine QG rfl rfl ?_ | refine Qe ?_ | refine Qp rfl ?_ | refine Qf ?_ | refine Qa ?_)
 refine QE rfl (fun h => ?_) (fun h => ?_)
 ·have hiX : i < x.length := by omega
  have h3X : 3 < x.length := by omega
  have hs1 : QO s x c n (i + 1) = ((QO s x c n i).1.set i (muxM (QO s x c n i).2 c (movedM x ((i : Int) - n)) x[i]).1, (muxM (QO s x c n i).2 c (movedM x ((i : Int) - n)) x[i]).2) := by
   rw [<- Ord.getD_lt hiX 0]; rfl
  have ho := hg.ok
  have hh := hg.hi
  have ha := (moved_lim hs hx ((i : Int) - n)).mono hg.lo
  have hb : Lim (QO s x c n i).2 x[i] := (hx _ (List.getElem_mem hiX)).mono hg.lo
  have hc1 := hc.mono hg.lo
  clear hlt hlo
  generalize QO s x c n i = p at *
  have hiP : i < p.1.length := by omega
  have hk1 := mux_c (G := G) p.2 ho (by omega) _ _ _ hc1 ha hb
  have hmv : movedM x ((i : Int) - n) = if 4 <= (i : Int) - n then x.getD 3 0 else if 0 <= (i : Int) - n then x.getD ((i : Int) - n).toNat 0 else -1 := rfl
  generalize muxM p.2 c (movedM x ((i : Int) - n)) x[i] = q at *
  clear hx hs hg ho ha hb hh hc
  by_cases q1 : 4 <= (i : Int) - n
  ·rw [if_pos q1, Ord.getD_lt h3X] at hmv
   rw [hmv] at hk1
   (repeat' first | refine Qt rfl ?_ | refine Qv rfl ?_ | refine Q9 rfl rfl rfl (by first | assumption | omega) rfl ?_ | refine WB rfl rfl rfl (by omega) ?_ | refine Zp rfl rfl rfl (by omega) (by omega) ?_ | refine Wv rfl rfl ?_ | refine QS rfl rfl (by omega) ?_ | refine Zn rfl rfl (by omega) ?_ | refine Zd rfl rfl (hk1) rfl (fun _ _ => ?_) | refine Q2 rfl rfl rfl rfl rfl (by first | assumption | omega) rfl ?_ | refine Qe ?_ | refine Qp rfl ?_ | refine Q0 ?_ | refine Qf ?_ | refine Qa ?_ | refine Qg ?_ | refine Qj ?_ | refine Qx rfl (by omega) ?_)
   rename_i ga hga
   refine ⟨i + 1, ga, ⟨by omega, by omega⟩, by omega, ?_⟩
   rw [hs1]
   exact zal rfl
  ·by_cases q2 : 0 <= (i : Int) - n
   ·have hkX : ((i : Int) - n).toNat < x.length := by omega
    have hkX2 : 0 + ((i : Int) - n).toNat * 1 < x.length := by omega
    have e2 : x[((i : Int) - n).toNat]'hkX = x[0 + ((i : Int) - n).toNat * 1]'hkX2 := by simp
    rw [if_neg q1, if_pos q2, Ord.getD_lt hkX, e2] at hmv
    rw [hmv] at hk1
    (repeat' first | refine Qt rfl ?_ | refine Qv rfl ?_ | refine Q9 rfl rfl rfl (by first | assumption | omega) rfl ?_ | refine WB rfl rfl rfl (by omega) ?_ | refine Zp rfl rfl rfl (by omega) (by omega) ?_ | refine Wv rfl rfl ?_ | refine QS rfl rfl (by omega) ?_ | refine Zn rfl rfl (by omega) ?_ | refine Zd rfl rfl (hk1) rfl (fun _ _ => ?_) | refine Q2 rfl rfl rfl rfl rfl (by first | assumption | omega) rfl ?_ | refine Qe ?_ | refine Qp rfl ?_ | refine Q0 ?_ | refine Qf ?_ | refine Qa ?_ | refine Qg ?_ | refine Qj ?_ | refine Qx rfl (by omega) ?_ | refine QD rfl (by omega) ?_)
    rename_i ga hga
    refine ⟨i + 1, ga, ⟨by omega, by omega⟩, by omega, ?_⟩
    rw [hs1]
    exact zal rfl
   ·rw [if_neg q1, if_neg q2] at hmv
    rw [hmv] at hk1
    (repeat' first | refine Qt rfl ?_ | refine Qv rfl ?_ | refine Q9 rfl rfl rfl (by first | assumption | omega) rfl ?_ | refine WB rfl rfl rfl (by omega) ?_ | refine Wv rfl rfl ?_ | refine QS rfl rfl (by omega) ?_ | refine Zn rfl rfl (by omega) ?_ | refine Zd rfl rfl (hk1) rfl (fun _ _ => ?_) | refine Q2 rfl rfl rfl rfl rfl (by first | assumption | omega) rfl ?_ | refine Qe ?_ | refine Qp rfl ?_ | refine Q0 ?_ | refine Qf ?_ | refine Qa ?_ | refine Qg ?_ | refine Qj ?_ | refine QD rfl (by omega) ?_)
    rename_i ga hga
    refine ⟨i + 1, ga, ⟨by omega, by omega⟩, by omega, ?_⟩
    rw [hs1]
    exact zal rfl
 ·have hi4 : i = 4 := by omega
  subst hi4
  (repeat' first | refine s_load_rowa rfl rfl (by rfl) (by rfl) ?_ | refine Wf rfl rfl rfl rfl (by rfl) (by rfl) (by rfl) ?_ | refine Qe ?_ | refine Qp rfl ?_ | refine Q0 ?_ | refine Qf ?_ | refine Qa ?_ | refine QU rfl ?_ | refine Qm ?_)
  exact e_1 (Tryd.results103) (QY (size := 4) rfl rfl rfl rfl) (QC (σ := [_, _, _, _]) (r := [_, _, _]) ⟨rfl, gc, by omega, rfl⟩)
theorem _root_.Go.Bl.wbits_eq (n : Int) : ZC n = n % 16 := by
 show IntKind.i64.wrap ((BitVec.ofInt 64 n &&& BitVec.ofInt 64 15).toNat : Int) = _
 rw [BitVec.toNat_and, BitVec.toNat_ofInt, show (BitVec.ofInt 64 15).toNat = 2 ^ 4 - 1 from rfl, Nat.and_two_pow_sub_one_eq_mod]
 have h0 : 0 <= n % ((2 ^ 64 : Nat) : Int) := Int.emod_nonneg _ (by decide)
 have h1 : (((n % ((2 ^ 64 : Nat) : Int)).toNat % 2 ^ 4 : Nat) : Int) = n % 16 := by
  rw [Int.natCast_emod, Int.toNat_of_nonneg h0]
  omega
 rw [h1]
 exact wrap_i64 (by omega)
theorem _root_.Go.Bl.wbits_bound (n : Int) : 0 <= ZC n /\ ZC n <= 15 := by
 rw [wbits_eq]; omega
theorem wBits_c (n : Int) : Go.Av.Pure Tryd.prog G 96 [.i n] (.i (ZC n)) := fun B => by
 refine Qb Tryd.func96 rfl Tryd.ntmps96 rfl (t := [(0, .i n)]) rfl fun E hE => ?_
 (repeat' first | refine Qt rfl ?_ | refine Qv rfl ?_ | refine s_and rfl rfl ?_ | refine Qe ?_ | refine Qp rfl ?_ | refine Qf ?_ | refine Qa ?_ | refine Qm ?_)
 refine e_1 Tryd.results96 (Qh rfl) (Qr ?_)
 rfl
theorem width_c (k : Int) : Go.Av.Pure Tryd.prog G 39 [.i k] (.i (width k)) := fun B => by
 refine Qb Tryd.func39 rfl Tryd.ntmps39 rfl (t := [(0, .i k)]) rfl fun E hE => ?_
 (repeat' first | refine Qt rfl ?_ | refine Qv rfl ?_ | refine QH rfl rfl ?_ | refine Qe ?_ | refine Qp rfl ?_ | refine Qf ?_ | refine Qa ?_)
 refine QE rfl (fun h => ?_) (fun h => ?_)
 ·(repeat' first | refine Qv rfl ?_ | refine Qe ?_ | refine Qp rfl ?_ | refine Qf ?_ | refine Qa ?_ | refine Qm ?_)
  refine e_1 Tryd.results39 (Qh rfl) (Qr ?_)
  unfold width; rw [if_pos h]
 ·(repeat' first | refine Qv rfl ?_ | refine Qe ?_ | refine Qp rfl ?_ | refine Qf ?_ | refine Qa ?_ | refine Qj ?_ | refine Qm ?_)
  refine e_1 Tryd.results39 (Qh rfl) (Qr ?_)
  unfold width; rw [if_neg h]
theorem number_c (n : Int) : Go.Av.Pure Tryd.prog G 84 [.i n] (.agg (Qq (qo n))) := fun B => by
 refine Qb Tryd.func84 rfl Tryd.ntmps84 rfl (t := [(0, .i n)]) rfl fun E hE => ?_
 (repeat' first | refine Qt rfl ?_ | refine QJ (fun _ _ => ?_) | refine Qe ?_ | refine Qp rfl ?_ | refine Qf ?_ | refine Qa ?_ | refine Qg ?_)
 rename_i ga hga gb hgb
 refine Wi (fun (i : Nat) => ⟨[(0, .i n), (2, .ptr 0 ga 0), (3, .ptr 1 gb 0), (5, .i i)], [.row ga [.i 0, .i 0, .i 0, .i 0], .row gb (Qq (W3 n i))]⟩) (fun i => i <= 4) (fun i => 4 - i) 0 ?_ (by omega) ?_
 ·exact zal rfl
 intro i hi
 have hl : (W3 n i).length = 4 := ZX n i
 (repeat' first | refine QG rfl rfl ?_ | refine Qe ?_ | refine Qp rfl ?_ | refine Qf ?_ | refine Qa ?_)
 refine QE rfl (fun h => ?_) (fun h => ?_)
 ·have hw := wbits_bound n
  have hil : i < (W3 n i).length := by omega
  have hs1 : W3 n (i + 1) = ((W3 n i).set i (-1)).set i (if bitAt n i then 1 else -1) := by rw [W3, List.set_set]
  have hil2 : i < ((W3 n i).set i (-1)).length := by rw [List.length_set]; omega
  (repeat' first | refine Qt rfl ?_ | refine Qv rfl ?_ | refine WB rfl rfl rfl (by omega) ?_ | refine QH rfl rfl ?_ | refine s_and rfl rfl ?_ | refine s_shr rfl rfl (by omega) ?_ | refine QZ rfl rfl (wBits_c _) ?_ | refine Q2 rfl rfl rfl rfl rfl (by first | assumption | omega) rfl ?_ | refine Qe ?_ | refine Qp rfl ?_ | refine Q0 ?_ | refine Qf ?_ | refine Qa ?_ | refine Qg ?_ | refine Qj ?_)
  refine QE rfl (fun hb => ?_) (fun hb => ?_)
  ·rw [if_pos (show bitAt n i from hb)] at hs1
   (repeat' first | refine Qt rfl ?_ | refine WB rfl rfl rfl (by omega) ?_ | refine QS rfl rfl (by omega) ?_ | refine Q2 rfl rfl rfl rfl rfl (by first | assumption | omega) rfl ?_ | refine Qe ?_ | refine Qp rfl ?_ | refine Q0 ?_ | refine Qa ?_)
   refine ⟨i + 1, by omega, by omega, ?_⟩
   rw [hs1]
   exact zal rfl
  ·have hs2 : W3 n (i + 1) = (W3 n i).set i (-1) := by rw [W3, if_neg (show ¬ bitAt n i from hb)]
   (repeat' first | refine Qt rfl ?_ | refine QS rfl rfl (by omega) ?_ | refine Qe ?_ | refine Qp rfl ?_ | refine Qa ?_ | refine Qj ?_)
   refine ⟨i + 1, by omega, by omega, ?_⟩
   rw [hs2]
   exact zal rfl
 ·have hi4 : i = 4 := by omega
  subst hi4
  (repeat' first | refine s_load_rowa rfl rfl (by rfl) (by rfl) ?_ | refine Wf rfl rfl rfl rfl (by rfl) (by rfl) (by rfl) ?_ | refine Qe ?_ | refine Qp rfl ?_ | refine Q0 ?_ | refine Qf ?_ | refine Qa ?_ | refine QU rfl ?_ | refine Qm ?_)
  exact e_1 (Tryd.results84) (QY (size := 4) rfl rfl rfl rfl) (Qr rfl)
def Wx (s : St) (x : List Int) (b : Int) (i : Nat) : Nat -> List Int × St
 | 0 => (qo 0, s)
 | k + 1 => ((Wx s x b i k).1.set (i + k) (and (Wx s x b i k).2 (x.getD k 0) b).1, (and (Wx s x b i k).2 (x.getD k 0) b).2)
def WI (s : St) (x y : List Int) : Nat -> List Int × St
 | 0 => (qo 0, s)
 | i + 1 => ((Wc (Wx (WI s x y i).2 x (y.getD i 0) i (4 - i)).2 (WI s x y i).1 (Wx (WI s x y i).2 x (y.getD i 0) i (4 - i)).1 (-1) 4).1, (Wc (Wx (WI s x y i).2 x (y.getD i 0) i (4 - i)).2 (WI s x y i).1 (Wx (WI s x y i).2 x (y.getD i 0) i (4 - i)).1 (-1) 4).2.2)
theorem number0 : qo 0 = [-1, -1, -1, -1] := by decide +kernel
theorem partTo_len (s : St) (x : List Int) (b : Int) (i : Nat) : ∀ k, (Wx s x b i k).1.length = 4
 | 0 => rfl
 | k + 1 => by
  show ((Wx s x b i k).1.set _ _).length = 4
  rw [List.length_set, partTo_len s x b i k]
theorem prodTo_len (s : St) (x y : List Int) : ∀ i, (WI s x y i).1.length = 4
 | 0 => rfl
 | i + 1 => ZF _ _ _ _ 4
theorem minus_lim {s : St} (hs : Ok s) : ∀ v ∈ qo 0, Lim s v := fun v hv => by
 rw [number0] at hv
 have : v = -1 := by simpa using hv
 subst this
 have := hs.v0
 exact ⟨by omega, by omega⟩
theorem partTo_gate {s : St} (hs : Ok s) (hv : s.vars + 20 < 1099511627776) {x : List Int} {b : Int} (i : Nat) (hx : ∀ v ∈ x, Lim s v) (hb : Lim s b) : ∀ k : Nat, k <= 4 -> Gate s (Wx s x b i k).2 k /\ ∀ v ∈ (Wx s x b i k).1, Lim (Wx s x b i k).2 v
 | 0, _ => ⟨⟨hs, Int.le_refl _, by show s.vars <= _; omega⟩, minus_lim hs⟩
 | k + 1, hi => by
  obtain ⟨h1, h3⟩ := partTo_gate hs hv i hx hb k (by omega)
  have hh := h1.hi
  have hxk := (Wq hx hs.v0 k).mono h1.lo
  have hb1 := hb.mono h1.lo
  have g1 := Zf h1.ok (by omega) (x.getD k 0) b
  have l1 := (Zz hxk hb1 h1.ok.v0).mono g1.lo
  refine ⟨by have := h1.trans g1; rwa [show (k : Int) + 1 = ((k + 1 : Nat) : Int) by omega] at this, fun v hv => ?_⟩
  rcases List.mem_or_eq_of_mem_set hv with hv | rfl
  ·exact (h3 v hv).mono g1.lo
  ·exact l1
theorem prodTo_gate {s : St} (hs : Ok s) (hv : s.vars + 300 < 1099511627776) {x y : List Int} (hx : ∀ v ∈ x, Lim s v) (hy : ∀ v ∈ y, Lim s v) : ∀ i : Nat, i <= 4 -> Gate s (WI s x y i).2 (24 * i) /\ ∀ v ∈ (WI s x y i).1, Lim (WI s x y i).2 v
 | 0, _ => ⟨⟨hs, Int.le_refl _, by show s.vars <= _; omega⟩, minus_lim hs⟩
 | i + 1, hi => by
  obtain ⟨h1, h3⟩ := prodTo_gate hs hv hx hy i (by omega)
  have hh := h1.hi
  obtain ⟨g1, l1⟩ := partTo_gate h1.ok (by omega) i (fun v hv => (hx v hv).mono h1.lo) ((Wq hy hs.v0 i).mono h1.lo) (4 - i) (by omega)
  have k1 := g1.hi
  have hm : Lim (Wx (WI s x y i).2 x (y.getD i 0) i (4 - i)).2 (-1) := by
   have := g1.ok.v0
   exact ⟨by omega, by omega⟩
  obtain ⟨g2, _, l2⟩ := sumTo_gate g1.ok (by omega) (fun v hv => (h3 v hv).mono g1.lo) l1 hm 4 (by omega)
  have k2 := g2.hi
  have l01 := h1.lo
  have l02 := g1.lo
  have l03 := g2.lo
  refine ⟨⟨g2.ok, ?_, ?_⟩, l2⟩
  ·show s.vars <= (Wc _ _ _ _ 4).2.2.vars
   omega
  ·show (Wc _ _ _ _ 4).2.2.vars <= _
   omega
theorem product_c (s : St) (hs : Ok s) (hv : s.vars + 300 < 1099511627776) (x y : List Int) (hxl : x.length = 4) (hyl : y.length = 4) (hx : ∀ v ∈ x, Lim s v) (hy : ∀ v ∈ y, Lim s v) : BM Tryd.prog G 101 [.agg (Qq x), .agg (Qq y)] s.vars s.cl (.agg (Qq (WI s x y 4).1)) (WI s x y 4).2 := fun g0 g1 g2 g3 c2 c3 c4 m sn h2 h3 h4 hm hsn B b0 b1 b2 b3 => by
 have hv0 := hs.v0
 have hv1 := hs.v1
 have hn0 := number_c (G := G) 0
 refine Qb Tryd.func101 rfl Tryd.ntmps101 rfl (t := [(0, .ptr 0 g0 0), (1, .agg (Qq x)), (2, .agg (Qq y))]) rfl fun E hE => ?_
 have hlt := fun i hi => prodTo_gate hs hv hx hy i hi
 (repeat' first | refine Qt rfl ?_ | refine QZ rfl rfl (hn0) ?_ | refine Ql rfl rfl rfl (by first | assumption | rfl) (by first | assumption | rfl) rfl ?_ | refine QJ (fun _ _ => ?_) | refine Q5 rfl rfl (fun _ _ => ?_) | refine Qe ?_ | refine Qp rfl ?_ | refine Q0 ?_ | refine Qf ?_ | refine Qa ?_ | refine Qg ?_)
 rename_i gx hgx gy hgy gr hgr go hgo
 refine qb (fun (i gc : Nat) => ⟨[(0, .ptr 0 g0 0), (4, .ptr 4 gx 0), (5, .ptr 5 gy 0), (6, .ptr 6 gr 0), (7, .ptr 7 go 0), (12, .i i)], [.row g0 [.sc (.int .i64 (WI s x y i).2.vars), .ref 1 gc 0 (WI s x y i).2.cl.length 1, c2, c3, c4, .mp 2 g2, .mp 3 g3], .row gc (Qq (WI s x y i).2.cl), .mapb g2 (Wg m), .mapb g3 sn, .row gx (Qq x), .row gy (Qq y), .row gr [.i 0, .i 0, .i 0, .i 0], .row go (Qq (WI s x y i).1)]⟩) (fun i gc => i <= 4 /\ (gc = g1 \/ E.N < gc)) (fun i _ => 4 - i) 0 g1 ?_ ⟨by omega, .inl rfl⟩ ?_
 ·exact zal rfl
 intro i gc ⟨hi, hgc⟩
 obtain ⟨hg, hlo⟩ := hlt i (by omega)
 have hol := prodTo_len s x y i
 (repeat' first | refine QG rfl rfl ?_ | refine Qe ?_ | refine Qp rfl ?_ | refine Qf ?_ | refine Qa ?_)
 refine QE rfl (fun h => ?_) (fun h => ?_)
 ·have hiY : i < y.length := by omega
  have hb : Lim (WI s x y i).2 y[i] := (hy _ (List.getElem_mem hiY)).mono hg.lo
  have hX : ∀ v ∈ x, Lim (WI s x y i).2 v := fun v hv => (hx v hv).mono hg.lo
  have ho := hg.ok
  have hh := hg.hi
  have hs1 : WI s x y (i + 1) = ((Wc (Wx (WI s x y i).2 x y[i] i (4 - i)).2 (WI s x y i).1 (Wx (WI s x y i).2 x y[i] i (4 - i)).1 (-1) 4).1, (Wc (Wx (WI s x y i).2 x y[i] i (4 - i)).2 (WI s x y i).1 (Wx (WI s x y i).2 x y[i] i (4 - i)).1 (-1) 4).2.2) := by
   rw [<- Ord.getD_lt hiY 0]; rfl
  clear hlt hs hx hy hg
  generalize WI s x y i = p at *
  have hpt := fun k hk => partTo_gate ho (by omega) i hX hb k hk
  (repeat' first | refine Qt rfl ?_ | refine Qv rfl ?_ | refine QZ rfl rfl (hn0) ?_ | refine Ql rfl rfl rfl (by first | assumption | rfl) (by first | assumption | rfl) rfl ?_ | refine QJ (fun _ _ => ?_) | refine Qe ?_ | refine Qp rfl ?_ | refine Q0 ?_ | refine Qf ?_ | refine Qa ?_ | refine Qg ?_ | refine Qj ?_)
  rename_i gp hgp
  refine qb (fun (j gd : Nat) => ⟨[(0, .ptr 0 g0 0), (4, .ptr 4 gx 0), (5, .ptr 5 gy 0), (6, .ptr 6 gr 0), (7, .ptr 7 go 0), (8, .i i), (9, .ptr 8 gp 0), (10, .i ((i + j : Nat) : Int)), (12, .i i)], [.row g0 [.sc (.int .i64 (Wx p.2 x y[i] i j).2.vars), .ref 1 gd 0 (Wx p.2 x y[i] i j).2.cl.length 1, c2, c3, c4, .mp 2 g2, .mp 3 g3], .row gd (Qq (Wx p.2 x y[i] i j).2.cl), .mapb g2 (Wg m), .mapb g3 sn, .row gx (Qq x), .row gy (Qq y), .row gr [.i 0, .i 0, .i 0, .i 0], .row go (Qq p.1), .row gp (Qq (Wx p.2 x y[i] i j).1)]⟩) (fun j gd => i + j <= 4 /\ (gd = g1 \/ E.N < gd)) (fun j _ => 4 - j) 0 gc ?_ ⟨by omega, hgc⟩ ?_
  ·exact zal rfl
  intro j gd ⟨hj, hgd⟩
  obtain ⟨hg, hpl⟩ := hpt j (by omega)
  have hjl := partTo_len p.2 x y[i] i j
  have hjh := hg.hi
  (repeat' first | refine Qt rfl ?_ | refine QG rfl rfl ?_ | refine Qe ?_ | refine Qp rfl ?_ | refine Qf ?_ | refine Qa ?_)
  refine QE rfl (fun h => ?_) (fun h => ?_)
  ·have hjX : j < x.length := by omega
   have e0 : (((i + j : Nat) : Int) - (i : Int)).toNat = j := by omega
   have hjX2 : 0 + (((i + j : Nat) : Int) - (i : Int)).toNat * 1 < x.length := by omega
   have e2 : x[j]'hjX = x[0 + (((i + j : Nat) : Int) - (i : Int)).toNat * 1]'hjX2 := by simp only [e0]; simp
   have hss : Wx p.2 x y[i] i (j + 1) = ((Wx p.2 x y[i] i j).1.set (i + j) (and (Wx p.2 x y[i] i j).2 x[j] y[i]).1, (and (Wx p.2 x y[i] i j).2 x[j] y[i]).2) := by
    rw [<- Ord.getD_lt hjX 0]; rfl
   have hk1 := and_c (G := G) (Wx p.2 x y[i] i j).2 hg.ok (by omega) x[j] y[i] ((hX _ (List.getElem_mem hjX)).mono hg.lo) (hb.mono hg.lo)
   clear hpt hpl hX hb hs1
   generalize Wx p.2 x y[i] i j = w at *
   generalize and w.2 x[j] y[i] = q at *
   have hij : i + j < w.1.length := by omega
   rw [e2] at hk1
   (repeat' first | refine Qt rfl ?_ | refine Qv rfl ?_ | refine WB rfl rfl rfl (by omega) ?_ | refine QS rfl rfl (by omega) ?_ | refine Zd rfl rfl (hk1) rfl (fun _ _ => ?_) | refine Q2 rfl rfl rfl rfl rfl (by first | assumption | omega) rfl ?_ | refine Qe ?_ | refine Qp rfl ?_ | refine Qf ?_ | refine Qa ?_ | refine Qg ?_ | (refine Wa ?_; first | (refine Wu (fun p => p.1 :: p.2.1 :: p.2.2.1 :: p.2.2.2.1 :: .row gx (Qq x) :: .row gy (Qq y) :: p.2.2.2.2) 13 [(0, true), (1, true), (2, true), (3, true), (4, true), (5, true), (6, true), (7, true), (8, true), (9, true), (10, false), (11, false), (12, false)] (by rfl) (by rfl) (by kernel_rfl) (by decide +kernel) (by decide +kernel) ⟨(_, _, _, _, _), rfl⟩ ?_) | refine Wj (by rfl) (by kernel_rfl) (by kernel_rfl) ?_ | refine QT (by kernel_rfl) (by kernel_rfl) ?_) | refine Qj ?_ | refine i_nil ?_ | refine i_st rfl rfl (fun _ => (by (repeat' first | refine Qt rfl ?_ | refine Q9 rfl rfl rfl (by first | assumption | omega) rfl ?_ | refine WB rfl rfl rfl (by omega) ?_ | refine Zp rfl rfl rfl (by omega) (by omega) ?_ | refine Zn rfl rfl (by omega) ?_ | exact ⟨rfl, rfl⟩))) ?_ | refine i_ef rfl ?_ | refine i_ef0 ?_ | refine And.intro (Exists.intro ((_, _, _, _, _)) rfl) ?_)
   rename_i ga hga
   refine ⟨j + 1, ga, ⟨by omega, by omega⟩, by omega, ?_⟩
   rw [hss]
   exact zal rfl
  ·have hj4 : j = 4 - i := by omega
   subst hj4
   have hm1 : Lim (Wx p.2 x y[i] i (4 - i)).2 (-1) := by
    have := hg.ok.v0
    exact ⟨by omega, by omega⟩
   have hk2 := sum_c (G := G) (Wx p.2 x y[i] i (4 - i)).2 hg.ok (by omega) p.1 (Wx p.2 x y[i] i (4 - i)).1 (-1) hol hjl (fun v hv => (hlo v hv).mono hg.lo) hpl hm1
   have hzl := ZF (Wx p.2 x y[i] i (4 - i)).2 p.1 (Wx p.2 x y[i] i (4 - i)).1 (-1) 4
   generalize Wc (Wx p.2 x y[i] i (4 - i)).2 p.1 (Wx p.2 x y[i] i (4 - i)).1 (-1) 4 = z at *
   have hpl := 0
   clear hpt hX hb hlo hm1
   generalize Wx p.2 x y[i] i (4 - i) = w at *
   have w1 : (Qq p.1).length = 4 := by rw [Qz, hol]; rfl
   have w2 : (Qq w.1).length = 4 := by rw [Qz, hjl]; rfl
   have w3 : (Qq z.1).length = 4 := by rw [Qz, hzl]; rfl
   (repeat' first | refine Qt rfl ?_ | refine Qu rfl rfl (by first | assumption | rfl) ?_ | refine QS rfl rfl (by omega) ?_ | refine Zd rfl rfl (hk2) rfl (fun _ _ => ?_) | refine Ql rfl rfl rfl (by first | assumption | rfl) (by first | assumption | rfl) rfl ?_ | refine Qe ?_ | refine Qp rfl ?_ | refine Q0 ?_ | refine Qa ?_ | refine QU rfl ?_)
   rename_i ga hga
   refine ⟨i + 1, ga, ⟨by omega, by omega⟩, by omega, ?_⟩
   rw [hs1]
   exact zal rfl
 ·have hi4 : i = 4 := by omega
  subst hi4
  have w1 : (Qq (WI s x y 4).1).length = 4 := by rw [Qz, hol]; rfl
  (repeat' first | refine Qu rfl rfl (by first | assumption | rfl) ?_ | refine Ql rfl rfl rfl (by first | assumption | rfl) (by first | assumption | rfl) rfl ?_ | refine Qe ?_ | refine Qp rfl ?_ | refine Q0 ?_ | refine Qf ?_ | refine Qa ?_ | refine QU rfl ?_ | refine Qm ?_)
  exact e_1 (Tryd.results101) (QY (size := 4) rfl rfl rfl w1) (QC (σ := [_, _, _, _]) (r := [_, _, _, _]) ⟨rfl, gc, by omega, rfl⟩)
end Go.Proofs
end
section
namespace Go.Bl
def ltv (a : Nat -> Bool) (x : Int) : Bool := if 0 < x then a x.toNat else !(a (-x).toNat)
def Lt (n : Int) (x : Int) : Prop := x ≠ 0 /\ -n <= x /\ x <= n
def al (a : Nat -> Bool) (v : Int) : Int := if a v.toNat = true then v else -v
def Forced (a : Nat -> Bool) (cl : List (List Int)) (v : Int) : Prop := ∃ c ∈ cl, al a v ∈ c /\ ∀ y ∈ c, y = al a v \/ (ltv a y = false /\ -v < y /\ y < v)
structure GoodB (base : Int -> Prop) (p : Prop) (f : Int) (a : Nat -> Bool) (s : St) : Prop where
 v1 : 1 <= s.vars
 t : a 1 = true
 sat : ∀ c ∈ s.cl, p -> ∃ y ∈ c, ltv a y = true
 lits : ∀ c ∈ s.cl, ∀ y ∈ c, Lt s.vars y
 force : ∀ v, 1 <= v -> v <= f -> base v \/ Forced a s.cl v
def Agree (n : Int) (a a' : Nat -> Bool) : Prop := ∀ k : Nat, (k : Int) <= n -> a' k = a k
structure Le (s s' : St) : Prop where
 v : s.vars <= s'.vars
 c : s.cl.length <= s'.cl.length
structure Ext (base : Int -> Prop) (p : Prop) (a : Nat -> Bool) (s : St) (a' : Nat -> Bool) (s' : St) : Prop where
 good : GoodB base p s'.vars a' s'
 ag : Agree s.vars a a'
 le : s.vars <= s'.vars
theorem Lt.neg {n x : Int} (h : Lt n x) : Lt n (-x) := by obtain ⟨h1, h2, h3⟩ := h; exact ⟨by omega, by omega, by omega⟩
theorem Lt.mono {n m x : Int} (h : Lt n x) (hm : n <= m) : Lt m x := by obtain ⟨h1, h2, h3⟩ := h; exact ⟨h1, by omega, by omega⟩
theorem WS {a : Nat -> Bool} {x : Int} (h : x ≠ 0) : ltv a (-x) = !ltv a x := by
 unfold ltv
 by_cases h1 : 0 < x
 ·rw [if_neg (by omega), if_pos h1, Int.neg_neg]
 ·rw [if_pos (by omega), if_neg h1, Bool.not_not]
theorem Zr {n : Int} {a a' : Nat -> Bool} (h : Agree n a a') {x : Int} (hx : Lt n x) : ltv a' x = ltv a x := by
 obtain ⟨h1, h2, h3⟩ := hx
 unfold ltv
 rw [h x.toNat, h (-x).toNat]
 all_goals omega
theorem ltv_one {a : Nat -> Bool} (h : a 1 = true) : ltv a 1 = true := h
theorem ltv_m1 {a : Nat -> Bool} (h : a 1 = true) : ltv a (-1) = false := by show (!(a 1)) = false; rw [h]; rfl
theorem ltv_al {a : Nat -> Bool} {v : Int} (hv : 0 < v) : ltv a (al a v) = true := by
 unfold al
 cases h : a v.toNat
 ·rw [if_neg (by simp)]
  unfold ltv; rw [if_neg (by omega), Int.neg_neg, h]; rfl
 ·rw [if_pos rfl]
  unfold ltv; rw [if_pos hv, h]
theorem Agree.refl (n : Int) (a : Nat -> Bool) : Agree n a a := fun _ _ => rfl
theorem Agree.trans {n m : Int} {a b c : Nat -> Bool} (h : Agree n a b) (k : Agree m b c) (hm : n <= m) : Agree n a c := fun i hi => (k i (by omega)).trans (h i hi)
theorem Le.refl (s : St) : Le s s := ⟨Int.le_refl _, Nat.le_refl _⟩
theorem Le.trans {s t u : St} (h : Le s t) (k : Le t u) : Le s u := ⟨Int.le_trans h.v k.v, Nat.le_trans h.c k.c⟩
theorem Le.nf {s t : St} (h : Le s t) (nf : Zy t = false) : Zy s = false := by
 unfold Zy at *
 rw [Bool.or_eq_false_iff] at *
 obtain ⟨h1, h2⟩ := nf
 have h1 := of_decide_eq_false h1
 have h2 := of_decide_eq_false h2
 have := h.v
 have := h.c
 exact ⟨decide_eq_false (by omega), decide_eq_false (by omega)⟩
theorem Ext.refl {base : Int -> Prop} {p : Prop} {a : Nat -> Bool} {s : St} (h : GoodB base p s.vars a s) : Ext base p a s a s := ⟨h, .refl _ _, Int.le_refl _⟩
theorem Ext.trans {base : Int -> Prop} {p : Prop} {a b c : Nat -> Bool} {s t u : St} (h : Ext base p a s b t) (k : Ext base p b t c u) : Ext base p a s c u := ⟨k.good, h.ag.trans k.ag h.le, Int.le_trans h.le k.le⟩
theorem Ext.ltv {base : Int -> Prop} {p : Prop} {a b : Nat -> Bool} {s t : St} (h : Ext base p a s b t) {x : Int} (hx : Lt s.vars x) : Bl.ltv b x = Bl.ltv a x := Zr h.ag hx
theorem Ext.lt {base : Int -> Prop} {p : Prop} {a b : Nat -> Bool} {s t : St} (h : Ext base p a s b t) {x : Int} (hx : Lt s.vars x) : Lt t.vars x := hx.mono h.le
theorem Z9 (s : St) (l : List Int) : Le s (add s l) := by
 unfold add
 split
 ·exact .refl s
 ·exact ⟨Int.le_refl _, by simp⟩
theorem fresh_le (s : St) : Le s (fresh s) := ⟨by show s.vars <= s.vars + 1; omega, Nat.le_refl _⟩
theorem and_le (s : St) (x y : Int) : Le s (and s x y).2 := by
 unfold and
 split
 ·exact .refl s
 ·split
  ·exact .refl s
  ·split
   ·exact .refl s
   ·exact (((fresh_le s).trans (Z9 _ _)).trans (Z9 _ _)).trans (Z9 _ _)
theorem or_le (s : St) (x y : Int) : Le s (or s x y).2 := and_le s (-x) (-y)
theorem xor_le (s : St) (x y : Int) : Le s (xor s x y).2 := by
 unfold xor
 split
 ·exact .refl s
 ·split
  ·exact .refl s
  ·split
   ·exact .refl s
   ·split
    ·exact .refl s
    ·exact ((((fresh_le s).trans (Z9 _ _)).trans (Z9 _ _)).trans (Z9 _ _)).trans (Z9 _ _)
theorem Forced.mono {a : Nat -> Bool} {cl cl' : List (List Int)} {v : Int} (h : Forced a cl v) (hc : ∀ c ∈ cl, c ∈ cl') : Forced a cl' v := by
 obtain ⟨c, h1, h2⟩ := h; exact ⟨c, hc c h1, h2⟩
theorem Z8 (s : St) (l : List Int) : ∀ c ∈ s.cl, c ∈ (add s l).cl := fun c hc => by
 unfold add
 split
 ·exact hc
 ·exact List.mem_append.2 (.inl hc)
theorem add_nf {s : St} {l : List Int} (nf : Zy s = false) : add s l = if l.contains 1 = true then s else ⟨s.vars, s.cl ++ [kept l]⟩ := by
 unfold add; rw [nf]; rfl
theorem mem_kept {l : List Int} {y : Int} : y ∈ kept l ↔ y ∈ l /\ y ≠ -1 := by
 unfold kept
 rw [List.mem_filter]
 simp
theorem GoodB.add {base : Int -> Prop} {p : Prop} {f : Int} {a : Nat -> Bool} {s : St} (h : GoodB base p f a s) (nf : Zy s = false) {l : List Int} (hl : ∀ y ∈ l, Lt s.vars y) (ht : p -> ∃ y ∈ l, ltv a y = true) : GoodB base p f a (add s l) := by
 have hv := WG s l
 refine ⟨by rw [hv]; exact h.v1, h.t, ?_, ?_, fun v h1 h2 => (h.force v h1 h2).imp id fun h => h.mono (Z8 s l)⟩
 ·rw [add_nf nf]
  split
  ·exact h.sat
  ·intro c hc hp
   rcases List.mem_append.1 hc with hc | hc
   ·exact h.sat c hc hp
   ·rw [List.mem_singleton.1 hc]
    obtain ⟨y, hy, hy'⟩ := ht hp
    exact ⟨y, mem_kept.2 ⟨hy, fun e => by rw [e, ltv_m1 h.t] at hy'; cases hy'⟩, hy'⟩
 ·rw [hv]
  rw [add_nf nf]
  split
  ·exact h.lits
  ·intro c hc y hy
   rcases List.mem_append.1 hc with hc | hc
   ·exact h.lits c hc y hy
   ·rw [List.mem_singleton.1 hc] at hy
    exact hl y (mem_kept.1 hy).1
theorem ZY {a : Nat -> Bool} {s : St} (nf : Zy s = false) {l : List Int} {v : Int} (hv : 2 <= v) (h1 : (1 : Int) ∉ l) (hm : al a v ∈ l) (ho : ∀ y ∈ l, y = al a v \/ (ltv a y = false /\ -v < y /\ y < v)) : Forced a (Bl.add s l).cl v := by
 rw [add_nf nf, if_neg (by simpa using h1)]
 refine ⟨kept l, List.mem_append.2 (.inr (List.mem_singleton.2 rfl)), mem_kept.2 ⟨hm, ?_⟩, fun y hy => ho y (mem_kept.1 hy).1⟩
 unfold al
 split <;> omega
def WH (a : Nat -> Bool) (v : Int) (b : Bool) : Nat -> Bool := fun n => if (n : Int) = v then b else a n
theorem ZJ {a : Nat -> Bool} {n : Int} {b : Bool} : Agree n a (WH a (n + 1) b) := fun k hk => by unfold WH; rw [if_neg (by omega)]
theorem setA1_ltv {a : Nat -> Bool} {v : Int} {b : Bool} (hv : 0 < v) : ltv (WH a v b) v = b := by
 unfold ltv WH
 rw [if_pos hv, if_pos (by omega)]
theorem al_of {a : Nat -> Bool} {v : Int} (hv : 0 < v) : al a v = if ltv a v = true then v else -v := by
 unfold al ltv; rw [if_pos hv]
theorem GoodB.fresh {base : Int -> Prop} {p : Prop} {a : Nat -> Bool} {s : St} (h : GoodB base p s.vars a s) (b : Bool) : GoodB base p s.vars (WH a (s.vars + 1) b) (fresh s) := by
 have hag : Agree s.vars a (WH a (s.vars + 1) b) := ZJ
 have h1 := h.v1
 refine ⟨by show 1 <= s.vars + 1; omega, by rw [hag 1 (by omega)]; exact h.t, fun c hc hp => ?_, fun c hc y hy => (h.lits c hc y hy).mono (by show s.vars <= s.vars + 1; omega), fun v hv1 hv2 => (h.force v hv1 hv2).imp id fun hf => ?_⟩
 ·obtain ⟨y, hy, ht⟩ := h.sat c hc hp
  exact ⟨y, hy, by rw [Zr hag (h.lits c hc y hy)]; exact ht⟩
 ·obtain ⟨c, hc, hm, ho⟩ := hf
  have e : al (WH a (s.vars + 1) b) v = al a v := by unfold al; rw [hag v.toNat (by omega)]
  refine ⟨c, hc, by rw [e]; exact hm, fun y hy => ?_⟩
  rw [e, Zr hag (h.lits c hc y hy)]
  exact ho y hy
theorem GoodB.up {base : Int -> Prop} {p : Prop} {f : Int} {a : Nat -> Bool} {s : St} (h : GoodB base p f a s) (hf : Forced a s.cl (f + 1)) : GoodB base p (f + 1) a s :=
 ⟨h.v1, h.t, h.sat, h.lits, fun v h1 h2 => by
  by_cases h3 : v <= f
  ·exact h.force v h1 h3
  ·have : v = f + 1 := by omega
   subst this; exact .inr hf⟩
section
variable {base : Int -> Prop} {p : Prop}
def GateSem (base : Int -> Prop) (p : Prop) (gm : St -> Int -> Int -> Int × St) (gb : Bool -> Bool -> Bool) : Prop :=
 ∀ (a : Nat -> Bool) (s : St) (x y : Int), GoodB base p s.vars a s -> Lt s.vars x -> Lt s.vars y -> Zy (gm s x y).2 = false -> ∃ a', Ext base p a s a' (gm s x y).2 /\ Lt (gm s x y).2.vars (gm s x y).1 /\ ltv a' (gm s x y).1 = gb (ltv a x) (ltv a y)
theorem lt_one {a : Nat -> Bool} {s : St} {f : Int} (h : GoodB base p f a s) : Lt s.vars 1 := ⟨by decide, by have := h.v1; omega, h.v1⟩
theorem and_sem : GateSem base p and (fun u v => u && v) := fun a s x y g hx hy nf => by
 have hv1 := g.v1
 unfold and at nf ⊢
 by_cases c1 : x = 1 \/ x = y
 ·rw [if_pos c1] at nf ⊢
  refine ⟨a, .refl g, hy, ?_⟩
  rcases c1 with rfl | rfl
  ·rw [ltv_one g.t]; rfl
  ·cases ltv a x <;> rfl
 rw [if_neg c1] at nf ⊢
 by_cases c2 : y = 1
 ·rw [if_pos c2] at nf ⊢
  refine ⟨a, .refl g, hx, ?_⟩
  rw [c2, ltv_one g.t]; cases ltv a x <;> rfl
 rw [if_neg c2] at nf ⊢
 by_cases c3 : x = -1 \/ y = -1 \/ x = -y
 ·rw [if_pos c3] at nf ⊢
  refine ⟨a, .refl g, (lt_one g).neg, ?_⟩
  rw [ltv_m1 g.t]
  rcases c3 with rfl | rfl | rfl
  ·rw [ltv_m1 g.t]; rfl
  ·rw [ltv_m1 g.t]; cases ltv a x <;> rfl
  ·rw [WS hy.1]; cases ltv a y <;> rfl
 rw [if_neg c3] at nf ⊢
 have n3 := (Z9 _ _).nf nf
 have n2 := (Z9 _ _).nf n3
 have n1 := (Z9 _ _).nf n2
 obtain ⟨w, hw⟩ : ∃ w, w = (ltv a x && ltv a y) := ⟨_, rfl⟩
 have hag : Agree s.vars a (WH a (s.vars + 1) w) := ZJ
 have gf := g.fresh w
 have ex := Zr hag hx
 have ey := Zr hag hy
 have ez : ltv (WH a (s.vars + 1) w) (s.vars + 1) = w := setA1_ltv (by omega)
 have ea : al (WH a (s.vars + 1) w) (s.vars + 1) = if w = true then s.vars + 1 else -(s.vars + 1) := by rw [al_of (by omega), ez]
 have enz : ltv (WH a (s.vars + 1) w) (-(s.vars + 1)) = !w := by rw [WS (by omega), ez]
 have enx : ltv (WH a (s.vars + 1) w) (-x) = !ltv a x := by rw [WS hx.1, ex]
 have eny : ltv (WH a (s.vars + 1) w) (-y) = !ltv a y := by rw [WS hy.1, ey]
 generalize WH a (s.vars + 1) w = a' at *
 have hm : s.vars <= s.vars + 1 := by omega
 obtain ⟨hx1, hx2, hx3⟩ := hx
 obtain ⟨hy1, hy2, hy3⟩ := hy
 have fv : (fresh s).vars = s.vars + 1 := rfl
 have lz : Lt (s.vars + 1) (s.vars + 1) := ⟨by omega, by omega, by omega⟩
 have lx : Lt (s.vars + 1) x := ⟨hx1, by omega, by omega⟩
 have ly : Lt (s.vars + 1) y := ⟨hy1, by omega, by omega⟩
 have k1 := gf.add (l := [-x, -y, s.vars + 1]) n1 (by simp only [fv, List.mem_cons, List.not_mem_nil, or_false, forall_eq_or_imp, forall_eq]; exact ⟨lx.neg, ly.neg, lz⟩) fun _ => by
  cases hx' : ltv a x
  ·exact ⟨-x, by simp, by rw [enx, hx']; rfl⟩
  ·cases hy' : ltv a y
   ·exact ⟨-y, by simp, by rw [eny, hy']; rfl⟩
   ·exact ⟨s.vars + 1, by simp, by rw [ez, hw, hx', hy']; rfl⟩
 have k2 := k1.add (l := [x, -(s.vars + 1)]) n2 (by simp only [WG, fv, List.mem_cons, List.not_mem_nil, or_false, forall_eq_or_imp, forall_eq]; exact ⟨lx, lz.neg⟩) fun _ => by
  cases hx' : ltv a x
  ·exact ⟨-(s.vars + 1), by simp, by rw [enz, hw, hx']; rfl⟩
  ·exact ⟨x, by simp, by rw [ex, hx']⟩
 have k3 := k2.add (l := [y, -(s.vars + 1)]) n3 (by simp only [WG, fv, List.mem_cons, List.not_mem_nil, or_false, forall_eq_or_imp, forall_eq]; exact ⟨ly, lz.neg⟩) fun _ => by
  cases hy' : ltv a y
  ·exact ⟨-(s.vars + 1), by simp, by rw [enz, hw, hy']; cases ltv a x <;> rfl⟩
  ·exact ⟨y, by simp, by rw [ey, hy']⟩
 have hf : Forced a' (Bl.add (Bl.add (Bl.add (fresh s) [-x, -y, s.vars + 1]) [x, -(s.vars + 1)]) [y, -(s.vars + 1)]).cl (s.vars + 1) := by
  cases hx' : ltv a x
  ·have hw' : w = false := by rw [hw, hx']; rfl
   refine (ZY n2 (by omega) (by simp; omega) (by rw [ea, hw']; simp) ?_).mono (Z8 _ _)
   rw [ea, hw']
   simp only [List.mem_cons, List.not_mem_nil, or_false, forall_eq_or_imp, forall_eq]
   exact ⟨.inr ⟨by rw [ex, hx'], by omega, by omega⟩, .inl rfl⟩
  ·cases hy' : ltv a y
   ·have hw' : w = false := by rw [hw, hx', hy']; rfl
    refine ZY n3 (by omega) (by simp; omega) (by rw [ea, hw']; simp) ?_
    rw [ea, hw']
    simp only [List.mem_cons, List.not_mem_nil, or_false, forall_eq_or_imp, forall_eq]
    exact ⟨.inr ⟨by rw [ey, hy'], by omega, by omega⟩, .inl rfl⟩
   ·have hw' : w = true := by rw [hw, hx', hy']; rfl
    refine ((ZY n1 (by omega) (by simp; omega) (by rw [ea, hw']; simp) ?_).mono (Z8 _ _)).mono (Z8 _ _)
    rw [ea, hw']
    simp only [List.mem_cons, List.not_mem_nil, or_false, forall_eq_or_imp, forall_eq]
    exact ⟨.inr ⟨by rw [enx, hx']; rfl, by omega, by omega⟩, .inr ⟨by rw [eny, hy']; rfl, by omega, by omega⟩, .inl rfl⟩
 have hvars : (Bl.add (Bl.add (Bl.add (fresh s) [-x, -y, s.vars + 1]) [x, -(s.vars + 1)]) [y, -(s.vars + 1)]).vars = s.vars + 1 := by rw [WG, WG, WG]; rfl
 refine ⟨a', ⟨by rw [hvars]; exact k3.up hf, hag, by rw [hvars]; omega⟩, by rw [hvars]; exact lz, by rw [ez, hw]⟩
theorem or_sem : GateSem base p or (fun u v => u || v) := fun a s x y g hx hy nf => by
 obtain ⟨a', h1, h2, h3⟩ := and_sem a s (-x) (-y) g hx.neg hy.neg nf
 refine ⟨a', h1, h2.neg, ?_⟩
 show ltv a' (-(and s (-x) (-y)).1) = _
 rw [WS h2.1, h3, WS hx.1, WS hy.1]
 cases ltv a x <;> cases ltv a y <;> rfl
theorem xor_sem : GateSem base p xor (fun u v => u != v) := fun a s x y g hx hy nf => by
 have hv1 := g.v1
 unfold xor at nf ⊢
 by_cases c1 : x = y
 ·rw [if_pos c1] at nf ⊢
  refine ⟨a, .refl g, (lt_one g).neg, ?_⟩
  rw [ltv_m1 g.t, c1]; cases ltv a y <;> rfl
 rw [if_neg c1] at nf ⊢
 by_cases c2 : x = -y
 ·rw [if_pos c2] at nf ⊢
  refine ⟨a, .refl g, lt_one g, ?_⟩
  rw [ltv_one g.t, c2, WS hy.1]; cases ltv a y <;> rfl
 rw [if_neg c2] at nf ⊢
 by_cases c3 : x = 1 \/ x = -1
 ·rw [if_pos c3] at nf ⊢
  rcases c3 with rfl | rfl
  ·refine ⟨a, .refl g, by show Lt _ (y * -1); rw [show y * -1 = -y by omega]; exact hy.neg, ?_⟩
   show ltv a (y * -1) = _
   rw [show y * -1 = -y by omega, WS hy.1, ltv_one g.t]; cases ltv a y <;> rfl
  ·refine ⟨a, .refl g, by show Lt _ (y * - -1); rw [show y * - -1 = y by omega]; exact hy, ?_⟩
   show ltv a (y * - -1) = _
   rw [show y * - -1 = y by omega, ltv_m1 g.t]; cases ltv a y <;> rfl
 rw [if_neg c3] at nf ⊢
 by_cases c4 : y = 1 \/ y = -1
 ·rw [if_pos c4] at nf ⊢
  rcases c4 with rfl | rfl
  ·refine ⟨a, .refl g, by show Lt _ (x * -1); rw [show x * -1 = -x by omega]; exact hx.neg, ?_⟩
   show ltv a (x * -1) = _
   rw [show x * -1 = -x by omega, WS hx.1, ltv_one g.t]; cases ltv a x <;> rfl
  ·refine ⟨a, .refl g, by show Lt _ (x * - -1); rw [show x * - -1 = x by omega]; exact hx, ?_⟩
   show ltv a (x * - -1) = _
   rw [show x * - -1 = x by omega, ltv_m1 g.t]; cases ltv a x <;> rfl
 rw [if_neg c4] at nf ⊢
 have n4 := (Z9 _ _).nf nf
 have n3 := (Z9 _ _).nf n4
 have n2 := (Z9 _ _).nf n3
 have n1 := (Z9 _ _).nf n2
 obtain ⟨w, hw⟩ : ∃ w, w = (ltv a x != ltv a y) := ⟨_, rfl⟩
 have hag : Agree s.vars a (WH a (s.vars + 1) w) := ZJ
 have gf := g.fresh w
 have ex := Zr hag hx
 have ey := Zr hag hy
 have ez : ltv (WH a (s.vars + 1) w) (s.vars + 1) = w := setA1_ltv (by omega)
 have ea : al (WH a (s.vars + 1) w) (s.vars + 1) = if w = true then s.vars + 1 else -(s.vars + 1) := by rw [al_of (by omega), ez]
 have enz : ltv (WH a (s.vars + 1) w) (-(s.vars + 1)) = !w := by rw [WS (by omega), ez]
 have enx : ltv (WH a (s.vars + 1) w) (-x) = !ltv a x := by rw [WS hx.1, ex]
 have eny : ltv (WH a (s.vars + 1) w) (-y) = !ltv a y := by rw [WS hy.1, ey]
 generalize WH a (s.vars + 1) w = a' at *
 obtain ⟨hx1, hx2, hx3⟩ := hx
 obtain ⟨hy1, hy2, hy3⟩ := hy
 have fv : (fresh s).vars = s.vars + 1 := rfl
 have lz : Lt (s.vars + 1) (s.vars + 1) := ⟨by omega, by omega, by omega⟩
 have lx : Lt (s.vars + 1) x := ⟨hx1, by omega, by omega⟩
 have ly : Lt (s.vars + 1) y := ⟨hy1, by omega, by omega⟩
 have k1 := gf.add (l := [-x, -y, -(s.vars + 1)]) n1 (by simp only [fv, List.mem_cons, List.not_mem_nil, or_false, forall_eq_or_imp, forall_eq]; exact ⟨lx.neg, ly.neg, lz.neg⟩) fun _ => by
  cases hx' : ltv a x
  ·exact ⟨-x, by simp, by rw [enx, hx']; rfl⟩
  ·cases hy' : ltv a y
   ·exact ⟨-y, by simp, by rw [eny, hy']; rfl⟩
   ·exact ⟨-(s.vars + 1), by simp, by rw [enz, hw, hx', hy']; rfl⟩
 have k2 := k1.add (l := [x, y, -(s.vars + 1)]) n2 (by simp only [WG, fv, List.mem_cons, List.not_mem_nil, or_false, forall_eq_or_imp, forall_eq]; exact ⟨lx, ly, lz.neg⟩) fun _ => by
  cases hx' : ltv a x
  ·cases hy' : ltv a y
   ·exact ⟨-(s.vars + 1), by simp, by rw [enz, hw, hx', hy']; rfl⟩
   ·exact ⟨y, by simp, by rw [ey, hy']⟩
  ·exact ⟨x, by simp, by rw [ex, hx']⟩
 have k3 := k2.add (l := [-x, y, s.vars + 1]) n3 (by simp only [WG, fv, List.mem_cons, List.not_mem_nil, or_false, forall_eq_or_imp, forall_eq]; exact ⟨lx.neg, ly, lz⟩) fun _ => by
  cases hx' : ltv a x
  ·exact ⟨-x, by simp, by rw [enx, hx']; rfl⟩
  ·cases hy' : ltv a y
   ·exact ⟨s.vars + 1, by simp, by rw [ez, hw, hx', hy']; rfl⟩
   ·exact ⟨y, by simp, by rw [ey, hy']⟩
 have k4 := k3.add (l := [x, -y, s.vars + 1]) n4 (by simp only [WG, fv, List.mem_cons, List.not_mem_nil, or_false, forall_eq_or_imp, forall_eq]; exact ⟨lx, ly.neg, lz⟩) fun _ => by
  cases hx' : ltv a x
  ·cases hy' : ltv a y
   ·exact ⟨-y, by simp, by rw [eny, hy']; rfl⟩
   ·exact ⟨s.vars + 1, by simp, by rw [ez, hw, hx', hy']; rfl⟩
  ·exact ⟨x, by simp, by rw [ex, hx']⟩
 have hf : Forced a' (Bl.add (Bl.add (Bl.add (Bl.add (fresh s) [-x, -y, -(s.vars + 1)]) [x, y, -(s.vars + 1)]) [-x, y, s.vars + 1]) [x, -y, s.vars + 1]).cl (s.vars + 1) := by
  cases hx' : ltv a x <;> cases hy' : ltv a y
  ·have hw' : w = false := by rw [hw, hx', hy']; rfl
   refine ((ZY n2 (by omega) (by simp; omega) (by rw [ea, hw']; simp) ?_).mono (Z8 _ _)).mono (Z8 _ _)
   rw [ea, hw']
   simp only [List.mem_cons, List.not_mem_nil, or_false, forall_eq_or_imp, forall_eq]
   exact ⟨.inr ⟨by rw [ex, hx'], by omega, by omega⟩, .inr ⟨by rw [ey, hy'], by omega, by omega⟩, .inl rfl⟩
  ·have hw' : w = true := by rw [hw, hx', hy']; rfl
   refine ZY n4 (by omega) (by simp; omega) (by rw [ea, hw']; simp) ?_
   rw [ea, hw']
   simp only [List.mem_cons, List.not_mem_nil, or_false, forall_eq_or_imp, forall_eq]
   exact ⟨.inr ⟨by rw [ex, hx'], by omega, by omega⟩, .inr ⟨by rw [eny, hy']; rfl, by omega, by omega⟩, .inl rfl⟩
  ·have hw' : w = true := by rw [hw, hx', hy']; rfl
   refine (ZY n3 (by omega) (by simp; omega) (by rw [ea, hw']; simp) ?_).mono (Z8 _ _)
   rw [ea, hw']
   simp only [List.mem_cons, List.not_mem_nil, or_false, forall_eq_or_imp, forall_eq]
   exact ⟨.inr ⟨by rw [enx, hx']; rfl, by omega, by omega⟩, .inr ⟨by rw [ey, hy'], by omega, by omega⟩, .inl rfl⟩
  ·have hw' : w = false := by rw [hw, hx', hy']; rfl
   refine (((ZY n1 (by omega) (by simp; omega) (by rw [ea, hw']; simp) ?_).mono (Z8 _ _)).mono (Z8 _ _)).mono (Z8 _ _)
   rw [ea, hw']
   simp only [List.mem_cons, List.not_mem_nil, or_false, forall_eq_or_imp, forall_eq]
   exact ⟨.inr ⟨by rw [enx, hx']; rfl, by omega, by omega⟩, .inr ⟨by rw [eny, hy']; rfl, by omega, by omega⟩, .inl rfl⟩
 have hvars : (Bl.add (Bl.add (Bl.add (Bl.add (fresh s) [-x, -y, -(s.vars + 1)]) [x, y, -(s.vars + 1)]) [-x, y, s.vars + 1]) [x, -y, s.vars + 1]).vars = s.vars + 1 := by rw [WG, WG, WG, WG]; rfl
 refine ⟨a', ⟨by rw [hvars]; exact k4.up hf, hag, by rw [hvars]; omega⟩, by rw [hvars]; exact lz, by rw [ez, hw]⟩
end
end Go.Bl
end
section
namespace Go.Proofs
open Go.Bl
section
variable {base : Int -> Prop} {p : Prop}
def Bits4 (a : Nat -> Bool) (n : Int) (x : List Int) (f : Nat -> Bool) : Prop := ∀ i, i < 4 -> Lt n (x.getD i 0) /\ ltv a (x.getD i 0) = f i
theorem Bits4.ext {a b : Nat -> Bool} {s t : St} {x : List Int} {f : Nat -> Bool} (h : Bits4 a s.vars x f) (e : Ext base p a s b t) : Bits4 b t.vars x f := fun i hi => ⟨e.lt (h i hi).1, by rw [e.ltv (h i hi).1]; exact (h i hi).2⟩
theorem getD_set (l : List Int) (i j : Nat) (v : Int) (h : i < l.length) : (l.set i v).getD j 0 = if i = j then v else l.getD j 0 := by
 rw [List.getD_eq_getElem?_getD, List.getElem?_set, List.getD_eq_getElem?_getD]
 by_cases e : i = j
 ·subst e; rw [if_pos rfl, if_pos h, if_pos rfl]; rfl
 ·rw [if_neg e, if_neg e]
theorem mux_le (s : St) (c x y : Int) : Le s (muxM s c x y).2 := ((and_le s c x).trans (and_le _ _ _)).trans (or_le _ _ _)
theorem mux_sem {a : Nat -> Bool} {s : St} {c x y : Int} (g : GoodB base p s.vars a s) (hc : Lt s.vars c) (hx : Lt s.vars x) (hy : Lt s.vars y) (nf : Zy (muxM s c x y).2 = false) :
  ∃ a', Ext base p a s a' (muxM s c x y).2 /\ Lt (muxM s c x y).2.vars (muxM s c x y).1 /\ ltv a' (muxM s c x y).1 = if ltv a c = true then ltv a x else ltv a y := by
 have n2 := (or_le _ _ _).nf nf
 have n1 := (and_le _ _ _).nf n2
 obtain ⟨a1, e1, l1, v1⟩ := and_sem a s c x g hc hx n1
 obtain ⟨a2, e2, l2, v2⟩ := and_sem a1 _ (-c) y e1.good (e1.lt hc.neg) (e1.lt hy) n2
 obtain ⟨a3, e3, l3, v3⟩ := or_sem a2 _ _ _ e2.good (e2.lt l1) l2 nf
 refine ⟨a3, (e1.trans e2).trans e3, l3, ?_⟩
 refine v3.trans ?_
 rw [e2.ltv l1, v1, v2, e1.ltv hc.neg, e1.ltv hy, WS hc.1]
 cases ltv a c <;> cases ltv a x <;> cases ltv a y <;> rfl
theorem sum_le (s : St) (x y : List Int) (c : Int) : ∀ i, Le s (Wc s x y c i).2.2
 | 0 => .refl s
 | i + 1 => (sum_le s x y c i).trans (((((xor_le _ _ _).trans (xor_le _ _ _)).trans (and_le _ _ _)).trans (and_le _ _ _)).trans (or_le _ _ _))
def carB (f g : Nat -> Bool) (c : Bool) : Nat -> Bool
 | 0 => c
 | i + 1 => (f i && g i) || ((f i != g i) && carB f g c i)
def sumB (f g : Nat -> Bool) (c : Bool) (i : Nat) : Bool := (f i != g i) != carB f g c i
theorem sum_sem {a : Nat -> Bool} {s : St} {x y : List Int} {c : Int} {f h : Nat -> Bool} (g : GoodB base p s.vars a s) (hx : Bits4 a s.vars x f) (hy : Bits4 a s.vars y h) (hc : Lt s.vars c) :
  ∀ i, i <= 4 -> Zy (Wc s x y c i).2.2 = false -> ∃ a', Ext base p a s a' (Wc s x y c i).2.2 /\ (Lt (Wc s x y c i).2.2.vars (Wc s x y c i).2.1 /\ ltv a' (Wc s x y c i).2.1 = carB f h (ltv a c) i) /\
   ∀ j, j < i -> Lt (Wc s x y c i).2.2.vars ((Wc s x y c i).1.getD j 0) /\ ltv a' ((Wc s x y c i).1.getD j 0) = sumB f h (ltv a c) j
 | 0, _, nf => ⟨a, .refl g, ⟨hc, rfl⟩, fun j hj => absurd hj (by omega)⟩
 | i + 1, hi, nf => by
  have hlen := ZF s x y c i
  have n5 : Zy (Wc s x y c (i + 1)).2.2 = false := nf
  have eo : Wc s x y c (i + 1) = (let p := Wc s x y c i; let h := xor p.2.2 (x.getD i 0) (y.getD i 0); let o := xor h.2 h.1 p.2.1; let a := and o.2 (x.getD i 0) (y.getD i 0); let b := and a.2 h.1 p.2.1; let r := or b.2 a.1 b.1; (p.1.set i o.1, r.1, r.2)) := rfl
  rw [eo] at nf ⊢
  generalize hp : Wc s x y c i = q at nf hlen ⊢
  dsimp only at nf ⊢
  have n4 := (or_le _ _ _).nf nf
  have n3 := (and_le _ _ _).nf n4
  have n2 := (and_le _ _ _).nf n3
  have n1 := (xor_le _ _ _).nf n2
  have n0 := (xor_le _ _ _).nf n1
  have ih := sum_sem g hx hy hc i (by omega) (by rw [hp]; exact n0)
  rw [hp] at ih
  obtain ⟨a0, e0, ⟨lc, vc⟩, ho⟩ := ih
  obtain ⟨lx, vx⟩ := hx i (by omega)
  obtain ⟨ly, vy⟩ := hy i (by omega)
  obtain ⟨a1, e1, l1, v1⟩ := xor_sem a0 _ _ _ e0.good (e0.lt lx) (e0.lt ly) n1
  obtain ⟨a2, e2, l2, v2⟩ := xor_sem a1 _ _ _ e1.good l1 (e1.lt lc) n2
  obtain ⟨a3, e3, l3, v3⟩ := and_sem a2 _ _ _ e2.good (e2.lt (e1.lt (e0.lt lx))) (e2.lt (e1.lt (e0.lt ly))) n3
  obtain ⟨a4, e4, l4, v4⟩ := and_sem a3 _ _ _ e3.good (e3.lt (e2.lt l1)) (e3.lt (e2.lt (e1.lt lc))) n4
  obtain ⟨a5, e5, l5, v5⟩ := or_sem a4 _ _ _ e4.good (e4.lt l3) l4 nf
  have e25 := (e3.trans e4).trans e5
  have e15 := e2.trans e25
  have e05 := e1.trans e15
  refine ⟨a5, e0.trans e05, ⟨l5, ?_⟩, fun j hj => ?_⟩
  ·refine v5.trans ?_
   rw [e4.ltv l3, v3, v4, e3.ltv (e2.lt l1), e2.ltv l1, v1, e3.ltv (e2.lt (e1.lt lc)), e2.ltv (e1.lt lc), e1.ltv lc, vc, e2.ltv (e1.lt (e0.lt lx)), e1.ltv (e0.lt lx), e0.ltv lx, vx, e2.ltv (e1.lt (e0.lt ly)), e1.ltv (e0.lt ly), e0.ltv ly, vy]
   rfl
  ·rw [getD_set _ _ _ _ (by omega)]
   by_cases hij : i = j
   ·subst hij
    rw [if_pos rfl]
    refine ⟨e25.lt l2, ?_⟩
    rw [e25.ltv l2, v2, v1, e1.ltv lc, vc, e0.ltv lx, vx, e0.ltv ly, vy]
    rfl
   ·rw [if_neg hij]
    obtain ⟨lj, vj⟩ := ho j (by omega)
    exact ⟨e05.lt lj, by rw [e05.ltv lj, vj]⟩
theorem sum_sem4 {a : Nat -> Bool} {s : St} {x y : List Int} {c : Int} {f h : Nat -> Bool} (g : GoodB base p s.vars a s) (hx : Bits4 a s.vars x f) (hy : Bits4 a s.vars y h) (hc : Lt s.vars c) (nf : Zy (Wc s x y c 4).2.2 = false) :
  ∃ a', Ext base p a s a' (Wc s x y c 4).2.2 /\ Bits4 a' (Wc s x y c 4).2.2.vars (Wc s x y c 4).1 (sumB f h (ltv a c)) := by
 obtain ⟨a', h1, _, h3⟩ := sum_sem g hx hy hc 4 (by omega) nf
 exact ⟨a', h1, h3⟩
theorem notTo_sem {a : Nat -> Bool} {n : Int} {x : List Int} {f : Nat -> Bool} (hl : x.length = 4) (hx : Bits4 a n x f) : ∀ i, i <= 4 -> ∀ j, j < 4 -> Lt n ((Z0 x i).getD j 0) /\ ltv a ((Z0 x i).getD j 0) = if j < i then !f j else f j
 | 0, _, j, hj => by rw [if_neg (by omega)]; exact hx j hj
 | i + 1, hi, j, hj => by
  have ih := notTo_sem hl hx i (by omega)
  have hlen := notTo_len x i
  rw [Z0, getD_set _ _ _ _ (by omega)]
  by_cases hij : i = j
  ·subst hij
   obtain ⟨l1, v1⟩ := ih i hj
   rw [if_pos rfl, if_pos (by omega)]
   rw [if_neg (by omega)] at v1
   exact ⟨l1.neg, by rw [WS l1.1, v1]⟩
  ·rw [if_neg hij]
   obtain ⟨l1, v1⟩ := ih j hj
   refine ⟨l1, v1.trans ?_⟩
   by_cases h : j < i
   ·rw [if_pos h, if_pos (by omega)]
   ·rw [if_neg h, if_neg (by omega)]
theorem notTo_sem4 {a : Nat -> Bool} {n : Int} {x : List Int} {f : Nat -> Bool} (hl : x.length = 4) (hx : Bits4 a n x f) : Bits4 a n (Z0 x 4) (fun i => !f i) := fun j hj => by
 have := notTo_sem hl hx 4 (by omega) j hj
 rwa [if_pos hj] at this
theorem shift_le (s : St) (x : List Int) (c n : Int) : ∀ i, Le s (QO s x c n i).2
 | 0 => .refl s
 | i + 1 => (shift_le s x c n i).trans (mux_le _ _ _ _)
def movB (f : Nat -> Bool) (k : Int) : Bool := if 4 <= k then f 3 else if 0 <= k then f k.toNat else false
theorem moved_sem {a : Nat -> Bool} {s : St} {x : List Int} {f : Nat -> Bool} {q : Int} (g : GoodB base p q a s) (hx : Bits4 a s.vars x f) (k : Int) : Lt s.vars (movedM x k) /\ ltv a (movedM x k) = movB f k := by
 unfold movedM movB
 split
 ·exact hx 3 (by omega)
 ·split
  ·exact hx k.toNat (by omega)
  ·exact ⟨(lt_one g).neg, ltv_m1 g.t⟩
theorem shift_sem {a : Nat -> Bool} {s : St} {x : List Int} {c n : Int} {f : Nat -> Bool} (g : GoodB base p s.vars a s) (hx : Bits4 a s.vars x f) (hc : Lt s.vars c) :
  ∀ i, i <= 4 -> Zy (QO s x c n i).2 = false -> ∃ a', Ext base p a s a' (QO s x c n i).2 /\
   ∀ j, j < i -> Lt (QO s x c n i).2.vars ((QO s x c n i).1.getD j 0) /\ ltv a' ((QO s x c n i).1.getD j 0) = if ltv a c = true then movB f ((j : Int) - n) else f j
 | 0, _, nf => ⟨a, .refl g, fun j hj => absurd hj (by omega)⟩
 | i + 1, hi, nf => by
  have hlen := Zb s x c n i
  rw [QO] at nf ⊢
  generalize hp : QO s x c n i = q at nf hlen ⊢
  dsimp only at nf ⊢
  have n0 := (mux_le _ _ _ _).nf nf
  have ih := shift_sem (n := n) g hx hc i (by omega) (by rw [hp]; exact n0)
  rw [hp] at ih
  obtain ⟨a0, e0, ho⟩ := ih
  obtain ⟨lm, vm⟩ := moved_sem e0.good (hx.ext e0) ((i : Int) - n)
  obtain ⟨lx, vx⟩ := hx i (by omega)
  obtain ⟨a1, e1, l1, v1⟩ := mux_sem e0.good (e0.lt hc) lm (e0.lt lx) nf
  refine ⟨a1, e0.trans e1, fun j hj => ?_⟩
  rw [getD_set _ _ _ _ (by omega)]
  by_cases hij : i = j
  ·subst hij
   rw [if_pos rfl]
   refine ⟨l1, v1.trans ?_⟩
   rw [e0.ltv hc, vm, e0.ltv lx, vx]
  ·rw [if_neg hij]
   obtain ⟨lj, vj⟩ := ho j (by omega)
   exact ⟨e1.lt lj, by rw [e1.ltv lj, vj]⟩
def shiB (f : Nat -> Bool) (c : Bool) (n : Int) (j : Nat) : Bool := if c = true then movB f ((j : Int) - n) else f j
theorem shift_sem4 {a : Nat -> Bool} {s : St} {x : List Int} {c : Int} (n : Int) {f : Nat -> Bool} (g : GoodB base p s.vars a s) (hx : Bits4 a s.vars x f) (hc : Lt s.vars c) (nf : Zy (QO s x c n 4).2 = false) :
  ∃ a', Ext base p a s a' (QO s x c n 4).2 /\ Bits4 a' (QO s x c n 4).2.vars (QO s x c n 4).1 (shiB f (ltv a c) n) := shift_sem g hx hc 4 (by omega) nf
theorem part_le (s : St) (x : List Int) (b : Int) (i : Nat) : ∀ k, Le s (Wx s x b i k).2
 | 0 => .refl s
 | k + 1 => (part_le s x b i k).trans (and_le _ _ _)
theorem part_sem {a : Nat -> Bool} {s : St} {x : List Int} {b : Int} {f : Nat -> Bool} (g : GoodB base p s.vars a s) (hx : Bits4 a s.vars x f) (hb : Lt s.vars b) (i : Nat) :
  ∀ k, i + k <= 4 -> Zy (Wx s x b i k).2 = false -> ∃ a', Ext base p a s a' (Wx s x b i k).2 /\
   ∀ j, j < 4 -> Lt (Wx s x b i k).2.vars ((Wx s x b i k).1.getD j 0) /\ ltv a' ((Wx s x b i k).1.getD j 0) = if i <= j /\ j < i + k then f (j - i) && ltv a b else false
 | 0, hk, nf => ⟨a, .refl g, fun j hj => by
  rw [if_neg (by omega)]
  show Lt s.vars ((qo 0).getD j 0) /\ ltv a ((qo 0).getD j 0) = false
  rw [number0]
  have : ([-1, -1, -1, -1] : List Int).getD j 0 = -1 := by
   match j, hj with
   | 0, _ => rfl
   | 1, _ => rfl
   | 2, _ => rfl
   | 3, _ => rfl
   | j + 4, hj => omega
  rw [this]
  exact ⟨(lt_one g).neg, ltv_m1 g.t⟩⟩
 | k + 1, hk, nf => by
  have hlen := partTo_len s x b i k
  rw [Wx] at nf ⊢
  generalize hp : Wx s x b i k = q at nf hlen ⊢
  dsimp only at nf ⊢
  have n0 := (and_le _ _ _).nf nf
  have ih := part_sem g hx hb i k (by omega) (by rw [hp]; exact n0)
  rw [hp] at ih
  obtain ⟨a0, e0, ho⟩ := ih
  obtain ⟨lx, vx⟩ := hx k (by omega)
  obtain ⟨a1, e1, l1, v1⟩ := and_sem a0 _ _ _ e0.good (e0.lt lx) (e0.lt hb) nf
  refine ⟨a1, e0.trans e1, fun j hj => ?_⟩
  rw [getD_set _ _ _ _ (by omega)]
  by_cases hij : i + k = j
  ·subst hij
   rw [if_pos rfl, if_pos (by omega), show i + k - i = k by omega]
   refine ⟨l1, v1.trans ?_⟩
   rw [e0.ltv lx, vx, e0.ltv hb]
  ·rw [if_neg hij]
   obtain ⟨lj, vj⟩ := ho j hj
   refine ⟨e1.lt lj, ?_⟩
   rw [e1.ltv lj, vj]
   by_cases h : i <= j /\ j < i + k
   ·rw [if_pos h, if_pos (by omega)]
   ·rw [if_neg h, if_neg (by omega)]
def parB (f : Nat -> Bool) (b : Bool) (i j : Nat) : Bool := if i <= j then f (j - i) && b else false
def proB (f h : Nat -> Bool) : Nat -> Nat -> Bool
 | 0 => fun _ => false
 | i + 1 => sumB (proB f h i) (parB f (h i) i) false
theorem number0_sem {a : Nat -> Bool} {s : St} {q : Int} (g : GoodB base p q a s) : Bits4 a s.vars (qo 0) (fun _ => false) := fun j hj => by
 rw [number0]
 have : ([-1, -1, -1, -1] : List Int).getD j 0 = -1 := by
  match j, hj with
  | 0, _ => rfl
  | 1, _ => rfl
  | 2, _ => rfl
  | 3, _ => rfl
  | j + 4, hj => omega
 rw [this]
 exact ⟨(lt_one g).neg, ltv_m1 g.t⟩
theorem prod_sem {a : Nat -> Bool} {s : St} {x y : List Int} {f h : Nat -> Bool} (g : GoodB base p s.vars a s) (hx : Bits4 a s.vars x f) (hy : Bits4 a s.vars y h) :
  ∀ i, i <= 4 -> Zy (WI s x y i).2 = false -> ∃ a', Ext base p a s a' (WI s x y i).2 /\ Bits4 a' (WI s x y i).2.vars (WI s x y i).1 (proB f h i)
 | 0, _, nf => ⟨a, .refl g, number0_sem g⟩
 | i + 1, hi, nf => by
  rw [WI] at nf ⊢
  generalize hp : WI s x y i = q at nf ⊢
  dsimp only at nf ⊢
  have n1 := (sum_le _ _ _ _ _).nf nf
  have n0 := (part_le _ _ _ _ _).nf n1
  have ih := prod_sem g hx hy i (by omega) (by rw [hp]; exact n0)
  rw [hp] at ih
  obtain ⟨a0, e0, ho⟩ := ih
  obtain ⟨ly, vy⟩ := hy i (by omega)
  obtain ⟨a1, e1, hpart⟩ := part_sem e0.good (hx.ext e0) (e0.lt ly) i (4 - i) (by omega) n1
  have hpart' : Bits4 a1 _ _ (parB f (h i) i) := fun j hj => by
   obtain ⟨l, v⟩ := hpart j hj
   refine ⟨l, v.trans ?_⟩
   rw [e0.ltv ly, vy]
   unfold parB
   by_cases hij : i <= j
   ·rw [if_pos ⟨hij, by omega⟩, if_pos hij]
   ·rw [if_neg (fun hh => hij hh.1), if_neg hij]
  obtain ⟨a2, e2, hs⟩ := sum_sem4 e1.good (ho.ext e1) hpart' (lt_one e1.good).neg nf
  rw [ltv_m1 e1.good.t] at hs
  exact ⟨a2, (e0.trans e1).trans e2, hs⟩
def lesB (f h : Nat -> Bool) : Nat -> Bool
 | 0 => false
 | i + 1 => (!f i && h i) || (!(f i != h i) && lesB f h i)
theorem lessTo_sem {a : Nat -> Bool} {s : St} {x y : List Int} {f h : Nat -> Bool} (g : GoodB base p s.vars a s) (hx : Bits4 a s.vars x f) (hy : Bits4 a s.vars y h) :
  ∀ i, i <= 4 -> Zy (Zj s x y i).2 = false -> ∃ a', Ext base p a s a' (Zj s x y i).2 /\ Lt (Zj s x y i).2.vars (Zj s x y i).1 /\ ltv a' (Zj s x y i).1 = lesB f h i
 | 0, _, nf => ⟨a, .refl g, (lt_one g).neg, ltv_m1 g.t⟩
 | i + 1, hi, nf => by
  rw [Zj] at nf ⊢
  unfold lessAt at nf ⊢
  generalize hp : Zj s x y i = q at nf ⊢
  have n3 := (or_le _ _ _).nf nf
  have n2 := (and_le _ _ _).nf n3
  have n1 := (xor_le _ _ _).nf n2
  have n0 := (and_le _ _ _).nf n1
  have ih := lessTo_sem g hx hy i (by omega) (by rw [hp]; exact n0)
  rw [hp] at ih
  obtain ⟨a0, e0, lo, vo⟩ := ih
  obtain ⟨lx, vx⟩ := hx i (by omega)
  obtain ⟨ly, vy⟩ := hy i (by omega)
  obtain ⟨a1, e1, l1, v1⟩ := and_sem a0 _ _ _ e0.good (e0.lt lx).neg (e0.lt ly) n1
  obtain ⟨a2, e2, l2, v2⟩ := xor_sem a1 _ _ _ e1.good (e1.lt (e0.lt lx)) (e1.lt (e0.lt ly)) n2
  obtain ⟨a3, e3, l3, v3⟩ := and_sem a2 _ _ _ e2.good l2.neg (e2.lt (e1.lt lo)) n3
  obtain ⟨a4, e4, l4, v4⟩ := or_sem a3 _ _ _ e3.good (e3.lt (e2.lt l1)) l3 nf
  refine ⟨a4, (((e0.trans e1).trans e2).trans e3).trans e4, l4, v4.trans ?_⟩
  rw [e3.ltv (e2.lt l1), e2.ltv l1, v1, v3, WS l2.1, v2, e2.ltv (e1.lt lo), e1.ltv lo, vo, WS (e0.lt lx).1, e0.ltv lx, vx, e1.ltv (e0.lt lx), e0.ltv lx, vx, e1.ltv (e0.lt ly), e0.ltv ly, vy]
  rfl
def swpB (f h : Nat -> Bool) (i : Nat) : Bool := if i = 3 then h 3 else f i
theorem swap_sem {a : Nat -> Bool} {n : Int} {x y : List Int} {f h : Nat -> Bool} (hxl : x.length = 4) (hx : Bits4 a n x f) (hy : Bits4 a n y h) : Bits4 a n (ZZ x y) (swpB f h) := fun i hi => by
 unfold ZZ swpB
 rw [getD_set _ _ _ _ (by omega)]
 by_cases h3 : i = 3
 ·subst h3; rw [if_pos rfl, if_pos rfl]; exact hy 3 (by omega)
 ·rw [if_neg fun e => h3 e.symm, if_neg h3]; exact hx i hi
theorem less_sem {a : Nat -> Bool} {s : St} {x y : List Int} {f h : Nat -> Bool} (hxl : x.length = 4) (hyl : y.length = 4) (g : GoodB base p s.vars a s) (hx : Bits4 a s.vars x f) (hy : Bits4 a s.vars y h) (nf : Zy (less s x y).2 = false) :
  ∃ a', Ext base p a s a' (less s x y).2 /\ Lt (less s x y).2.vars (less s x y).1 /\ ltv a' (less s x y).1 = lesB (swpB f h) (swpB h f) 4 :=
 lessTo_sem g (swap_sem hxl hx hy) (swap_sem hyl hy hx) 4 (by omega) nf
def samB (f h : Nat -> Bool) : Nat -> Bool
 | 0 => true
 | i + 1 => samB f h i && !(f i != h i)
theorem same_sem {a : Nat -> Bool} {s : St} {x y : List Int} {f h : Nat -> Bool} (g : GoodB base p s.vars a s) (hx : Bits4 a s.vars x f) (hy : Bits4 a s.vars y h) :
  ∀ i, i <= 4 -> Zy (W5 s x y i).2 = false -> ∃ a', Ext base p a s a' (W5 s x y i).2 /\ Lt (W5 s x y i).2.vars (W5 s x y i).1 /\ ltv a' (W5 s x y i).1 = samB f h i
 | 0, _, nf => ⟨a, .refl g, lt_one g, ltv_one g.t⟩
 | i + 1, hi, nf => by
  rw [W5] at nf ⊢
  unfold sameAt at nf ⊢
  generalize hp : W5 s x y i = q at nf ⊢
  have n1 := (and_le _ _ _).nf nf
  have n0 := (xor_le _ _ _).nf n1
  have ih := same_sem g hx hy i (by omega) (by rw [hp]; exact n0)
  rw [hp] at ih
  obtain ⟨a0, e0, lo, vo⟩ := ih
  obtain ⟨lx, vx⟩ := hx i (by omega)
  obtain ⟨ly, vy⟩ := hy i (by omega)
  obtain ⟨a1, e1, l1, v1⟩ := xor_sem a0 _ _ _ e0.good (e0.lt lx) (e0.lt ly) n1
  obtain ⟨a2, e2, l2, v2⟩ := and_sem a1 _ _ _ e1.good (e1.lt lo) l1.neg nf
  refine ⟨a2, (e0.trans e1).trans e2, l2, v2.trans ?_⟩
  rw [e1.ltv lo, vo, WS l1.1, v1, e0.ltv lx, vx, e0.ltv ly, vy]
  rfl
end
end Go.Proofs
end
section
namespace Go.Proofs
open Go.Shelf
def Tryd.laysM171_ren : Go.Shelf.Ren := ⟨fun | 171 => 83 | 243 => 95 | 246 => 107 | 283 => 109 | 284 => 110 | 285 => 111 | 286 => 112 | 129 => 114 | 317 => 113 | 318 => 115 | 319 => 116 | 320 => 117 | 337 => 118 | 338 => 119 | n => n, fun | 3 => 3 | 9 => 9 | 2 => 2 | 4 => 4 | 171 => 125 | 0 => 0 | 53 => 126 | 37 => 129 | 5 => 5 | 173 => 130 | 212 => 132 | 51 => 133 | 20 => 20 | 213 => 134 | 46 => 123 | 232 => 137 | 233 => 138 | n => n, fun | 17 => 1 | 18 => 2 | 19 => 3 | n => n⟩
def Tryd.lays171_ren : Go.Shelf.Ren := ⟨fun | 171 => 83 | 243 => 95 | 246 => 107 | 283 => 109 | 284 => 110 | 285 => 111 | 286 => 112 | 129 => 114 | 317 => 113 | 318 => 115 | 319 => 116 | 320 => 117 | 337 => 118 | 338 => 119 | n => n, fun | 3 => 3 | 9 => 9 | 2 => 2 | 4 => 4 | 171 => 125 | 0 => 0 | 53 => 126 | 37 => 129 | 5 => 5 | 173 => 130 | 212 => 132 | 51 => 133 | 20 => 20 | 213 => 134 | 46 => 123 | 232 => 137 | 233 => 138 | n => n, fun | 17 => 1 | 18 => 2 | 19 => 3 | n => n⟩
theorem Tryd.lays171 : Go.Proofs.Lays.n171 Tryd.prog Tryd.lays171_ren := {
 mixed := by kernel_rfl
 f129 := Tryd.func114.trans (congrArg some (by kernel_rfl))
 f171 := Tryd.func83.trans (congrArg some (by kernel_rfl))
 f243 := Tryd.func95.trans (congrArg some (by kernel_rfl))
 f246 := Tryd.func107.trans (congrArg some (by kernel_rfl))
 f283 := Tryd.func109.trans (congrArg some (by kernel_rfl))
 f284 := Tryd.func110.trans (congrArg some (by kernel_rfl))
 f285 := Tryd.func111.trans (congrArg some (by kernel_rfl))
 f286 := Tryd.func112.trans (congrArg some (by kernel_rfl))
 f317 := Tryd.func113.trans (congrArg some (by kernel_rfl))
 f318 := Tryd.func115.trans (congrArg some (by kernel_rfl))
 f319 := Tryd.func116.trans (congrArg some (by kernel_rfl))
 f320 := Tryd.func117.trans (congrArg some (by kernel_rfl))
 f337 := Tryd.func118.trans (congrArg some (by kernel_rfl))
 f338 := Tryd.func119.trans (congrArg some (by kernel_rfl))
 t0 := Tryd.underlying0
 a0 := Tryd.isAgg0
 z0 := Tryd.sizeOf0
 v0 := Tryd.zeroValue0
 t2 := Tryd.underlying2
 a2 := Tryd.isAgg2
 z2 := Tryd.sizeOf2
 v2 := Tryd.zeroValue2
 t3 := Tryd.underlying3
 a3 := Tryd.isAgg3
 z3 := Tryd.sizeOf3
 v3 := Tryd.zeroValue3
 t4 := Tryd.underlying4
 a4 := Tryd.isAgg4
 z4 := Tryd.sizeOf4
 v4 := Tryd.zeroValue4
 t5 := Tryd.underlying5
 a5 := Tryd.isAgg5
 z5 := Tryd.sizeOf5
 v5 := Tryd.zeroValue5
 t9 := Tryd.underlying9
 a9 := Tryd.isAgg9
 z9 := Tryd.sizeOf9
 v9 := Tryd.zeroValue9
 t20 := Tryd.underlying20
 a20 := Tryd.isAgg20
 z20 := Tryd.sizeOf20
 v20 := Tryd.zeroValue20
 t37 := Tryd.underlying129
 a37 := Tryd.isAgg129
 z37 := Tryd.sizeOf129
 v37 := Tryd.zeroValue129
 t46 := Tryd.underlying123
 a46 := Tryd.isAgg123
 z46 := Tryd.sizeOf123
 v46 := Tryd.zeroValue123
 t51 := Tryd.underlying133
 a51 := Tryd.isAgg133
 z51 := Tryd.sizeOf133
 v51 := Tryd.zeroValue133
 t53 := Tryd.underlying126
 a53 := Tryd.isAgg126
 z53 := Tryd.sizeOf126
 v53 := Tryd.zeroValue126
 t171 := Tryd.underlying125
 a171 := Tryd.isAgg125
 z171 := Tryd.sizeOf125
 v171 := Tryd.zeroValue125
 t173 := Tryd.underlying130
 a173 := Tryd.isAgg130
 z173 := Tryd.sizeOf130
 v173 := Tryd.zeroValue130
 t212 := Tryd.underlying132
 a212 := Tryd.isAgg132
 z212 := Tryd.sizeOf132
 v212 := Tryd.zeroValue132
 t213 := Tryd.underlying134
 a213 := Tryd.isAgg134
 z213 := Tryd.sizeOf134
 t232 := Tryd.underlying137
 a232 := Tryd.isAgg137
 z232 := Tryd.sizeOf137
 v232 := Tryd.zeroValue137
 t233 := Tryd.underlying138
 a233 := Tryd.isAgg138
 z233 := Tryd.sizeOf138
 v233 := Tryd.zeroValue138
 g17 := by kernel_rfl
 g18 := by kernel_rfl
 g19 := by kernel_rfl }
open Go.RowKit Go.Sort Go.Lib in
theorem Tryd.strconv_Itoa_small (i : Nat) (hi : i < 100) (w : World) :
  Calls Tryd.prog 83 #[.int .i64 i] w fun e w' => e = .returned (.string ⟨(Lib.decDigits i).toArray⟩) /\ w' = w := Any.strconv_Itoa_small Tryd.lays171 i hi w
end Go.Proofs
end
section
namespace Go.Bl
open Go.Av
inductive Nd where
 | mk (k n m : Int) (kids : List Nd)
mutual
def Nd.cells : Nd -> List DV
 | .mk k n m ks => [.i k, .i n, .i m, .sl 4 (cellsL ks)]
def cellsL : List Nd -> List DV
 | [] => []
 | x :: r => x.cells ++ cellsL r
end
mutual
theorem cells_clo : ∀ t : Nd, ∀ d ∈ t.cells, d.clo = true
 | .mk k n m ks, d, hd => by
  simp only [Nd.cells, List.mem_cons, List.not_mem_nil, or_false] at hd
  rcases hd with rfl | rfl | rfl | rfl
  ·exact QA
  ·exact QA
  ·exact QA
  ·exact Q8 (cellsL_clo ks)
theorem cellsL_clo : ∀ l : List Nd, ∀ d ∈ cellsL l, d.clo = true
 | [], d, hd => by simp [cellsL] at hd
 | x :: r, d, hd => by
  rw [cellsL, List.mem_append] at hd
  rcases hd with hd | hd
  ·exact cells_clo x d hd
  ·exact cellsL_clo r d hd
end
theorem cells_len : ∀ t : Nd, t.cells.length = 4
 | .mk _ _ _ _ => rfl
instance : Enc Nd where
 enc := Nd.cells
 es := 4
 len := cells_len
 one t d hd := by
  cases t
  simp only [Nd.cells, List.mem_cons, List.not_mem_nil, or_false] at hd
  rcases hd with rfl | rfl | rfl | rfl <;> rfl
 clo := cells_clo
 pos := by decide
theorem cellsL_eq : ∀ l : List Nd, cellsL l = Qq l
 | [] => rfl
 | x :: r => by rw [cellsL, cellsL_eq r]; rfl
theorem We (k n m : Int) (ks : List Nd) : (Enc.enc (Nd.mk k n m ks) : List DV) = [.i k, .i n, .i m, Qy ks] := by
 show [DV.i k, .i n, .i m, .sl 4 (cellsL ks)] = _
 rw [cellsL_eq]; rfl
theorem Nd.ind {Q : Nd -> Prop} (h : ∀ k n m ks, (∀ x ∈ ks, Q x) -> Q (.mk k n m ks)) : ∀ t, Q t
 | .mk k n m ks => h k n m ks fun x hx => Nd.ind h x
termination_by t => SizeOf.sizeOf t
decreasing_by
 have := List.sizeOf_lt_of_mem hx
 simp; omega
abbrev strD (l : List UInt8) : DV := .sc (.string ⟨l.toArray⟩)
end Go.Bl
namespace Go.Av
open Go.Bl
section
variable {P : Program} {G : Nat -> DV} {B : Nat} {f : Operand -> DV} {σ : List ABlk} {K : DV -> List ABlk -> Prop} {dst : Option Tmp} {type : TypeId} {pos : String} {after : Array Edge} {gd : Option (Nat × Bool)}
theorem bytes_append (a b : List UInt8) : ((⟨a.toArray⟩ : ByteArray) ++ ⟨b.toArray⟩) = ⟨(a ++ b).toArray⟩ := by
 apply ByteArray.ext
 simp [ByteArray.data_append]
theorem s_add_s {t t' : TypeId} {g1 : Bool} {z1 : Nat} {x y : Operand} {a b : List UInt8} [ht : TyI P t .string g1 z1] (hx : f x = .sc (.string ⟨a.toArray⟩)) (hy : f y = .sc (.string ⟨b.toArray⟩)) (hl : a.length + b.length <= 9223372036854775807)
  (k : K (strD (a ++ b)) σ) : OpSem P G B ⟨dst, .binOp .add t x y t', type, pos, after, gd⟩ f σ K :=
 s_bin hx hy (fun w => by
  have : (eqGuard .add t x y (.string ⟨a.toArray⟩) (.string ⟨b.toArray⟩)).run P w = .ok () w := by unfold eqGuard; rfl
  rw [Sem.run_bind, this]
  have h2 : ¬ IntKind.i64.max < ((ByteArray.size ⟨a.toArray⟩ + ByteArray.size ⟨b.toArray⟩ : Nat) : Int) := by
   have e : IntKind.i64.max = 9223372036854775807 := rfl
   rw [e]
   show ¬ (9223372036854775807 : Int) < ((a.toArray.size + b.toArray.size : Nat) : Int)
   simp; omega
  simp [binOp, run_underlying ht.u, Op.stringOp, h2, bytes_append]
  show ((a.toArray.size : Nat) : Int) + ((b.toArray.size : Nat) : Int) <= 9223372036854775807
  simp; omega) k
end
end Go.Av
namespace Go.Proofs
open Go.Av Go.Bl
variable {G : Nat -> DV}
theorem itoa_small (i : Nat) (hi : i < 100) : Go.Av.Pure Tryd.prog G 83 [.i i] (strD (Lib.decDigits i)) := fun B X vs hS hσ hB hG hv => by
 have hvs : vs = #[.int .i64 i] := by
  obtain ⟨h1, h2⟩ := hv
  have := VRep.sc_eq (h2 0 _ rfl)
  apply Array.ext
  ·simpa using h1
  ·intro j hj1 hj2
   have hj : j = 0 := by simp at hj2; omega
   subst hj
   simpa [Array.getD_eq_getD_getElem?, hj1] using this
 subst hvs
 refine (Tryd.strconv_Itoa_small i hi X.w).mono ?_
 rintro e w' ⟨rfl, rfl⟩
 exact ⟨_, rfl, X, rfl, hS, WExt.refl X, _, .sc _, rfl, hσ⟩
end Go.Proofs
end
section
namespace Go.Proofs
open Go.Av
variable {G : Nat -> DV}
attribute [local irreducible] OpSem WE WY W0 ACalls ZE QV RV
open Go.Bl
end Go.Proofs
end
section
namespace Go.Av
def Zq (M : List (Int × Int)) : List (Int × DV) := M.map fun p => (p.1, .i p.2)
def idxI (M : List (Int × Int)) (x : Int) : Option Nat := M.findIdx? fun p => decide (p.1 = x)
def W7 (M : List (Int × Int)) (x : Int) : Option Int := (idxI M x).map fun j => (M.getD j (0, 0)).2
def putI (M : List (Int × Int)) (x v : Int) : List (Int × Int) := match idxI M x with
 | some j => M.set j (x, v)
 | none => M ++ [(x, v)]
theorem mapI_put (M : List (Int × Int)) (x v : Int) : iput (Zq M) x (.i v) = Zq (putI M x v) := by
 have e : ifind (Zq M) x = idxI M x := by unfold ifind Zq idxI; rw [List.findIdx?_map]; rfl
 unfold iput putI
 rw [e]
 cases idxI M x with
 | none => simp [Zq]
 | some j => simp [Zq, List.map_set]
theorem ZA {M : List (Int × Int)} : ∀ p ∈ Wg (Zq M), p.2.clo = true := fun p hp => by
 simp only [Wg, Zq, List.map_map, List.mem_map] at hp
 obtain ⟨x, _, rfl⟩ := hp
 simp [DV.clo]
section
variable {P : Program} {G : Nat -> DV} {B : Nat} {f : Operand -> DV} {σ : List ABlk} {K : DV -> List ABlk -> Prop} {dst : Option Tmp} {type : TypeId} {pos : String} {after : Array Edge} {gd : Option (Nat × Bool)}
theorem run_lookup_i {X : AX} {t kt et : TypeId} {agg a1 : Bool} {size s1 k g : Nat} {M : List (Int × Int)} {x : Int} {vm vk : Value} (ok : Bool) (ht : TyI P t (.map kt et) agg size) (hkt : TyI P kt (.int .i64) a1 s1) (hz : (P.info? et).bind (·.zero) = some (.int .i64 0)) (hS : Sto X) (e1 : VRep X.lay (.mp k g) vm) (hσk : X.σ[k]? = some (.mapb g (Wg (Zq M)))) (e2 : vk = .int .i64 x) :
  (Instr.lookup t vm vk ok).run P X.w = .ok (if ok then .tuple #[.int .i64 ((W7 M x).getD 0), .bool (W7 M x).isSome] else .int .i64 ((W7 M x).getD 0)) X.w := by
 subst e2
 obtain ⟨b, n, es, clock, hρ, hb, hl, _, hes⟩ := hS.map hσk
 have e1 := VRep.mp_inv hσk e1 hρ
 subst e1
 obtain ⟨hl', hkey⟩ := map_keys hl hes
 have hls : es.toList.length = M.length := by simpa [Zq] using hl'
 have hke : ∀ j (hj : j < es.toList.length), es.toList[j].key = .int .i64 (M[j]'(by omega)).1 /\ es.toList[j].val = .int .i64 (M[j]'(by omega)).2 := fun j hj => by
  obtain ⟨h1, h2⟩ := hkey j (by simp [Zq]; omega) hj
  refine ⟨by rw [h1]; simp [Zq], ?_⟩
  have e : ((Zq M)[j]'(by simp [Zq]; omega)).2 = .sc (.int .i64 (M[j]'(by omega)).2) := by simp [Zq]
  rw [e] at h2
  exact VRep.sc_eq h2
 cases hfi : idxI M x with
 | none =>
  have hno := List.findIdx?_eq_none_iff.1 hfi
  have hg : W7 M x = none := by unfold W7; rw [hfi]; rfl
  have hf := findNow_none (K := .i64) (x := x) es.toList 0 fun e he => by
   obtain ⟨j, hj, rfl⟩ := List.getElem_of_mem he
   exact ⟨_, of_decide_eq_false (hno _ (List.getElem_mem (show j < M.length by omega))), (hke j hj).1⟩
  have h1 : (zeroValue et).run P X.w = .ok (.int .i64 0) X.w := by
   cases hi : P.info? et with
   | none => simp [hi] at hz
   | some i =>
    simp [hi] at hz
    simp [zeroValue, typeInfo, hi, hz, Result.andThen]
  rw [hg]
  cases ok <;> simp [Instr.lookup, run_underlying ht.u, MapKept.run_getObj_map hb, MapKept.run_checkKey hkt.u (k := .int .i64 x) rfl, MapKept.run_findKey hkt.u hf, Result.andThen, h1]
 | some j =>
  obtain ⟨h1, h2, h3⟩ := List.findIdx?_eq_some_iff_getElem.1 hfi
  have hj : j < es.toList.length := by omega
  have e : M[j].1 = x := of_decide_eq_true h2
  have hg : W7 M x = some M[j].2 := by
   unfold W7; rw [hfi, Option.map_some, List.getD_eq_getElem?_getD, List.getElem?_eq_getElem h1]; rfl
  have hf := findNow_some (K := .i64) (x := x) es.toList 0 j hj (by rw [(hke j hj).1, e]) fun i hi => ⟨_, fun e => h3 i hi (decide_eq_true e), (hke i (by omega)).1⟩
  rw [hg]
  have hv := (hke j hj).2
  cases ok <;> simp [Instr.lookup, run_underlying ht.u, MapKept.run_getObj_map hb, MapKept.run_checkKey hkt.u (k := .int .i64 x) rfl, MapKept.run_findKey hkt.u hf, Result.andThen] <;> simpa using hv
theorem qm {t kt et : TypeId} {agg a1 : Bool} {size s1 : Nat} {m ix : Operand} {k g : Nat} {M : List (Int × Int)} {x : Int} [ht : TyI P t (.map kt et) agg size] [hkt : TyI P kt (.int .i64) a1 s1] (hm : f m = .mp k g) (hσk : σ[k]? = some (.mapb g (Wg (Zq M)))) (hx : f ix = .sc (.int .i64 x)) (hz : (P.info? et).bind (·.zero) = some (.int .i64 0))
  (kk : K (.tup [.i ((W7 M x).getD 0), .b (W7 M x).isSome]) σ) : OpSem P G B ⟨dst, .lookup t m ix true, type, pos, after, gd⟩ f σ K := fun X ρ hS hσ hB _ hf => by
 subst hσ
 have e1 := hf m (by simp [Op.operands]); rw [hm] at e1
 have e2 := hf ix (by simp [Op.operands]); rw [hx] at e2
 have := run_lookup_i true ht hkt hz hS e1 hσk (VRep.sc_eq e2)
 simp only [execOp, this, Sem.run_bind, Sem.run_pure, Result.andThen_ok, if_true]
 refine ⟨X, rfl, hS, WExt.refl X, _, .tup _ _ rfl fun j d hj => ?_, kk⟩
 match j, hj with
 | 0, hj => cases hj; exact .sc _
 | 1, hj => cases hj; exact .sc _
 | j + 2, hj => simp at hj
theorem s_lookup_i {t kt et : TypeId} {agg a1 : Bool} {size s1 : Nat} {m ix : Operand} {k g : Nat} {M : List (Int × Int)} {x : Int} [ht : TyI P t (.map kt et) agg size] [hkt : TyI P kt (.int .i64) a1 s1] (hm : f m = .mp k g) (hσk : σ[k]? = some (.mapb g (Wg (Zq M)))) (hx : f ix = .sc (.int .i64 x)) (hz : (P.info? et).bind (·.zero) = some (.int .i64 0))
  (kk : K (.i ((W7 M x).getD 0)) σ) : OpSem P G B ⟨dst, .lookup t m ix false, type, pos, after, gd⟩ f σ K := fun X ρ hS hσ hB _ hf => by
 subst hσ
 have e1 := hf m (by simp [Op.operands]); rw [hm] at e1
 have e2 := hf ix (by simp [Op.operands]); rw [hx] at e2
 have := run_lookup_i false ht hkt hz hS e1 hσk (VRep.sc_eq e2)
 simp only [execOp, this, Sem.run_bind, Sem.run_pure, Result.andThen_ok, Bool.false_eq_true, if_false]
 exact ⟨X, rfl, hS, WExt.refl X, _, .sc _, kk⟩
theorem qa {t kt et : TypeId} {agg a1 : Bool} {size s1 : Nat} {m ix y : Operand} {k g : Nat} {M : List (Int × Int)} {x v : Int} {σ' : List ABlk} [ht : TyI P t (.map kt et) agg size] [hkt : TyI P kt (.int .i64) a1 s1] (hm : f m = .mp k g) (hσk : σ[k]? = some (.mapb g (Wg (Zq M)))) (hx : f ix = .sc (.int .i64 x)) (hy : f y = .sc (.int .i64 v))
  (hσ' : setA σ k (.mapb g (Wg (Zq (putI M x v)))) = some σ') (kk : K (.sc undef) σ') : OpSem P G B ⟨dst, .mapUpdate t m ix y, type, pos, after, gd⟩ f σ K := s_mapupd hm hσk hx hy (by rw [mapI_put]; exact hσ') kk
theorem s_mkmap_i {t : TypeId} (k : ∀ g, B < g -> K (.mp σ.length g) (σ ++ [.mapb g (Wg (Zq []))])) : OpSem P G B ⟨dst, .makeMap t none, type, pos, after, gd⟩ f σ K := s_mkmap k
end
section
variable {P : Program} {G : Nat -> DV}
def TM (P : Program) (G : Nat -> DV) (f : FuncId) (args : Nat -> List DV) (M : List (Int × Int)) (res : DV) (M' : List (Int × Int)) : Prop :=
 ∀ g B, g <= B -> ACalls P G B f (args g) [.mapb g (Wg (Zq M))] (fun d τ => d = res /\ τ = [.mapb g (Wg (Zq M'))])
def CM (P : Program) (G : Nat -> DV) (f : FuncId) (args : Nat -> List DV) (M : List (Int × Int)) (res : DV) (M' : List (Int × Int)) : Prop :=
 ∀ gp g B, gp <= B -> g <= B -> ACalls P G B f (args gp) [.row gp [.mp 1 g], .mapb g (Wg (Zq M))] (fun d τ => d = res /\ τ = [.row gp [.mp 1 g], .mapb g (Wg (Zq M'))])
theorem TM.lift {f : FuncId} {args : Nat -> List DV} {M M' : List (Int × Int)} {res : DV} (h : TM P G f args M res M') {B k g : Nat} {es : List DV} {σ σ' : List ABlk} (hargs : RenL (RenD (qf [k] σ.length)) es (args g)) (hk : σ[k]? = some (.mapb g (Wg (Zq M)))) (hres : res.clo = true)
  (hσ' : setA σ k (.mapb g (Wg (Zq M'))) = some σ') : ACalls P G B f es σ (fun d s => d = res /\ s = σ') := by
 refine ACalls.sub (R := fun _ d τ => d = res /\ τ = [.mapb g (Wg (Zq M'))]) (ps := [k]) hargs (by simp) (τ := [.mapb g (Wg (Zq M))]) rfl (fun i hi => ?_) (fun B' hB hg => h g B' (hg 0 _ _ rfl rfl)) ?_
 ·have : i = 0 := by simpa using hi
  subst this
  exact ⟨_, _, hk, rfl, .map ZA⟩
 ·rintro B' d' τ' hB ⟨rfl, rfl⟩
  exact ⟨d', σ', Out.of (bs := [.mapb g (Wg (Zq M'))]) (.s (.clo hres)) (by simp) rfl (.cons (.map ZA) .nil) (by simp [setAll, hσ']), rfl, rfl⟩
theorem CM.lift {f : FuncId} {args : Nat -> List DV} {M M' : List (Int × Int)} {res : DV} (h : CM P G f args M res M') {B kp k gp g : Nat} {es : List DV} {σ σ' : List ABlk} (hargs : RenL (RenD (qf [kp, k] σ.length)) es (args gp)) (hp : σ[kp]? = some (.row gp [.mp k g])) (hk : σ[k]? = some (.mapb g (Wg (Zq M)))) (hne : Nat.beq kp k = false) (hres : res.clo = true)
  (hσ' : setA σ k (.mapb g (Wg (Zq M'))) = some σ') : ACalls P G B f es σ (fun d s => d = res /\ s = σ') := by
 have hne' : kp ≠ k := fun e => by rw [e, Nat.beq_refl] at hne; cases hne
 have hq : ∀ n, qf [kp, k] n 1 = k := fun n => rfl
 refine ACalls.sub (R := fun _ d τ => d = res /\ τ = [.row gp [.mp 1 g], .mapb g (Wg (Zq M'))]) (ps := [kp, k]) hargs (by simp [hne']) (τ := [.row gp [.mp 1 g], .mapb g (Wg (Zq M))]) rfl (fun i hi => ?_) (fun B' hB hg => h gp g B' (hg 0 _ _ rfl rfl) (hg 1 _ _ rfl rfl)) ?_
 ·match i, hi with
  | 0, _ => exact ⟨_, _, hp, rfl, .row (.cons (.mp rfl) .nil)⟩
  | 1, _ => exact ⟨_, _, hk, rfl, .map ZA⟩
  | i + 2, hi => exact absurd hi (by simp)
 ·rintro B' d' τ' hB ⟨rfl, rfl⟩
  have hset : setA σ kp (.row gp [.mp k g]) = some σ := by
   have : ∀ (l : List ABlk) (i : Nat) (b : ABlk), l[i]? = some b -> setA l i b = some l := fun l => by
    induction l with
    | nil => intro i b h; simp at h
    | cons a r ih =>
     intro i b h
     cases i with
     | zero => simp at h; subst h; rfl
     | succ i => simp at h; simp [setA, ih i b h]
   exact this σ kp _ hp
  exact ⟨d', σ', Out.of (bs := [.row gp [.mp k g], .mapb g (Wg (Zq M'))]) (.s (.clo hres)) (by simp [hne']) rfl (.cons (.row (.cons (.mp rfl) .nil)) (.cons (.map ZA) .nil)) (by simp [setAll, hset, hσ']), rfl, rfl⟩
variable {B : Nat} {f : Operand -> DV} {σ : List ABlk} {K : DV -> List ABlk -> Prop} {dst : Option Tmp} {type : TypeId} {pos : String} {after : Array Edge} {gd : Option (Nat × Bool)}
theorem s_call_tm {args : Array Operand} {ts : Array TypeId} {fid : FuncId} {ars : Nat -> List DV} {es : List DV} {M M' : List (Int × Int)} {res : DV} {k g : Nat} {σ' : List ABlk} [FnOk P fid] (h : TM P G fid ars M res M') (hx : f (.func fid) = .fn (.func fid) [] []) (hds : reL (args.toList.map f) = some es) (hk : σ[k]? = some (.mapb g (Wg (Zq M)))) (hargs : RenL (RenD (qf [k] σ.length)) es (ars g)) (hres : res.clo = true)
  (hσ' : setA σ k (.mapb g (Wg (Zq M'))) = some σ') (kk : K res σ') : OpSem P G B ⟨dst, .call ⟨.value (.func fid), args, ts⟩, type, pos, after, gd⟩ f σ K := s_call hx hds ((h.lift hargs hk hres hσ').mono fun _ _ ⟨h1, h2⟩ => by rw [h1, h2]; exact kk)
theorem s_callv_cm {x : Operand} {args : Array Operand} {ts : Array TypeId} {fid : FuncId} {first cap : List DV} {ars : Nat -> List DV} {es : List DV} {M M' : List (Int × Int)} {res : DV} {kp k gp g : Nat} {σ' : List ABlk} [FnOk P fid] (h : CM P G fid ars M res M') (hx : f x = .fn (.func fid) first cap) (hds : reL (first ++ args.toList.map f ++ cap) = some es) (hp : σ[kp]? = some (.row gp [.mp k g])) (hk : σ[k]? = some (.mapb g (Wg (Zq M)))) (hne : Nat.beq kp k = false) (hargs : RenL (RenD (qf [kp, k] σ.length)) es (ars gp)) (hres : res.clo = true)
  (hσ' : setA σ k (.mapb g (Wg (Zq M'))) = some σ') (kk : K res σ') : OpSem P G B ⟨dst, .call ⟨.value x, args, ts⟩, type, pos, after, gd⟩ f σ K := s_callv hx hds ((h.lift hargs hp hk hne hres hσ').mono fun _ _ ⟨h1, h2⟩ => by rw [h1, h2]; exact kk)
theorem s_call_cm {args : Array Operand} {ts : Array TypeId} {fid : FuncId} {ars : Nat -> List DV} {es : List DV} {M M' : List (Int × Int)} {res : DV} {kp k gp g : Nat} {σ' : List ABlk} [FnOk P fid] (h : CM P G fid ars M res M') (hx : f (.func fid) = .fn (.func fid) [] []) (hds : reL (args.toList.map f) = some es) (hp : σ[kp]? = some (.row gp [.mp k g])) (hk : σ[k]? = some (.mapb g (Wg (Zq M)))) (hne : Nat.beq kp k = false) (hargs : RenL (RenD (qf [kp, k] σ.length)) es (ars gp)) (hres : res.clo = true)
  (hσ' : setA σ k (.mapb g (Wg (Zq M'))) = some σ') (kk : K res σ') : OpSem P G B ⟨dst, .call ⟨.value (.func fid), args, ts⟩, type, pos, after, gd⟩ f σ K := s_call hx hds ((h.lift hargs hp hk hne hres hσ').mono fun _ _ ⟨h1, h2⟩ => by rw [h1, h2]; exact kk)
end
section
theorem s_ctm (k : Nat) {P : Program} {G : Nat -> DV} {B : Nat} {f : Operand -> DV} {σ : List ABlk} {K : DV -> List ABlk -> Prop} {dst : Option Tmp} {type : TypeId} {pos : String} {after : Array Edge} {gd : Option (Nat × Bool)} {args : Array Operand} {ts : Array TypeId} {fid : FuncId} {ars : Nat -> List DV} {es : List DV} {M M' : List (Int × Int)} {res : DV} {g : Nat} {σ' : List ABlk} [FnOk P fid] (h : TM P G fid ars M res M') (hx : f (.func fid) = .fn (.func fid) [] []) (hds : reL (args.toList.map f) = some es) (hk : σ[k]? = some (.mapb g (Wg (Zq M)))) (kk : K res σ') (hargs : RenL (RenD (qf [k] σ.length)) es (ars g) := by repeat' first | exact .nil | refine .cons ?_ ?_ | exact .s (.mp rfl) | exact .s (.ptr rfl) | exact .s (.ref rfl) | exact .fn (by repeat' first | exact .nil | refine .cons ?_ ?_ | exact .ptr rfl | exact .mp rfl | exact .clo QA) (by repeat' first | exact .nil | refine .cons ?_ ?_ | exact .ptr rfl | exact .mp rfl | exact .clo QA) | exact .s (.clo (by (repeat' first | exact Enc.clo _ | exact QA | exact QQ _ | exact Q8 (Qk _) | exact Qk _ | refine WX ?_ ?_ | refine WV ?_ | refine Wz ?_ | refine QB ?_ | exact QX | refine QN ?_ ?_ | refine Q8 ?_); done))) (hres : res.clo = true := by repeat' first | exact QA | exact QQ _ | exact Q8 (Qk _) | exact Qk _ | refine WX ?_ ?_ | refine WV ?_ | refine Wz ?_ | refine QB ?_ | exact QX | refine QN ?_ ?_ | refine Q8 ?_)
  (hσ' : setA σ k (.mapb g (Wg (Zq M'))) = some σ' := by rfl) : OpSem P G B ⟨dst, .call ⟨.value (.func fid), args, ts⟩, type, pos, after, gd⟩ f σ K := s_call_tm h hx hds hk hargs hres hσ' kk
end
end Go.Av
end
section
namespace Go.Proofs
open Go.Av
variable {G : Nat -> DV}
attribute [local irreducible] OpSem WE WY W0 ACalls ZE QV RV
open Go.Bl
mutual
def Zc : Nd -> List (Int × Int) -> Bool × List (Int × Int)
 | .mk k n m ks, M => if k = 6 /\ (W7 M n).isSome = true /\ (W7 M n).getD 0 ≠ m then (false, M) else Q6 ks (if k = 6 then putI M n m else M)
def Q6 : List Nd -> List (Int × Int) -> Bool × List (Int × Int)
 | [], M => (true, M)
 | x :: r, M => if (Zc x M).1 = true then Q6 r (Zc x M).2 else (false, (Zc x M).2)
end
theorem typesL_snoc (x : Nd) : ∀ (a : List Nd) (M : List (Int × Int)), Q6 (a ++ [x]) M = if (Q6 a M).1 = true then Zc x (Q6 a M).2 else Q6 a M
 | [], M => by
  simp only [List.nil_append, Q6, if_true]
  cases h : (Zc x M).1
  ·rw [if_neg (by simp)]; rw [<- h]
  ·rw [if_pos rfl]; rw [<- h]
 | y :: r, M => by
  rw [List.cons_append, Q6, Q6]
  split
  ·exact typesL_snoc x r _
  ·rw [if_neg (by simp)]
theorem typesL_false {a : List Nd} {M : List (Int × Int)} (h : (Q6 a M).1 = false) (b : List Nd) : Q6 (a ++ b) M = Q6 a M := by
 induction a generalizing M with
 | nil => simp [Q6] at h
 | cons y r ih =>
  rw [List.cons_append, Q6, Q6] at *
  split
  ·rename_i h1
   rw [if_pos h1] at h
   exact ih h
  ·rfl
theorem typesL_take {ks : List Nd} {M : List (Int × Int)} {i : Nat} (hi : i < ks.length) (h : (Q6 (ks.take i) M).1 = true) : Q6 (ks.take (i + 1)) M = Zc ks[i] (Q6 (ks.take i) M).2 := by
 rw [List.take_succ_eq_append_getElem hi, typesL_snoc, if_pos h]
theorem typesL_bad {ks : List Nd} {M : List (Int × Int)} {i : Nat} (h : (Q6 (ks.take i) M).1 = false) : Q6 ks M = Q6 (ks.take i) M := by
 have := typesL_false h (ks.drop i)
 rwa [List.take_append_drop] at this
def idxT (ks : List Nd) (M : List (Int × Int)) : Int := match (List.range ks.length).find? fun i => !(Q6 (ks.take (i + 1)) M).1 with
 | some i => i
 | none => -1
theorem idxT_at {ks : List Nd} {M : List (Int × Int)} {i : Nat} (hi : i < ks.length) (h : (Q6 (ks.take i) M).1 = true) (h' : (Q6 (ks.take (i + 1)) M).1 = false) : idxT ks M = i := by
 unfold idxT
 have : (List.range ks.length).find? (fun i => !(Q6 (ks.take (i + 1)) M).1) = some i := by
  rw [List.find?_range_eq_some]
  refine ⟨by rw [h']; rfl, List.mem_range.2 hi, fun j hj => ?_⟩
  cases hb : (Q6 (ks.take (j + 1)) M).1
  ·have h1 : (Q6 ((ks.take i).take (j + 1)) M).1 = false := by rw [List.take_take, Nat.min_eq_left (by omega)]; exact hb
   have := typesL_bad h1
   rw [this, h1] at h; cases h
  ·rfl
 rw [this]
theorem typesL_first {ks : List Nd} {M : List (Int × Int)} (h : (Q6 ks M).1 = false) : ∃ i, i < ks.length /\ (Q6 (ks.take i) M).1 = true /\ (Q6 (ks.take (i + 1)) M).1 = false := by
 have key : ∀ n, n <= ks.length -> (Q6 (ks.take n) M).1 = true \/ ∃ i, i < n /\ (Q6 (ks.take i) M).1 = true /\ (Q6 (ks.take (i + 1)) M).1 = false := fun n => by
  induction n with
  | zero => intro _; exact .inl rfl
  | succ n ih =>
   intro hn
   rcases ih (by omega) with h1 | ⟨i, h1, h2⟩
   ·cases h2 : (Q6 (ks.take (n + 1)) M).1
    ·exact .inr ⟨n, by omega, h1, h2⟩
    ·exact .inl rfl
   ·exact .inr ⟨i, by omega, h2⟩
 rcases key ks.length (Nat.le_refl _) with h1 | ⟨i, h1, h2, h3⟩
 ·rw [List.take_length, h] at h1; cases h1
 ·exact ⟨i, h1, h2, h3⟩
theorem idxT_none {ks : List Nd} {M : List (Int × Int)} (h : (Q6 ks M).1 = true) : idxT ks M = -1 := by
 unfold idxT
 have : (List.range ks.length).find? (fun i => !(Q6 (ks.take (i + 1)) M).1) = none := by
  rw [List.find?_eq_none]
  intro i hi hb
  have hb : (Q6 (ks.take (i + 1)) M).1 = false := by simpa using hb
  rw [typesL_bad hb, hb] at h; cases h
 rw [this]
theorem indexFuncT_c (ks : List Nd) (hks : ks.length <= 1048576) (M : List (Int × Int)) (hcl : ∀ i (hi : i < ks.length) (M : List (Int × Int)), CM Tryd.prog G 66 (fun gp => [.agg (Enc.enc ks[i]), .ptr 0 gp 0]) M (.b (!(Zc ks[i] M).1)) (Zc ks[i] M).2) :
  CM Tryd.prog G 81 (fun gp => [Qy ks, .fn (.func 66) [] [.ptr 0 gp 0]]) M (.i (idxT ks M)) (Q6 ks M).2 := fun gp g B b1 b2 => by
 refine Qb Tryd.func81 rfl Tryd.ntmps81 rfl (t := [(0, Qy ks), (1, .fn (.func 66) [] [.ptr 0 gp 0])]) rfl fun E hE => ?_
 (repeat' first | refine Qt rfl ?_ | refine Qv rfl ?_ | refine Qn rfl ?_ | refine Qe ?_ | refine Qp rfl ?_ | refine Qf ?_ | refine Qa ?_ | refine Qg ?_)
 refine Wi (fun (i : Nat) => ⟨[(0, Qy ks), (1, .fn (.func 66) [] [.ptr 0 gp 0]), (7, .i ks.length), (8, .i i)], [.row gp [.mp 1 g], .mapb g (Wg (Zq (Q6 (ks.take i) M).2))]⟩) (fun i => i <= ks.length /\ (Q6 (ks.take i) M).1 = true) (fun i => ks.length - i) 0 ?_ ⟨by omega, rfl⟩ ?_
 ·exact zal rfl
 intro i ⟨hi, hok⟩
 (repeat' first | refine QG rfl rfl ?_ | refine Qe ?_ | refine Qp rfl ?_ | refine Qf ?_ | refine Qa ?_)
 refine QE rfl (fun h => ?_) (fun h => ?_)
 ·have hi2 : i < ks.length := by omega
  have ht := typesL_take hi2 hok
  (repeat' first | refine Qt rfl ?_ | refine Qv rfl ?_ | refine QM rfl ?_ | refine Qo rfl rfl (by first | assumption | omega | (simp; done) | (simp; omega)) ?_ | refine s_callv_cm (kp := 0) (k := 1) (hcl i hi2 (Q6 (ks.take i) M).2) rfl rfl rfl rfl (by rfl) (by repeat' first | exact .nil | refine .cons ?_ ?_ | exact .s (.mp rfl) | exact .s (.ptr rfl) | exact .s (.ref rfl) | exact .fn (by repeat' first | exact .nil | refine .cons ?_ ?_ | exact .ptr rfl | exact .mp rfl | exact .clo QA) (by repeat' first | exact .nil | refine .cons ?_ ?_ | exact .ptr rfl | exact .mp rfl | exact .clo QA) | exact .s (.clo (by (repeat' first | exact Enc.clo _ | exact QA | exact QQ _ | exact Q8 (Qk _) | exact Qk _ | refine WX ?_ ?_ | refine WV ?_ | refine Wz ?_ | refine QB ?_ | exact QX | refine QN ?_ ?_ | refine Q8 ?_); done))) (by repeat' first | exact QA | exact QQ _ | exact Q8 (Qk _) | exact Qk _ | refine WX ?_ ?_ | refine WV ?_ | refine Wz ?_ | refine QB ?_ | exact QX | refine QN ?_ ?_ | refine Q8 ?_) (by rfl) ?_ | refine Qe ?_ | refine Qp rfl ?_ | refine Qf ?_ | refine Qa ?_ | refine Qg ?_ | refine Qj ?_)
  refine r_cond rfl (fun hb => ?_) (fun hb => ?_)
  ·have hf : (Q6 (ks.take (i + 1)) M).1 = false := by rw [ht]; simpa using hb
   rw [idxT_at hi2 hok hf, typesL_bad hf, ht]
   (repeat' first | refine Qt rfl ?_ | refine Qv rfl ?_ | refine Qe ?_ | refine Qp rfl ?_ | refine Qf ?_ | refine Qa ?_ | refine Qm ?_)
   exact e_1 (Tryd.results81) (Qh rfl) (Za ⟨rfl, rfl⟩)
  ·have hf : (Q6 (ks.take (i + 1)) M).1 = true := by rw [ht]; simpa using hb
   (repeat' first | refine Qt rfl ?_ | refine QS rfl rfl (by omega) ?_ | refine Qe ?_ | refine Qp rfl ?_ | refine Qa ?_ | refine Qj ?_)
   refine ⟨i + 1, ⟨by omega, hf⟩, by omega, ?_⟩
   rw [ht]
   exact zal rfl
 ·have hi2 : i = ks.length := by omega
  subst hi2
  rw [List.take_length] at hok ⊢
  rw [idxT_none hok]
  (repeat' first | refine Qv rfl ?_ | refine Qe ?_ | refine Qp rfl ?_ | refine Qf ?_ | refine Qa ?_ | refine QU rfl ?_ | refine Qm ?_)
  exact e_1 (Tryd.results81) (Qh rfl) (Za ⟨rfl, rfl⟩)
theorem containsFuncT_c (ks : List Nd) (hks : ks.length <= 1048576) (M : List (Int × Int)) (hcl : ∀ i (hi : i < ks.length) (M : List (Int × Int)), CM Tryd.prog G 66 (fun gp => [.agg (Enc.enc ks[i]), .ptr 0 gp 0]) M (.b (!(Zc ks[i] M).1)) (Zc ks[i] M).2) :
  CM Tryd.prog G 65 (fun gp => [Qy ks, .fn (.func 66) [] [.ptr 0 gp 0]]) M (.b (!(Q6 ks M).1)) (Q6 ks M).2 := fun gp g B b1 b2 => by
 have hix := indexFuncT_c ks hks M hcl
 refine Qb Tryd.func65 rfl Tryd.ntmps65 rfl (t := [(0, Qy ks), (1, .fn (.func 66) [] [.ptr 0 gp 0])]) rfl fun E hE => ?_
 (repeat' first | refine Qt rfl ?_ | refine Qv rfl ?_ | refine Wv rfl rfl ?_ | refine s_call_cm (kp := 0) (k := 1) (hix) rfl rfl rfl rfl (by rfl) (by repeat' first | exact .nil | refine .cons ?_ ?_ | exact .s (.mp rfl) | exact .s (.ptr rfl) | exact .s (.ref rfl) | exact .fn (by repeat' first | exact .nil | refine .cons ?_ ?_ | exact .ptr rfl | exact .mp rfl | exact .clo QA) (by repeat' first | exact .nil | refine .cons ?_ ?_ | exact .ptr rfl | exact .mp rfl | exact .clo QA) | exact .s (.clo (by (repeat' first | exact Enc.clo _ | exact QA | exact QQ _ | exact Q8 (Qk _) | exact Qk _ | refine WX ?_ ?_ | refine WV ?_ | refine Wz ?_ | refine QB ?_ | exact QX | refine QN ?_ ?_ | refine Q8 ?_); done))) (by repeat' first | exact QA | exact QQ _ | exact Q8 (Qk _) | exact Qk _ | refine WX ?_ ?_ | refine WV ?_ | refine Wz ?_ | refine QB ?_ | exact QX | refine QN ?_ ?_ | refine Q8 ?_) (by rfl) ?_ | refine Qe ?_ | refine Qp rfl ?_ | refine Qf ?_ | refine Qa ?_ | refine Qm ?_)
 exact e_1 (Tryd.results65) (Qh rfl) (Za ⟨congrArg DV.b (by
  cases h : (Q6 ks M).1
  ·obtain ⟨i, hi, h1, h2⟩ := typesL_first h
   rw [idxT_at hi h1 h2]; simp
  ·rw [idxT_none h]; rfl), rfl⟩)
inductive Fit : Nd -> Prop
 | mk {k n m : Int} {ks : List Nd} : ks.length <= 1048576 -> (∀ x ∈ ks, Fit x) -> Fit (.mk k n m ks)
theorem Fit.len {k n m : Int} {ks : List Nd} (h : Fit (.mk k n m ks)) : ks.length <= 1048576 := by cases h; assumption
theorem Fit.kids {k n m : Int} {ks : List Nd} (h : Fit (.mk k n m ks)) : ∀ x ∈ ks, Fit x := by cases h; assumption
theorem types1_c (x : Nd) (M : List (Int × Int)) (htm : TM Tryd.prog G 37 (fun g => [.agg (Enc.enc x), .mp 0 g]) M (.b (Zc x M).1) (Zc x M).2) :
  CM Tryd.prog G 66 (fun gp => [.agg (Enc.enc x), .ptr 0 gp 0]) M (.b (!(Zc x M).1)) (Zc x M).2 := fun gp g B b1 b2 => by
 refine Qb Tryd.func66 rfl Tryd.ntmps66 rfl (t := [(0, .agg (Enc.enc x)), (1, .ptr 0 gp 0)]) rfl fun E hE => ?_
 (repeat' first | refine Qv rfl ?_ | refine Qu rfl rfl (by first | exact Enc.len _ | rfl) ?_ | refine Qc rfl rfl rfl ?_ | refine s_ctm 1 (htm) rfl rfl rfl ?_ | refine ZQ rfl ?_ | refine Q5 rfl rfl (fun _ _ => ?_) | refine Qe ?_ | refine Qp rfl ?_ | refine Qf ?_ | refine Qa ?_ | refine Qm ?_)
 exact e_1 (Tryd.results66) (Qh rfl) (QC (σ := [_, _]) (r := [_]) ⟨rfl, rfl⟩)
theorem types_c (t : Nd) : Fit t -> ∀ M : List (Int × Int), TM Tryd.prog G 37 (fun g => [.agg (Enc.enc t), .mp 0 g]) M (.b (Zc t M).1) (Zc t M).2 := by
 induction t using Nd.ind with
 | h k n m ks ih =>
 intro hfit M g B b1
 have hks := hfit.len
 have hcf : ∀ M, _ := fun M => containsFuncT_c (G := G) ks hks M fun i hi M => types1_c ks[i] M (ih _ (List.getElem_mem hi) (hfit.kids _ (List.getElem_mem hi)) M)
 rw [We]
 refine Qb Tryd.func37 rfl Tryd.ntmps37 rfl (t := [(0, .agg [.i k, .i n, .i m, Qy ks]), (1, .mp 0 g)]) rfl fun E hE => ?_
 have e0 : ¬ (k = 6 /\ (W7 M n).isSome = true /\ (W7 M n).getD 0 ≠ m) -> Zc (.mk k n m ks) M = Q6 ks (if k = 6 then putI M n m else M) := fun h => by rw [Zc, if_neg h]
 (repeat' first | refine Qt rfl ?_ | refine Qv rfl ?_ | refine Qc rfl rfl rfl ?_ | refine QH rfl rfl ?_ | refine W6 rfl rfl ?_ | refine s_call_cm (kp := 2) (k := 0) (hcf _) rfl rfl rfl rfl (by rfl) (by repeat' first | exact .nil | refine .cons ?_ ?_ | exact .s (.mp rfl) | exact .s (.ptr rfl) | exact .s (.ref rfl) | exact .fn (by repeat' first | exact .nil | refine .cons ?_ ?_ | exact .ptr rfl | exact .mp rfl | exact .clo QA) (by repeat' first | exact .nil | refine .cons ?_ ?_ | exact .ptr rfl | exact .mp rfl | exact .clo QA) | exact .s (.clo (by (repeat' first | exact Enc.clo _ | exact QA | exact QQ _ | exact Q8 (Qk _) | exact Qk _ | refine WX ?_ ?_ | refine WV ?_ | refine Wz ?_ | refine QB ?_ | exact QX | refine QN ?_ ?_ | refine Q8 ?_); done))) (by repeat' first | exact QA | exact QQ _ | exact Q8 (Qk _) | exact Qk _ | refine WX ?_ ?_ | refine WV ?_ | refine Wz ?_ | refine QB ?_ | exact QX | refine QN ?_ ?_ | refine Q8 ?_) (by rfl) ?_ | refine WR rfl rfl ?_ | refine Wk rfl rfl ?_ | refine qm rfl rfl rfl (by kernel_rfl) ?_ | refine qa rfl rfl rfl rfl rfl ?_ | refine ZQ rfl ?_ | refine Qd rfl rfl ?_ | refine Wh rfl rfl rfl ?_ | refine Zt rfl rfl ?_ | refine Q5 rfl rfl (fun _ _ => ?_) | refine Qe ?_ | refine Qp rfl ?_ | refine Q0 ?_ | refine WC rfl rfl rfl rfl ?_ | refine WO rfl rfl rfl rfl ?_ | refine o_sp_d rfl rfl (fun _ => ?_) (fun _ => ?_) | refine o_sp rfl rfl (fun _ => ?_) (fun _ => ?_) | refine Qf ?_ | refine Qa ?_ | refine Qj ?_ | refine Qi rfl ?_ | refine Qx rfl (by omega) ?_ | refine QD rfl (by omega) ?_ | refine Qm ?_)
 ·rename_i h6 hs
  refine QE rfl (fun h => ?_) (fun h => ?_)
  ·rw [show Zc (.mk k n m ks) M = (false, M) by rw [Zc, if_pos ⟨h6, hs, h⟩]]
   (repeat' first | refine Qv rfl ?_ | refine Qe ?_ | refine Qp rfl ?_ | refine Qf ?_ | refine Qa ?_ | refine Qm ?_)
   exact e_1 (Tryd.results37) (Qh rfl) (QC (σ := [_]) (r := [_, _]) ⟨rfl, rfl⟩)
  ·rw [e0 fun hh => h hh.2.2, if_pos h6]
   (repeat' first | refine Qv rfl ?_ | refine Qc rfl rfl rfl ?_ | refine QH rfl rfl ?_ | refine s_call_cm (kp := 2) (k := 0) (hcf _) rfl rfl rfl rfl (by rfl) (by repeat' first | exact .nil | refine .cons ?_ ?_ | exact .s (.mp rfl) | exact .s (.ptr rfl) | exact .s (.ref rfl) | exact .fn (by repeat' first | exact .nil | refine .cons ?_ ?_ | exact .ptr rfl | exact .mp rfl | exact .clo QA) (by repeat' first | exact .nil | refine .cons ?_ ?_ | exact .ptr rfl | exact .mp rfl | exact .clo QA) | exact .s (.clo (by (repeat' first | exact Enc.clo _ | exact QA | exact QQ _ | exact Q8 (Qk _) | exact Qk _ | refine WX ?_ ?_ | refine WV ?_ | refine Wz ?_ | refine QB ?_ | exact QX | refine QN ?_ ?_ | refine Q8 ?_); done))) (by repeat' first | exact QA | exact QQ _ | exact Q8 (Qk _) | exact Qk _ | refine WX ?_ ?_ | refine WV ?_ | refine Wz ?_ | refine QB ?_ | exact QX | refine QN ?_ ?_ | refine Q8 ?_) (by rfl) ?_ | refine qa rfl rfl rfl rfl rfl ?_ | refine ZQ rfl ?_ | refine Qd rfl rfl ?_ | refine Zt rfl rfl ?_ | refine Qe ?_ | refine Qp rfl ?_ | refine Q0 ?_ | refine Qf ?_ | refine Qa ?_ | refine Qj ?_ | refine Qx rfl (by omega) ?_ | refine Qm ?_)
   exact e_1 (Tryd.results37) (Qh rfl) (QC (σ := [_]) (r := [_, _]) ⟨congrArg DV.b (Bool.not_not _), rfl⟩)
 ·rename_i h6 hs
  rw [e0 fun hh => by rw [hs] at hh; exact absurd hh.2.1 (by simp), if_pos h6]
  exact e_1 (Tryd.results37) (Qh rfl) (QC (σ := [_]) (r := [_, _]) ⟨congrArg DV.b (Bool.not_not _), rfl⟩)
 ·rename_i h6
  rw [e0 fun hh => h6 hh.1, if_neg h6]
  exact e_1 (Tryd.results37) (Qh rfl) (QC (σ := [_]) (r := [_, _]) ⟨congrArg DV.b (Bool.not_not _), rfl⟩)
theorem sameInts_c (a b : List Int) (ha : a.length <= 4611686018427387904) (hb : b.length <= 4611686018427387904) : Go.Av.Pure Tryd.prog G 23 [Qy a, Qy b] (.b (decide (a = b))) := fun B => by
 refine Qb Tryd.func23 rfl Tryd.ntmps23 rfl (t := [(0, Qy a), (1, Qy b)]) rfl fun E hE => ?_
 (repeat' first | refine Qt rfl ?_ | refine Qv rfl ?_ | refine W6 rfl rfl ?_ | refine Qn rfl ?_ | refine Qe ?_ | refine Qp rfl ?_ | refine Qf ?_ | refine Qa ?_)
 refine QE rfl (fun h => ?_) (fun h => ?_)
 ·(repeat' first | refine Qv rfl ?_ | refine Qe ?_ | refine Qp rfl ?_ | refine Qf ?_ | refine Qa ?_ | refine Qm ?_)
  refine e_1 Tryd.results23 (Qh rfl) (Qr ?_)
  rw [decide_eq_false (p := a = b) (fun e => h (by rw [e]))]
 have hl : a.length = b.length := by omega
 (repeat' first | refine Qv rfl ?_ | refine Qe ?_ | refine Qp rfl ?_ | refine Qf ?_ | refine Qa ?_ | refine Qg ?_ | refine Qj ?_)
 refine Wi (fun k : Nat => ⟨[(0, Qy a), (1, Qy b), (5, .i k)], []⟩) (fun k => k <= a.length /\ a.take k = b.take k) (fun k => a.length - k) 0 ?_ ⟨by omega, by simp⟩ ?_
 ·exact zal rfl
 intro k ⟨hk, hall⟩
 (repeat' first | refine Qt rfl ?_ | refine QG rfl rfl ?_ | refine Qn rfl ?_ | refine Qe ?_ | refine Qp rfl ?_ | refine Qf ?_ | refine Qa ?_)
 refine QE rfl (fun h => ?_) (fun h => ?_)
 ·have hk' : k < a.length := by omega
  have hk'' : k < b.length := by omega
  (repeat' first | refine Qe ?_ | refine Qf ?_ | refine Qg ?_ | (refine Wa ?_; first | refine Wj (by rfl) (by kernel_rfl) (by kernel_rfl) ?_ | refine QT (by kernel_rfl) (by kernel_rfl) ?_) | refine Qj ?_ | refine x_op rfl (by (repeat' first | refine Qt rfl ?_ | refine QF rfl ?_ | refine Qo rfl rfl (by first | assumption | omega | (simp; done) | (simp; omega)) ?_ | refine W6 rfl rfl ?_ | exact ⟨rfl, rfl⟩)) ?_ | refine x_nil ?_)
  refine QE rfl (fun h => ?_) (fun h => ?_)
  ·(repeat' first | refine Qv rfl ?_ | refine Qe ?_ | refine Qp rfl ?_ | refine Qf ?_ | refine Qa ?_ | refine Qm ?_)
   refine e_1 Tryd.results23 (Qh rfl) (Qr ?_)
   rw [decide_eq_false (p := a = b) (fun e => h (by subst e; rfl))]
  ·(repeat' first | refine Qt rfl ?_ | refine Qv rfl ?_ | refine QS rfl rfl (by omega) ?_ | refine Qe ?_ | refine Qp rfl ?_ | refine Qa ?_ | refine Qj ?_)
   refine ⟨k + 1, ⟨hk', ?_⟩, by omega, ?_⟩
   ·rw [List.take_succ_eq_append_getElem hk', List.take_succ_eq_append_getElem hk'', hall, Decidable.not_not.1 h]
   ·exact zal rfl
 ·(repeat' first | refine Qv rfl ?_ | refine Qe ?_ | refine Qp rfl ?_ | refine Qf ?_ | refine Qa ?_ | refine QU rfl ?_ | refine Qm ?_)
  refine e_1 Tryd.results23 (Qh rfl) (Qr ?_)
  rw [List.take_of_length_le (by omega), List.take_of_length_le (by omega)] at hall
  rw [decide_eq_true hall]
theorem Ws (a b : List Int) (ha : a.length <= 4611686018427387904) (hb : b.length <= 4611686018427387904) : Go.Av.Pure Tryd.prog G 79 [Qy a, Qy b] (.b (decide (a = b))) := fun B => by
 refine Qb Tryd.func79 rfl Tryd.ntmps79 rfl (t := [(0, Qy a), (1, Qy b)]) rfl fun E hE => ?_
 (repeat' first | refine Qt rfl ?_ | refine Qv rfl ?_ | refine W6 rfl rfl ?_ | refine Qn rfl ?_ | refine Qe ?_ | refine Qp rfl ?_ | refine Qf ?_ | refine Qa ?_)
 refine QE rfl (fun h => ?_) (fun h => ?_)
 ·(repeat' first | refine Qv rfl ?_ | refine Qe ?_ | refine Qp rfl ?_ | refine Qf ?_ | refine Qa ?_ | refine Qm ?_)
  refine e_1 Tryd.results79 (Qh rfl) (Qr ?_)
  rw [decide_eq_false (p := a = b) (fun e => h (by rw [e]))]
 have hl : a.length = b.length := by omega
 (repeat' first | refine Qt rfl ?_ | refine Qn rfl ?_ | refine Qe ?_ | refine Qp rfl ?_ | refine Qf ?_ | refine Qa ?_ | refine Qg ?_ | refine Qj ?_)
 refine Wi (fun k : Nat => ⟨[(0, Qy a), (1, Qy b), (12, .i a.length), (13, .i k)], []⟩) (fun k => k <= a.length /\ a.take k = b.take k) (fun k => a.length - k) 0 ?_ ⟨by omega, by simp⟩ ?_
 ·exact zal rfl
 intro k ⟨hk, hall⟩
 (repeat' first | refine QG rfl rfl ?_ | refine Qe ?_ | refine Qp rfl ?_ | refine Qf ?_ | refine Qa ?_)
 refine QE rfl (fun h => ?_) (fun h => ?_)
 ·have hk' : k < a.length := by omega
  have hk'' : k < b.length := by omega
  (repeat' first | refine Qt rfl ?_ | refine Qv rfl ?_ | refine Qe ?_ | refine Qp rfl ?_ | refine Qf ?_ | refine Qa ?_ | refine Qg ?_ | (refine Wa ?_; first | refine Wj (by rfl) (by kernel_rfl) (by kernel_rfl) ?_ | refine QT (by kernel_rfl) (by kernel_rfl) ?_) | refine Qj ?_ | refine x_op rfl (by (repeat' first | refine Qt rfl ?_ | refine QF rfl ?_ | refine Qo rfl rfl (by first | assumption | omega | (simp; done) | (simp; omega)) ?_ | refine W6 rfl rfl ?_ | exact ⟨rfl, rfl⟩)) ?_ | refine x_nil ?_)
  refine QE rfl (fun h => ?_) (fun h => ?_)
  ·(repeat' first | refine Qv rfl ?_ | refine Qe ?_ | refine Qp rfl ?_ | refine Qf ?_ | refine Qa ?_ | refine Qm ?_)
   refine e_1 Tryd.results79 (Qh rfl) (Qr ?_)
   rw [decide_eq_false (p := a = b) (fun e => h (by subst e; rfl))]
  ·(repeat' first | refine Qt rfl ?_ | refine QS rfl rfl (by omega) ?_ | refine Qe ?_ | refine Qp rfl ?_ | refine Qa ?_ | refine Qj ?_)
   refine ⟨k + 1, ⟨hk', ?_⟩, by omega, ?_⟩
   ·rw [List.take_succ_eq_append_getElem hk', List.take_succ_eq_append_getElem hk'', hall, Decidable.not_not.1 h]
   ·exact zal rfl
 ·(repeat' first | refine Qv rfl ?_ | refine Qe ?_ | refine Qp rfl ?_ | refine Qf ?_ | refine Qa ?_ | refine QU rfl ?_ | refine Qm ?_)
  refine e_1 Tryd.results79 (Qh rfl) (Qr ?_)
  rw [List.take_of_length_le (by omega), List.take_of_length_le (by omega)] at hall
  rw [decide_eq_true hall]
def opsD : DV := .ep [.fn (.func 136) [] [], .b false, .b false, .fn (.func 137) [] [], .b false, .b false, .fn (.func 138) [] [], .b false, .b false, .fn (.func 139) [] [], .b true, .b false, .fn (.func 140) [] [], .b true, .b false,
 .fn (.func 141) [] [], .b false, .b false, .fn (.func 142) [] [], .b false, .b false, .fn (.func 143) [] [], .b false, .b false, .fn (.func 144) [] [], .b false, .b false, .fn (.func 146) [] [], .b false, .b false,
 .fn (.func 147) [] [], .b false, .b true, .fn (.func 149) [] [], .b false, .b true, .fn (.func 150) [] [], .b false, .b true, .fn (.func 151) [] [], .b false, .b true]
def truthM (op : Int) : Bool := decide (10 <= op /\ op <= 13)
theorem wTruth_c (hG : G 0 = opsD) (op : Int) : Go.Av.Pure Tryd.prog G 80 [.i op] (.b (truthM op)) := fun B => by
 by_cases hop : 0 <= op /\ op < 14
 ·have : op = 0 \/ op = 1 \/ op = 2 \/ op = 3 \/ op = 4 \/ op = 5 \/ op = 6 \/ op = 7 \/ op = 8 \/ op = 9 \/ op = 10 \/ op = 11 \/ op = 12 \/ op = 13 := by omega
  rcases this with rfl | rfl | rfl | rfl | rfl | rfl | rfl | rfl | rfl | rfl | rfl | rfl | rfl | rfl
  all_goals
   refine Qb Tryd.func80 rfl Tryd.ntmps80 rfl (t := [(0, .i _)]) rfl fun E hE => ?_
   (repeat' first | refine Qt rfl ?_ | refine Qv rfl ?_ | refine QF rfl ?_ | refine WW hG rfl (by omega) (by omega) ?_ | refine QG rfl rfl ?_ | refine Wv rfl rfl ?_ | refine WR rfl rfl ?_ | refine s_fld_ep rfl rfl ?_ | refine Qe ?_ | refine Qp rfl ?_ | refine WC rfl rfl rfl rfl ?_ | refine Qf ?_ | refine Qa ?_ | refine Qm ?_)
   refine e_1 Tryd.results80 (Qh rfl) (Qr ?_)
   rfl
 ·refine Qb Tryd.func80 rfl Tryd.ntmps80 rfl (t := [(0, .i op)]) rfl fun E hE => ?_
  have e : truthM op = false := decide_eq_false (by omega)
  rw [e]
  (repeat' first | refine Qt rfl ?_ | refine Qv rfl ?_ | refine QG rfl rfl ?_ | refine Wv rfl rfl ?_ | refine WR rfl rfl ?_ | refine Wk rfl rfl ?_ | refine Qe ?_ | refine Qp rfl ?_ | refine WC rfl rfl rfl rfl ?_ | refine WO rfl rfl rfl rfl ?_ | refine Wn rfl rfl (by omega) ?_ | refine o_sp_d rfl rfl (fun _ => ?_) (fun _ => ?_) | refine Qf ?_ | refine Qa ?_ | refine Qm ?_)
  all_goals
   refine e_1 Tryd.results80 (Qh rfl) (Qr ?_)
   rfl
def _root_.Go.Bl.wrapI (n : Int) : Int := if 7 < ZC n then ZC n - 16 else ZC n
def _root_.Go.Bl.shiftM (b : Int) : Int := ZC b % 4
def _root_.Go.Bl.doM (op a b : Int) : Int :=
 if op = 0 then a + b else if op = 1 then a - b else if op = 2 then a * b else if op = 3 then IntKind.i64.wrap (a.tdiv b) else if op = 4 then a.tmod b else
 if op = 5 then Av.bitsOf .and .i64 a b else if op = 6 then Av.bitsOf .or .i64 a b else if op = 7 then Av.bitsOf .xor .i64 a b else
 if op = 8 then IntKind.i64.wrap (a * 2 ^ min (shiftM b).toNat 64) else if op = 9 then a / 2 ^ min (shiftM b).toNat 64 else
 if op = 10 then (if a < b then 1 else 0) else if op = 11 then (if a = b then 1 else 0) else if op = 12 then (if a ≠ 0 /\ b ≠ 0 then 1 else 0) else if a ≠ 0 \/ b ≠ 0 then 1 else 0
def _root_.Go.Bl.opM (op a b : Int) : Int × Int := if (op = 3 \/ op = 4) /\ wrapI b = 0 then (0, 2) else (wrapI (doM op (wrapI a) (wrapI b)), 0)
theorem _root_.Go.Bl.wrapI_bd (n : Int) : -8 <= wrapI n /\ wrapI n <= 7 := by
 have := wbits_bound n
 unfold wrapI
 split <;> omega
theorem mul_bd {a b : Int} (ha : -8 <= a /\ a <= 7) (hb : -8 <= b /\ b <= 7) : -8 * 8 <= a * b /\ a * b <= 8 * 8 := by
 have : a = -8 \/ a = -7 \/ a = -6 \/ a = -5 \/ a = -4 \/ a = -3 \/ a = -2 \/ a = -1 \/ a = 0 \/ a = 1 \/ a = 2 \/ a = 3 \/ a = 4 \/ a = 5 \/ a = 6 \/ a = 7 := by omega
 rcases this with rfl | rfl | rfl | rfl | rfl | rfl | rfl | rfl | rfl | rfl | rfl | rfl | rfl | rfl | rfl | rfl <;> omega
theorem W2 (n : Int) : Go.Av.Pure Tryd.prog G 57 [.i n] (.i (wrapI n)) := fun B => by
 have hw := wbits_bound n
 have hwr : wrapI n = if 7 < ZC n then ZC n - 16 else ZC n := rfl
 refine Qb Tryd.func57 rfl Tryd.ntmps57 rfl (t := [(0, .i n)]) rfl fun E hE => ?_
 (repeat' first | refine Qt rfl ?_ | refine Qv rfl ?_ | refine s_gtr rfl rfl ?_ | refine s_and rfl rfl ?_ | refine Qe ?_ | refine Qp rfl ?_ | refine Qf ?_ | refine Qa ?_)
 refine QE rfl (fun h => ?_) (fun h => ?_)
 ·rw [if_pos (show 7 < ZC n from h)] at hwr
  have h1 : -100 <= Av.bitsOf .and .i64 n 15 /\ Av.bitsOf .and .i64 n 15 <= 100 := ⟨by have := hw.1; show -100 <= ZC n; omega, by show ZC n <= 100; omega⟩
  (repeat' first | refine Qt rfl ?_ | refine Qv rfl ?_ | refine Zn rfl rfl (by omega) ?_ | refine Qe ?_ | refine Qp rfl ?_ | refine Qf ?_ | refine Qa ?_ | refine Qm ?_)
  refine e_1 Tryd.results57 (Qh rfl) (Qr ?_)
  rw [hwr]; rfl
 ·rw [if_neg (show ¬ 7 < ZC n from h)] at hwr
  (repeat' first | refine Qt rfl ?_ | refine Qv rfl ?_ | refine Qe ?_ | refine Qp rfl ?_ | refine Qf ?_ | refine Qa ?_ | refine Qj ?_ | refine Qm ?_)
  refine e_1 Tryd.results57 (Qh rfl) (Qr ?_)
  rw [hwr]; rfl
theorem wshift_c (b : Int) : Go.Av.Pure Tryd.prog G 145 [.i b] (.sc (.int .u64 (shiftM b))) := fun B => by
 have hw := wbits_bound b
 refine Qb Tryd.func145 rfl Tryd.ntmps145 rfl (t := [(0, .i b)]) rfl fun E hE => ?_
 (repeat' first | refine Qt rfl ?_ | refine Qv rfl ?_ | refine ZV rfl rfl (by omega) ?_ | refine QZ rfl rfl (wBits_c _) ?_ | refine s_conv rfl ?_ | refine Qe ?_ | refine Qp rfl ?_ | refine Qf ?_ | refine Qa ?_ | refine Qm ?_)
 refine e_1 Tryd.results145 (Qh rfl) (Qr ?_)
 have h1 : IntKind.u64.wrap (ZC b % 4) = ZC b % 4 := Int.emod_eq_of_lt (by omega) (by show _ < (18446744073709551616 : Int); omega)
 rw [show (ZC b).tmod 4 = ZC b % 4 from Int.tmod_eq_emod_of_nonneg hw.1, h1]
 rfl
theorem wnumber_c (b : Bool) : Go.Av.Pure Tryd.prog G 148 [.b b] (.i (if b = true then 1 else 0)) := fun B => by
 refine Qb Tryd.func148 rfl Tryd.ntmps148 rfl (t := [(0, .b b)]) rfl fun E hE => ?_
 cases b
 ·(repeat' first | refine Qt rfl ?_ | refine Qv rfl ?_ | refine Qe ?_ | refine Qp rfl ?_ | refine Qf ?_ | refine Qa ?_ | refine Qj ?_ | refine Qi rfl ?_ | refine Qm ?_)
  refine e_1 Tryd.results148 (Qh rfl) (Qr ?_)
  rfl
 ·(repeat' first | refine Qt rfl ?_ | refine Qv rfl ?_ | refine Qe ?_ | refine Qp rfl ?_ | refine Qf ?_ | refine Qa ?_ | refine Qs rfl ?_ | refine Qm ?_)
  refine e_1 Tryd.results148 (Qh rfl) (Qr ?_)
  rfl
theorem op1_c (a b : Int) (ha : -8 <= a /\ a <= 7) (hb : -8 <= b /\ b <= 7) : Go.Av.Pure Tryd.prog G 136 [.i a, .i b] (.i (doM 0 a b)) := fun B => by
 refine Qb Tryd.func136 rfl Tryd.ntmps136 rfl (t := [(0, .i a), (1, .i b)]) rfl fun E hE => ?_
 (repeat' first | refine Qt rfl ?_ | refine Qv rfl ?_ | refine QS rfl rfl (by omega) ?_ | refine Qe ?_ | refine Qp rfl ?_ | refine Qf ?_ | refine Qa ?_ | refine Qm ?_)
 refine e_1 Tryd.results136 (Qh rfl) (Qr ?_)
 rfl
theorem op2_c (a b : Int) (ha : -8 <= a /\ a <= 7) (hb : -8 <= b /\ b <= 7) : Go.Av.Pure Tryd.prog G 137 [.i a, .i b] (.i (doM 1 a b)) := fun B => by
 refine Qb Tryd.func137 rfl Tryd.ntmps137 rfl (t := [(0, .i a), (1, .i b)]) rfl fun E hE => ?_
 (repeat' first | refine Qt rfl ?_ | refine Qv rfl ?_ | refine Zn rfl rfl (by omega) ?_ | refine Qe ?_ | refine Qp rfl ?_ | refine Qf ?_ | refine Qa ?_ | refine Qm ?_)
 refine e_1 Tryd.results137 (Qh rfl) (Qr ?_)
 rfl
theorem op3_c (a b : Int) (ha : -8 <= a /\ a <= 7) (hb : -8 <= b /\ b <= 7) : Go.Av.Pure Tryd.prog G 138 [.i a, .i b] (.i (doM 2 a b)) := fun B => by
 have hm : -9223372036854775808 <= a * b /\ a * b <= 9223372036854775807 := by
  have h1 : -8 <= a := ha.1
  have e1 : -8 * 8 <= a * b /\ a * b <= 8 * 8 := mul_bd ha hb
  omega
 refine Qb Tryd.func138 rfl Tryd.ntmps138 rfl (t := [(0, .i a), (1, .i b)]) rfl fun E hE => ?_
 (repeat' first | refine Qt rfl ?_ | refine Qv rfl ?_ | refine Z2 rfl rfl (by assumption) ?_ | refine Qe ?_ | refine Qp rfl ?_ | refine Qf ?_ | refine Qa ?_ | refine Qm ?_)
 refine e_1 Tryd.results138 (Qh rfl) (Qr ?_)
 rfl
theorem op4_c (a b : Int) (ha : -8 <= a /\ a <= 7) (hb : -8 <= b /\ b <= 7) (h0 : b ≠ 0) : Go.Av.Pure Tryd.prog G 139 [.i a, .i b] (.i (doM 3 a b)) := fun B => by
 refine Qb Tryd.func139 rfl Tryd.ntmps139 rfl (t := [(0, .i a), (1, .i b)]) rfl fun E hE => ?_
 (repeat' first | refine Qt rfl ?_ | refine Qv rfl ?_ | refine s_quow rfl rfl (by omega) ?_ | refine Qe ?_ | refine Qp rfl ?_ | refine Qf ?_ | refine Qa ?_ | refine Qm ?_)
 refine e_1 Tryd.results139 (Qh rfl) (Qr ?_)
 rfl
theorem op5_c (a b : Int) (ha : -8 <= a /\ a <= 7) (hb : -8 <= b /\ b <= 7) (h0 : b ≠ 0) : Go.Av.Pure Tryd.prog G 140 [.i a, .i b] (.i (doM 4 a b)) := fun B => by
 refine Qb Tryd.func140 rfl Tryd.ntmps140 rfl (t := [(0, .i a), (1, .i b)]) rfl fun E hE => ?_
 (repeat' first | refine Qt rfl ?_ | refine Qv rfl ?_ | refine ZV rfl rfl (by omega) ?_ | refine Qe ?_ | refine Qp rfl ?_ | refine Qf ?_ | refine Qa ?_ | refine Qm ?_)
 refine e_1 Tryd.results140 (Qh rfl) (Qr ?_)
 rfl
theorem op6_c (a b : Int) (ha : -8 <= a /\ a <= 7) (hb : -8 <= b /\ b <= 7) : Go.Av.Pure Tryd.prog G 141 [.i a, .i b] (.i (doM 5 a b)) := fun B => by
 refine Qb Tryd.func141 rfl Tryd.ntmps141 rfl (t := [(0, .i a), (1, .i b)]) rfl fun E hE => ?_
 (repeat' first | refine Qt rfl ?_ | refine Qv rfl ?_ | refine s_and rfl rfl ?_ | refine Qe ?_ | refine Qp rfl ?_ | refine Qf ?_ | refine Qa ?_ | refine Qm ?_)
 refine e_1 Tryd.results141 (Qh rfl) (Qr ?_)
 rfl
theorem op7_c (a b : Int) (ha : -8 <= a /\ a <= 7) (hb : -8 <= b /\ b <= 7) : Go.Av.Pure Tryd.prog G 142 [.i a, .i b] (.i (doM 6 a b)) := fun B => by
 refine Qb Tryd.func142 rfl Tryd.ntmps142 rfl (t := [(0, .i a), (1, .i b)]) rfl fun E hE => ?_
 (repeat' first | refine Qt rfl ?_ | refine Qv rfl ?_ | refine s_or rfl rfl ?_ | refine Qe ?_ | refine Qp rfl ?_ | refine Qf ?_ | refine Qa ?_ | refine Qm ?_)
 refine e_1 Tryd.results142 (Qh rfl) (Qr ?_)
 rfl
theorem op8_c (a b : Int) (ha : -8 <= a /\ a <= 7) (hb : -8 <= b /\ b <= 7) : Go.Av.Pure Tryd.prog G 143 [.i a, .i b] (.i (doM 7 a b)) := fun B => by
 refine Qb Tryd.func143 rfl Tryd.ntmps143 rfl (t := [(0, .i a), (1, .i b)]) rfl fun E hE => ?_
 (repeat' first | refine Qt rfl ?_ | refine Qv rfl ?_ | refine s_xor rfl rfl ?_ | refine Qe ?_ | refine Qp rfl ?_ | refine Qf ?_ | refine Qa ?_ | refine Qm ?_)
 refine e_1 Tryd.results143 (Qh rfl) (Qr ?_)
 rfl
theorem op9_c (a b : Int) (ha : -8 <= a /\ a <= 7) (hb : -8 <= b /\ b <= 7) : Go.Av.Pure Tryd.prog G 144 [.i a, .i b] (.i (doM 8 a b)) := fun B => by
 have hs := wbits_bound b
 have hs1 : 0 <= shiftM b := by unfold shiftM; omega
 refine Qb Tryd.func144 rfl Tryd.ntmps144 rfl (t := [(0, .i a), (1, .i b)]) rfl fun E hE => ?_
 (repeat' first | refine Qt rfl ?_ | refine Qv rfl ?_ | refine s_shl rfl rfl (by omega) ?_ | refine QZ rfl rfl (wshift_c _) ?_ | refine Qe ?_ | refine Qp rfl ?_ | refine Qf ?_ | refine Qa ?_ | refine Qm ?_)
 refine e_1 Tryd.results144 (Qh rfl) (Qr ?_)
 rfl
theorem op10_c (a b : Int) (ha : -8 <= a /\ a <= 7) (hb : -8 <= b /\ b <= 7) : Go.Av.Pure Tryd.prog G 146 [.i a, .i b] (.i (doM 9 a b)) := fun B => by
 have hs := wbits_bound b
 have hs1 : 0 <= shiftM b := by unfold shiftM; omega
 refine Qb Tryd.func146 rfl Tryd.ntmps146 rfl (t := [(0, .i a), (1, .i b)]) rfl fun E hE => ?_
 (repeat' first | refine Qt rfl ?_ | refine Qv rfl ?_ | refine s_shr rfl rfl (by omega) ?_ | refine QZ rfl rfl (wshift_c _) ?_ | refine Qe ?_ | refine Qp rfl ?_ | refine Qf ?_ | refine Qa ?_ | refine Qm ?_)
 refine e_1 Tryd.results146 (Qh rfl) (Qr ?_)
 rfl
theorem op11_c (a b : Int) (ha : -8 <= a /\ a <= 7) (hb : -8 <= b /\ b <= 7) : Go.Av.Pure Tryd.prog G 147 [.i a, .i b] (.i (doM 10 a b)) := fun B => by
 refine Qb Tryd.func147 rfl Tryd.ntmps147 rfl (t := [(0, .i a), (1, .i b)]) rfl fun E hE => ?_
 (repeat' first | refine Qt rfl ?_ | refine Qv rfl ?_ | refine QG rfl rfl ?_ | refine QZ rfl rfl (wnumber_c _) ?_ | refine Qe ?_ | refine Qp rfl ?_ | refine Qf ?_ | refine Qa ?_ | refine Qm ?_)
 refine e_1 Tryd.results147 (Qh rfl) (Qr ?_)
 simp [doM]
theorem op12_c (a b : Int) (ha : -8 <= a /\ a <= 7) (hb : -8 <= b /\ b <= 7) : Go.Av.Pure Tryd.prog G 149 [.i a, .i b] (.i (doM 11 a b)) := fun B => by
 refine Qb Tryd.func149 rfl Tryd.ntmps149 rfl (t := [(0, .i a), (1, .i b)]) rfl fun E hE => ?_
 (repeat' first | refine Qt rfl ?_ | refine Qv rfl ?_ | refine QH rfl rfl ?_ | refine QZ rfl rfl (wnumber_c _) ?_ | refine Qe ?_ | refine Qp rfl ?_ | refine Qf ?_ | refine Qa ?_ | refine Qm ?_)
 refine e_1 Tryd.results149 (Qh rfl) (Qr ?_)
 simp [doM]
theorem op13_c (a b : Int) (ha : -8 <= a /\ a <= 7) (hb : -8 <= b /\ b <= 7) : Go.Av.Pure Tryd.prog G 150 [.i a, .i b] (.i (doM 12 a b)) := fun B => by
 refine Qb Tryd.func150 rfl Tryd.ntmps150 rfl (t := [(0, .i a), (1, .i b)]) rfl fun E hE => ?_
 by_cases q1 : a = 0
 all_goals by_cases q2 : b = 0
 all_goals
  (repeat' first | refine Qt rfl ?_ | refine Qv rfl ?_ | refine W6 rfl rfl ?_ | refine QZ rfl rfl (wnumber_c _) ?_ | refine WR rfl rfl ?_ | refine Wk rfl rfl ?_ | refine Qe ?_ | refine Qp rfl ?_ | refine WC rfl rfl rfl rfl ?_ | refine WO rfl rfl rfl rfl ?_ | refine Wm rfl rfl (by omega) ?_ | refine Wn rfl rfl (by omega) ?_ | refine Qf ?_ | refine Qa ?_ | refine Qm ?_)
  refine e_1 Tryd.results150 (Qh rfl) (Qr ?_)
  simp [doM, q1, q2]
theorem op14_c (a b : Int) (ha : -8 <= a /\ a <= 7) (hb : -8 <= b /\ b <= 7) : Go.Av.Pure Tryd.prog G 151 [.i a, .i b] (.i (doM 13 a b)) := fun B => by
 refine Qb Tryd.func151 rfl Tryd.ntmps151 rfl (t := [(0, .i a), (1, .i b)]) rfl fun E hE => ?_
 by_cases q1 : a = 0
 all_goals by_cases q2 : b = 0
 all_goals
  (repeat' first | refine Qt rfl ?_ | refine Qv rfl ?_ | refine W6 rfl rfl ?_ | refine QZ rfl rfl (wnumber_c _) ?_ | refine WR rfl rfl ?_ | refine Wk rfl rfl ?_ | refine Qe ?_ | refine Qp rfl ?_ | refine WC rfl rfl rfl rfl ?_ | refine WO rfl rfl rfl rfl ?_ | refine Wm rfl rfl (by omega) ?_ | refine Wn rfl rfl (by omega) ?_ | refine Qf ?_ | refine Qa ?_ | refine Qm ?_)
  refine e_1 Tryd.results151 (Qh rfl) (Qr ?_)
  simp [doM, q1, q2]
theorem wOp_0 (hG : G 0 = opsD) (a b : Int) (ha : -8 <= wrapI a /\ wrapI a <= 7) (hb : -8 <= wrapI b /\ wrapI b <= 7) : Go.Av.Pure Tryd.prog G 60 [.i 0, .i a, .i b] (.tup [.i (opM 0 a b).1, .i (opM 0 a b).2]) := fun B => by
 have h_op := op1_c (G := G) (wrapI a) (wrapI b) ha hb
 refine Qb Tryd.func60 rfl Tryd.ntmps60 rfl (t := [(0, .i _), (1, .i a), (2, .i b)]) rfl fun E hE => ?_
 (repeat' first | refine Qt rfl ?_ | refine Qv rfl ?_ | refine WJ rfl (by rfl) (by rfl) ?_ | refine Qc rfl rfl rfl ?_ | refine WW hG rfl (by omega) (by omega) ?_ | refine QG rfl rfl ?_ | refine Wv rfl rfl ?_ | refine QZ rfl rfl (W2 _) ?_ | refine WQ rfl (h_op) (by repeat' first | exact QA | exact QQ _ | exact Q8 (Qk _) | exact Qk _ | refine WX ?_ ?_ | refine WV ?_ | refine Wz ?_ | refine QB ?_ | exact QX | refine QN ?_ ?_ | refine Q8 ?_) ?_ | refine Wk rfl rfl ?_ | refine Qd rfl rfl ?_ | refine Wf rfl rfl rfl rfl (by rfl) (by rfl) (by rfl) ?_ | refine QJ (fun _ _ => ?_) | refine Qe ?_ | refine Qp rfl ?_ | refine Q0 ?_ | refine WC rfl rfl rfl rfl ?_ | refine WO rfl rfl rfl rfl ?_ | refine Qf ?_ | refine Qa ?_ | refine Qj ?_ | refine Qi rfl ?_ | refine Qm ?_)
 rw [show opM 0 a b = (wrapI (doM 0 (wrapI a) (wrapI b)), 0) from if_neg fun h => absurd h.1 (by decide)]
 exact e_2 (Tryd.results60) (Qh rfl) (Qh rfl) (Qr rfl)
theorem wOp_1 (hG : G 0 = opsD) (a b : Int) (ha : -8 <= wrapI a /\ wrapI a <= 7) (hb : -8 <= wrapI b /\ wrapI b <= 7) : Go.Av.Pure Tryd.prog G 60 [.i 1, .i a, .i b] (.tup [.i (opM 1 a b).1, .i (opM 1 a b).2]) := fun B => by
 have h_op := op2_c (G := G) (wrapI a) (wrapI b) ha hb
 refine Qb Tryd.func60 rfl Tryd.ntmps60 rfl (t := [(0, .i _), (1, .i a), (2, .i b)]) rfl fun E hE => ?_
 (repeat' first | refine Qt rfl ?_ | refine Qv rfl ?_ | refine WJ rfl (by rfl) (by rfl) ?_ | refine Qc rfl rfl rfl ?_ | refine WW hG rfl (by omega) (by omega) ?_ | refine QG rfl rfl ?_ | refine Wv rfl rfl ?_ | refine QZ rfl rfl (W2 _) ?_ | refine WQ rfl (h_op) (by repeat' first | exact QA | exact QQ _ | exact Q8 (Qk _) | exact Qk _ | refine WX ?_ ?_ | refine WV ?_ | refine Wz ?_ | refine QB ?_ | exact QX | refine QN ?_ ?_ | refine Q8 ?_) ?_ | refine Wk rfl rfl ?_ | refine Qd rfl rfl ?_ | refine Wf rfl rfl rfl rfl (by rfl) (by rfl) (by rfl) ?_ | refine QJ (fun _ _ => ?_) | refine Qe ?_ | refine Qp rfl ?_ | refine Q0 ?_ | refine WC rfl rfl rfl rfl ?_ | refine WO rfl rfl rfl rfl ?_ | refine Qf ?_ | refine Qa ?_ | refine Qj ?_ | refine Qi rfl ?_ | refine Qm ?_)
 rw [show opM 1 a b = (wrapI (doM 1 (wrapI a) (wrapI b)), 0) from if_neg fun h => absurd h.1 (by decide)]
 exact e_2 (Tryd.results60) (Qh rfl) (Qh rfl) (Qr rfl)
theorem wOp_2 (hG : G 0 = opsD) (a b : Int) (ha : -8 <= wrapI a /\ wrapI a <= 7) (hb : -8 <= wrapI b /\ wrapI b <= 7) : Go.Av.Pure Tryd.prog G 60 [.i 2, .i a, .i b] (.tup [.i (opM 2 a b).1, .i (opM 2 a b).2]) := fun B => by
 have h_op := op3_c (G := G) (wrapI a) (wrapI b) ha hb
 refine Qb Tryd.func60 rfl Tryd.ntmps60 rfl (t := [(0, .i _), (1, .i a), (2, .i b)]) rfl fun E hE => ?_
 (repeat' first | refine Qt rfl ?_ | refine Qv rfl ?_ | refine WJ rfl (by rfl) (by rfl) ?_ | refine Qc rfl rfl rfl ?_ | refine WW hG rfl (by omega) (by omega) ?_ | refine QG rfl rfl ?_ | refine Wv rfl rfl ?_ | refine QZ rfl rfl (W2 _) ?_ | refine WQ rfl (h_op) (by repeat' first | exact QA | exact QQ _ | exact Q8 (Qk _) | exact Qk _ | refine WX ?_ ?_ | refine WV ?_ | refine Wz ?_ | refine QB ?_ | exact QX | refine QN ?_ ?_ | refine Q8 ?_) ?_ | refine Wk rfl rfl ?_ | refine Qd rfl rfl ?_ | refine Wf rfl rfl rfl rfl (by rfl) (by rfl) (by rfl) ?_ | refine QJ (fun _ _ => ?_) | refine Qe ?_ | refine Qp rfl ?_ | refine Q0 ?_ | refine WC rfl rfl rfl rfl ?_ | refine WO rfl rfl rfl rfl ?_ | refine Qf ?_ | refine Qa ?_ | refine Qj ?_ | refine Qi rfl ?_ | refine Qm ?_)
 rw [show opM 2 a b = (wrapI (doM 2 (wrapI a) (wrapI b)), 0) from if_neg fun h => absurd h.1 (by decide)]
 exact e_2 (Tryd.results60) (Qh rfl) (Qh rfl) (Qr rfl)
theorem wOp_3 (hG : G 0 = opsD) (a b : Int) (ha : -8 <= wrapI a /\ wrapI a <= 7) (hb : -8 <= wrapI b /\ wrapI b <= 7) : Go.Av.Pure Tryd.prog G 60 [.i 3, .i a, .i b] (.tup [.i (opM 3 a b).1, .i (opM 3 a b).2]) := fun B => by
 by_cases h0 : wrapI b = 0
 ·refine Qb Tryd.func60 rfl Tryd.ntmps60 rfl (t := [(0, .i _), (1, .i a), (2, .i b)]) rfl fun E hE => ?_
  (repeat' first | refine Qt rfl ?_ | refine Qv rfl ?_ | refine WJ rfl (by rfl) (by rfl) ?_ | refine Qc rfl rfl rfl ?_ | refine WW hG rfl (by omega) (by omega) ?_ | refine QG rfl rfl ?_ | refine Wv rfl rfl ?_ | refine QH rfl rfl ?_ | refine QZ rfl rfl (W2 _) ?_ | refine WR rfl rfl ?_ | refine Wk rfl rfl ?_ | refine Qd rfl rfl ?_ | refine Wf rfl rfl rfl rfl (by rfl) (by rfl) (by rfl) ?_ | refine QJ (fun _ _ => ?_) | refine Qe ?_ | refine Qp rfl ?_ | refine Q0 ?_ | refine WC rfl rfl rfl rfl ?_ | refine Qf ?_ | refine Qa ?_ | refine Qj ?_ | refine Qi rfl ?_ | refine Qx rfl (by omega) ?_ | refine Qm ?_)
  rw [show opM 3 a b = (0, 2) from if_pos ⟨by decide, h0⟩]
  exact e_2 (Tryd.results60) (Qh rfl) (Qh rfl) (Qr rfl)
 ·have h_op := op4_c (G := G) (wrapI a) (wrapI b) ha hb h0
  refine Qb Tryd.func60 rfl Tryd.ntmps60 rfl (t := [(0, .i _), (1, .i a), (2, .i b)]) rfl fun E hE => ?_
  (repeat' first | refine Qt rfl ?_ | refine Qv rfl ?_ | refine WJ rfl (by rfl) (by rfl) ?_ | refine Qc rfl rfl rfl ?_ | refine WW hG rfl (by omega) (by omega) ?_ | refine QG rfl rfl ?_ | refine Wv rfl rfl ?_ | refine QH rfl rfl ?_ | refine QZ rfl rfl (W2 _) ?_ | refine WQ rfl (h_op) (by repeat' first | exact QA | exact QQ _ | exact Q8 (Qk _) | exact Qk _ | refine WX ?_ ?_ | refine WV ?_ | refine Wz ?_ | refine QB ?_ | exact QX | refine QN ?_ ?_ | refine Q8 ?_) ?_ | refine WR rfl rfl ?_ | refine Wk rfl rfl ?_ | refine Qd rfl rfl ?_ | refine Wf rfl rfl rfl rfl (by rfl) (by rfl) (by rfl) ?_ | refine QJ (fun _ _ => ?_) | refine Qe ?_ | refine Qp rfl ?_ | refine Q0 ?_ | refine WC rfl rfl rfl rfl ?_ | refine Qf ?_ | refine Qa ?_ | refine Qj ?_ | refine Qi rfl ?_ | refine QD rfl (by omega) ?_ | refine Qm ?_)
  rw [show opM 3 a b = (wrapI (doM 3 (wrapI a) (wrapI b)), 0) from if_neg fun h => h0 h.2]
  exact e_2 (Tryd.results60) (Qh rfl) (Qh rfl) (Qr rfl)
theorem wOp_4 (hG : G 0 = opsD) (a b : Int) (ha : -8 <= wrapI a /\ wrapI a <= 7) (hb : -8 <= wrapI b /\ wrapI b <= 7) : Go.Av.Pure Tryd.prog G 60 [.i 4, .i a, .i b] (.tup [.i (opM 4 a b).1, .i (opM 4 a b).2]) := fun B => by
 by_cases h0 : wrapI b = 0
 ·refine Qb Tryd.func60 rfl Tryd.ntmps60 rfl (t := [(0, .i _), (1, .i a), (2, .i b)]) rfl fun E hE => ?_
  (repeat' first | refine Qt rfl ?_ | refine Qv rfl ?_ | refine WJ rfl (by rfl) (by rfl) ?_ | refine Qc rfl rfl rfl ?_ | refine WW hG rfl (by omega) (by omega) ?_ | refine QG rfl rfl ?_ | refine Wv rfl rfl ?_ | refine QH rfl rfl ?_ | refine QZ rfl rfl (W2 _) ?_ | refine WR rfl rfl ?_ | refine Wk rfl rfl ?_ | refine Qd rfl rfl ?_ | refine Wf rfl rfl rfl rfl (by rfl) (by rfl) (by rfl) ?_ | refine QJ (fun _ _ => ?_) | refine Qe ?_ | refine Qp rfl ?_ | refine Q0 ?_ | refine WC rfl rfl rfl rfl ?_ | refine Qf ?_ | refine Qa ?_ | refine Qj ?_ | refine Qi rfl ?_ | refine Qx rfl (by omega) ?_ | refine Qm ?_)
  rw [show opM 4 a b = (0, 2) from if_pos ⟨by decide, h0⟩]
  exact e_2 (Tryd.results60) (Qh rfl) (Qh rfl) (Qr rfl)
 ·have h_op := op5_c (G := G) (wrapI a) (wrapI b) ha hb h0
  refine Qb Tryd.func60 rfl Tryd.ntmps60 rfl (t := [(0, .i _), (1, .i a), (2, .i b)]) rfl fun E hE => ?_
  (repeat' first | refine Qt rfl ?_ | refine Qv rfl ?_ | refine WJ rfl (by rfl) (by rfl) ?_ | refine Qc rfl rfl rfl ?_ | refine WW hG rfl (by omega) (by omega) ?_ | refine QG rfl rfl ?_ | refine Wv rfl rfl ?_ | refine QH rfl rfl ?_ | refine QZ rfl rfl (W2 _) ?_ | refine WQ rfl (h_op) (by repeat' first | exact QA | exact QQ _ | exact Q8 (Qk _) | exact Qk _ | refine WX ?_ ?_ | refine WV ?_ | refine Wz ?_ | refine QB ?_ | exact QX | refine QN ?_ ?_ | refine Q8 ?_) ?_ | refine WR rfl rfl ?_ | refine Wk rfl rfl ?_ | refine Qd rfl rfl ?_ | refine Wf rfl rfl rfl rfl (by rfl) (by rfl) (by rfl) ?_ | refine QJ (fun _ _ => ?_) | refine Qe ?_ | refine Qp rfl ?_ | refine Q0 ?_ | refine WC rfl rfl rfl rfl ?_ | refine Qf ?_ | refine Qa ?_ | refine Qj ?_ | refine Qi rfl ?_ | refine QD rfl (by omega) ?_ | refine Qm ?_)
  rw [show opM 4 a b = (wrapI (doM 4 (wrapI a) (wrapI b)), 0) from if_neg fun h => h0 h.2]
  exact e_2 (Tryd.results60) (Qh rfl) (Qh rfl) (Qr rfl)
theorem wOp_5 (hG : G 0 = opsD) (a b : Int) (ha : -8 <= wrapI a /\ wrapI a <= 7) (hb : -8 <= wrapI b /\ wrapI b <= 7) : Go.Av.Pure Tryd.prog G 60 [.i 5, .i a, .i b] (.tup [.i (opM 5 a b).1, .i (opM 5 a b).2]) := fun B => by
 have h_op := op6_c (G := G) (wrapI a) (wrapI b) ha hb
 refine Qb Tryd.func60 rfl Tryd.ntmps60 rfl (t := [(0, .i _), (1, .i a), (2, .i b)]) rfl fun E hE => ?_
 (repeat' first | refine Qt rfl ?_ | refine Qv rfl ?_ | refine WJ rfl (by rfl) (by rfl) ?_ | refine Qc rfl rfl rfl ?_ | refine WW hG rfl (by omega) (by omega) ?_ | refine QG rfl rfl ?_ | refine Wv rfl rfl ?_ | refine QZ rfl rfl (W2 _) ?_ | refine WQ rfl (h_op) (by repeat' first | exact QA | exact QQ _ | exact Q8 (Qk _) | exact Qk _ | refine WX ?_ ?_ | refine WV ?_ | refine Wz ?_ | refine QB ?_ | exact QX | refine QN ?_ ?_ | refine Q8 ?_) ?_ | refine Wk rfl rfl ?_ | refine Qd rfl rfl ?_ | refine Wf rfl rfl rfl rfl (by rfl) (by rfl) (by rfl) ?_ | refine QJ (fun _ _ => ?_) | refine Qe ?_ | refine Qp rfl ?_ | refine Q0 ?_ | refine WC rfl rfl rfl rfl ?_ | refine WO rfl rfl rfl rfl ?_ | refine Qf ?_ | refine Qa ?_ | refine Qj ?_ | refine Qi rfl ?_ | refine Qm ?_)
 rw [show opM 5 a b = (wrapI (doM 5 (wrapI a) (wrapI b)), 0) from if_neg fun h => absurd h.1 (by decide)]
 exact e_2 (Tryd.results60) (Qh rfl) (Qh rfl) (Qr rfl)
theorem wOp_6 (hG : G 0 = opsD) (a b : Int) (ha : -8 <= wrapI a /\ wrapI a <= 7) (hb : -8 <= wrapI b /\ wrapI b <= 7) : Go.Av.Pure Tryd.prog G 60 [.i 6, .i a, .i b] (.tup [.i (opM 6 a b).1, .i (opM 6 a b).2]) := fun B => by
 have h_op := op7_c (G := G) (wrapI a) (wrapI b) ha hb
 refine Qb Tryd.func60 rfl Tryd.ntmps60 rfl (t := [(0, .i _), (1, .i a), (2, .i b)]) rfl fun E hE => ?_
 (repeat' first | refine Qt rfl ?_ | refine Qv rfl ?_ | refine WJ rfl (by rfl) (by rfl) ?_ | refine Qc rfl rfl rfl ?_ | refine WW hG rfl (by omega) (by omega) ?_ | refine QG rfl rfl ?_ | refine Wv rfl rfl ?_ | refine QZ rfl rfl (W2 _) ?_ | refine WQ rfl (h_op) (by repeat' first | exact QA | exact QQ _ | exact Q8 (Qk _) | exact Qk _ | refine WX ?_ ?_ | refine WV ?_ | refine Wz ?_ | refine QB ?_ | exact QX | refine QN ?_ ?_ | refine Q8 ?_) ?_ | refine Wk rfl rfl ?_ | refine Qd rfl rfl ?_ | refine Wf rfl rfl rfl rfl (by rfl) (by rfl) (by rfl) ?_ | refine QJ (fun _ _ => ?_) | refine Qe ?_ | refine Qp rfl ?_ | refine Q0 ?_ | refine WC rfl rfl rfl rfl ?_ | refine WO rfl rfl rfl rfl ?_ | refine Qf ?_ | refine Qa ?_ | refine Qj ?_ | refine Qi rfl ?_ | refine Qm ?_)
 rw [show opM 6 a b = (wrapI (doM 6 (wrapI a) (wrapI b)), 0) from if_neg fun h => absurd h.1 (by decide)]
 exact e_2 (Tryd.results60) (Qh rfl) (Qh rfl) (Qr rfl)
theorem wOp_7 (hG : G 0 = opsD) (a b : Int) (ha : -8 <= wrapI a /\ wrapI a <= 7) (hb : -8 <= wrapI b /\ wrapI b <= 7) : Go.Av.Pure Tryd.prog G 60 [.i 7, .i a, .i b] (.tup [.i (opM 7 a b).1, .i (opM 7 a b).2]) := fun B => by
 have h_op := op8_c (G := G) (wrapI a) (wrapI b) ha hb
 refine Qb Tryd.func60 rfl Tryd.ntmps60 rfl (t := [(0, .i _), (1, .i a), (2, .i b)]) rfl fun E hE => ?_
 (repeat' first | refine Qt rfl ?_ | refine Qv rfl ?_ | refine WJ rfl (by rfl) (by rfl) ?_ | refine Qc rfl rfl rfl ?_ | refine WW hG rfl (by omega) (by omega) ?_ | refine QG rfl rfl ?_ | refine Wv rfl rfl ?_ | refine QZ rfl rfl (W2 _) ?_ | refine WQ rfl (h_op) (by repeat' first | exact QA | exact QQ _ | exact Q8 (Qk _) | exact Qk _ | refine WX ?_ ?_ | refine WV ?_ | refine Wz ?_ | refine QB ?_ | exact QX | refine QN ?_ ?_ | refine Q8 ?_) ?_ | refine Wk rfl rfl ?_ | refine Qd rfl rfl ?_ | refine Wf rfl rfl rfl rfl (by rfl) (by rfl) (by rfl) ?_ | refine QJ (fun _ _ => ?_) | refine Qe ?_ | refine Qp rfl ?_ | refine Q0 ?_ | refine WC rfl rfl rfl rfl ?_ | refine WO rfl rfl rfl rfl ?_ | refine Qf ?_ | refine Qa ?_ | refine Qj ?_ | refine Qi rfl ?_ | refine Qm ?_)
 rw [show opM 7 a b = (wrapI (doM 7 (wrapI a) (wrapI b)), 0) from if_neg fun h => absurd h.1 (by decide)]
 exact e_2 (Tryd.results60) (Qh rfl) (Qh rfl) (Qr rfl)
theorem wOp_8 (hG : G 0 = opsD) (a b : Int) (ha : -8 <= wrapI a /\ wrapI a <= 7) (hb : -8 <= wrapI b /\ wrapI b <= 7) : Go.Av.Pure Tryd.prog G 60 [.i 8, .i a, .i b] (.tup [.i (opM 8 a b).1, .i (opM 8 a b).2]) := fun B => by
 have h_op := op9_c (G := G) (wrapI a) (wrapI b) ha hb
 refine Qb Tryd.func60 rfl Tryd.ntmps60 rfl (t := [(0, .i _), (1, .i a), (2, .i b)]) rfl fun E hE => ?_
 (repeat' first | refine Qt rfl ?_ | refine Qv rfl ?_ | refine WJ rfl (by rfl) (by rfl) ?_ | refine Qc rfl rfl rfl ?_ | refine WW hG rfl (by omega) (by omega) ?_ | refine QG rfl rfl ?_ | refine Wv rfl rfl ?_ | refine QZ rfl rfl (W2 _) ?_ | refine WQ rfl (h_op) (by repeat' first | exact QA | exact QQ _ | exact Q8 (Qk _) | exact Qk _ | refine WX ?_ ?_ | refine WV ?_ | refine Wz ?_ | refine QB ?_ | exact QX | refine QN ?_ ?_ | refine Q8 ?_) ?_ | refine Wk rfl rfl ?_ | refine Qd rfl rfl ?_ | refine Wf rfl rfl rfl rfl (by rfl) (by rfl) (by rfl) ?_ | refine QJ (fun _ _ => ?_) | refine Qe ?_ | refine Qp rfl ?_ | refine Q0 ?_ | refine WC rfl rfl rfl rfl ?_ | refine WO rfl rfl rfl rfl ?_ | refine Qf ?_ | refine Qa ?_ | refine Qj ?_ | refine Qi rfl ?_ | refine Qm ?_)
 rw [show opM 8 a b = (wrapI (doM 8 (wrapI a) (wrapI b)), 0) from if_neg fun h => absurd h.1 (by decide)]
 exact e_2 (Tryd.results60) (Qh rfl) (Qh rfl) (Qr rfl)
theorem wOp_9 (hG : G 0 = opsD) (a b : Int) (ha : -8 <= wrapI a /\ wrapI a <= 7) (hb : -8 <= wrapI b /\ wrapI b <= 7) : Go.Av.Pure Tryd.prog G 60 [.i 9, .i a, .i b] (.tup [.i (opM 9 a b).1, .i (opM 9 a b).2]) := fun B => by
 have h_op := op10_c (G := G) (wrapI a) (wrapI b) ha hb
 refine Qb Tryd.func60 rfl Tryd.ntmps60 rfl (t := [(0, .i _), (1, .i a), (2, .i b)]) rfl fun E hE => ?_
 (repeat' first | refine Qt rfl ?_ | refine Qv rfl ?_ | refine WJ rfl (by rfl) (by rfl) ?_ | refine Qc rfl rfl rfl ?_ | refine WW hG rfl (by omega) (by omega) ?_ | refine QG rfl rfl ?_ | refine Wv rfl rfl ?_ | refine QZ rfl rfl (W2 _) ?_ | refine WQ rfl (h_op) (by repeat' first | exact QA | exact QQ _ | exact Q8 (Qk _) | exact Qk _ | refine WX ?_ ?_ | refine WV ?_ | refine Wz ?_ | refine QB ?_ | exact QX | refine QN ?_ ?_ | refine Q8 ?_) ?_ | refine Wk rfl rfl ?_ | refine Qd rfl rfl ?_ | refine Wf rfl rfl rfl rfl (by rfl) (by rfl) (by rfl) ?_ | refine QJ (fun _ _ => ?_) | refine Qe ?_ | refine Qp rfl ?_ | refine Q0 ?_ | refine WC rfl rfl rfl rfl ?_ | refine WO rfl rfl rfl rfl ?_ | refine Qf ?_ | refine Qa ?_ | refine Qj ?_ | refine Qi rfl ?_ | refine Qm ?_)
 rw [show opM 9 a b = (wrapI (doM 9 (wrapI a) (wrapI b)), 0) from if_neg fun h => absurd h.1 (by decide)]
 exact e_2 (Tryd.results60) (Qh rfl) (Qh rfl) (Qr rfl)
theorem wOp_10 (hG : G 0 = opsD) (a b : Int) (ha : -8 <= wrapI a /\ wrapI a <= 7) (hb : -8 <= wrapI b /\ wrapI b <= 7) : Go.Av.Pure Tryd.prog G 60 [.i 10, .i a, .i b] (.tup [.i (opM 10 a b).1, .i (opM 10 a b).2]) := fun B => by
 have h_op := op11_c (G := G) (wrapI a) (wrapI b) ha hb
 refine Qb Tryd.func60 rfl Tryd.ntmps60 rfl (t := [(0, .i _), (1, .i a), (2, .i b)]) rfl fun E hE => ?_
 (repeat' first | refine Qt rfl ?_ | refine Qv rfl ?_ | refine WJ rfl (by rfl) (by rfl) ?_ | refine Qc rfl rfl rfl ?_ | refine WW hG rfl (by omega) (by omega) ?_ | refine QG rfl rfl ?_ | refine Wv rfl rfl ?_ | refine QZ rfl rfl (W2 _) ?_ | refine WQ rfl (h_op) (by repeat' first | exact QA | exact QQ _ | exact Q8 (Qk _) | exact Qk _ | refine WX ?_ ?_ | refine WV ?_ | refine Wz ?_ | refine QB ?_ | exact QX | refine QN ?_ ?_ | refine Q8 ?_) ?_ | refine Wk rfl rfl ?_ | refine Qd rfl rfl ?_ | refine Wf rfl rfl rfl rfl (by rfl) (by rfl) (by rfl) ?_ | refine QJ (fun _ _ => ?_) | refine Qe ?_ | refine Qp rfl ?_ | refine Q0 ?_ | refine WC rfl rfl rfl rfl ?_ | refine WO rfl rfl rfl rfl ?_ | refine Qf ?_ | refine Qa ?_ | refine Qj ?_ | refine Qi rfl ?_ | refine Qm ?_)
 rw [show opM 10 a b = (wrapI (doM 10 (wrapI a) (wrapI b)), 0) from if_neg fun h => absurd h.1 (by decide)]
 exact e_2 (Tryd.results60) (Qh rfl) (Qh rfl) (Qr rfl)
theorem wOp_11 (hG : G 0 = opsD) (a b : Int) (ha : -8 <= wrapI a /\ wrapI a <= 7) (hb : -8 <= wrapI b /\ wrapI b <= 7) : Go.Av.Pure Tryd.prog G 60 [.i 11, .i a, .i b] (.tup [.i (opM 11 a b).1, .i (opM 11 a b).2]) := fun B => by
 have h_op := op12_c (G := G) (wrapI a) (wrapI b) ha hb
 refine Qb Tryd.func60 rfl Tryd.ntmps60 rfl (t := [(0, .i _), (1, .i a), (2, .i b)]) rfl fun E hE => ?_
 (repeat' first | refine Qt rfl ?_ | refine Qv rfl ?_ | refine WJ rfl (by rfl) (by rfl) ?_ | refine Qc rfl rfl rfl ?_ | refine WW hG rfl (by omega) (by omega) ?_ | refine QG rfl rfl ?_ | refine Wv rfl rfl ?_ | refine QZ rfl rfl (W2 _) ?_ | refine WQ rfl (h_op) (by repeat' first | exact QA | exact QQ _ | exact Q8 (Qk _) | exact Qk _ | refine WX ?_ ?_ | refine WV ?_ | refine Wz ?_ | refine QB ?_ | exact QX | refine QN ?_ ?_ | refine Q8 ?_) ?_ | refine Wk rfl rfl ?_ | refine Qd rfl rfl ?_ | refine Wf rfl rfl rfl rfl (by rfl) (by rfl) (by rfl) ?_ | refine QJ (fun _ _ => ?_) | refine Qe ?_ | refine Qp rfl ?_ | refine Q0 ?_ | refine WC rfl rfl rfl rfl ?_ | refine WO rfl rfl rfl rfl ?_ | refine Qf ?_ | refine Qa ?_ | refine Qj ?_ | refine Qi rfl ?_ | refine Qm ?_)
 rw [show opM 11 a b = (wrapI (doM 11 (wrapI a) (wrapI b)), 0) from if_neg fun h => absurd h.1 (by decide)]
 exact e_2 (Tryd.results60) (Qh rfl) (Qh rfl) (Qr rfl)
theorem wOp_12 (hG : G 0 = opsD) (a b : Int) (ha : -8 <= wrapI a /\ wrapI a <= 7) (hb : -8 <= wrapI b /\ wrapI b <= 7) : Go.Av.Pure Tryd.prog G 60 [.i 12, .i a, .i b] (.tup [.i (opM 12 a b).1, .i (opM 12 a b).2]) := fun B => by
 have h_op := op13_c (G := G) (wrapI a) (wrapI b) ha hb
 refine Qb Tryd.func60 rfl Tryd.ntmps60 rfl (t := [(0, .i _), (1, .i a), (2, .i b)]) rfl fun E hE => ?_
 (repeat' first | refine Qt rfl ?_ | refine Qv rfl ?_ | refine WJ rfl (by rfl) (by rfl) ?_ | refine Qc rfl rfl rfl ?_ | refine WW hG rfl (by omega) (by omega) ?_ | refine QG rfl rfl ?_ | refine Wv rfl rfl ?_ | refine QZ rfl rfl (W2 _) ?_ | refine WQ rfl (h_op) (by repeat' first | exact QA | exact QQ _ | exact Q8 (Qk _) | exact Qk _ | refine WX ?_ ?_ | refine WV ?_ | refine Wz ?_ | refine QB ?_ | exact QX | refine QN ?_ ?_ | refine Q8 ?_) ?_ | refine Wk rfl rfl ?_ | refine Qd rfl rfl ?_ | refine Wf rfl rfl rfl rfl (by rfl) (by rfl) (by rfl) ?_ | refine QJ (fun _ _ => ?_) | refine Qe ?_ | refine Qp rfl ?_ | refine Q0 ?_ | refine WC rfl rfl rfl rfl ?_ | refine WO rfl rfl rfl rfl ?_ | refine Qf ?_ | refine Qa ?_ | refine Qj ?_ | refine Qi rfl ?_ | refine Qm ?_)
 rw [show opM 12 a b = (wrapI (doM 12 (wrapI a) (wrapI b)), 0) from if_neg fun h => absurd h.1 (by decide)]
 exact e_2 (Tryd.results60) (Qh rfl) (Qh rfl) (Qr rfl)
theorem wOp_13 (hG : G 0 = opsD) (a b : Int) (ha : -8 <= wrapI a /\ wrapI a <= 7) (hb : -8 <= wrapI b /\ wrapI b <= 7) : Go.Av.Pure Tryd.prog G 60 [.i 13, .i a, .i b] (.tup [.i (opM 13 a b).1, .i (opM 13 a b).2]) := fun B => by
 have h_op := op14_c (G := G) (wrapI a) (wrapI b) ha hb
 refine Qb Tryd.func60 rfl Tryd.ntmps60 rfl (t := [(0, .i _), (1, .i a), (2, .i b)]) rfl fun E hE => ?_
 (repeat' first | refine Qt rfl ?_ | refine Qv rfl ?_ | refine WJ rfl (by rfl) (by rfl) ?_ | refine Qc rfl rfl rfl ?_ | refine WW hG rfl (by omega) (by omega) ?_ | refine QG rfl rfl ?_ | refine Wv rfl rfl ?_ | refine QZ rfl rfl (W2 _) ?_ | refine WQ rfl (h_op) (by repeat' first | exact QA | exact QQ _ | exact Q8 (Qk _) | exact Qk _ | refine WX ?_ ?_ | refine WV ?_ | refine Wz ?_ | refine QB ?_ | exact QX | refine QN ?_ ?_ | refine Q8 ?_) ?_ | refine Wk rfl rfl ?_ | refine Qd rfl rfl ?_ | refine Wf rfl rfl rfl rfl (by rfl) (by rfl) (by rfl) ?_ | refine QJ (fun _ _ => ?_) | refine Qe ?_ | refine Qp rfl ?_ | refine Q0 ?_ | refine WC rfl rfl rfl rfl ?_ | refine WO rfl rfl rfl rfl ?_ | refine Qf ?_ | refine Qa ?_ | refine Qj ?_ | refine Qi rfl ?_ | refine Qm ?_)
 rw [show opM 13 a b = (wrapI (doM 13 (wrapI a) (wrapI b)), 0) from if_neg fun h => absurd h.1 (by decide)]
 exact e_2 (Tryd.results60) (Qh rfl) (Qh rfl) (Qr rfl)
theorem wOp_c (hG : G 0 = opsD) (op a b : Int) (hop : 0 <= op /\ op < 14) : Go.Av.Pure Tryd.prog G 60 [.i op, .i a, .i b] (.tup [.i (opM op a b).1, .i (opM op a b).2]) := by
 have ha := wrapI_bd a
 have hb := wrapI_bd b
 have : op = 0 \/ op = 1 \/ op = 2 \/ op = 3 \/ op = 4 \/ op = 5 \/ op = 6 \/ op = 7 \/ op = 8 \/ op = 9 \/ op = 10 \/ op = 11 \/ op = 12 \/ op = 13 := by omega
 rcases this with rfl | rfl | rfl | rfl | rfl | rfl | rfl | rfl | rfl | rfl | rfl | rfl | rfl | rfl
 ·exact wOp_0 hG a b ha hb
 ·exact wOp_1 hG a b ha hb
 ·exact wOp_2 hG a b ha hb
 ·exact wOp_3 hG a b ha hb
 ·exact wOp_4 hG a b ha hb
 ·exact wOp_5 hG a b ha hb
 ·exact wOp_6 hG a b ha hb
 ·exact wOp_7 hG a b ha hb
 ·exact wOp_8 hG a b ha hb
 ·exact wOp_9 hG a b ha hb
 ·exact wOp_10 hG a b ha hb
 ·exact wOp_11 hG a b ha hb
 ·exact wOp_12 hG a b ha hb
 ·exact wOp_13 hG a b ha hb
end Go.Proofs
end
