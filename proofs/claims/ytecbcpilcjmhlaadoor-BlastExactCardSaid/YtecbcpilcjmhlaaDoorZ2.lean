/-
  Part 2 of the proof: B5 B6 B7 D1 D2 D3 B8 D4 P1 P2 Laid N0 B9 M0 M1 B10.
-/
import Derived.Shelf.Strconv.Itoa0
import Derived.Shelf.Strconv.Itoa1
import Derived.Shelf.LaysM
import Derived.Shelf.Strconv.Itoa2
import Derived.Shelf.Strconv.Itoa3
import Derived.Test.YtecbcpilcjmhlaaDoorProg
import Derived.Test.YtecbcpilcjmhlaaDoorZ1
set_option linter.unusedSimpArgs false
set_option linter.unusedVariables false
set_option maxRecDepth 10000
set_option maxHeartbeats 4000000
section
namespace Go.Proofs
open Go.Av
variable {G : Nat → DV}
attribute [local irreducible] OpSem ARun AOps ALex ACalls AEnd AClose RV
open Go.Bl
theorem and_c (s : St) (hs : Ok s) (hv : s.vars < 1099511627776) (x y : Int) (hx : Lim s x) (hy : Lim s y) : BM Tryd.prog G 98 [.i x, .i y] s.vars s.cl (.i (and s x y).1) (and s x y).2 := fun g0 g1 g2 g3 c2 c3 c4 m sn h2 h3 h4 hm hsn B b0 b1 b2 b3 => by
  have hv0 := hs.v0
  have hv1 := hs.v1
  obtain ⟨hx1, hx2⟩ := hx
  obtain ⟨hy1, hy2⟩ := hy
  have hs1 := fresh_ok hs hv
  have hs2 := add_ok hs1 [-x, -y, s.vars + 1]
  have hs3 := add_ok hs2 [x, -(s.vars + 1)]
  refine calls_of_run Tryd.func98 rfl Tryd.ntmps98 rfl (t := [(0, .ptr 0 g0 0), (1, .i x), (2, .i y)]) rfl fun E hE => ?_
  (repeat' first | refine s_mv rfl ?_ | refine s_as rfl ?_ | refine s_eql rfl rfl ?_ | refine s_pt rfl rfl ?_ | refine s_pf rfl rfl ?_ | refine o_nil ?_ | refine o_op rfl ?_ | refine o_gy rfl rfl rfl rfl ?_ | refine o_gn rfl rfl rfl rfl ?_ | refine o_sp_d rfl rfl (fun _ => ?_) (fun _ => ?_) | refine r_seq ?_ | refine r_region ?_ | refine r_block ?_ | refine r_cond_t rfl ?_ | refine r_ret ?_)
  · rename_i h
    rw [show and s x y = (y, s) from if_pos (.inl h)]
    exact e_1 (Tryd.results98) (rv_tmp rfl) (c_same ⟨rfl, g1, .inl rfl, rfl⟩)
  rename_i h1
  refine r_cond_d rfl (fun h => ?_) (fun h2' => ?_)
  · rw [show and s x y = (y, s) from if_pos (.inr h)]
    (repeat' first | refine s_mv rfl ?_ | refine s_as rfl ?_ | refine o_nil ?_ | refine o_op rfl ?_ | refine r_seq ?_ | refine r_region ?_ | refine r_ret ?_)
    exact e_1 (Tryd.results98) (rv_tmp rfl) (c_same ⟨rfl, g1, .inl rfl, rfl⟩)
  have e1 : and s x y = if y = 1 then (x, s) else if x = -1 ∨ y = -1 ∨ x = -y then (-1, s) else (s.vars + 1, add (add (add (fresh s) [-x, -y, s.vars + 1]) [x, -(s.vars + 1)]) [y, -(s.vars + 1)]) := if_neg (by omega)
  (repeat' first | refine s_mv rfl ?_ | refine s_as rfl ?_ | refine s_eql rfl rfl ?_ | refine o_nil ?_ | refine o_op rfl ?_ | refine r_seq ?_ | refine r_region ?_)
  refine r_cond_d rfl (fun h => ?_) (fun h3' => ?_)
  · rw [e1, if_pos h]
    (repeat' first | refine s_mv rfl ?_ | refine s_as rfl ?_ | refine o_nil ?_ | refine o_op rfl ?_ | refine r_seq ?_ | refine r_region ?_ | refine r_ret ?_)
    exact e_1 (Tryd.results98) (rv_tmp rfl) (c_same ⟨rfl, g1, .inl rfl, rfl⟩)
  rw [if_neg h3'] at e1
  (repeat' first | refine s_mv rfl ?_ | refine s_as rfl ?_ | refine s_eql rfl rfl ?_ | refine s_pt rfl rfl ?_ | refine s_pf rfl rfl ?_ | refine s_neg rfl (by omega) ?_ | refine o_nil ?_ | refine o_op rfl ?_ | refine o_gy rfl rfl rfl rfl ?_ | refine o_gn rfl rfl rfl rfl ?_ | refine o_sp_d rfl rfl (fun _ => ?_) (fun _ => ?_) | refine r_seq ?_ | refine r_region ?_ | refine r_cond_t rfl ?_ | refine r_ret ?_)
  · rename_i h
    rw [e1, if_pos (.inl h)]
    exact e_1 (Tryd.results98) (rv_tmp rfl) (c_same ⟨rfl, g1, .inl rfl, rfl⟩)
  · rename_i h
    rw [e1, if_pos (.inr (.inl h))]
    exact e_1 (Tryd.results98) (rv_tmp rfl) (c_same ⟨rfl, g1, .inl rfl, rfl⟩)
  rename_i h4 h5
  refine r_cond_d rfl (fun h => ?_) (fun h6 => ?_)
  · rw [e1, if_pos (.inr (.inr h))]
    (repeat' first | refine s_as rfl ?_ | refine o_nil ?_ | refine o_op rfl ?_ | refine r_seq ?_ | refine r_region ?_ | refine r_ret ?_)
    exact e_1 (Tryd.results98) (rv_tmp rfl) (c_same ⟨rfl, g1, .inl rfl, rfl⟩)
  rw [e1, if_neg (by omega)]
  (repeat' first | refine s_mv rfl ?_ | refine s_as rfl ?_ | refine s_cbm rfl rfl (fresh_c s hs) rfl (fun _ _ => ?_) | refine s_call_ba rfl rfl (add_c _ hs1 [-x, -y, s.vars + 1] (by simp)) rfl (by assumption) (by assumption) (by assumption) (by assumption) (by assumption) (by rfl) (by rfl) (by rfl) (by rfl) (by rfl) (by rfl) (fun _ _ => ?_) | refine s_call_ba rfl rfl (add_c _ hs2 [x, -(s.vars + 1)] (by simp)) rfl (by assumption) (by assumption) (by assumption) (by assumption) (by assumption) (by rfl) (by rfl) (by rfl) (by rfl) (by rfl) (by rfl) (fun _ _ => ?_) | refine s_call_ba rfl rfl (add_c _ hs3 [y, -(s.vars + 1)] (by simp)) rfl (by assumption) (by assumption) (by assumption) (by assumption) (by assumption) (by rfl) (by rfl) (by rfl) (by rfl) (by rfl) (by rfl) (fun _ _ => ?_) | refine s_bslice_own rfl rfl (by decide) rfl rfl (fun _ _ => ?_) | refine s_neg rfl (by omega) ?_ | refine o_nil ?_ | refine o_op rfl ?_ | refine r_seq ?_ | refine r_region ?_ | refine r_skip ?_ | refine r_ret ?_)
  exact e_1 (Tryd.results98) (rv_tmp rfl) (c_drop (σ := [_, _, _, _]) (r := [_, _, _]) ⟨rfl, _, by omega, rfl⟩)
end Go.Proofs
end
section
namespace Go.Proofs
open Go.Av
variable {G : Nat → DV}
attribute [local irreducible] OpSem ARun AOps ALex ACalls AEnd AClose RV
open Go.Bl
theorem or_c (s : St) (hs : Ok s) (hv : s.vars < 1099511627776) (x y : Int) (hx : Lim s x) (hy : Lim s y) : BM Tryd.prog G 97 [.i x, .i y] s.vars s.cl (.i (or s x y).1) (or s x y).2 := fun g0 g1 g2 g3 c2 c3 c4 m sn h2 h3 h4 hm hsn B b0 b1 b2 b3 => by
  have hv0 := hs.v0
  have hv1 := hs.v1
  obtain ⟨hx1, hx2⟩ := hx
  obtain ⟨hy1, hy2⟩ := hy
  have hx' : Lim s (-x) := ⟨by omega, by omega⟩
  have hy' : Lim s (-y) := ⟨by omega, by omega⟩
  obtain ⟨hl1, hl2⟩ := and_lim (s := s) hx' hy' hv0
  refine calls_of_run Tryd.func97 rfl Tryd.ntmps97 rfl (t := [(0, .ptr 0 g0 0), (1, .i x), (2, .i y)]) rfl fun E hE => ?_
  (repeat' first | refine s_mv rfl ?_ | refine s_as rfl ?_ | refine s_cbm rfl rfl (and_c s hs hv (-x) (-y) hx' hy') rfl (fun _ _ => ?_) | refine s_neg rfl (by omega) ?_ | refine o_nil ?_ | refine o_op rfl ?_ | refine r_seq ?_ | refine r_region ?_ | refine r_ret ?_)
  exact e_1 (Tryd.results97) (rv_tmp rfl) (c_same ⟨rfl, _, by omega, rfl⟩)
theorem xor_c (s : St) (hs : Ok s) (hv : s.vars < 1099511627776) (x y : Int) (hx : Lim s x) (hy : Lim s y) : BM Tryd.prog G 102 [.i x, .i y] s.vars s.cl (.i (xor s x y).1) (xor s x y).2 := fun g0 g1 g2 g3 c2 c3 c4 m sn h2 h3 h4 hm hsn B b0 b1 b2 b3 => by
  have hv0 := hs.v0
  have hv1 := hs.v1
  obtain ⟨hx1, hx2⟩ := hx
  obtain ⟨hy1, hy2⟩ := hy
  have hs1 := fresh_ok hs hv
  have hs2 := add_ok hs1 [-x, -y, -(s.vars + 1)]
  have hs3 := add_ok hs2 [x, y, -(s.vars + 1)]
  have hs4 := add_ok hs3 [-x, y, s.vars + 1]
  refine calls_of_run Tryd.func102 rfl Tryd.ntmps102 rfl (t := [(0, .ptr 0 g0 0), (1, .i x), (2, .i y)]) rfl fun E hE => ?_
  (repeat' first | refine s_mv rfl ?_ | refine s_as rfl ?_ | refine s_eql rfl rfl ?_ | refine o_nil ?_ | refine o_op rfl ?_ | refine r_seq ?_ | refine r_region ?_ | refine r_block ?_)
  refine r_cond_d rfl (fun h => ?_) (fun n1 => ?_)
  · rw [show xor s x y = (-1, s) from if_pos h]
    (repeat' first | refine s_as rfl ?_ | refine o_nil ?_ | refine o_op rfl ?_ | refine r_seq ?_ | refine r_region ?_ | refine r_ret ?_)
    exact e_1 (Tryd.results102) (rv_tmp rfl) (c_same ⟨rfl, g1, .inl rfl, rfl⟩)
  have e1 : xor s x y = _ := if_neg n1
  (repeat' first | refine s_mv rfl ?_ | refine s_as rfl ?_ | refine s_eql rfl rfl ?_ | refine s_neg rfl (by omega) ?_ | refine o_nil ?_ | refine o_op rfl ?_ | refine r_seq ?_ | refine r_region ?_)
  refine r_cond_d rfl (fun h => ?_) (fun n2 => ?_)
  · rw [e1, if_pos h]
    (repeat' first | refine s_as rfl ?_ | refine o_nil ?_ | refine o_op rfl ?_ | refine r_seq ?_ | refine r_region ?_ | refine r_ret ?_)
    exact e_1 (Tryd.results102) (rv_tmp rfl) (c_same ⟨rfl, g1, .inl rfl, rfl⟩)
  rw [if_neg n2] at e1
  (repeat' first | refine s_mv rfl ?_ | refine s_as rfl ?_ | refine s_mul rfl rfl (by subst_vars; omega) ?_ | refine s_eql rfl rfl ?_ | refine s_pt rfl rfl ?_ | refine s_pf rfl rfl ?_ | refine s_neg rfl (by omega) ?_ | refine o_nil ?_ | refine o_op rfl ?_ | refine o_gy rfl rfl rfl rfl ?_ | refine o_gn rfl rfl rfl rfl ?_ | refine o_sp_d rfl rfl (fun _ => ?_) (fun _ => ?_) | refine r_seq ?_ | refine r_region ?_ | refine r_cond_t rfl ?_ | refine r_ret ?_)
  · rename_i h
    rw [e1, if_pos (.inl h)]
    exact e_1 (Tryd.results102) (rv_tmp rfl) (c_same ⟨rfl, g1, .inl rfl, rfl⟩)
  rename_i n3
  refine r_cond_d rfl (fun h => ?_) (fun n4 => ?_)
  · rw [e1, if_pos (.inr h)]
    (repeat' first | refine s_mv rfl ?_ | refine s_as rfl ?_ | refine s_mul rfl rfl (by subst_vars; omega) ?_ | refine s_neg rfl (by omega) ?_ | refine o_nil ?_ | refine o_op rfl ?_ | refine r_seq ?_ | refine r_region ?_ | refine r_ret ?_)
    exact e_1 (Tryd.results102) (rv_tmp rfl) (c_same ⟨rfl, g1, .inl rfl, rfl⟩)
  rw [if_neg (by omega)] at e1
  (repeat' first | refine s_mv rfl ?_ | refine s_as rfl ?_ | refine s_mul rfl rfl (by subst_vars; omega) ?_ | refine s_eql rfl rfl ?_ | refine s_pt rfl rfl ?_ | refine s_pf rfl rfl ?_ | refine s_neg rfl (by omega) ?_ | refine o_nil ?_ | refine o_op rfl ?_ | refine o_gy rfl rfl rfl rfl ?_ | refine o_gn rfl rfl rfl rfl ?_ | refine o_sp_d rfl rfl (fun _ => ?_) (fun _ => ?_) | refine r_seq ?_ | refine r_region ?_ | refine r_cond_t rfl ?_ | refine r_ret ?_)
  · rename_i h
    rw [e1, if_pos (.inl h)]
    exact e_1 (Tryd.results102) (rv_tmp rfl) (c_same ⟨rfl, g1, .inl rfl, rfl⟩)
  rename_i n5
  refine r_cond_d rfl (fun h => ?_) (fun n6 => ?_)
  · rw [e1, if_pos (.inr h)]
    (repeat' first | refine s_mv rfl ?_ | refine s_as rfl ?_ | refine s_mul rfl rfl (by subst_vars; omega) ?_ | refine s_neg rfl (by omega) ?_ | refine o_nil ?_ | refine o_op rfl ?_ | refine r_seq ?_ | refine r_region ?_ | refine r_ret ?_)
    exact e_1 (Tryd.results102) (rv_tmp rfl) (c_same ⟨rfl, g1, .inl rfl, rfl⟩)
  rw [if_neg (by omega)] at e1
  rw [e1]
  (repeat' first | refine s_mv rfl ?_ | refine s_as rfl ?_ | refine s_cbm rfl rfl (fresh_c s hs) rfl (fun _ _ => ?_) | refine s_call_ba rfl rfl (add_c _ hs1 [-x, -y, -(s.vars + 1)] (by simp)) rfl (by assumption) (by assumption) (by assumption) (by assumption) (by assumption) (by rfl) (by rfl) (by rfl) (by rfl) (by rfl) (by rfl) (fun _ _ => ?_) | refine s_call_ba rfl rfl (add_c _ hs2 [x, y, -(s.vars + 1)] (by simp)) rfl (by assumption) (by assumption) (by assumption) (by assumption) (by assumption) (by rfl) (by rfl) (by rfl) (by rfl) (by rfl) (by rfl) (fun _ _ => ?_) | refine s_call_ba rfl rfl (add_c _ hs3 [-x, y, s.vars + 1] (by simp)) rfl (by assumption) (by assumption) (by assumption) (by assumption) (by assumption) (by rfl) (by rfl) (by rfl) (by rfl) (by rfl) (by rfl) (fun _ _ => ?_) | refine s_call_ba rfl rfl (add_c _ hs4 [x, -y, s.vars + 1] (by simp)) rfl (by assumption) (by assumption) (by assumption) (by assumption) (by assumption) (by rfl) (by rfl) (by rfl) (by rfl) (by rfl) (by rfl) (fun _ _ => ?_) | refine s_bslice_own rfl rfl (by decide) rfl rfl (fun _ _ => ?_) | refine s_neg rfl (by omega) ?_ | refine o_nil ?_ | refine o_op rfl ?_ | refine r_seq ?_ | refine r_region ?_ | refine r_skip ?_ | refine r_ret ?_)
  exact e_1 (Tryd.results102) (rv_tmp rfl) (c_drop (σ := [_, _, _, _]) (r := [_, _, _, _]) ⟨rfl, _, by omega, rfl⟩)
end Go.Proofs
end
section
namespace Go.Proofs
open Go.Av
variable {G : Nat → DV}
attribute [local irreducible] OpSem ARun AOps ALex ACalls AEnd AClose RV
open Go.Bl
theorem less_c (s : St) (hs : Ok s) (hv : s.vars + 100 < 1099511627776) (x y : List Int) (hxl : x.length = 4) (hyl : y.length = 4) (hx : ∀ v ∈ x, Lim s v) (hy : ∀ v ∈ y, Lim s v) : BM Tryd.prog G 104 [.agg (encs x), .agg (encs y)] s.vars s.cl (.i (less s x y).1) (less s x y).2 := fun g0 g1 g2 g3 c2 c3 c4 m sn h2 h3 h4 hm hsn B b0 b1 b2 b3 => by
  have hv0 := hs.v0
  have hv1 := hs.v1
  refine calls_of_run Tryd.func104 rfl Tryd.ntmps104 rfl (t := [(0, .ptr 0 g0 0), (1, .agg (encs x)), (2, .agg (encs y))]) rfl fun E hE => ?_
  have e3x : x.getD 3 0 = x[3] := Ord.getD_lt (by omega) 0
  have e3y : y.getD 3 0 = y[3] := Ord.getD_lt (by omega) 0
  have hX : ∀ v ∈ swapX x y, Lim s v := fun v h => by
    rcases List.mem_or_eq_of_mem_set h with h | rfl
    · exact hx v h
    · exact getD_lim hy hv0 3
  have hY : ∀ v ∈ swapX y x, Lim s v := fun v h => by
    rcases List.mem_or_eq_of_mem_set h with h | rfl
    · exact hy v h
    · exact getD_lim hx hv0 3
  have hXl : (swapX x y).length = 4 := by unfold swapX; rw [List.length_set, hxl]
  have hYl : (swapX y x).length = 4 := by unfold swapX; rw [List.length_set, hyl]
  have eX : x.set 3 y[3] = swapX x y := by unfold swapX; rw [e3y]
  have eY : y.set 3 x[3] = swapX y x := by unfold swapX; rw [e3x]
  have hlt := fun i hi => lessTo_gate hs hv hX hY i hi
  (repeat' first | refine s_mv rfl ?_ | refine s_as rfl ?_ | refine s_load_e1 rfl rfl rfl (by first | assumption | omega) rfl ?_ | refine s_idx_arr rfl rfl rfl (by omega) (by omega) ?_ | refine s_store_e1 rfl rfl rfl rfl rfl (by first | assumption | omega) rfl ?_ | refine s_box rfl rfl (fun _ _ => ?_) | refine o_nil ?_ | refine o_op rfl ?_ | refine o_op0 ?_ | refine r_seq ?_ | refine r_region ?_ | refine r_block ?_)
  rename_i gx hgx gy hgy
  have er : less s x y = lessTo s (swapX x y) (swapX y x) 4 := rfl
  rw [er]
  refine r_loop2 (fun (i gc : Nat) => ⟨[(0, .ptr 0 g0 0), (4, .ptr 4 gx 0), (5, .ptr 5 gy 0), (7, .i (lessTo s (swapX x y) (swapX y x) i).1), (15, .i i)], [.row g0 [.sc (.int .i64 (lessTo s (swapX x y) (swapX y x) i).2.vars), .ref 1 gc 0 (lessTo s (swapX x y) (swapX y x) i).2.cl.length 1, c2, c3, c4, .mp 2 g2, .mp 3 g3], .row gc (encs (lessTo s (swapX x y) (swapX y x) i).2.cl), .mapb g2 (imap m), .mapb g3 sn, .row gx (encs (swapX x y)), .row gy (encs (swapX y x))]⟩) (fun i gc => i ≤ 4 ∧ (gc = g1 ∨ E.N < gc)) (fun i _ => 4 - i) 0 g1 ?_ ⟨by omega, .inl rfl⟩ ?_
  · rw [← eX, ← eY]
    exact al rfl
  clear eX eY
  generalize swapX x y = X at *
  generalize swapX y x = Y at *
  intro i gc ⟨hi, hgc⟩
  obtain ⟨hg, hl⟩ := hlt i (by omega)
  have hsucc : lessTo s X Y (i + 1) = lessAt (lessTo s X Y i).2 (X.getD i 0) (Y.getD i 0) (lessTo s X Y i).1 := rfl
  (repeat' first | refine s_lss rfl rfl ?_ | refine o_nil ?_ | refine o_op rfl ?_ | refine r_seq ?_ | refine r_region ?_)
  refine r_cond_d rfl (fun h => ?_) (fun h => ?_)
  · have hiX : i < X.length := by omega
    have hiY : i < Y.length := by omega
    rw [Ord.getD_lt hiX 0, Ord.getD_lt hiY 0] at hsucc
    have ho := hg.ok
    have hh := hg.hi
    have hov : (lessTo s X Y i).2.vars < 1099511627776 := by omega
    have ha : Lim (lessTo s X Y i).2 X[i] := (hX _ (List.getElem_mem hiX)).mono hg.lo
    have hb : Lim (lessTo s X Y i).2 Y[i] := (hY _ (List.getElem_mem hiY)).mono hg.lo
    clear hlt er
    generalize lessTo s X Y i = o at *
    have q1 := and_gate ho hov (-X[i]) Y[i]
    have l1 := and_lim (s := o.2) ha.neg hb ho.v0
    have k1 := q1.hi
    have hov1 : (and o.2 (-X[i]) Y[i]).2.vars < 1099511627776 := by omega
    have q2 := xor_gate q1.ok hov1 X[i] Y[i]
    have l2 := (xor_lim (s := (and o.2 (-X[i]) Y[i]).2) (ha.mono q1.lo) (hb.mono q1.lo) q1.ok.v0).neg.mono q2.lo
    have l2' := hl.mono (Int.le_trans q1.lo q2.lo)
    have k2 := q2.hi
    have hov2 : (xor (and o.2 (-X[i]) Y[i]).2 X[i] Y[i]).2.vars < 1099511627776 := by omega
    have q3 := and_gate q2.ok hov2 (-(xor (and o.2 (-X[i]) Y[i]).2 X[i] Y[i]).1) o.1
    have k3 := q3.hi
    have hov3 : (and (xor (and o.2 (-X[i]) Y[i]).2 X[i] Y[i]).2 (-(xor (and o.2 (-X[i]) Y[i]).2 X[i] Y[i]).1) o.1).2.vars < 1099511627776 := by omega
    have l4 := (l1.mono (q1.lo)).mono (Int.le_trans q2.lo q3.lo)
    have l4' := (and_lim l2 l2' q2.ok.v0).mono q3.lo
    have ha1 := ha.1
    have ha2 := ha.2
    have hb1 := l2.1
    have hb2 := l2.2
    (repeat' first | refine s_mv rfl ?_ | refine s_as rfl ?_ | refine s_add rfl rfl (by omega) ?_ | refine s_cbm rfl rfl (and_c _ ho hov _ _ ha.neg hb) rfl (fun _ _ => ?_) | refine s_cbm rfl rfl (xor_c _ q1.ok hov1 _ _ (ha.mono q1.lo) (hb.mono q1.lo)) rfl (fun _ _ => ?_) | refine s_cbm rfl rfl (and_c _ q2.ok hov2 _ _ l2 l2') rfl (fun _ _ => ?_) | refine s_cbm rfl rfl (or_c _ q3.ok hov3 _ _ l4 l4') rfl (fun _ _ => ?_) | refine o_nil ?_ | refine o_op rfl ?_ | refine r_seq ?_ | refine r_region ?_ | refine r_block ?_ | (refine g_draw ?_; first | (refine r_drawi (fun p => p.1 :: p.2.1 :: p.2.2.1 :: p.2.2.2.1 :: .row gx (encs X) :: .row gy (encs Y) :: p.2.2.2.2) 24 [(0, true), (1, true), (2, true), (3, true), (4, true), (5, true), (6, true), (7, true), (8, true), (10, true), (11, true), (12, true), (13, true), (14, true), (15, true), (16, true), (17, true), (20, true), (9, false), (18, false), (19, true), (21, false), (22, false), (23, true)] (by rfl) (by rfl) (by kernel_rfl) (by decide +kernel) (by decide +kernel) ⟨(_, _, _, _, _), rfl⟩ ?_) | refine r_draw0 (by rfl) (by kernel_rfl) (by kernel_rfl) ?_ | refine r_drawq (by kernel_rfl) (by kernel_rfl) ?_) | refine r_skip ?_ | refine i_nil ?_ | refine i_st rfl rfl (fun _ => (by (repeat' first | refine s_mv rfl ?_ | refine s_as rfl ?_ | refine s_load_e1 rfl rfl rfl (by first | assumption | omega) rfl ?_ | refine s_idx_arr1 rfl rfl rfl (by omega) ?_ | refine s_neg rfl (by omega) ?_ | exact ⟨rfl, rfl⟩))) ?_ | refine i_ef rfl ?_ | refine And.intro (Exists.intro ((_, _, _, _, _)) rfl) ?_)
    rename_i ga hga gb hgb gd hgd ge hge
    refine ⟨i + 1, ge, ⟨by omega, by omega⟩, by omega, ?_⟩
    rw [hsucc]
    exact al rfl
  · have hi4 : i = 4 := by omega
    subst hi4
    (repeat' first | refine s_mv rfl ?_ | refine s_as rfl ?_ | refine o_nil ?_ | refine o_op rfl ?_ | refine r_seq ?_ | refine r_region ?_ | refine r_exit rfl ?_ | refine r_ret ?_)
    exact e_1 (Tryd.results104) (rv_tmp rfl) (c_drop (σ := [_, _, _, _]) (r := [_, _]) ⟨rfl, gc, by omega, rfl⟩)
end Go.Proofs
end
section
namespace Go.Proofs
open Go.Av
variable {G : Nat → DV}
attribute [local irreducible] OpSem ARun AOps ALex ACalls AEnd AClose RV
open Go.Bl
def muxM (s : St) (c x y : Int) : Int × St := or (and (and s c x).2 (-c) y).2 (and s c x).1 (and (and s c x).2 (-c) y).1
theorem mux_gate {s : St} (hs : Ok s) (hv : s.vars + 3 < 1099511627776) {c x y : Int} (hc : Lim s c) (hx : Lim s x) (hy : Lim s y) : Gate s (muxM s c x y).2 3 ∧ Lim (muxM s c x y).2 (muxM s c x y).1 := by
  have q1 := and_gate hs (by omega) c x
  have k1 := q1.hi
  have q2 := and_gate q1.ok (by omega) (-c) y
  have k2 := q2.hi
  have q3 := or_gate q2.ok (by omega) (and s c x).1 (and (and s c x).2 (-c) y).1
  have l1 := and_lim hc hx hs.v0
  have l2 := and_lim (hc.neg.mono q1.lo) (hy.mono q1.lo) q1.ok.v0
  have l3 := or_lim (l1.mono (Int.le_trans q1.lo q2.lo)) (l2.mono q2.lo) q2.ok.v0
  exact ⟨(q1.trans q2).trans q3, l3.mono q3.lo⟩
theorem mux_c (s : St) (hs : Ok s) (hv0 : s.vars + 3 < 1099511627776) (c x y : Int) (hc : Lim s c) (hx : Lim s x) (hy : Lim s y) : BM Tryd.prog G 85 [.i c, .i x, .i y] s.vars s.cl (.i (muxM s c x y).1) (muxM s c x y).2 := fun g0 g1 g2 g3 c2 c3 c4 m sn h2 h3 h4 hm hsn B b0 b1 b2 b3 => by
  have hv : s.vars < 1099511627776 := by omega
  have q1 := and_gate hs hv c x
  have k1 := q1.hi
  have hov1 : (and s c x).2.vars < 1099511627776 := by omega
  have q2 := and_gate q1.ok hov1 (-c) y
  have k2 := q2.hi
  have hov2 : (and (and s c x).2 (-c) y).2.vars < 1099511627776 := by omega
  have hc' := hc.neg.mono q1.lo
  have hy' := hy.mono q1.lo
  have l1' := (and_lim hc hx hs.v0).mono (Int.le_trans q1.lo q2.lo)
  have l2' := (and_lim hc' hy' q1.ok.v0).mono q2.lo
  have c1 := hc.1
  have c2' := hc.2
  have hv1 := hs.v1
  have hv00 := hs.v0
  refine calls_of_run Tryd.func85 rfl Tryd.ntmps85 rfl (t := [(0, .ptr 0 g0 0), (1, .i c), (2, .i x), (3, .i y)]) rfl fun E hE => ?_
  (repeat' first | refine s_mv rfl ?_ | refine s_as rfl ?_ | refine s_cbm rfl rfl (and_c s hs hv c x hc hx) rfl (fun _ _ => ?_) | refine s_cbm rfl rfl (and_c _ q1.ok hov1 (-c) y hc' hy') rfl (fun _ _ => ?_) | refine s_cbm rfl rfl (or_c _ q2.ok hov2 _ _ l1' l2') rfl (fun _ _ => ?_) | refine s_neg rfl (by omega) ?_ | refine o_nil ?_ | refine o_op rfl ?_ | refine r_seq ?_ | refine r_region ?_ | refine r_ret ?_)
  rename_i ga hga gb hgb gd hgd
  exact e_1 (Tryd.results85) (rv_tmp rfl) (c_same ⟨rfl, _, by omega, rfl⟩)
def sameAt (s : St) (a b out : Int) : Int × St := and (xor s a b).2 out (-(xor s a b).1)
def sameTo (s : St) (x y : List Int) : Nat → Int × St
  | 0 => (1, s)
  | i + 1 => sameAt (sameTo s x y i).2 (x.getD i 0) (y.getD i 0) (sameTo s x y i).1
theorem sameAt_gate {s : St} (hs : Ok s) (hv : s.vars + 2 < 1099511627776) {a b out : Int} (ha : Lim s a) (hb : Lim s b) (ho : Lim s out) : Gate s (sameAt s a b out).2 2 ∧ Lim (sameAt s a b out).2 (sameAt s a b out).1 := by
  have q1 := xor_gate hs (by omega) a b
  have k1 := q1.hi
  have l1 := (xor_lim ha hb hs.v0).neg
  have q2 := and_gate q1.ok (by omega) out (-(xor s a b).1)
  have l2 := and_lim (ho.mono q1.lo) (l1.mono q1.lo) q1.ok.v0
  exact ⟨q1.trans q2, l2.mono q2.lo⟩
theorem sameTo_gate {s : St} (hs : Ok s) (hv : s.vars + 100 < 1099511627776) {x y : List Int} (hx : ∀ v ∈ x, Lim s v) (hy : ∀ v ∈ y, Lim s v) : ∀ i : Nat, i ≤ 8 → Gate s (sameTo s x y i).2 (2 * i) ∧ Lim (sameTo s x y i).2 (sameTo s x y i).1
  | 0, _ => ⟨⟨hs, Int.le_refl _, by show s.vars ≤ _; omega⟩, by have := hs.v0; exact ⟨by show _ ≤ (1 : Int); show -(s.vars + 1) ≤ 1; omega, by show (1 : Int) ≤ s.vars + 1; omega⟩⟩
  | i + 1, hi => by
    obtain ⟨h1, h2⟩ := sameTo_gate hs hv hx hy i (by omega)
    have hh := h1.hi
    obtain ⟨k1, k2⟩ := sameAt_gate h1.ok (by omega) ((getD_lim hx hs.v0 i).mono h1.lo) ((getD_lim hy hs.v0 i).mono h1.lo) h2
    exact ⟨by have := h1.trans k1; rwa [show (2 : Int) * (i : Int) + 2 = 2 * ((i + 1 : Nat) : Int) by omega] at this, k2⟩
theorem same_c (s : St) (hs : Ok s) (hv : s.vars + 100 < 1099511627776) (x y : List Int) (hxl : x.length = 4) (hyl : y.length = 4) (hx : ∀ v ∈ x, Lim s v) (hy : ∀ v ∈ y, Lim s v) : BM Tryd.prog G 105 [.agg (encs x), .agg (encs y)] s.vars s.cl (.i (sameTo s x y 4).1) (sameTo s x y 4).2 := fun g0 g1 g2 g3 c2 c3 c4 m sn h2 h3 h4 hm hsn B b0 b1 b2 b3 => by
  have hv0 := hs.v0
  have hv1 := hs.v1
  refine calls_of_run Tryd.func105 rfl Tryd.ntmps105 rfl (t := [(0, .ptr 0 g0 0), (1, .agg (encs x)), (2, .agg (encs y))]) rfl fun E hE => ?_
  have hlt := fun i hi => sameTo_gate hs hv hx hy i hi
  (repeat' first | refine s_mv rfl ?_ | refine s_as rfl ?_ | refine s_box rfl rfl (fun _ _ => ?_) | refine o_nil ?_ | refine o_op rfl ?_ | refine r_seq ?_ | refine r_region ?_ | refine r_block ?_)
  rename_i gx hgx gy hgy
  refine r_loop2 (fun (i gc : Nat) => ⟨[(0, .ptr 0 g0 0), (4, .ptr 4 gx 0), (5, .ptr 5 gy 0), (7, .i (sameTo s x y i).1), (9, .i i)], [.row g0 [.sc (.int .i64 (sameTo s x y i).2.vars), .ref 1 gc 0 (sameTo s x y i).2.cl.length 1, c2, c3, c4, .mp 2 g2, .mp 3 g3], .row gc (encs (sameTo s x y i).2.cl), .mapb g2 (imap m), .mapb g3 sn, .row gx (encs x), .row gy (encs y)]⟩) (fun i gc => i ≤ 4 ∧ (gc = g1 ∨ E.N < gc)) (fun i _ => 4 - i) 0 g1 ?_ ⟨by omega, .inl rfl⟩ ?_
  · exact al rfl
  intro i gc ⟨hi, hgc⟩
  obtain ⟨hg, hl⟩ := hlt i (by omega)
  have hsucc : sameTo s x y (i + 1) = sameAt (sameTo s x y i).2 (x.getD i 0) (y.getD i 0) (sameTo s x y i).1 := rfl
  (repeat' first | refine s_lss rfl rfl ?_ | refine o_nil ?_ | refine o_op rfl ?_ | refine r_seq ?_ | refine r_region ?_)
  refine r_cond_d rfl (fun h => ?_) (fun h => ?_)
  · have hiX : i < x.length := by omega
    have hiY : i < y.length := by omega
    rw [Ord.getD_lt hiX 0, Ord.getD_lt hiY 0] at hsucc
    have ho := hg.ok
    have hh := hg.hi
    have hov : (sameTo s x y i).2.vars < 1099511627776 := by omega
    have ha : Lim (sameTo s x y i).2 x[i] := (hx _ (List.getElem_mem hiX)).mono hg.lo
    have hb : Lim (sameTo s x y i).2 y[i] := (hy _ (List.getElem_mem hiY)).mono hg.lo
    clear hlt
    generalize sameTo s x y i = o at *
    have p1 := xor_gate ho hov x[i] y[i]
    have k1 := p1.hi
    have hov3 : (xor o.2 x[i] y[i]).2.vars < 1099511627776 := by omega
    have m1 := hl.mono p1.lo
    have m2 := ((xor_lim ha hb ho.v0).neg).mono p1.lo
    have mb := xor_lim ha hb ho.v0
    obtain ⟨mb1, mb2⟩ := mb
    have hov1' := ho.v1
    (repeat' first | refine s_mv rfl ?_ | refine s_as rfl ?_ | refine s_add rfl rfl (by omega) ?_ | refine s_cbm rfl rfl (xor_c _ ho hov _ _ ha hb) rfl (fun _ _ => ?_) | refine s_cbm rfl rfl (and_c _ p1.ok hov3 _ _ m1 m2) rfl (fun _ _ => ?_) | refine o_nil ?_ | refine o_op rfl ?_ | refine r_seq ?_ | refine r_region ?_ | refine r_block ?_ | (refine g_draw ?_; first | (refine r_drawi (fun p => p.1 :: p.2.1 :: p.2.2.1 :: p.2.2.2.1 :: .row gx (encs x) :: .row gy (encs y) :: p.2.2.2.2) 13 [(0, true), (1, true), (2, true), (3, true), (4, true), (5, true), (6, true), (7, true), (8, true), (9, false), (10, true), (11, false), (12, true)] (by rfl) (by rfl) (by kernel_rfl) (by decide +kernel) (by decide +kernel) ⟨(_, _, _, _, _), rfl⟩ ?_) | refine r_draw0 (by rfl) (by kernel_rfl) (by kernel_rfl) ?_ | refine r_drawq (by kernel_rfl) (by kernel_rfl) ?_) | refine r_skip ?_ | refine i_nil ?_ | refine i_st rfl rfl (fun _ => (by (repeat' first | refine s_mv rfl ?_ | refine s_as rfl ?_ | refine s_load_e1 rfl rfl rfl (by first | assumption | omega) rfl ?_ | refine s_idx_arr1 rfl rfl rfl (by omega) ?_ | refine s_neg rfl (by omega) ?_ | exact ⟨rfl, rfl⟩))) ?_ | refine i_ef rfl ?_ | refine And.intro (Exists.intro ((_, _, _, _, _)) rfl) ?_)
    rename_i ga hga gb hgb
    refine ⟨i + 1, gb, ⟨by omega, by omega⟩, by omega, ?_⟩
    rw [hsucc]
    exact al rfl
  · have hi4 : i = 4 := by omega
    subst hi4
    (repeat' first | refine s_mv rfl ?_ | refine s_as rfl ?_ | refine o_nil ?_ | refine o_op rfl ?_ | refine r_seq ?_ | refine r_region ?_ | refine r_exit rfl ?_ | refine r_ret ?_)
    exact e_1 (Tryd.results105) (rv_tmp rfl) (c_drop (σ := [_, _, _, _]) (r := [_, _]) ⟨rfl, gc, by omega, rfl⟩)
end Go.Proofs
end
section
namespace Go.Proofs
open Go.Av
variable {G : Nat → DV}
attribute [local irreducible] OpSem ARun AOps ALex ACalls AEnd AClose RV
open Go.Bl
def notTo (x : List Int) : Nat → List Int
  | 0 => x
  | i + 1 => (notTo x i).set i (-((notTo x i).getD i 0))
theorem notTo_len (x : List Int) : ∀ i, (notTo x i).length = x.length
  | 0 => rfl
  | i + 1 => by rw [notTo, List.length_set, notTo_len x i]
theorem notTo_bd {x : List Int} {M : Int} (h0 : 0 ≤ M) (h : ∀ v ∈ x, -M ≤ v ∧ v ≤ M) : ∀ i, ∀ v ∈ notTo x i, -M ≤ v ∧ v ≤ M
  | 0 => h
  | i + 1 => fun v hv => by
    rw [notTo] at hv
    rcases List.mem_or_eq_of_mem_set hv with hv | rfl
    · exact notTo_bd h0 h i v hv
    · by_cases hi : i < (notTo x i).length
      · rw [Ord.getD_lt hi]
        have := notTo_bd h0 h i _ (List.getElem_mem hi)
        omega
      · rw [List.getD_eq_getElem?_getD, List.getElem?_eq_none (by omega)]
        show -M ≤ -(0 : Int) ∧ -(0 : Int) ≤ M
        omega
theorem not_c (x : List Int) (hx : x.length = 4) (hb : ∀ v ∈ x, -1099511627780 ≤ v ∧ v ≤ 1099511627780) : Go.Av.Pure Tryd.prog G 100 [.agg (encs x)] (.agg (encs (notTo x 4))) := fun B => by
  refine calls_of_run Tryd.func100 rfl Tryd.ntmps100 rfl (t := [(0, .agg (encs x))]) rfl fun E hE => ?_
  (repeat' first | refine s_mv rfl ?_ | refine s_alloc (fun _ _ => ?_) | refine s_box rfl rfl (fun _ _ => ?_) | refine o_nil ?_ | refine o_op rfl ?_ | refine r_seq ?_ | refine r_region ?_ | refine r_block ?_)
  rename_i ga hga gb hgb
  refine r_loop (fun (i : Nat) => ⟨[(1, .ptr 0 ga 0), (2, .ptr 1 gb 0), (4, .i i)], [.row ga (encs (notTo x i)), .row gb [.i 0, .i 0, .i 0, .i 0]]⟩) (fun i => i ≤ 4) (fun i => 4 - i) 0 ?_ (by omega) ?_
  · exact al rfl
  intro i hi
  have hl : (notTo x i).length = 4 := by rw [notTo_len, hx]
  have hbd := notTo_bd (by omega) hb i
  (repeat' first | refine s_lss rfl rfl ?_ | refine o_nil ?_ | refine o_op rfl ?_ | refine r_seq ?_ | refine r_region ?_)
  refine r_cond_d rfl (fun h => ?_) (fun h => ?_)
  · have hil : i < (notTo x i).length := by omega
    have hs1 : notTo x (i + 1) = (notTo x i).set i (-(notTo x i)[i]) := by rw [notTo, Ord.getD_lt hil]
    have hbi := hbd _ (List.getElem_mem hil)
    clear hbd hb
    (repeat' first | refine s_mv rfl ?_ | refine s_as rfl ?_ | refine s_load_e1 rfl rfl rfl (by first | assumption | omega) rfl ?_ | refine s_idx_arr1 rfl rfl rfl (by omega) ?_ | refine s_add rfl rfl (by omega) ?_ | refine s_neg rfl (by omega) ?_ | refine s_store_e1 rfl rfl rfl rfl rfl (by first | assumption | omega) rfl ?_ | refine o_nil ?_ | refine o_op rfl ?_ | refine o_op0 ?_ | refine r_seq ?_ | refine r_region ?_ | refine r_block ?_ | refine r_skip ?_)
    refine ⟨i + 1, by omega, by omega, ?_⟩
    rw [hs1]
    exact al rfl
  · have hi4 : i = 4 := by omega
    subst hi4
    obtain ⟨a, b, c, d, rfl⟩ : ∃ a b c d, x = [a, b, c, d] := by
      match x, hx with
      | [a, b, c, d], _ => exact ⟨a, b, c, d, rfl⟩
    (repeat' first | refine s_load_rowa rfl rfl (by rfl) (by rfl) ?_ | refine s_store rfl rfl rfl rfl (by rfl) (by rfl) (by rfl) ?_ | refine o_nil ?_ | refine o_op rfl ?_ | refine o_op0 ?_ | refine r_seq ?_ | refine r_region ?_ | refine r_exit rfl ?_ | refine r_ret ?_)
    exact e_1 (Tryd.results100) (rv_cella (size := 4) rfl rfl rfl rfl) (c_pure' rfl)
def sumTo (s : St) (x y : List Int) (c : Int) : Nat → List Int × Int × St
  | 0 => ([0, 0, 0, 0], c, s)
  | i + 1 =>
    let p := sumTo s x y c i
    let h := xor p.2.2 (x.getD i 0) (y.getD i 0)
    let o := xor h.2 h.1 p.2.1
    let a := and o.2 (x.getD i 0) (y.getD i 0)
    let b := and a.2 h.1 p.2.1
    let r := or b.2 a.1 b.1
    (p.1.set i o.1, r.1, r.2)
theorem sumTo_len (s : St) (x y : List Int) (c : Int) : ∀ i, (sumTo s x y c i).1.length = 4
  | 0 => rfl
  | i + 1 => by
    show ((sumTo s x y c i).1.set i _).length = 4
    rw [List.length_set, sumTo_len s x y c i]
theorem sumTo_gate {s : St} (hs : Ok s) (hv : s.vars + 100 < 1099511627776) {x y : List Int} {c : Int} (hx : ∀ v ∈ x, Lim s v) (hy : ∀ v ∈ y, Lim s v) (hc : Lim s c) : ∀ i : Nat, i ≤ 8 → Gate s (sumTo s x y c i).2.2 (5 * i) ∧ Lim (sumTo s x y c i).2.2 (sumTo s x y c i).2.1 ∧ ∀ v ∈ (sumTo s x y c i).1, Lim (sumTo s x y c i).2.2 v
  | 0, _ => ⟨⟨hs, Int.le_refl _, by show s.vars ≤ _; omega⟩, hc, fun v h => by
      have hv : v = 0 := by
        have h : v ∈ [(0 : Int), 0, 0, 0] := h
        simpa using h
      subst hv
      have := hs.v0
      exact ⟨by show -(s.vars + 1) ≤ 0; omega, by show 0 ≤ s.vars + 1; omega⟩⟩
  | i + 1, hi => by
    obtain ⟨h1, h2, h3⟩ := sumTo_gate hs hv hx hy hc i (by omega)
    have hh := h1.hi
    have hs1 : sumTo s x y c (i + 1) = ((sumTo s x y c i).1.set i (xor (xor (sumTo s x y c i).2.2 (x.getD i 0) (y.getD i 0)).2 (xor (sumTo s x y c i).2.2 (x.getD i 0) (y.getD i 0)).1 (sumTo s x y c i).2.1).1, or (and (and (xor (xor (sumTo s x y c i).2.2 (x.getD i 0) (y.getD i 0)).2 (xor (sumTo s x y c i).2.2 (x.getD i 0) (y.getD i 0)).1 (sumTo s x y c i).2.1).2 (x.getD i 0) (y.getD i 0)).2 (xor (sumTo s x y c i).2.2 (x.getD i 0) (y.getD i 0)).1 (sumTo s x y c i).2.1).2 (and (xor (xor (sumTo s x y c i).2.2 (x.getD i 0) (y.getD i 0)).2 (xor (sumTo s x y c i).2.2 (x.getD i 0) (y.getD i 0)).1 (sumTo s x y c i).2.1).2 (x.getD i 0) (y.getD i 0)).1 (and (and (xor (xor (sumTo s x y c i).2.2 (x.getD i 0) (y.getD i 0)).2 (xor (sumTo s x y c i).2.2 (x.getD i 0) (y.getD i 0)).1 (sumTo s x y c i).2.1).2 (x.getD i 0) (y.getD i 0)).2 (xor (sumTo s x y c i).2.2 (x.getD i 0) (y.getD i 0)).1 (sumTo s x y c i).2.1).1) := rfl
    have ha := (getD_lim hx hs.v0 i).mono h1.lo
    have hb := (getD_lim hy hs.v0 i).mono h1.lo
    generalize x.getD i 0 = a at *
    generalize y.getD i 0 = b at *
    generalize sumTo s x y c i = p at *
    have g1 := xor_gate h1.ok (by omega) a b
    have l1 := (xor_lim ha hb h1.ok.v0).mono g1.lo
    have k1 := g1.hi
    have ha1 := ha.mono g1.lo
    have hb1 := hb.mono g1.lo
    have hc1 := h2.mono g1.lo
    have G1 := h1.trans g1
    have hm1 : ∀ v ∈ p.1, Lim (xor p.2.2 a b).2 v := fun v hv => (h3 v hv).mono g1.lo
    generalize xor p.2.2 a b = h at *
    have g2 := xor_gate g1.ok (by omega) h.1 p.2.1
    have l2 := (xor_lim l1 hc1 g1.ok.v0).mono g2.lo
    have k2 := g2.hi
    have ha2 := ha1.mono g2.lo
    have hb2 := hb1.mono g2.lo
    have hc2 := hc1.mono g2.lo
    have hh2 := l1.mono g2.lo
    have G2 := G1.trans g2
    have hm2 : ∀ v ∈ p.1, Lim (xor h.2 h.1 p.2.1).2 v := fun v hv => (hm1 v hv).mono g2.lo
    generalize xor h.2 h.1 p.2.1 = o at *
    have g3 := and_gate g2.ok (by omega) a b
    have l3 := (and_lim ha2 hb2 g2.ok.v0).mono g3.lo
    have k3 := g3.hi
    have hc3 := hc2.mono g3.lo
    have hh3 := hh2.mono g3.lo
    have lo3 := l2.mono g3.lo
    have G3 := G2.trans g3
    have hm3 : ∀ v ∈ p.1, Lim (and o.2 a b).2 v := fun v hv => (hm2 v hv).mono g3.lo
    generalize and o.2 a b = e at *
    have g4 := and_gate g3.ok (by omega) h.1 p.2.1
    have l4 := (and_lim hh3 hc3 g3.ok.v0).mono g4.lo
    have k4 := g4.hi
    have l34 := l3.mono g4.lo
    have lo4 := lo3.mono g4.lo
    have G4 := G3.trans g4
    have hm4 : ∀ v ∈ p.1, Lim (and e.2 h.1 p.2.1).2 v := fun v hv => (hm3 v hv).mono g4.lo
    generalize and e.2 h.1 p.2.1 = f at *
    have g5 := or_gate g4.ok (by omega) e.1 f.1
    have l5 := (or_lim l34 l4 g4.ok.v0).mono g5.lo
    have G5 := G4.trans g5
    rw [hs1]
    refine ⟨by rwa [show (5 : Int) * (i : Int) + 1 + 1 + 1 + 1 + 1 = 5 * ((i + 1 : Nat) : Int) by omega] at G5, l5, fun v hv => ?_⟩
    rcases List.mem_or_eq_of_mem_set hv with hv | rfl
    · exact (hm4 v hv).mono g5.lo
    · exact lo4.mono g5.lo
theorem sum_c (s : St) (hs : Ok s) (hv : s.vars + 100 < 1099511627776) (x y : List Int) (c : Int) (hxl : x.length = 4) (hyl : y.length = 4) (hx : ∀ v ∈ x, Lim s v) (hy : ∀ v ∈ y, Lim s v) (hc : Lim s c) : BM Tryd.prog G 99 [.agg (encs x), .agg (encs y), .i c] s.vars s.cl (.agg (encs (sumTo s x y c 4).1)) (sumTo s x y c 4).2.2 := fun g0 g1 g2 g3 c2 c3 c4 m sn h2 h3 h4 hm hsn B b0 b1 b2 b3 => by
  have hv0 := hs.v0
  have hv1 := hs.v1
  refine calls_of_run Tryd.func99 rfl Tryd.ntmps99 rfl (t := [(0, .ptr 0 g0 0), (1, .agg (encs x)), (2, .agg (encs y)), (3, .i c)]) rfl fun E hE => ?_
  have hlt := fun i hi => sumTo_gate hs hv hx hy hc i hi
  (repeat' first | refine s_mv rfl ?_ | refine s_alloc (fun _ _ => ?_) | refine s_box rfl rfl (fun _ _ => ?_) | refine o_nil ?_ | refine o_op rfl ?_ | refine r_seq ?_ | refine r_region ?_ | refine r_block ?_)
  rename_i gx hgx gy hgy gr hgr go hgo
  refine r_loop2 (fun (i gc : Nat) => ⟨[(0, .ptr 0 g0 0), (3, .i (sumTo s x y c i).2.1), (5, .ptr 4 gx 0), (6, .ptr 5 gy 0), (8, .ptr 6 gr 0), (9, .ptr 7 go 0), (12, .i i)], [.row g0 [.sc (.int .i64 (sumTo s x y c i).2.2.vars), .ref 1 gc 0 (sumTo s x y c i).2.2.cl.length 1, c2, c3, c4, .mp 2 g2, .mp 3 g3], .row gc (encs (sumTo s x y c i).2.2.cl), .mapb g2 (imap m), .mapb g3 sn, .row gx (encs x), .row gy (encs y), .row gr [.i 0, .i 0, .i 0, .i 0], .row go (encs (sumTo s x y c i).1)]⟩) (fun i gc => i ≤ 4 ∧ (gc = g1 ∨ E.N < gc)) (fun i _ => 4 - i) 0 g1 ?_ ⟨by omega, .inl rfl⟩ ?_
  · exact al rfl
  intro i gc ⟨hi, hgc⟩
  obtain ⟨hg, hl, hlo⟩ := hlt i (by omega)
  have hol := sumTo_len s x y c i
  (repeat' first | refine s_lss rfl rfl ?_ | refine o_nil ?_ | refine o_op rfl ?_ | refine r_seq ?_ | refine r_region ?_)
  refine r_cond_d rfl (fun h => ?_) (fun h => ?_)
  · have hiX : i < x.length := by omega
    have hiY : i < y.length := by omega
    have hs1 : sumTo s x y c (i + 1) = ((sumTo s x y c i).1.set i (xor (xor (sumTo s x y c i).2.2 x[i] y[i]).2 (xor (sumTo s x y c i).2.2 x[i] y[i]).1 (sumTo s x y c i).2.1).1, or (and (and (xor (xor (sumTo s x y c i).2.2 x[i] y[i]).2 (xor (sumTo s x y c i).2.2 x[i] y[i]).1 (sumTo s x y c i).2.1).2 x[i] y[i]).2 (xor (sumTo s x y c i).2.2 x[i] y[i]).1 (sumTo s x y c i).2.1).2 (and (xor (xor (sumTo s x y c i).2.2 x[i] y[i]).2 (xor (sumTo s x y c i).2.2 x[i] y[i]).1 (sumTo s x y c i).2.1).2 x[i] y[i]).1 (and (and (xor (xor (sumTo s x y c i).2.2 x[i] y[i]).2 (xor (sumTo s x y c i).2.2 x[i] y[i]).1 (sumTo s x y c i).2.1).2 x[i] y[i]).2 (xor (sumTo s x y c i).2.2 x[i] y[i]).1 (sumTo s x y c i).2.1).1) := by
      rw [← Ord.getD_lt hiX 0, ← Ord.getD_lt hiY 0]; rfl
    have ho := hg.ok
    have hh := hg.hi
    have ha : Lim (sumTo s x y c i).2.2 x[i] := (hx _ (List.getElem_mem hiX)).mono hg.lo
    have hb : Lim (sumTo s x y c i).2.2 y[i] := (hy _ (List.getElem_mem hiY)).mono hg.lo
    clear hlt hlo
    generalize sumTo s x y c i = p at *
    have hiP : i < p.1.length := by omega
    have hk1 := xor_c (G := G) p.2.2 ho (by omega) _ _ ha hb
    have q1 := xor_gate ho (by omega) x[i] y[i]
    have l1 := (xor_lim ha hb ho.v0).mono q1.lo
    have k1 := q1.hi
    have ha := ha.mono q1.lo
    have hb := hb.mono q1.lo
    have hl := hl.mono q1.lo
    generalize xor p.2.2 x[i] y[i] = h1 at *
    have hk2 := xor_c (G := G) h1.2 q1.ok (by omega) _ _ l1 hl
    have q2 := xor_gate q1.ok (by omega) h1.1 p.2.1
    have k2 := q2.hi
    have ha := ha.mono q2.lo
    have hb := hb.mono q2.lo
    have hl := hl.mono q2.lo
    have l1 := l1.mono q2.lo
    generalize xor h1.2 h1.1 p.2.1 = h2' at *
    have hk3 := and_c (G := G) h2'.2 q2.ok (by omega) _ _ ha hb
    have q3 := and_gate q2.ok (by omega) x[i] y[i]
    have l3 := (and_lim ha hb q2.ok.v0).mono q3.lo
    have k3 := q3.hi
    have hl := hl.mono q3.lo
    have l1 := l1.mono q3.lo
    generalize and h2'.2 x[i] y[i] = h3' at *
    have hk4 := and_c (G := G) h3'.2 q3.ok (by omega) _ _ l1 hl
    have q4 := and_gate q3.ok (by omega) h1.1 p.2.1
    have l4 := (and_lim l1 hl q3.ok.v0).mono q4.lo
    have k4 := q4.hi
    have l3 := l3.mono q4.lo
    generalize and h3'.2 h1.1 p.2.1 = h4' at *
    have hk5 := or_c (G := G) h4'.2 q4.ok (by omega) _ _ l3 l4
    generalize or h4'.2 h3'.1 h4'.1 = h5 at *
    clear hx hy hs hg ho ha hb hl l1 l3 l4 q1 q2 q3 q4 k1 k2 k3 k4 hh hc
    (repeat' first | refine s_mv rfl ?_ | refine s_as rfl ?_ | refine s_idx_arr1 rfl rfl rfl (by omega) ?_ | refine s_add rfl rfl (by omega) ?_ | refine s_cbm rfl rfl (hk1) rfl (fun _ _ => ?_) | refine s_cbm rfl rfl (hk2) rfl (fun _ _ => ?_) | refine s_cbm rfl rfl (hk3) rfl (fun _ _ => ?_) | refine s_cbm rfl rfl (hk4) rfl (fun _ _ => ?_) | refine s_cbm rfl rfl (hk5) rfl (fun _ _ => ?_) | refine s_store_e1 rfl rfl rfl rfl rfl (by first | assumption | omega) rfl ?_ | refine o_nil ?_ | refine o_op rfl ?_ | refine o_op0 ?_ | refine r_seq ?_ | refine r_region ?_ | refine r_block ?_ | (refine g_draw ?_; first | (refine r_drawi (fun p => p.1 :: p.2.1 :: p.2.2.1 :: p.2.2.2.1 :: .row gx (encs x) :: .row gy (encs y) :: p.2.2.2.2) 9 [(0, true), (1, true), (2, true), (3, true), (4, true), (5, true), (6, true), (7, false), (8, true)] (by rfl) (by rfl) (by kernel_rfl) (by decide +kernel) (by decide +kernel) ⟨(_, _, _, _, _), rfl⟩ ?_) | (refine r_drawi (fun p => p.1 :: p.2.1 :: p.2.2.1 :: p.2.2.2.1 :: .row gx (encs x) :: .row gy (encs y) :: p.2.2.2.2) 15 [(0, true), (1, true), (2, true), (3, true), (4, true), (5, true), (6, true), (7, true), (9, true), (10, true), (11, true), (8, false), (12, false), (13, false), (14, true)] (by rfl) (by rfl) (by kernel_rfl) (by decide +kernel) (by decide +kernel) ⟨(_, _, _, _, _), rfl⟩ ?_) | refine r_draw0 (by rfl) (by kernel_rfl) (by kernel_rfl) ?_ | refine r_drawq (by kernel_rfl) (by kernel_rfl) ?_) | refine r_skip ?_ | refine i_nil ?_ | refine i_st rfl rfl (fun _ => (by (repeat' first | refine s_mv rfl ?_ | refine s_as rfl ?_ | refine s_load_e1 rfl rfl rfl (by first | assumption | omega) rfl ?_ | refine s_idx_arr1 rfl rfl rfl (by omega) ?_ | exact ⟨rfl, rfl⟩))) ?_ | refine i_ef rfl ?_ | refine And.intro (Exists.intro ((_, _, _, _, _)) rfl) ?_)
    rename_i ga hga gb hgb gd hgd ge hge gf hgf
    refine ⟨i + 1, gf, ⟨by omega, by omega⟩, by omega, ?_⟩
    rw [hs1]
    exact al rfl
  · have hi4 : i = 4 := by omega
    subst hi4
    (repeat' first | refine s_load_rowa rfl rfl (by rfl) (by rfl) ?_ | refine s_store rfl rfl rfl rfl (by rfl) (by rfl) (by rfl) ?_ | refine o_nil ?_ | refine o_op rfl ?_ | refine o_op0 ?_ | refine r_seq ?_ | refine r_region ?_ | refine r_exit rfl ?_ | refine r_ret ?_)
    exact e_1 (Tryd.results99) (rv_cella (size := 4) rfl rfl rfl rfl) (c_drop (σ := [_, _, _, _]) (r := [_, _, _, _]) ⟨rfl, gc, by omega, rfl⟩)
end Go.Proofs
end
section
namespace Go.Proofs
open Go.Av
variable {G : Nat → DV}
attribute [local irreducible] OpSem ARun AOps ALex ACalls AEnd AClose RV
open Go.Bl
def movedM (x : List Int) (k : Int) : Int := if 4 ≤ k then x.getD 3 0 else if 0 ≤ k then x.getD k.toNat 0 else -1
def shiftTo (s : St) (x : List Int) (c n : Int) : Nat → List Int × St
  | 0 => ([0, 0, 0, 0], s)
  | i + 1 => ((shiftTo s x c n i).1.set i (muxM (shiftTo s x c n i).2 c (movedM x ((i : Int) - n)) (x.getD i 0)).1, (muxM (shiftTo s x c n i).2 c (movedM x ((i : Int) - n)) (x.getD i 0)).2)
theorem shiftTo_len (s : St) (x : List Int) (c n : Int) : ∀ i, (shiftTo s x c n i).1.length = 4
  | 0 => rfl
  | i + 1 => by
    show ((shiftTo s x c n i).1.set i _).length = 4
    rw [List.length_set, shiftTo_len s x c n i]
theorem moved_lim {s : St} (hs : Ok s) {x : List Int} (hx : ∀ v ∈ x, Lim s v) (k : Int) : Lim s (movedM x k) := by
  unfold movedM
  split
  · exact getD_lim hx hs.v0 3
  · split
    · exact getD_lim hx hs.v0 _
    · have := hs.v0
      exact ⟨by omega, by omega⟩
theorem shiftTo_gate {s : St} (hs : Ok s) (hv : s.vars + 100 < 1099511627776) {x : List Int} {c : Int} (n : Int) (hx : ∀ v ∈ x, Lim s v) (hc : Lim s c) : ∀ i : Nat, i ≤ 8 → Gate s (shiftTo s x c n i).2 (3 * i) ∧ ∀ v ∈ (shiftTo s x c n i).1, Lim (shiftTo s x c n i).2 v
  | 0, _ => ⟨⟨hs, Int.le_refl _, by show s.vars ≤ _; omega⟩, fun v h => by
      have hv : v = 0 := by
        have h : v ∈ [(0 : Int), 0, 0, 0] := h
        simpa using h
      subst hv
      have := hs.v0
      exact ⟨by show -(s.vars + 1) ≤ 0; omega, by show 0 ≤ s.vars + 1; omega⟩⟩
  | i + 1, hi => by
    obtain ⟨h1, h3⟩ := shiftTo_gate hs hv n hx hc i (by omega)
    have hh := h1.hi
    obtain ⟨g1, l1⟩ := mux_gate (c := c) (x := movedM x ((i : Int) - n)) (y := x.getD i 0) h1.ok (by omega) (hc.mono h1.lo) ((moved_lim hs hx _).mono h1.lo) ((getD_lim hx hs.v0 i).mono h1.lo)
    refine ⟨by have := h1.trans g1; rwa [show (3 : Int) * (i : Int) + 3 = 3 * ((i + 1 : Nat) : Int) by omega] at this, fun v hv => ?_⟩
    rcases List.mem_or_eq_of_mem_set hv with hv | rfl
    · exact (h3 v hv).mono g1.lo
    · exact l1
theorem shifted_c (s : St) (hs : Ok s) (hv : s.vars + 100 < 1099511627776) (x : List Int) (c n : Int) (hxl : x.length = 4) (hx : ∀ v ∈ x, Lim s v) (hc : Lim s c) (hn : -8 ≤ n ∧ n ≤ 8) : BM Tryd.prog G 103 [.agg (encs x), .i c, .i n] s.vars s.cl (.agg (encs (shiftTo s x c n 4).1)) (shiftTo s x c n 4).2 := fun g0 g1 g2 g3 c2 c3 c4 m sn h2 h3 h4 hm hsn B b0 b1 b2 b3 => by
  have hv0 := hs.v0
  have hv1 := hs.v1
  refine calls_of_run Tryd.func103 rfl Tryd.ntmps103 rfl (t := [(0, .ptr 0 g0 0), (1, .agg (encs x)), (2, .i c), (3, .i n)]) rfl fun E hE => ?_
  have hlt := fun i hi => shiftTo_gate hs hv n hx hc i hi
  (repeat' first | refine s_mv rfl ?_ | refine s_alloc (fun _ _ => ?_) | refine s_box rfl rfl (fun _ _ => ?_) | refine o_nil ?_ | refine o_op rfl ?_ | refine r_seq ?_ | refine r_region ?_ | refine r_block ?_)
  rename_i gx hgx gr hgr go hgo
  refine r_loop2 (fun (i gc : Nat) => ⟨[(0, .ptr 0 g0 0), (2, .i c), (3, .i n), (5, .ptr 4 gx 0), (8, .ptr 5 gr 0), (9, .ptr 6 go 0), (13, .i i)], [.row g0 [.sc (.int .i64 (shiftTo s x c n i).2.vars), .ref 1 gc 0 (shiftTo s x c n i).2.cl.length 1, c2, c3, c4, .mp 2 g2, .mp 3 g3], .row gc (encs (shiftTo s x c n i).2.cl), .mapb g2 (imap m), .mapb g3 sn, .row gx (encs x), .row gr [.i 0, .i 0, .i 0, .i 0], .row go (encs (shiftTo s x c n i).1)]⟩) (fun i gc => i ≤ 4 ∧ (gc = g1 ∨ E.N < gc)) (fun i _ => 4 - i) 0 g1 ?_ ⟨by omega, .inl rfl⟩ ?_
  · exact al rfl
  intro i gc ⟨hi, hgc⟩
  obtain ⟨hg, hlo⟩ := hlt i (by omega)
  have hol := shiftTo_len s x c n i
  (repeat' first | refine s_lss rfl rfl ?_ | refine o_nil ?_ | refine o_op rfl ?_ | refine r_seq ?_ | refine r_region ?_)
  refine r_cond_d rfl (fun h => ?_) (fun h => ?_)
  · have hiX : i < x.length := by omega
    have h3X : 3 < x.length := by omega
    have hs1 : shiftTo s x c n (i + 1) = ((shiftTo s x c n i).1.set i (muxM (shiftTo s x c n i).2 c (movedM x ((i : Int) - n)) x[i]).1, (muxM (shiftTo s x c n i).2 c (movedM x ((i : Int) - n)) x[i]).2) := by
      rw [← Ord.getD_lt hiX 0]; rfl
    have ho := hg.ok
    have hh := hg.hi
    have ha := (moved_lim hs hx ((i : Int) - n)).mono hg.lo
    have hb : Lim (shiftTo s x c n i).2 x[i] := (hx _ (List.getElem_mem hiX)).mono hg.lo
    have hc1 := hc.mono hg.lo
    clear hlt hlo
    generalize shiftTo s x c n i = p at *
    have hiP : i < p.1.length := by omega
    have hk1 := mux_c (G := G) p.2 ho (by omega) _ _ _ hc1 ha hb
    have hmv : movedM x ((i : Int) - n) = if 4 ≤ (i : Int) - n then x.getD 3 0 else if 0 ≤ (i : Int) - n then x.getD ((i : Int) - n).toNat 0 else -1 := rfl
    generalize muxM p.2 c (movedM x ((i : Int) - n)) x[i] = q at *
    clear hx hs hg ho ha hb hh hc
    by_cases q1 : 4 ≤ (i : Int) - n
    · rw [if_pos q1, Ord.getD_lt h3X] at hmv
      rw [hmv] at hk1
      (repeat' first | refine s_mv rfl ?_ | refine s_as rfl ?_ | refine s_load_e1 rfl rfl rfl (by first | assumption | omega) rfl ?_ | refine s_idx_arr1 rfl rfl rfl (by omega) ?_ | refine s_idx_arr rfl rfl rfl (by omega) (by omega) ?_ | refine s_geq rfl rfl ?_ | refine s_add rfl rfl (by omega) ?_ | refine s_sub rfl rfl (by omega) ?_ | refine s_cbm rfl rfl (hk1) rfl (fun _ _ => ?_) | refine s_store_e1 rfl rfl rfl rfl rfl (by first | assumption | omega) rfl ?_ | refine o_nil ?_ | refine o_op rfl ?_ | refine o_op0 ?_ | refine r_seq ?_ | refine r_region ?_ | refine r_block ?_ | refine r_skip ?_ | refine r_cond_dt rfl (by omega) ?_)
      rename_i ga hga
      refine ⟨i + 1, ga, ⟨by omega, by omega⟩, by omega, ?_⟩
      rw [hs1]
      exact al rfl
    · by_cases q2 : 0 ≤ (i : Int) - n
      · have hkX : ((i : Int) - n).toNat < x.length := by omega
        have hkX2 : 0 + ((i : Int) - n).toNat * 1 < x.length := by omega
        have e2 : x[((i : Int) - n).toNat]'hkX = x[0 + ((i : Int) - n).toNat * 1]'hkX2 := by simp
        rw [if_neg q1, if_pos q2, Ord.getD_lt hkX, e2] at hmv
        rw [hmv] at hk1
        (repeat' first | refine s_mv rfl ?_ | refine s_as rfl ?_ | refine s_load_e1 rfl rfl rfl (by first | assumption | omega) rfl ?_ | refine s_idx_arr1 rfl rfl rfl (by omega) ?_ | refine s_idx_arr rfl rfl rfl (by omega) (by omega) ?_ | refine s_geq rfl rfl ?_ | refine s_add rfl rfl (by omega) ?_ | refine s_sub rfl rfl (by omega) ?_ | refine s_cbm rfl rfl (hk1) rfl (fun _ _ => ?_) | refine s_store_e1 rfl rfl rfl rfl rfl (by first | assumption | omega) rfl ?_ | refine o_nil ?_ | refine o_op rfl ?_ | refine o_op0 ?_ | refine r_seq ?_ | refine r_region ?_ | refine r_block ?_ | refine r_skip ?_ | refine r_cond_dt rfl (by omega) ?_ | refine r_cond_df rfl (by omega) ?_)
        rename_i ga hga
        refine ⟨i + 1, ga, ⟨by omega, by omega⟩, by omega, ?_⟩
        rw [hs1]
        exact al rfl
      · rw [if_neg q1, if_neg q2] at hmv
        rw [hmv] at hk1
        (repeat' first | refine s_mv rfl ?_ | refine s_as rfl ?_ | refine s_load_e1 rfl rfl rfl (by first | assumption | omega) rfl ?_ | refine s_idx_arr1 rfl rfl rfl (by omega) ?_ | refine s_geq rfl rfl ?_ | refine s_add rfl rfl (by omega) ?_ | refine s_sub rfl rfl (by omega) ?_ | refine s_cbm rfl rfl (hk1) rfl (fun _ _ => ?_) | refine s_store_e1 rfl rfl rfl rfl rfl (by first | assumption | omega) rfl ?_ | refine o_nil ?_ | refine o_op rfl ?_ | refine o_op0 ?_ | refine r_seq ?_ | refine r_region ?_ | refine r_block ?_ | refine r_skip ?_ | refine r_cond_df rfl (by omega) ?_)
        rename_i ga hga
        refine ⟨i + 1, ga, ⟨by omega, by omega⟩, by omega, ?_⟩
        rw [hs1]
        exact al rfl
  · have hi4 : i = 4 := by omega
    subst hi4
    (repeat' first | refine s_load_rowa rfl rfl (by rfl) (by rfl) ?_ | refine s_store rfl rfl rfl rfl (by rfl) (by rfl) (by rfl) ?_ | refine o_nil ?_ | refine o_op rfl ?_ | refine o_op0 ?_ | refine r_seq ?_ | refine r_region ?_ | refine r_exit rfl ?_ | refine r_ret ?_)
    exact e_1 (Tryd.results103) (rv_cella (size := 4) rfl rfl rfl rfl) (c_drop (σ := [_, _, _, _]) (r := [_, _, _]) ⟨rfl, gc, by omega, rfl⟩)
end Go.Proofs
end
section
namespace Go.Proofs
open Go.Av
variable {G : Nat → DV}
attribute [local irreducible] OpSem ARun AOps ALex ACalls AEnd AClose RV
open Go.Bl
theorem _root_.Go.Bl.wbits_eq (n : Int) : wbits n = n % 16 := by
  show IntKind.i64.wrap ((BitVec.ofInt 64 n &&& BitVec.ofInt 64 15).toNat : Int) = _
  rw [BitVec.toNat_and, BitVec.toNat_ofInt, show (BitVec.ofInt 64 15).toNat = 2 ^ 4 - 1 from rfl, Nat.and_two_pow_sub_one_eq_mod]
  have h0 : 0 ≤ n % ((2 ^ 64 : Nat) : Int) := Int.emod_nonneg _ (by decide)
  have h1 : (((n % ((2 ^ 64 : Nat) : Int)).toNat % 2 ^ 4 : Nat) : Int) = n % 16 := by
    rw [Int.natCast_emod, Int.toNat_of_nonneg h0]
    omega
  rw [h1]
  exact wrap_i64 (by omega)
theorem _root_.Go.Bl.wbits_bound (n : Int) : 0 ≤ wbits n ∧ wbits n ≤ 15 := by
  rw [wbits_eq]; omega
theorem wBits_c (n : Int) : Go.Av.Pure Tryd.prog G 96 [.i n] (.i (wbits n)) := fun B => by
  refine calls_of_run Tryd.func96 rfl Tryd.ntmps96 rfl (t := [(0, .i n)]) rfl fun E hE => ?_
  (repeat' first | refine s_mv rfl ?_ | refine s_as rfl ?_ | refine s_and rfl rfl ?_ | refine o_nil ?_ | refine o_op rfl ?_ | refine r_seq ?_ | refine r_region ?_ | refine r_ret ?_)
  refine e_1 Tryd.results96 (rv_tmp rfl) (c_pure' ?_)
  rfl
theorem width_c (k : Int) : Go.Av.Pure Tryd.prog G 39 [.i k] (.i (width k)) := fun B => by
  refine calls_of_run Tryd.func39 rfl Tryd.ntmps39 rfl (t := [(0, .i k)]) rfl fun E hE => ?_
  (repeat' first | refine s_mv rfl ?_ | refine s_as rfl ?_ | refine s_eql rfl rfl ?_ | refine o_nil ?_ | refine o_op rfl ?_ | refine r_seq ?_ | refine r_region ?_)
  refine r_cond_d rfl (fun h => ?_) (fun h => ?_)
  · (repeat' first | refine s_as rfl ?_ | refine o_nil ?_ | refine o_op rfl ?_ | refine r_seq ?_ | refine r_region ?_ | refine r_ret ?_)
    refine e_1 Tryd.results39 (rv_tmp rfl) (c_pure' ?_)
    unfold width; rw [if_pos h]
  · (repeat' first | refine s_as rfl ?_ | refine o_nil ?_ | refine o_op rfl ?_ | refine r_seq ?_ | refine r_region ?_ | refine r_skip ?_ | refine r_ret ?_)
    refine e_1 Tryd.results39 (rv_tmp rfl) (c_pure' ?_)
    unfold width; rw [if_neg h]
theorem number_c (n : Int) : Go.Av.Pure Tryd.prog G 84 [.i n] (.agg (encs (number n))) := fun B => by
  refine calls_of_run Tryd.func84 rfl Tryd.ntmps84 rfl (t := [(0, .i n)]) rfl fun E hE => ?_
  (repeat' first | refine s_mv rfl ?_ | refine s_alloc (fun _ _ => ?_) | refine o_nil ?_ | refine o_op rfl ?_ | refine r_seq ?_ | refine r_region ?_ | refine r_block ?_)
  rename_i ga hga gb hgb
  refine r_loop (fun (i : Nat) => ⟨[(0, .i n), (2, .ptr 0 ga 0), (3, .ptr 1 gb 0), (5, .i i)], [.row ga [.i 0, .i 0, .i 0, .i 0], .row gb (encs (numberTo n i))]⟩) (fun i => i ≤ 4) (fun i => 4 - i) 0 ?_ (by omega) ?_
  · exact al rfl
  intro i hi
  have hl : (numberTo n i).length = 4 := numberTo_len n i
  (repeat' first | refine s_lss rfl rfl ?_ | refine o_nil ?_ | refine o_op rfl ?_ | refine r_seq ?_ | refine r_region ?_)
  refine r_cond_d rfl (fun h => ?_) (fun h => ?_)
  · have hw := wbits_bound n
    have hil : i < (numberTo n i).length := by omega
    have hs1 : numberTo n (i + 1) = ((numberTo n i).set i (-1)).set i (if bitAt n i then 1 else -1) := by rw [numberTo, List.set_set]
    have hil2 : i < ((numberTo n i).set i (-1)).length := by rw [List.length_set]; omega
    (repeat' first | refine s_mv rfl ?_ | refine s_as rfl ?_ | refine s_idx_arr1 rfl rfl rfl (by omega) ?_ | refine s_eql rfl rfl ?_ | refine s_and rfl rfl ?_ | refine s_shr rfl rfl (by omega) ?_ | refine s_cp rfl rfl (wBits_c _) ?_ | refine s_store_e1 rfl rfl rfl rfl rfl (by first | assumption | omega) rfl ?_ | refine o_nil ?_ | refine o_op rfl ?_ | refine o_op0 ?_ | refine r_seq ?_ | refine r_region ?_ | refine r_block ?_ | refine r_skip ?_)
    refine r_cond_d rfl (fun hb => ?_) (fun hb => ?_)
    · rw [if_pos (show bitAt n i from hb)] at hs1
      (repeat' first | refine s_mv rfl ?_ | refine s_idx_arr1 rfl rfl rfl (by omega) ?_ | refine s_add rfl rfl (by omega) ?_ | refine s_store_e1 rfl rfl rfl rfl rfl (by first | assumption | omega) rfl ?_ | refine o_nil ?_ | refine o_op rfl ?_ | refine o_op0 ?_ | refine r_region ?_)
      refine ⟨i + 1, by omega, by omega, ?_⟩
      rw [hs1]
      exact al rfl
    · have hs2 : numberTo n (i + 1) = (numberTo n i).set i (-1) := by rw [numberTo, if_neg (show ¬ bitAt n i from hb)]
      (repeat' first | refine s_mv rfl ?_ | refine s_add rfl rfl (by omega) ?_ | refine o_nil ?_ | refine o_op rfl ?_ | refine r_region ?_ | refine r_skip ?_)
      refine ⟨i + 1, by omega, by omega, ?_⟩
      rw [hs2]
      exact al rfl
  · have hi4 : i = 4 := by omega
    subst hi4
    (repeat' first | refine s_load_rowa rfl rfl (by rfl) (by rfl) ?_ | refine s_store rfl rfl rfl rfl (by rfl) (by rfl) (by rfl) ?_ | refine o_nil ?_ | refine o_op rfl ?_ | refine o_op0 ?_ | refine r_seq ?_ | refine r_region ?_ | refine r_exit rfl ?_ | refine r_ret ?_)
    exact e_1 (Tryd.results84) (rv_cella (size := 4) rfl rfl rfl rfl) (c_pure' rfl)
end Go.Proofs
end
section
namespace Go.Proofs
open Go.Av
variable {G : Nat → DV}
attribute [local irreducible] OpSem ARun AOps ALex ACalls AEnd AClose RV
open Go.Bl
def partTo (s : St) (x : List Int) (b : Int) (i : Nat) : Nat → List Int × St
  | 0 => (number 0, s)
  | k + 1 => ((partTo s x b i k).1.set (i + k) (and (partTo s x b i k).2 (x.getD k 0) b).1, (and (partTo s x b i k).2 (x.getD k 0) b).2)
def prodTo (s : St) (x y : List Int) : Nat → List Int × St
  | 0 => (number 0, s)
  | i + 1 => ((sumTo (partTo (prodTo s x y i).2 x (y.getD i 0) i (4 - i)).2 (prodTo s x y i).1 (partTo (prodTo s x y i).2 x (y.getD i 0) i (4 - i)).1 (-1) 4).1, (sumTo (partTo (prodTo s x y i).2 x (y.getD i 0) i (4 - i)).2 (prodTo s x y i).1 (partTo (prodTo s x y i).2 x (y.getD i 0) i (4 - i)).1 (-1) 4).2.2)
theorem number0 : number 0 = [-1, -1, -1, -1] := by decide +kernel
theorem partTo_len (s : St) (x : List Int) (b : Int) (i : Nat) : ∀ k, (partTo s x b i k).1.length = 4
  | 0 => rfl
  | k + 1 => by
    show ((partTo s x b i k).1.set _ _).length = 4
    rw [List.length_set, partTo_len s x b i k]
theorem prodTo_len (s : St) (x y : List Int) : ∀ i, (prodTo s x y i).1.length = 4
  | 0 => rfl
  | i + 1 => sumTo_len _ _ _ _ 4
theorem minus_lim {s : St} (hs : Ok s) : ∀ v ∈ number 0, Lim s v := fun v hv => by
  rw [number0] at hv
  have : v = -1 := by simpa using hv
  subst this
  have := hs.v0
  exact ⟨by omega, by omega⟩
theorem partTo_gate {s : St} (hs : Ok s) (hv : s.vars + 20 < 1099511627776) {x : List Int} {b : Int} (i : Nat) (hx : ∀ v ∈ x, Lim s v) (hb : Lim s b) : ∀ k : Nat, k ≤ 4 → Gate s (partTo s x b i k).2 k ∧ ∀ v ∈ (partTo s x b i k).1, Lim (partTo s x b i k).2 v
  | 0, _ => ⟨⟨hs, Int.le_refl _, by show s.vars ≤ _; omega⟩, minus_lim hs⟩
  | k + 1, hi => by
    obtain ⟨h1, h3⟩ := partTo_gate hs hv i hx hb k (by omega)
    have hh := h1.hi
    have hxk := (getD_lim hx hs.v0 k).mono h1.lo
    have hb1 := hb.mono h1.lo
    have g1 := and_gate h1.ok (by omega) (x.getD k 0) b
    have l1 := (and_lim hxk hb1 h1.ok.v0).mono g1.lo
    refine ⟨by have := h1.trans g1; rwa [show (k : Int) + 1 = ((k + 1 : Nat) : Int) by omega] at this, fun v hv => ?_⟩
    rcases List.mem_or_eq_of_mem_set hv with hv | rfl
    · exact (h3 v hv).mono g1.lo
    · exact l1
theorem prodTo_gate {s : St} (hs : Ok s) (hv : s.vars + 300 < 1099511627776) {x y : List Int} (hx : ∀ v ∈ x, Lim s v) (hy : ∀ v ∈ y, Lim s v) : ∀ i : Nat, i ≤ 4 → Gate s (prodTo s x y i).2 (24 * i) ∧ ∀ v ∈ (prodTo s x y i).1, Lim (prodTo s x y i).2 v
  | 0, _ => ⟨⟨hs, Int.le_refl _, by show s.vars ≤ _; omega⟩, minus_lim hs⟩
  | i + 1, hi => by
    obtain ⟨h1, h3⟩ := prodTo_gate hs hv hx hy i (by omega)
    have hh := h1.hi
    obtain ⟨g1, l1⟩ := partTo_gate h1.ok (by omega) i (fun v hv => (hx v hv).mono h1.lo) ((getD_lim hy hs.v0 i).mono h1.lo) (4 - i) (by omega)
    have k1 := g1.hi
    have hm : Lim (partTo (prodTo s x y i).2 x (y.getD i 0) i (4 - i)).2 (-1) := by
      have := g1.ok.v0
      exact ⟨by omega, by omega⟩
    obtain ⟨g2, _, l2⟩ := sumTo_gate g1.ok (by omega) (fun v hv => (h3 v hv).mono g1.lo) l1 hm 4 (by omega)
    have k2 := g2.hi
    have l01 := h1.lo
    have l02 := g1.lo
    have l03 := g2.lo
    refine ⟨⟨g2.ok, ?_, ?_⟩, l2⟩
    · show s.vars ≤ (sumTo _ _ _ _ 4).2.2.vars
      omega
    · show (sumTo _ _ _ _ 4).2.2.vars ≤ _
      omega
theorem product_c (s : St) (hs : Ok s) (hv : s.vars + 300 < 1099511627776) (x y : List Int) (hxl : x.length = 4) (hyl : y.length = 4) (hx : ∀ v ∈ x, Lim s v) (hy : ∀ v ∈ y, Lim s v) : BM Tryd.prog G 101 [.agg (encs x), .agg (encs y)] s.vars s.cl (.agg (encs (prodTo s x y 4).1)) (prodTo s x y 4).2 := fun g0 g1 g2 g3 c2 c3 c4 m sn h2 h3 h4 hm hsn B b0 b1 b2 b3 => by
  have hv0 := hs.v0
  have hv1 := hs.v1
  have hn0 := number_c (G := G) 0
  refine calls_of_run Tryd.func101 rfl Tryd.ntmps101 rfl (t := [(0, .ptr 0 g0 0), (1, .agg (encs x)), (2, .agg (encs y))]) rfl fun E hE => ?_
  have hlt := fun i hi => prodTo_gate hs hv hx hy i hi
  (repeat' first | refine s_mv rfl ?_ | refine s_cp rfl rfl (hn0) ?_ | refine s_store_whole rfl rfl rfl (by first | assumption | rfl) (by first | assumption | rfl) rfl ?_ | refine s_alloc (fun _ _ => ?_) | refine s_box rfl rfl (fun _ _ => ?_) | refine o_nil ?_ | refine o_op rfl ?_ | refine o_op0 ?_ | refine r_seq ?_ | refine r_region ?_ | refine r_block ?_)
  rename_i gx hgx gy hgy gr hgr go hgo
  refine r_loop2 (fun (i gc : Nat) => ⟨[(0, .ptr 0 g0 0), (4, .ptr 4 gx 0), (5, .ptr 5 gy 0), (6, .ptr 6 gr 0), (7, .ptr 7 go 0), (12, .i i)], [.row g0 [.sc (.int .i64 (prodTo s x y i).2.vars), .ref 1 gc 0 (prodTo s x y i).2.cl.length 1, c2, c3, c4, .mp 2 g2, .mp 3 g3], .row gc (encs (prodTo s x y i).2.cl), .mapb g2 (imap m), .mapb g3 sn, .row gx (encs x), .row gy (encs y), .row gr [.i 0, .i 0, .i 0, .i 0], .row go (encs (prodTo s x y i).1)]⟩) (fun i gc => i ≤ 4 ∧ (gc = g1 ∨ E.N < gc)) (fun i _ => 4 - i) 0 g1 ?_ ⟨by omega, .inl rfl⟩ ?_
  · exact al rfl
  intro i gc ⟨hi, hgc⟩
  obtain ⟨hg, hlo⟩ := hlt i (by omega)
  have hol := prodTo_len s x y i
  (repeat' first | refine s_lss rfl rfl ?_ | refine o_nil ?_ | refine o_op rfl ?_ | refine r_seq ?_ | refine r_region ?_)
  refine r_cond_d rfl (fun h => ?_) (fun h => ?_)
  · have hiY : i < y.length := by omega
    have hb : Lim (prodTo s x y i).2 y[i] := (hy _ (List.getElem_mem hiY)).mono hg.lo
    have hX : ∀ v ∈ x, Lim (prodTo s x y i).2 v := fun v hv => (hx v hv).mono hg.lo
    have ho := hg.ok
    have hh := hg.hi
    have hs1 : prodTo s x y (i + 1) = ((sumTo (partTo (prodTo s x y i).2 x y[i] i (4 - i)).2 (prodTo s x y i).1 (partTo (prodTo s x y i).2 x y[i] i (4 - i)).1 (-1) 4).1, (sumTo (partTo (prodTo s x y i).2 x y[i] i (4 - i)).2 (prodTo s x y i).1 (partTo (prodTo s x y i).2 x y[i] i (4 - i)).1 (-1) 4).2.2) := by
      rw [← Ord.getD_lt hiY 0]; rfl
    clear hlt hs hx hy hg
    generalize prodTo s x y i = p at *
    have hpt := fun k hk => partTo_gate ho (by omega) i hX hb k hk
    (repeat' first | refine s_mv rfl ?_ | refine s_as rfl ?_ | refine s_cp rfl rfl (hn0) ?_ | refine s_store_whole rfl rfl rfl (by first | assumption | rfl) (by first | assumption | rfl) rfl ?_ | refine s_alloc (fun _ _ => ?_) | refine o_nil ?_ | refine o_op rfl ?_ | refine o_op0 ?_ | refine r_seq ?_ | refine r_region ?_ | refine r_block ?_ | refine r_skip ?_)
    rename_i gp hgp
    refine r_loop2 (fun (j gd : Nat) => ⟨[(0, .ptr 0 g0 0), (4, .ptr 4 gx 0), (5, .ptr 5 gy 0), (6, .ptr 6 gr 0), (7, .ptr 7 go 0), (8, .i i), (9, .ptr 8 gp 0), (10, .i ((i + j : Nat) : Int)), (12, .i i)], [.row g0 [.sc (.int .i64 (partTo p.2 x y[i] i j).2.vars), .ref 1 gd 0 (partTo p.2 x y[i] i j).2.cl.length 1, c2, c3, c4, .mp 2 g2, .mp 3 g3], .row gd (encs (partTo p.2 x y[i] i j).2.cl), .mapb g2 (imap m), .mapb g3 sn, .row gx (encs x), .row gy (encs y), .row gr [.i 0, .i 0, .i 0, .i 0], .row go (encs p.1), .row gp (encs (partTo p.2 x y[i] i j).1)]⟩) (fun j gd => i + j ≤ 4 ∧ (gd = g1 ∨ E.N < gd)) (fun j _ => 4 - j) 0 gc ?_ ⟨by omega, hgc⟩ ?_
    · exact al rfl
    intro j gd ⟨hj, hgd⟩
    obtain ⟨hg, hpl⟩ := hpt j (by omega)
    have hjl := partTo_len p.2 x y[i] i j
    have hjh := hg.hi
    (repeat' first | refine s_mv rfl ?_ | refine s_lss rfl rfl ?_ | refine o_nil ?_ | refine o_op rfl ?_ | refine r_seq ?_ | refine r_region ?_)
    refine r_cond_d rfl (fun h => ?_) (fun h => ?_)
    · have hjX : j < x.length := by omega
      have e0 : (((i + j : Nat) : Int) - (i : Int)).toNat = j := by omega
      have hjX2 : 0 + (((i + j : Nat) : Int) - (i : Int)).toNat * 1 < x.length := by omega
      have e2 : x[j]'hjX = x[0 + (((i + j : Nat) : Int) - (i : Int)).toNat * 1]'hjX2 := by simp only [e0]; simp
      have hss : partTo p.2 x y[i] i (j + 1) = ((partTo p.2 x y[i] i j).1.set (i + j) (and (partTo p.2 x y[i] i j).2 x[j] y[i]).1, (and (partTo p.2 x y[i] i j).2 x[j] y[i]).2) := by
        rw [← Ord.getD_lt hjX 0]; rfl
      have hk1 := and_c (G := G) (partTo p.2 x y[i] i j).2 hg.ok (by omega) x[j] y[i] ((hX _ (List.getElem_mem hjX)).mono hg.lo) (hb.mono hg.lo)
      clear hpt hpl hX hb hs1
      generalize partTo p.2 x y[i] i j = w at *
      generalize and w.2 x[j] y[i] = q at *
      have hij : i + j < w.1.length := by omega
      rw [e2] at hk1
      (repeat' first | refine s_mv rfl ?_ | refine s_as rfl ?_ | refine s_idx_arr1 rfl rfl rfl (by omega) ?_ | refine s_add rfl rfl (by omega) ?_ | refine s_cbm rfl rfl (hk1) rfl (fun _ _ => ?_) | refine s_store_e1 rfl rfl rfl rfl rfl (by first | assumption | omega) rfl ?_ | refine o_nil ?_ | refine o_op rfl ?_ | refine r_seq ?_ | refine r_region ?_ | refine r_block ?_ | (refine g_draw ?_; first | (refine r_drawi (fun p => p.1 :: p.2.1 :: p.2.2.1 :: p.2.2.2.1 :: .row gx (encs x) :: .row gy (encs y) :: p.2.2.2.2) 13 [(0, true), (1, true), (2, true), (3, true), (4, true), (5, true), (6, true), (7, true), (8, true), (9, true), (10, false), (11, false), (12, false)] (by rfl) (by rfl) (by kernel_rfl) (by decide +kernel) (by decide +kernel) ⟨(_, _, _, _, _), rfl⟩ ?_) | refine r_draw0 (by rfl) (by kernel_rfl) (by kernel_rfl) ?_ | refine r_drawq (by kernel_rfl) (by kernel_rfl) ?_) | refine r_skip ?_ | refine i_nil ?_ | refine i_st rfl rfl (fun _ => (by (repeat' first | refine s_mv rfl ?_ | refine s_load_e1 rfl rfl rfl (by first | assumption | omega) rfl ?_ | refine s_idx_arr1 rfl rfl rfl (by omega) ?_ | refine s_idx_arr rfl rfl rfl (by omega) (by omega) ?_ | refine s_sub rfl rfl (by omega) ?_ | exact ⟨rfl, rfl⟩))) ?_ | refine i_ef rfl ?_ | refine i_ef0 ?_ | refine And.intro (Exists.intro ((_, _, _, _, _)) rfl) ?_)
      rename_i ga hga
      refine ⟨j + 1, ga, ⟨by omega, by omega⟩, by omega, ?_⟩
      rw [hss]
      exact al rfl
    · have hj4 : j = 4 - i := by omega
      subst hj4
      have hm1 : Lim (partTo p.2 x y[i] i (4 - i)).2 (-1) := by
        have := hg.ok.v0
        exact ⟨by omega, by omega⟩
      have hk2 := sum_c (G := G) (partTo p.2 x y[i] i (4 - i)).2 hg.ok (by omega) p.1 (partTo p.2 x y[i] i (4 - i)).1 (-1) hol hjl (fun v hv => (hlo v hv).mono hg.lo) hpl hm1
      have hzl := sumTo_len (partTo p.2 x y[i] i (4 - i)).2 p.1 (partTo p.2 x y[i] i (4 - i)).1 (-1) 4
      generalize sumTo (partTo p.2 x y[i] i (4 - i)).2 p.1 (partTo p.2 x y[i] i (4 - i)).1 (-1) 4 = z at *
      have hpl := 0
      clear hpt hX hb hlo hm1
      generalize partTo p.2 x y[i] i (4 - i) = w at *
      have w1 : (encs p.1).length = 4 := by rw [encs_len, hol]; rfl
      have w2 : (encs w.1).length = 4 := by rw [encs_len, hjl]; rfl
      have w3 : (encs z.1).length = 4 := by rw [encs_len, hzl]; rfl
      (repeat' first | refine s_mv rfl ?_ | refine s_load_whole rfl rfl (by first | assumption | rfl) ?_ | refine s_add rfl rfl (by omega) ?_ | refine s_cbm rfl rfl (hk2) rfl (fun _ _ => ?_) | refine s_store_whole rfl rfl rfl (by first | assumption | rfl) (by first | assumption | rfl) rfl ?_ | refine o_nil ?_ | refine o_op rfl ?_ | refine o_op0 ?_ | refine r_region ?_ | refine r_exit rfl ?_)
      rename_i ga hga
      refine ⟨i + 1, ga, ⟨by omega, by omega⟩, by omega, ?_⟩
      rw [hs1]
      exact al rfl
  · have hi4 : i = 4 := by omega
    subst hi4
    have w1 : (encs (prodTo s x y 4).1).length = 4 := by rw [encs_len, hol]; rfl
    (repeat' first | refine s_load_whole rfl rfl (by first | assumption | rfl) ?_ | refine s_store_whole rfl rfl rfl (by first | assumption | rfl) (by first | assumption | rfl) rfl ?_ | refine o_nil ?_ | refine o_op rfl ?_ | refine o_op0 ?_ | refine r_seq ?_ | refine r_region ?_ | refine r_exit rfl ?_ | refine r_ret ?_)
    exact e_1 (Tryd.results101) (rv_cella (size := 4) rfl rfl rfl w1) (c_drop (σ := [_, _, _, _]) (r := [_, _, _, _]) ⟨rfl, gc, by omega, rfl⟩)
end Go.Proofs
end
section
namespace Go.Bl
def ltv (a : Nat → Bool) (x : Int) : Bool := if 0 < x then a x.toNat else !(a (-x).toNat)
def Lt (n : Int) (x : Int) : Prop := x ≠ 0 ∧ -n ≤ x ∧ x ≤ n
def al (a : Nat → Bool) (v : Int) : Int := if a v.toNat = true then v else -v
def Forced (a : Nat → Bool) (cl : List (List Int)) (v : Int) : Prop := ∃ c ∈ cl, al a v ∈ c ∧ ∀ y ∈ c, y = al a v ∨ (ltv a y = false ∧ -v < y ∧ y < v)
structure GoodB (base : Int → Prop) (p : Prop) (f : Int) (a : Nat → Bool) (s : St) : Prop where
  v1 : 1 ≤ s.vars
  t : a 1 = true
  sat : ∀ c ∈ s.cl, p → ∃ y ∈ c, ltv a y = true
  lits : ∀ c ∈ s.cl, ∀ y ∈ c, Lt s.vars y
  force : ∀ v, 1 ≤ v → v ≤ f → base v ∨ Forced a s.cl v
def Agree (n : Int) (a a' : Nat → Bool) : Prop := ∀ k : Nat, (k : Int) ≤ n → a' k = a k
structure Le (s s' : St) : Prop where
  v : s.vars ≤ s'.vars
  c : s.cl.length ≤ s'.cl.length
structure Ext (base : Int → Prop) (p : Prop) (a : Nat → Bool) (s : St) (a' : Nat → Bool) (s' : St) : Prop where
  good : GoodB base p s'.vars a' s'
  ag : Agree s.vars a a'
  le : s.vars ≤ s'.vars
theorem Lt.neg {n x : Int} (h : Lt n x) : Lt n (-x) := by obtain ⟨h1, h2, h3⟩ := h; exact ⟨by omega, by omega, by omega⟩
theorem Lt.mono {n m x : Int} (h : Lt n x) (hm : n ≤ m) : Lt m x := by obtain ⟨h1, h2, h3⟩ := h; exact ⟨h1, by omega, by omega⟩
theorem ltv_neg {a : Nat → Bool} {x : Int} (h : x ≠ 0) : ltv a (-x) = !ltv a x := by
  unfold ltv
  by_cases h1 : 0 < x
  · rw [if_neg (by omega), if_pos h1, Int.neg_neg]
  · rw [if_pos (by omega), if_neg h1, Bool.not_not]
theorem ltv_agree {n : Int} {a a' : Nat → Bool} (h : Agree n a a') {x : Int} (hx : Lt n x) : ltv a' x = ltv a x := by
  obtain ⟨h1, h2, h3⟩ := hx
  unfold ltv
  rw [h x.toNat, h (-x).toNat]
  all_goals omega
theorem ltv_one {a : Nat → Bool} (h : a 1 = true) : ltv a 1 = true := h
theorem ltv_m1 {a : Nat → Bool} (h : a 1 = true) : ltv a (-1) = false := by show (!(a 1)) = false; rw [h]; rfl
theorem ltv_al {a : Nat → Bool} {v : Int} (hv : 0 < v) : ltv a (al a v) = true := by
  unfold al
  cases h : a v.toNat
  · rw [if_neg (by simp)]
    unfold ltv; rw [if_neg (by omega), Int.neg_neg, h]; rfl
  · rw [if_pos rfl]
    unfold ltv; rw [if_pos hv, h]
theorem Agree.refl (n : Int) (a : Nat → Bool) : Agree n a a := fun _ _ => rfl
theorem Agree.trans {n m : Int} {a b c : Nat → Bool} (h : Agree n a b) (k : Agree m b c) (hm : n ≤ m) : Agree n a c := fun i hi => (k i (by omega)).trans (h i hi)
theorem Le.refl (s : St) : Le s s := ⟨Int.le_refl _, Nat.le_refl _⟩
theorem Le.trans {s t u : St} (h : Le s t) (k : Le t u) : Le s u := ⟨Int.le_trans h.v k.v, Nat.le_trans h.c k.c⟩
theorem Le.nf {s t : St} (h : Le s t) (nf : full t = false) : full s = false := by
  unfold full at *
  rw [Bool.or_eq_false_iff] at *
  obtain ⟨h1, h2⟩ := nf
  have h1 := of_decide_eq_false h1
  have h2 := of_decide_eq_false h2
  have := h.v
  have := h.c
  exact ⟨decide_eq_false (by omega), decide_eq_false (by omega)⟩
theorem Ext.refl {base : Int → Prop} {p : Prop} {a : Nat → Bool} {s : St} (h : GoodB base p s.vars a s) : Ext base p a s a s := ⟨h, .refl _ _, Int.le_refl _⟩
theorem Ext.trans {base : Int → Prop} {p : Prop} {a b c : Nat → Bool} {s t u : St} (h : Ext base p a s b t) (k : Ext base p b t c u) : Ext base p a s c u := ⟨k.good, h.ag.trans k.ag h.le, Int.le_trans h.le k.le⟩
theorem Ext.ltv {base : Int → Prop} {p : Prop} {a b : Nat → Bool} {s t : St} (h : Ext base p a s b t) {x : Int} (hx : Lt s.vars x) : Bl.ltv b x = Bl.ltv a x := ltv_agree h.ag hx
theorem Ext.lt {base : Int → Prop} {p : Prop} {a b : Nat → Bool} {s t : St} (h : Ext base p a s b t) {x : Int} (hx : Lt s.vars x) : Lt t.vars x := hx.mono h.le
theorem add_le (s : St) (l : List Int) : Le s (add s l) := by
  unfold add
  split
  · exact .refl s
  · exact ⟨Int.le_refl _, by simp⟩
theorem fresh_le (s : St) : Le s (fresh s) := ⟨by show s.vars ≤ s.vars + 1; omega, Nat.le_refl _⟩
theorem and_le (s : St) (x y : Int) : Le s (and s x y).2 := by
  unfold and
  split
  · exact .refl s
  · split
    · exact .refl s
    · split
      · exact .refl s
      · exact (((fresh_le s).trans (add_le _ _)).trans (add_le _ _)).trans (add_le _ _)
theorem or_le (s : St) (x y : Int) : Le s (or s x y).2 := and_le s (-x) (-y)
theorem xor_le (s : St) (x y : Int) : Le s (xor s x y).2 := by
  unfold xor
  split
  · exact .refl s
  · split
    · exact .refl s
    · split
      · exact .refl s
      · split
        · exact .refl s
        · exact ((((fresh_le s).trans (add_le _ _)).trans (add_le _ _)).trans (add_le _ _)).trans (add_le _ _)
theorem Forced.mono {a : Nat → Bool} {cl cl' : List (List Int)} {v : Int} (h : Forced a cl v) (hc : ∀ c ∈ cl, c ∈ cl') : Forced a cl' v := by
  obtain ⟨c, h1, h2⟩ := h; exact ⟨c, hc c h1, h2⟩
theorem add_sub (s : St) (l : List Int) : ∀ c ∈ s.cl, c ∈ (add s l).cl := fun c hc => by
  unfold add
  split
  · exact hc
  · exact List.mem_append.2 (.inl hc)
theorem add_nf {s : St} {l : List Int} (nf : full s = false) : add s l = if l.contains 1 = true then s else ⟨s.vars, s.cl ++ [kept l]⟩ := by
  unfold add; rw [nf]; rfl
theorem mem_kept {l : List Int} {y : Int} : y ∈ kept l ↔ y ∈ l ∧ y ≠ -1 := by
  unfold kept
  rw [List.mem_filter]
  simp
theorem GoodB.add {base : Int → Prop} {p : Prop} {f : Int} {a : Nat → Bool} {s : St} (h : GoodB base p f a s) (nf : full s = false) {l : List Int} (hl : ∀ y ∈ l, Lt s.vars y) (ht : p → ∃ y ∈ l, ltv a y = true) : GoodB base p f a (add s l) := by
  have hv := add_vars s l
  refine ⟨by rw [hv]; exact h.v1, h.t, ?_, ?_, fun v h1 h2 => (h.force v h1 h2).imp id fun h => h.mono (add_sub s l)⟩
  · rw [add_nf nf]
    split
    · exact h.sat
    · intro c hc hp
      rcases List.mem_append.1 hc with hc | hc
      · exact h.sat c hc hp
      · rw [List.mem_singleton.1 hc]
        obtain ⟨y, hy, hy'⟩ := ht hp
        exact ⟨y, mem_kept.2 ⟨hy, fun e => by rw [e, ltv_m1 h.t] at hy'; cases hy'⟩, hy'⟩
  · rw [hv]
    rw [add_nf nf]
    split
    · exact h.lits
    · intro c hc y hy
      rcases List.mem_append.1 hc with hc | hc
      · exact h.lits c hc y hy
      · rw [List.mem_singleton.1 hc] at hy
        exact hl y (mem_kept.1 hy).1
theorem forced_add {a : Nat → Bool} {s : St} (nf : full s = false) {l : List Int} {v : Int} (hv : 2 ≤ v) (h1 : (1 : Int) ∉ l) (hm : al a v ∈ l) (ho : ∀ y ∈ l, y = al a v ∨ (ltv a y = false ∧ -v < y ∧ y < v)) : Forced a (Bl.add s l).cl v := by
  rw [add_nf nf, if_neg (by simpa using h1)]
  refine ⟨kept l, List.mem_append.2 (.inr (List.mem_singleton.2 rfl)), mem_kept.2 ⟨hm, ?_⟩, fun y hy => ho y (mem_kept.1 hy).1⟩
  unfold al
  split <;> omega
def setA1 (a : Nat → Bool) (v : Int) (b : Bool) : Nat → Bool := fun n => if (n : Int) = v then b else a n
theorem setA1_agree {a : Nat → Bool} {n : Int} {b : Bool} : Agree n a (setA1 a (n + 1) b) := fun k hk => by unfold setA1; rw [if_neg (by omega)]
theorem setA1_ltv {a : Nat → Bool} {v : Int} {b : Bool} (hv : 0 < v) : ltv (setA1 a v b) v = b := by
  unfold ltv setA1
  rw [if_pos hv, if_pos (by omega)]
theorem al_of {a : Nat → Bool} {v : Int} (hv : 0 < v) : al a v = if ltv a v = true then v else -v := by
  unfold al ltv; rw [if_pos hv]
theorem GoodB.fresh {base : Int → Prop} {p : Prop} {a : Nat → Bool} {s : St} (h : GoodB base p s.vars a s) (b : Bool) : GoodB base p s.vars (setA1 a (s.vars + 1) b) (fresh s) := by
  have hag : Agree s.vars a (setA1 a (s.vars + 1) b) := setA1_agree
  have h1 := h.v1
  refine ⟨by show 1 ≤ s.vars + 1; omega, by rw [hag 1 (by omega)]; exact h.t, fun c hc hp => ?_, fun c hc y hy => (h.lits c hc y hy).mono (by show s.vars ≤ s.vars + 1; omega), fun v hv1 hv2 => (h.force v hv1 hv2).imp id fun hf => ?_⟩
  · obtain ⟨y, hy, ht⟩ := h.sat c hc hp
    exact ⟨y, hy, by rw [ltv_agree hag (h.lits c hc y hy)]; exact ht⟩
  · obtain ⟨c, hc, hm, ho⟩ := hf
    have e : al (setA1 a (s.vars + 1) b) v = al a v := by unfold al; rw [hag v.toNat (by omega)]
    refine ⟨c, hc, by rw [e]; exact hm, fun y hy => ?_⟩
    rw [e, ltv_agree hag (h.lits c hc y hy)]
    exact ho y hy
theorem GoodB.up {base : Int → Prop} {p : Prop} {f : Int} {a : Nat → Bool} {s : St} (h : GoodB base p f a s) (hf : Forced a s.cl (f + 1)) : GoodB base p (f + 1) a s :=
  ⟨h.v1, h.t, h.sat, h.lits, fun v h1 h2 => by
    by_cases h3 : v ≤ f
    · exact h.force v h1 h3
    · have : v = f + 1 := by omega
      subst this; exact .inr hf⟩
section
variable {base : Int → Prop} {p : Prop}
def GateSem (base : Int → Prop) (p : Prop) (gm : St → Int → Int → Int × St) (gb : Bool → Bool → Bool) : Prop :=
  ∀ (a : Nat → Bool) (s : St) (x y : Int), GoodB base p s.vars a s → Lt s.vars x → Lt s.vars y → full (gm s x y).2 = false → ∃ a', Ext base p a s a' (gm s x y).2 ∧ Lt (gm s x y).2.vars (gm s x y).1 ∧ ltv a' (gm s x y).1 = gb (ltv a x) (ltv a y)
theorem lt_one {a : Nat → Bool} {s : St} {f : Int} (h : GoodB base p f a s) : Lt s.vars 1 := ⟨by decide, by have := h.v1; omega, h.v1⟩
theorem and_sem : GateSem base p and (fun u v => u && v) := fun a s x y g hx hy nf => by
  have hv1 := g.v1
  unfold and at nf ⊢
  by_cases c1 : x = 1 ∨ x = y
  · rw [if_pos c1] at nf ⊢
    refine ⟨a, .refl g, hy, ?_⟩
    rcases c1 with rfl | rfl
    · rw [ltv_one g.t]; rfl
    · cases ltv a x <;> rfl
  rw [if_neg c1] at nf ⊢
  by_cases c2 : y = 1
  · rw [if_pos c2] at nf ⊢
    refine ⟨a, .refl g, hx, ?_⟩
    rw [c2, ltv_one g.t]; cases ltv a x <;> rfl
  rw [if_neg c2] at nf ⊢
  by_cases c3 : x = -1 ∨ y = -1 ∨ x = -y
  · rw [if_pos c3] at nf ⊢
    refine ⟨a, .refl g, (lt_one g).neg, ?_⟩
    rw [ltv_m1 g.t]
    rcases c3 with rfl | rfl | rfl
    · rw [ltv_m1 g.t]; rfl
    · rw [ltv_m1 g.t]; cases ltv a x <;> rfl
    · rw [ltv_neg hy.1]; cases ltv a y <;> rfl
  rw [if_neg c3] at nf ⊢
  have n3 := (add_le _ _).nf nf
  have n2 := (add_le _ _).nf n3
  have n1 := (add_le _ _).nf n2
  obtain ⟨w, hw⟩ : ∃ w, w = (ltv a x && ltv a y) := ⟨_, rfl⟩
  have hag : Agree s.vars a (setA1 a (s.vars + 1) w) := setA1_agree
  have gf := g.fresh w
  have ex := ltv_agree hag hx
  have ey := ltv_agree hag hy
  have ez : ltv (setA1 a (s.vars + 1) w) (s.vars + 1) = w := setA1_ltv (by omega)
  have ea : al (setA1 a (s.vars + 1) w) (s.vars + 1) = if w = true then s.vars + 1 else -(s.vars + 1) := by rw [al_of (by omega), ez]
  have enz : ltv (setA1 a (s.vars + 1) w) (-(s.vars + 1)) = !w := by rw [ltv_neg (by omega), ez]
  have enx : ltv (setA1 a (s.vars + 1) w) (-x) = !ltv a x := by rw [ltv_neg hx.1, ex]
  have eny : ltv (setA1 a (s.vars + 1) w) (-y) = !ltv a y := by rw [ltv_neg hy.1, ey]
  generalize setA1 a (s.vars + 1) w = a' at *
  have hm : s.vars ≤ s.vars + 1 := by omega
  obtain ⟨hx1, hx2, hx3⟩ := hx
  obtain ⟨hy1, hy2, hy3⟩ := hy
  have fv : (fresh s).vars = s.vars + 1 := rfl
  have lz : Lt (s.vars + 1) (s.vars + 1) := ⟨by omega, by omega, by omega⟩
  have lx : Lt (s.vars + 1) x := ⟨hx1, by omega, by omega⟩
  have ly : Lt (s.vars + 1) y := ⟨hy1, by omega, by omega⟩
  have k1 := gf.add (l := [-x, -y, s.vars + 1]) n1 (by simp only [fv, List.mem_cons, List.not_mem_nil, or_false, forall_eq_or_imp, forall_eq]; exact ⟨lx.neg, ly.neg, lz⟩) fun _ => by
    cases hx' : ltv a x
    · exact ⟨-x, by simp, by rw [enx, hx']; rfl⟩
    · cases hy' : ltv a y
      · exact ⟨-y, by simp, by rw [eny, hy']; rfl⟩
      · exact ⟨s.vars + 1, by simp, by rw [ez, hw, hx', hy']; rfl⟩
  have k2 := k1.add (l := [x, -(s.vars + 1)]) n2 (by simp only [add_vars, fv, List.mem_cons, List.not_mem_nil, or_false, forall_eq_or_imp, forall_eq]; exact ⟨lx, lz.neg⟩) fun _ => by
    cases hx' : ltv a x
    · exact ⟨-(s.vars + 1), by simp, by rw [enz, hw, hx']; rfl⟩
    · exact ⟨x, by simp, by rw [ex, hx']⟩
  have k3 := k2.add (l := [y, -(s.vars + 1)]) n3 (by simp only [add_vars, fv, List.mem_cons, List.not_mem_nil, or_false, forall_eq_or_imp, forall_eq]; exact ⟨ly, lz.neg⟩) fun _ => by
    cases hy' : ltv a y
    · exact ⟨-(s.vars + 1), by simp, by rw [enz, hw, hy']; cases ltv a x <;> rfl⟩
    · exact ⟨y, by simp, by rw [ey, hy']⟩
  have hf : Forced a' (Bl.add (Bl.add (Bl.add (fresh s) [-x, -y, s.vars + 1]) [x, -(s.vars + 1)]) [y, -(s.vars + 1)]).cl (s.vars + 1) := by
    cases hx' : ltv a x
    · have hw' : w = false := by rw [hw, hx']; rfl
      refine (forced_add n2 (by omega) (by simp; omega) (by rw [ea, hw']; simp) ?_).mono (add_sub _ _)
      rw [ea, hw']
      simp only [List.mem_cons, List.not_mem_nil, or_false, forall_eq_or_imp, forall_eq]
      exact ⟨.inr ⟨by rw [ex, hx'], by omega, by omega⟩, .inl rfl⟩
    · cases hy' : ltv a y
      · have hw' : w = false := by rw [hw, hx', hy']; rfl
        refine forced_add n3 (by omega) (by simp; omega) (by rw [ea, hw']; simp) ?_
        rw [ea, hw']
        simp only [List.mem_cons, List.not_mem_nil, or_false, forall_eq_or_imp, forall_eq]
        exact ⟨.inr ⟨by rw [ey, hy'], by omega, by omega⟩, .inl rfl⟩
      · have hw' : w = true := by rw [hw, hx', hy']; rfl
        refine ((forced_add n1 (by omega) (by simp; omega) (by rw [ea, hw']; simp) ?_).mono (add_sub _ _)).mono (add_sub _ _)
        rw [ea, hw']
        simp only [List.mem_cons, List.not_mem_nil, or_false, forall_eq_or_imp, forall_eq]
        exact ⟨.inr ⟨by rw [enx, hx']; rfl, by omega, by omega⟩, .inr ⟨by rw [eny, hy']; rfl, by omega, by omega⟩, .inl rfl⟩
  have hvars : (Bl.add (Bl.add (Bl.add (fresh s) [-x, -y, s.vars + 1]) [x, -(s.vars + 1)]) [y, -(s.vars + 1)]).vars = s.vars + 1 := by rw [add_vars, add_vars, add_vars]; rfl
  refine ⟨a', ⟨by rw [hvars]; exact k3.up hf, hag, by rw [hvars]; omega⟩, by rw [hvars]; exact lz, by rw [ez, hw]⟩
theorem or_sem : GateSem base p or (fun u v => u || v) := fun a s x y g hx hy nf => by
  obtain ⟨a', h1, h2, h3⟩ := and_sem a s (-x) (-y) g hx.neg hy.neg nf
  refine ⟨a', h1, h2.neg, ?_⟩
  show ltv a' (-(and s (-x) (-y)).1) = _
  rw [ltv_neg h2.1, h3, ltv_neg hx.1, ltv_neg hy.1]
  cases ltv a x <;> cases ltv a y <;> rfl
theorem xor_sem : GateSem base p xor (fun u v => u != v) := fun a s x y g hx hy nf => by
  have hv1 := g.v1
  unfold xor at nf ⊢
  by_cases c1 : x = y
  · rw [if_pos c1] at nf ⊢
    refine ⟨a, .refl g, (lt_one g).neg, ?_⟩
    rw [ltv_m1 g.t, c1]; cases ltv a y <;> rfl
  rw [if_neg c1] at nf ⊢
  by_cases c2 : x = -y
  · rw [if_pos c2] at nf ⊢
    refine ⟨a, .refl g, lt_one g, ?_⟩
    rw [ltv_one g.t, c2, ltv_neg hy.1]; cases ltv a y <;> rfl
  rw [if_neg c2] at nf ⊢
  by_cases c3 : x = 1 ∨ x = -1
  · rw [if_pos c3] at nf ⊢
    rcases c3 with rfl | rfl
    · refine ⟨a, .refl g, by show Lt _ (y * -1); rw [show y * -1 = -y by omega]; exact hy.neg, ?_⟩
      show ltv a (y * -1) = _
      rw [show y * -1 = -y by omega, ltv_neg hy.1, ltv_one g.t]; cases ltv a y <;> rfl
    · refine ⟨a, .refl g, by show Lt _ (y * - -1); rw [show y * - -1 = y by omega]; exact hy, ?_⟩
      show ltv a (y * - -1) = _
      rw [show y * - -1 = y by omega, ltv_m1 g.t]; cases ltv a y <;> rfl
  rw [if_neg c3] at nf ⊢
  by_cases c4 : y = 1 ∨ y = -1
  · rw [if_pos c4] at nf ⊢
    rcases c4 with rfl | rfl
    · refine ⟨a, .refl g, by show Lt _ (x * -1); rw [show x * -1 = -x by omega]; exact hx.neg, ?_⟩
      show ltv a (x * -1) = _
      rw [show x * -1 = -x by omega, ltv_neg hx.1, ltv_one g.t]; cases ltv a x <;> rfl
    · refine ⟨a, .refl g, by show Lt _ (x * - -1); rw [show x * - -1 = x by omega]; exact hx, ?_⟩
      show ltv a (x * - -1) = _
      rw [show x * - -1 = x by omega, ltv_m1 g.t]; cases ltv a x <;> rfl
  rw [if_neg c4] at nf ⊢
  have n4 := (add_le _ _).nf nf
  have n3 := (add_le _ _).nf n4
  have n2 := (add_le _ _).nf n3
  have n1 := (add_le _ _).nf n2
  obtain ⟨w, hw⟩ : ∃ w, w = (ltv a x != ltv a y) := ⟨_, rfl⟩
  have hag : Agree s.vars a (setA1 a (s.vars + 1) w) := setA1_agree
  have gf := g.fresh w
  have ex := ltv_agree hag hx
  have ey := ltv_agree hag hy
  have ez : ltv (setA1 a (s.vars + 1) w) (s.vars + 1) = w := setA1_ltv (by omega)
  have ea : al (setA1 a (s.vars + 1) w) (s.vars + 1) = if w = true then s.vars + 1 else -(s.vars + 1) := by rw [al_of (by omega), ez]
  have enz : ltv (setA1 a (s.vars + 1) w) (-(s.vars + 1)) = !w := by rw [ltv_neg (by omega), ez]
  have enx : ltv (setA1 a (s.vars + 1) w) (-x) = !ltv a x := by rw [ltv_neg hx.1, ex]
  have eny : ltv (setA1 a (s.vars + 1) w) (-y) = !ltv a y := by rw [ltv_neg hy.1, ey]
  generalize setA1 a (s.vars + 1) w = a' at *
  obtain ⟨hx1, hx2, hx3⟩ := hx
  obtain ⟨hy1, hy2, hy3⟩ := hy
  have fv : (fresh s).vars = s.vars + 1 := rfl
  have lz : Lt (s.vars + 1) (s.vars + 1) := ⟨by omega, by omega, by omega⟩
  have lx : Lt (s.vars + 1) x := ⟨hx1, by omega, by omega⟩
  have ly : Lt (s.vars + 1) y := ⟨hy1, by omega, by omega⟩
  have k1 := gf.add (l := [-x, -y, -(s.vars + 1)]) n1 (by simp only [fv, List.mem_cons, List.not_mem_nil, or_false, forall_eq_or_imp, forall_eq]; exact ⟨lx.neg, ly.neg, lz.neg⟩) fun _ => by
    cases hx' : ltv a x
    · exact ⟨-x, by simp, by rw [enx, hx']; rfl⟩
    · cases hy' : ltv a y
      · exact ⟨-y, by simp, by rw [eny, hy']; rfl⟩
      · exact ⟨-(s.vars + 1), by simp, by rw [enz, hw, hx', hy']; rfl⟩
  have k2 := k1.add (l := [x, y, -(s.vars + 1)]) n2 (by simp only [add_vars, fv, List.mem_cons, List.not_mem_nil, or_false, forall_eq_or_imp, forall_eq]; exact ⟨lx, ly, lz.neg⟩) fun _ => by
    cases hx' : ltv a x
    · cases hy' : ltv a y
      · exact ⟨-(s.vars + 1), by simp, by rw [enz, hw, hx', hy']; rfl⟩
      · exact ⟨y, by simp, by rw [ey, hy']⟩
    · exact ⟨x, by simp, by rw [ex, hx']⟩
  have k3 := k2.add (l := [-x, y, s.vars + 1]) n3 (by simp only [add_vars, fv, List.mem_cons, List.not_mem_nil, or_false, forall_eq_or_imp, forall_eq]; exact ⟨lx.neg, ly, lz⟩) fun _ => by
    cases hx' : ltv a x
    · exact ⟨-x, by simp, by rw [enx, hx']; rfl⟩
    · cases hy' : ltv a y
      · exact ⟨s.vars + 1, by simp, by rw [ez, hw, hx', hy']; rfl⟩
      · exact ⟨y, by simp, by rw [ey, hy']⟩
  have k4 := k3.add (l := [x, -y, s.vars + 1]) n4 (by simp only [add_vars, fv, List.mem_cons, List.not_mem_nil, or_false, forall_eq_or_imp, forall_eq]; exact ⟨lx, ly.neg, lz⟩) fun _ => by
    cases hx' : ltv a x
    · cases hy' : ltv a y
      · exact ⟨-y, by simp, by rw [eny, hy']; rfl⟩
      · exact ⟨s.vars + 1, by simp, by rw [ez, hw, hx', hy']; rfl⟩
    · exact ⟨x, by simp, by rw [ex, hx']⟩
  have hf : Forced a' (Bl.add (Bl.add (Bl.add (Bl.add (fresh s) [-x, -y, -(s.vars + 1)]) [x, y, -(s.vars + 1)]) [-x, y, s.vars + 1]) [x, -y, s.vars + 1]).cl (s.vars + 1) := by
    cases hx' : ltv a x <;> cases hy' : ltv a y
    · have hw' : w = false := by rw [hw, hx', hy']; rfl
      refine ((forced_add n2 (by omega) (by simp; omega) (by rw [ea, hw']; simp) ?_).mono (add_sub _ _)).mono (add_sub _ _)
      rw [ea, hw']
      simp only [List.mem_cons, List.not_mem_nil, or_false, forall_eq_or_imp, forall_eq]
      exact ⟨.inr ⟨by rw [ex, hx'], by omega, by omega⟩, .inr ⟨by rw [ey, hy'], by omega, by omega⟩, .inl rfl⟩
    · have hw' : w = true := by rw [hw, hx', hy']; rfl
      refine forced_add n4 (by omega) (by simp; omega) (by rw [ea, hw']; simp) ?_
      rw [ea, hw']
      simp only [List.mem_cons, List.not_mem_nil, or_false, forall_eq_or_imp, forall_eq]
      exact ⟨.inr ⟨by rw [ex, hx'], by omega, by omega⟩, .inr ⟨by rw [eny, hy']; rfl, by omega, by omega⟩, .inl rfl⟩
    · have hw' : w = true := by rw [hw, hx', hy']; rfl
      refine (forced_add n3 (by omega) (by simp; omega) (by rw [ea, hw']; simp) ?_).mono (add_sub _ _)
      rw [ea, hw']
      simp only [List.mem_cons, List.not_mem_nil, or_false, forall_eq_or_imp, forall_eq]
      exact ⟨.inr ⟨by rw [enx, hx']; rfl, by omega, by omega⟩, .inr ⟨by rw [ey, hy'], by omega, by omega⟩, .inl rfl⟩
    · have hw' : w = false := by rw [hw, hx', hy']; rfl
      refine (((forced_add n1 (by omega) (by simp; omega) (by rw [ea, hw']; simp) ?_).mono (add_sub _ _)).mono (add_sub _ _)).mono (add_sub _ _)
      rw [ea, hw']
      simp only [List.mem_cons, List.not_mem_nil, or_false, forall_eq_or_imp, forall_eq]
      exact ⟨.inr ⟨by rw [enx, hx']; rfl, by omega, by omega⟩, .inr ⟨by rw [eny, hy']; rfl, by omega, by omega⟩, .inl rfl⟩
  have hvars : (Bl.add (Bl.add (Bl.add (Bl.add (fresh s) [-x, -y, -(s.vars + 1)]) [x, y, -(s.vars + 1)]) [-x, y, s.vars + 1]) [x, -y, s.vars + 1]).vars = s.vars + 1 := by rw [add_vars, add_vars, add_vars, add_vars]; rfl
  refine ⟨a', ⟨by rw [hvars]; exact k4.up hf, hag, by rw [hvars]; omega⟩, by rw [hvars]; exact lz, by rw [ez, hw]⟩
end
end Go.Bl
end
section
namespace Go.Proofs
open Go.Bl
section
variable {base : Int → Prop} {p : Prop}
def Bits4 (a : Nat → Bool) (n : Int) (x : List Int) (f : Nat → Bool) : Prop := ∀ i, i < 4 → Lt n (x.getD i 0) ∧ ltv a (x.getD i 0) = f i
theorem Bits4.ext {a b : Nat → Bool} {s t : St} {x : List Int} {f : Nat → Bool} (h : Bits4 a s.vars x f) (e : Ext base p a s b t) : Bits4 b t.vars x f := fun i hi => ⟨e.lt (h i hi).1, by rw [e.ltv (h i hi).1]; exact (h i hi).2⟩
theorem getD_set (l : List Int) (i j : Nat) (v : Int) (h : i < l.length) : (l.set i v).getD j 0 = if i = j then v else l.getD j 0 := by
  rw [List.getD_eq_getElem?_getD, List.getElem?_set, List.getD_eq_getElem?_getD]
  by_cases e : i = j
  · subst e; rw [if_pos rfl, if_pos h, if_pos rfl]; rfl
  · rw [if_neg e, if_neg e]
theorem mux_le (s : St) (c x y : Int) : Le s (muxM s c x y).2 := ((and_le s c x).trans (and_le _ _ _)).trans (or_le _ _ _)
theorem mux_sem {a : Nat → Bool} {s : St} {c x y : Int} (g : GoodB base p s.vars a s) (hc : Lt s.vars c) (hx : Lt s.vars x) (hy : Lt s.vars y) (nf : full (muxM s c x y).2 = false) :
    ∃ a', Ext base p a s a' (muxM s c x y).2 ∧ Lt (muxM s c x y).2.vars (muxM s c x y).1 ∧ ltv a' (muxM s c x y).1 = if ltv a c = true then ltv a x else ltv a y := by
  have n2 := (or_le _ _ _).nf nf
  have n1 := (and_le _ _ _).nf n2
  obtain ⟨a1, e1, l1, v1⟩ := and_sem a s c x g hc hx n1
  obtain ⟨a2, e2, l2, v2⟩ := and_sem a1 _ (-c) y e1.good (e1.lt hc.neg) (e1.lt hy) n2
  obtain ⟨a3, e3, l3, v3⟩ := or_sem a2 _ _ _ e2.good (e2.lt l1) l2 nf
  refine ⟨a3, (e1.trans e2).trans e3, l3, ?_⟩
  refine v3.trans ?_
  rw [e2.ltv l1, v1, v2, e1.ltv hc.neg, e1.ltv hy, ltv_neg hc.1]
  cases ltv a c <;> cases ltv a x <;> cases ltv a y <;> rfl
theorem sum_le (s : St) (x y : List Int) (c : Int) : ∀ i, Le s (sumTo s x y c i).2.2
  | 0 => .refl s
  | i + 1 => (sum_le s x y c i).trans (((((xor_le _ _ _).trans (xor_le _ _ _)).trans (and_le _ _ _)).trans (and_le _ _ _)).trans (or_le _ _ _))
def carB (f g : Nat → Bool) (c : Bool) : Nat → Bool
  | 0 => c
  | i + 1 => (f i && g i) || ((f i != g i) && carB f g c i)
def sumB (f g : Nat → Bool) (c : Bool) (i : Nat) : Bool := (f i != g i) != carB f g c i
theorem sum_sem {a : Nat → Bool} {s : St} {x y : List Int} {c : Int} {f h : Nat → Bool} (g : GoodB base p s.vars a s) (hx : Bits4 a s.vars x f) (hy : Bits4 a s.vars y h) (hc : Lt s.vars c) :
    ∀ i, i ≤ 4 → full (sumTo s x y c i).2.2 = false → ∃ a', Ext base p a s a' (sumTo s x y c i).2.2 ∧ (Lt (sumTo s x y c i).2.2.vars (sumTo s x y c i).2.1 ∧ ltv a' (sumTo s x y c i).2.1 = carB f h (ltv a c) i) ∧
      ∀ j, j < i → Lt (sumTo s x y c i).2.2.vars ((sumTo s x y c i).1.getD j 0) ∧ ltv a' ((sumTo s x y c i).1.getD j 0) = sumB f h (ltv a c) j
  | 0, _, nf => ⟨a, .refl g, ⟨hc, rfl⟩, fun j hj => absurd hj (by omega)⟩
  | i + 1, hi, nf => by
    have hlen := sumTo_len s x y c i
    have n5 : full (sumTo s x y c (i + 1)).2.2 = false := nf
    have eo : sumTo s x y c (i + 1) = (let p := sumTo s x y c i; let h := xor p.2.2 (x.getD i 0) (y.getD i 0); let o := xor h.2 h.1 p.2.1; let a := and o.2 (x.getD i 0) (y.getD i 0); let b := and a.2 h.1 p.2.1; let r := or b.2 a.1 b.1; (p.1.set i o.1, r.1, r.2)) := rfl
    rw [eo] at nf ⊢
    generalize hp : sumTo s x y c i = q at nf hlen ⊢
    dsimp only at nf ⊢
    have n4 := (or_le _ _ _).nf nf
    have n3 := (and_le _ _ _).nf n4
    have n2 := (and_le _ _ _).nf n3
    have n1 := (xor_le _ _ _).nf n2
    have n0 := (xor_le _ _ _).nf n1
    have ih := sum_sem g hx hy hc i (by omega) (by rw [hp]; exact n0)
    rw [hp] at ih
    obtain ⟨a0, e0, ⟨lc, vc⟩, ho⟩ := ih
    obtain ⟨lx, vx⟩ := hx i (by omega)
    obtain ⟨ly, vy⟩ := hy i (by omega)
    obtain ⟨a1, e1, l1, v1⟩ := xor_sem a0 _ _ _ e0.good (e0.lt lx) (e0.lt ly) n1
    obtain ⟨a2, e2, l2, v2⟩ := xor_sem a1 _ _ _ e1.good l1 (e1.lt lc) n2
    obtain ⟨a3, e3, l3, v3⟩ := and_sem a2 _ _ _ e2.good (e2.lt (e1.lt (e0.lt lx))) (e2.lt (e1.lt (e0.lt ly))) n3
    obtain ⟨a4, e4, l4, v4⟩ := and_sem a3 _ _ _ e3.good (e3.lt (e2.lt l1)) (e3.lt (e2.lt (e1.lt lc))) n4
    obtain ⟨a5, e5, l5, v5⟩ := or_sem a4 _ _ _ e4.good (e4.lt l3) l4 nf
    have e25 := (e3.trans e4).trans e5
    have e15 := e2.trans e25
    have e05 := e1.trans e15
    refine ⟨a5, e0.trans e05, ⟨l5, ?_⟩, fun j hj => ?_⟩
    · refine v5.trans ?_
      rw [e4.ltv l3, v3, v4, e3.ltv (e2.lt l1), e2.ltv l1, v1, e3.ltv (e2.lt (e1.lt lc)), e2.ltv (e1.lt lc), e1.ltv lc, vc, e2.ltv (e1.lt (e0.lt lx)), e1.ltv (e0.lt lx), e0.ltv lx, vx, e2.ltv (e1.lt (e0.lt ly)), e1.ltv (e0.lt ly), e0.ltv ly, vy]
      rfl
    · rw [getD_set _ _ _ _ (by omega)]
      by_cases hij : i = j
      · subst hij
        rw [if_pos rfl]
        refine ⟨e25.lt l2, ?_⟩
        rw [e25.ltv l2, v2, v1, e1.ltv lc, vc, e0.ltv lx, vx, e0.ltv ly, vy]
        rfl
      · rw [if_neg hij]
        obtain ⟨lj, vj⟩ := ho j (by omega)
        exact ⟨e05.lt lj, by rw [e05.ltv lj, vj]⟩
theorem sum_sem4 {a : Nat → Bool} {s : St} {x y : List Int} {c : Int} {f h : Nat → Bool} (g : GoodB base p s.vars a s) (hx : Bits4 a s.vars x f) (hy : Bits4 a s.vars y h) (hc : Lt s.vars c) (nf : full (sumTo s x y c 4).2.2 = false) :
    ∃ a', Ext base p a s a' (sumTo s x y c 4).2.2 ∧ Bits4 a' (sumTo s x y c 4).2.2.vars (sumTo s x y c 4).1 (sumB f h (ltv a c)) := by
  obtain ⟨a', h1, _, h3⟩ := sum_sem g hx hy hc 4 (by omega) nf
  exact ⟨a', h1, h3⟩
theorem notTo_sem {a : Nat → Bool} {n : Int} {x : List Int} {f : Nat → Bool} (hl : x.length = 4) (hx : Bits4 a n x f) : ∀ i, i ≤ 4 → ∀ j, j < 4 → Lt n ((notTo x i).getD j 0) ∧ ltv a ((notTo x i).getD j 0) = if j < i then !f j else f j
  | 0, _, j, hj => by rw [if_neg (by omega)]; exact hx j hj
  | i + 1, hi, j, hj => by
    have ih := notTo_sem hl hx i (by omega)
    have hlen := notTo_len x i
    rw [notTo, getD_set _ _ _ _ (by omega)]
    by_cases hij : i = j
    · subst hij
      obtain ⟨l1, v1⟩ := ih i hj
      rw [if_pos rfl, if_pos (by omega)]
      rw [if_neg (by omega)] at v1
      exact ⟨l1.neg, by rw [ltv_neg l1.1, v1]⟩
    · rw [if_neg hij]
      obtain ⟨l1, v1⟩ := ih j hj
      refine ⟨l1, v1.trans ?_⟩
      by_cases h : j < i
      · rw [if_pos h, if_pos (by omega)]
      · rw [if_neg h, if_neg (by omega)]
theorem notTo_sem4 {a : Nat → Bool} {n : Int} {x : List Int} {f : Nat → Bool} (hl : x.length = 4) (hx : Bits4 a n x f) : Bits4 a n (notTo x 4) (fun i => !f i) := fun j hj => by
  have := notTo_sem hl hx 4 (by omega) j hj
  rwa [if_pos hj] at this
theorem shift_le (s : St) (x : List Int) (c n : Int) : ∀ i, Le s (shiftTo s x c n i).2
  | 0 => .refl s
  | i + 1 => (shift_le s x c n i).trans (mux_le _ _ _ _)
def movB (f : Nat → Bool) (k : Int) : Bool := if 4 ≤ k then f 3 else if 0 ≤ k then f k.toNat else false
theorem moved_sem {a : Nat → Bool} {s : St} {x : List Int} {f : Nat → Bool} {q : Int} (g : GoodB base p q a s) (hx : Bits4 a s.vars x f) (k : Int) : Lt s.vars (movedM x k) ∧ ltv a (movedM x k) = movB f k := by
  unfold movedM movB
  split
  · exact hx 3 (by omega)
  · split
    · exact hx k.toNat (by omega)
    · exact ⟨(lt_one g).neg, ltv_m1 g.t⟩
theorem shift_sem {a : Nat → Bool} {s : St} {x : List Int} {c n : Int} {f : Nat → Bool} (g : GoodB base p s.vars a s) (hx : Bits4 a s.vars x f) (hc : Lt s.vars c) :
    ∀ i, i ≤ 4 → full (shiftTo s x c n i).2 = false → ∃ a', Ext base p a s a' (shiftTo s x c n i).2 ∧
      ∀ j, j < i → Lt (shiftTo s x c n i).2.vars ((shiftTo s x c n i).1.getD j 0) ∧ ltv a' ((shiftTo s x c n i).1.getD j 0) = if ltv a c = true then movB f ((j : Int) - n) else f j
  | 0, _, nf => ⟨a, .refl g, fun j hj => absurd hj (by omega)⟩
  | i + 1, hi, nf => by
    have hlen := shiftTo_len s x c n i
    rw [shiftTo] at nf ⊢
    generalize hp : shiftTo s x c n i = q at nf hlen ⊢
    dsimp only at nf ⊢
    have n0 := (mux_le _ _ _ _).nf nf
    have ih := shift_sem (n := n) g hx hc i (by omega) (by rw [hp]; exact n0)
    rw [hp] at ih
    obtain ⟨a0, e0, ho⟩ := ih
    obtain ⟨lm, vm⟩ := moved_sem e0.good (hx.ext e0) ((i : Int) - n)
    obtain ⟨lx, vx⟩ := hx i (by omega)
    obtain ⟨a1, e1, l1, v1⟩ := mux_sem e0.good (e0.lt hc) lm (e0.lt lx) nf
    refine ⟨a1, e0.trans e1, fun j hj => ?_⟩
    rw [getD_set _ _ _ _ (by omega)]
    by_cases hij : i = j
    · subst hij
      rw [if_pos rfl]
      refine ⟨l1, v1.trans ?_⟩
      rw [e0.ltv hc, vm, e0.ltv lx, vx]
    · rw [if_neg hij]
      obtain ⟨lj, vj⟩ := ho j (by omega)
      exact ⟨e1.lt lj, by rw [e1.ltv lj, vj]⟩
def shiB (f : Nat → Bool) (c : Bool) (n : Int) (j : Nat) : Bool := if c = true then movB f ((j : Int) - n) else f j
theorem shift_sem4 {a : Nat → Bool} {s : St} {x : List Int} {c : Int} (n : Int) {f : Nat → Bool} (g : GoodB base p s.vars a s) (hx : Bits4 a s.vars x f) (hc : Lt s.vars c) (nf : full (shiftTo s x c n 4).2 = false) :
    ∃ a', Ext base p a s a' (shiftTo s x c n 4).2 ∧ Bits4 a' (shiftTo s x c n 4).2.vars (shiftTo s x c n 4).1 (shiB f (ltv a c) n) := shift_sem g hx hc 4 (by omega) nf
theorem part_le (s : St) (x : List Int) (b : Int) (i : Nat) : ∀ k, Le s (partTo s x b i k).2
  | 0 => .refl s
  | k + 1 => (part_le s x b i k).trans (and_le _ _ _)
theorem part_sem {a : Nat → Bool} {s : St} {x : List Int} {b : Int} {f : Nat → Bool} (g : GoodB base p s.vars a s) (hx : Bits4 a s.vars x f) (hb : Lt s.vars b) (i : Nat) :
    ∀ k, i + k ≤ 4 → full (partTo s x b i k).2 = false → ∃ a', Ext base p a s a' (partTo s x b i k).2 ∧
      ∀ j, j < 4 → Lt (partTo s x b i k).2.vars ((partTo s x b i k).1.getD j 0) ∧ ltv a' ((partTo s x b i k).1.getD j 0) = if i ≤ j ∧ j < i + k then f (j - i) && ltv a b else false
  | 0, hk, nf => ⟨a, .refl g, fun j hj => by
    rw [if_neg (by omega)]
    show Lt s.vars ((number 0).getD j 0) ∧ ltv a ((number 0).getD j 0) = false
    rw [number0]
    have : ([-1, -1, -1, -1] : List Int).getD j 0 = -1 := by
      match j, hj with
      | 0, _ => rfl
      | 1, _ => rfl
      | 2, _ => rfl
      | 3, _ => rfl
      | j + 4, hj => omega
    rw [this]
    exact ⟨(lt_one g).neg, ltv_m1 g.t⟩⟩
  | k + 1, hk, nf => by
    have hlen := partTo_len s x b i k
    rw [partTo] at nf ⊢
    generalize hp : partTo s x b i k = q at nf hlen ⊢
    dsimp only at nf ⊢
    have n0 := (and_le _ _ _).nf nf
    have ih := part_sem g hx hb i k (by omega) (by rw [hp]; exact n0)
    rw [hp] at ih
    obtain ⟨a0, e0, ho⟩ := ih
    obtain ⟨lx, vx⟩ := hx k (by omega)
    obtain ⟨a1, e1, l1, v1⟩ := and_sem a0 _ _ _ e0.good (e0.lt lx) (e0.lt hb) nf
    refine ⟨a1, e0.trans e1, fun j hj => ?_⟩
    rw [getD_set _ _ _ _ (by omega)]
    by_cases hij : i + k = j
    · subst hij
      rw [if_pos rfl, if_pos (by omega), show i + k - i = k by omega]
      refine ⟨l1, v1.trans ?_⟩
      rw [e0.ltv lx, vx, e0.ltv hb]
    · rw [if_neg hij]
      obtain ⟨lj, vj⟩ := ho j hj
      refine ⟨e1.lt lj, ?_⟩
      rw [e1.ltv lj, vj]
      by_cases h : i ≤ j ∧ j < i + k
      · rw [if_pos h, if_pos (by omega)]
      · rw [if_neg h, if_neg (by omega)]
def parB (f : Nat → Bool) (b : Bool) (i j : Nat) : Bool := if i ≤ j then f (j - i) && b else false
def proB (f h : Nat → Bool) : Nat → Nat → Bool
  | 0 => fun _ => false
  | i + 1 => sumB (proB f h i) (parB f (h i) i) false
theorem number0_sem {a : Nat → Bool} {s : St} {q : Int} (g : GoodB base p q a s) : Bits4 a s.vars (number 0) (fun _ => false) := fun j hj => by
  rw [number0]
  have : ([-1, -1, -1, -1] : List Int).getD j 0 = -1 := by
    match j, hj with
    | 0, _ => rfl
    | 1, _ => rfl
    | 2, _ => rfl
    | 3, _ => rfl
    | j + 4, hj => omega
  rw [this]
  exact ⟨(lt_one g).neg, ltv_m1 g.t⟩
theorem prod_sem {a : Nat → Bool} {s : St} {x y : List Int} {f h : Nat → Bool} (g : GoodB base p s.vars a s) (hx : Bits4 a s.vars x f) (hy : Bits4 a s.vars y h) :
    ∀ i, i ≤ 4 → full (prodTo s x y i).2 = false → ∃ a', Ext base p a s a' (prodTo s x y i).2 ∧ Bits4 a' (prodTo s x y i).2.vars (prodTo s x y i).1 (proB f h i)
  | 0, _, nf => ⟨a, .refl g, number0_sem g⟩
  | i + 1, hi, nf => by
    rw [prodTo] at nf ⊢
    generalize hp : prodTo s x y i = q at nf ⊢
    dsimp only at nf ⊢
    have n1 := (sum_le _ _ _ _ _).nf nf
    have n0 := (part_le _ _ _ _ _).nf n1
    have ih := prod_sem g hx hy i (by omega) (by rw [hp]; exact n0)
    rw [hp] at ih
    obtain ⟨a0, e0, ho⟩ := ih
    obtain ⟨ly, vy⟩ := hy i (by omega)
    obtain ⟨a1, e1, hpart⟩ := part_sem e0.good (hx.ext e0) (e0.lt ly) i (4 - i) (by omega) n1
    have hpart' : Bits4 a1 _ _ (parB f (h i) i) := fun j hj => by
      obtain ⟨l, v⟩ := hpart j hj
      refine ⟨l, v.trans ?_⟩
      rw [e0.ltv ly, vy]
      unfold parB
      by_cases hij : i ≤ j
      · rw [if_pos ⟨hij, by omega⟩, if_pos hij]
      · rw [if_neg (fun hh => hij hh.1), if_neg hij]
    obtain ⟨a2, e2, hs⟩ := sum_sem4 e1.good (ho.ext e1) hpart' (lt_one e1.good).neg nf
    rw [ltv_m1 e1.good.t] at hs
    exact ⟨a2, (e0.trans e1).trans e2, hs⟩
def lesB (f h : Nat → Bool) : Nat → Bool
  | 0 => false
  | i + 1 => (!f i && h i) || (!(f i != h i) && lesB f h i)
theorem lessTo_sem {a : Nat → Bool} {s : St} {x y : List Int} {f h : Nat → Bool} (g : GoodB base p s.vars a s) (hx : Bits4 a s.vars x f) (hy : Bits4 a s.vars y h) :
    ∀ i, i ≤ 4 → full (lessTo s x y i).2 = false → ∃ a', Ext base p a s a' (lessTo s x y i).2 ∧ Lt (lessTo s x y i).2.vars (lessTo s x y i).1 ∧ ltv a' (lessTo s x y i).1 = lesB f h i
  | 0, _, nf => ⟨a, .refl g, (lt_one g).neg, ltv_m1 g.t⟩
  | i + 1, hi, nf => by
    rw [lessTo] at nf ⊢
    unfold lessAt at nf ⊢
    generalize hp : lessTo s x y i = q at nf ⊢
    have n3 := (or_le _ _ _).nf nf
    have n2 := (and_le _ _ _).nf n3
    have n1 := (xor_le _ _ _).nf n2
    have n0 := (and_le _ _ _).nf n1
    have ih := lessTo_sem g hx hy i (by omega) (by rw [hp]; exact n0)
    rw [hp] at ih
    obtain ⟨a0, e0, lo, vo⟩ := ih
    obtain ⟨lx, vx⟩ := hx i (by omega)
    obtain ⟨ly, vy⟩ := hy i (by omega)
    obtain ⟨a1, e1, l1, v1⟩ := and_sem a0 _ _ _ e0.good (e0.lt lx).neg (e0.lt ly) n1
    obtain ⟨a2, e2, l2, v2⟩ := xor_sem a1 _ _ _ e1.good (e1.lt (e0.lt lx)) (e1.lt (e0.lt ly)) n2
    obtain ⟨a3, e3, l3, v3⟩ := and_sem a2 _ _ _ e2.good l2.neg (e2.lt (e1.lt lo)) n3
    obtain ⟨a4, e4, l4, v4⟩ := or_sem a3 _ _ _ e3.good (e3.lt (e2.lt l1)) l3 nf
    refine ⟨a4, (((e0.trans e1).trans e2).trans e3).trans e4, l4, v4.trans ?_⟩
    rw [e3.ltv (e2.lt l1), e2.ltv l1, v1, v3, ltv_neg l2.1, v2, e2.ltv (e1.lt lo), e1.ltv lo, vo, ltv_neg (e0.lt lx).1, e0.ltv lx, vx, e1.ltv (e0.lt lx), e0.ltv lx, vx, e1.ltv (e0.lt ly), e0.ltv ly, vy]
    rfl
def swpB (f h : Nat → Bool) (i : Nat) : Bool := if i = 3 then h 3 else f i
theorem swap_sem {a : Nat → Bool} {n : Int} {x y : List Int} {f h : Nat → Bool} (hxl : x.length = 4) (hx : Bits4 a n x f) (hy : Bits4 a n y h) : Bits4 a n (swapX x y) (swpB f h) := fun i hi => by
  unfold swapX swpB
  rw [getD_set _ _ _ _ (by omega)]
  by_cases h3 : i = 3
  · subst h3; rw [if_pos rfl, if_pos rfl]; exact hy 3 (by omega)
  · rw [if_neg fun e => h3 e.symm, if_neg h3]; exact hx i hi
theorem less_sem {a : Nat → Bool} {s : St} {x y : List Int} {f h : Nat → Bool} (hxl : x.length = 4) (hyl : y.length = 4) (g : GoodB base p s.vars a s) (hx : Bits4 a s.vars x f) (hy : Bits4 a s.vars y h) (nf : full (less s x y).2 = false) :
    ∃ a', Ext base p a s a' (less s x y).2 ∧ Lt (less s x y).2.vars (less s x y).1 ∧ ltv a' (less s x y).1 = lesB (swpB f h) (swpB h f) 4 :=
  lessTo_sem g (swap_sem hxl hx hy) (swap_sem hyl hy hx) 4 (by omega) nf
def samB (f h : Nat → Bool) : Nat → Bool
  | 0 => true
  | i + 1 => samB f h i && !(f i != h i)
theorem same_sem {a : Nat → Bool} {s : St} {x y : List Int} {f h : Nat → Bool} (g : GoodB base p s.vars a s) (hx : Bits4 a s.vars x f) (hy : Bits4 a s.vars y h) :
    ∀ i, i ≤ 4 → full (sameTo s x y i).2 = false → ∃ a', Ext base p a s a' (sameTo s x y i).2 ∧ Lt (sameTo s x y i).2.vars (sameTo s x y i).1 ∧ ltv a' (sameTo s x y i).1 = samB f h i
  | 0, _, nf => ⟨a, .refl g, lt_one g, ltv_one g.t⟩
  | i + 1, hi, nf => by
    rw [sameTo] at nf ⊢
    unfold sameAt at nf ⊢
    generalize hp : sameTo s x y i = q at nf ⊢
    have n1 := (and_le _ _ _).nf nf
    have n0 := (xor_le _ _ _).nf n1
    have ih := same_sem g hx hy i (by omega) (by rw [hp]; exact n0)
    rw [hp] at ih
    obtain ⟨a0, e0, lo, vo⟩ := ih
    obtain ⟨lx, vx⟩ := hx i (by omega)
    obtain ⟨ly, vy⟩ := hy i (by omega)
    obtain ⟨a1, e1, l1, v1⟩ := xor_sem a0 _ _ _ e0.good (e0.lt lx) (e0.lt ly) n1
    obtain ⟨a2, e2, l2, v2⟩ := and_sem a1 _ _ _ e1.good (e1.lt lo) l1.neg nf
    refine ⟨a2, (e0.trans e1).trans e2, l2, v2.trans ?_⟩
    rw [e1.ltv lo, vo, ltv_neg l1.1, v1, e0.ltv lx, vx, e0.ltv ly, vy]
    rfl
end
end Go.Proofs
end
section
namespace Go.Proofs
open Go.Shelf
def Tryd.laysM171_ren : Go.Shelf.Ren := ⟨fun | 171 => 83 | 243 => 95 | 246 => 107 | 283 => 109 | 284 => 110 | 285 => 111 | 286 => 112 | 129 => 114 | 317 => 113 | 318 => 115 | 319 => 116 | 320 => 117 | 337 => 118 | 338 => 119 | n => n, fun | 3 => 3 | 9 => 9 | 2 => 2 | 4 => 4 | 171 => 125 | 0 => 0 | 53 => 126 | 37 => 129 | 5 => 5 | 173 => 130 | 212 => 132 | 51 => 133 | 20 => 20 | 213 => 134 | 46 => 123 | 232 => 137 | 233 => 138 | n => n, fun | 17 => 1 | 18 => 2 | 19 => 3 | n => n⟩
def Tryd.lays171_ren : Go.Shelf.Ren := ⟨fun | 171 => 83 | 243 => 95 | 246 => 107 | 283 => 109 | 284 => 110 | 285 => 111 | 286 => 112 | 129 => 114 | 317 => 113 | 318 => 115 | 319 => 116 | 320 => 117 | 337 => 118 | 338 => 119 | n => n, fun | 3 => 3 | 9 => 9 | 2 => 2 | 4 => 4 | 171 => 125 | 0 => 0 | 53 => 126 | 37 => 129 | 5 => 5 | 173 => 130 | 212 => 132 | 51 => 133 | 20 => 20 | 213 => 134 | 46 => 123 | 232 => 137 | 233 => 138 | n => n, fun | 17 => 1 | 18 => 2 | 19 => 3 | n => n⟩
theorem Tryd.lays171 : Go.Proofs.Lays.n171 Tryd.prog Tryd.lays171_ren := {
  mixed := by kernel_rfl
  f129 := Tryd.func114.trans (congrArg some (by kernel_rfl))
  f171 := Tryd.func83.trans (congrArg some (by kernel_rfl))
  f243 := Tryd.func95.trans (congrArg some (by kernel_rfl))
  f246 := Tryd.func107.trans (congrArg some (by kernel_rfl))
  f283 := Tryd.func109.trans (congrArg some (by kernel_rfl))
  f284 := Tryd.func110.trans (congrArg some (by kernel_rfl))
  f285 := Tryd.func111.trans (congrArg some (by kernel_rfl))
  f286 := Tryd.func112.trans (congrArg some (by kernel_rfl))
  f317 := Tryd.func113.trans (congrArg some (by kernel_rfl))
  f318 := Tryd.func115.trans (congrArg some (by kernel_rfl))
  f319 := Tryd.func116.trans (congrArg some (by kernel_rfl))
  f320 := Tryd.func117.trans (congrArg some (by kernel_rfl))
  f337 := Tryd.func118.trans (congrArg some (by kernel_rfl))
  f338 := Tryd.func119.trans (congrArg some (by kernel_rfl))
  t0 := Tryd.underlying0
  a0 := Tryd.isAgg0
  z0 := Tryd.sizeOf0
  v0 := Tryd.zeroValue0
  t2 := Tryd.underlying2
  a2 := Tryd.isAgg2
  z2 := Tryd.sizeOf2
  v2 := Tryd.zeroValue2
  t3 := Tryd.underlying3
  a3 := Tryd.isAgg3
  z3 := Tryd.sizeOf3
  v3 := Tryd.zeroValue3
  t4 := Tryd.underlying4
  a4 := Tryd.isAgg4
  z4 := Tryd.sizeOf4
  v4 := Tryd.zeroValue4
  t5 := Tryd.underlying5
  a5 := Tryd.isAgg5
  z5 := Tryd.sizeOf5
  v5 := Tryd.zeroValue5
  t9 := Tryd.underlying9
  a9 := Tryd.isAgg9
  z9 := Tryd.sizeOf9
  v9 := Tryd.zeroValue9
  t20 := Tryd.underlying20
  a20 := Tryd.isAgg20
  z20 := Tryd.sizeOf20
  v20 := Tryd.zeroValue20
  t37 := Tryd.underlying129
  a37 := Tryd.isAgg129
  z37 := Tryd.sizeOf129
  v37 := Tryd.zeroValue129
  t46 := Tryd.underlying123
  a46 := Tryd.isAgg123
  z46 := Tryd.sizeOf123
  v46 := Tryd.zeroValue123
  t51 := Tryd.underlying133
  a51 := Tryd.isAgg133
  z51 := Tryd.sizeOf133
  v51 := Tryd.zeroValue133
  t53 := Tryd.underlying126
  a53 := Tryd.isAgg126
  z53 := Tryd.sizeOf126
  v53 := Tryd.zeroValue126
  t171 := Tryd.underlying125
  a171 := Tryd.isAgg125
  z171 := Tryd.sizeOf125
  v171 := Tryd.zeroValue125
  t173 := Tryd.underlying130
  a173 := Tryd.isAgg130
  z173 := Tryd.sizeOf130
  v173 := Tryd.zeroValue130
  t212 := Tryd.underlying132
  a212 := Tryd.isAgg132
  z212 := Tryd.sizeOf132
  v212 := Tryd.zeroValue132
  t213 := Tryd.underlying134
  a213 := Tryd.isAgg134
  z213 := Tryd.sizeOf134
  t232 := Tryd.underlying137
  a232 := Tryd.isAgg137
  z232 := Tryd.sizeOf137
  v232 := Tryd.zeroValue137
  t233 := Tryd.underlying138
  a233 := Tryd.isAgg138
  z233 := Tryd.sizeOf138
  v233 := Tryd.zeroValue138
  g17 := by kernel_rfl
  g18 := by kernel_rfl
  g19 := by kernel_rfl }
open Go.RowKit Go.Sort Go.Lib in
theorem Tryd.strconv_Itoa_small (i : Nat) (hi : i < 100) (w : World) :
    Calls Tryd.prog 83 #[.int .i64 i] w fun e w' => e = .returned (.string ⟨(Lib.decDigits i).toArray⟩) ∧ w' = w := Any.strconv_Itoa_small Tryd.lays171 i hi w
end Go.Proofs
end
section
namespace Go.Bl
open Go.Av
inductive Nd where
  | mk (k n m : Int) (kids : List Nd)
mutual
def Nd.cells : Nd → List DV
  | .mk k n m ks => [.i k, .i n, .i m, .sl 4 (cellsL ks)]
def cellsL : List Nd → List DV
  | [] => []
  | x :: r => x.cells ++ cellsL r
end
mutual
theorem cells_clo : ∀ t : Nd, ∀ d ∈ t.cells, d.clo = true
  | .mk k n m ks, d, hd => by
    simp only [Nd.cells, List.mem_cons, List.not_mem_nil, or_false] at hd
    rcases hd with rfl | rfl | rfl | rfl
    · exact clo_sc
    · exact clo_sc
    · exact clo_sc
    · exact clo_sl (cellsL_clo ks)
theorem cellsL_clo : ∀ l : List Nd, ∀ d ∈ cellsL l, d.clo = true
  | [], d, hd => by simp [cellsL] at hd
  | x :: r, d, hd => by
    rw [cellsL, List.mem_append] at hd
    rcases hd with hd | hd
    · exact cells_clo x d hd
    · exact cellsL_clo r d hd
end
theorem cells_len : ∀ t : Nd, t.cells.length = 4
  | .mk _ _ _ _ => rfl
instance : Enc Nd where
  enc := Nd.cells
  es := 4
  len := cells_len
  one t d hd := by
    cases t
    simp only [Nd.cells, List.mem_cons, List.not_mem_nil, or_false] at hd
    rcases hd with rfl | rfl | rfl | rfl <;> rfl
  clo := cells_clo
  pos := by decide
theorem cellsL_eq : ∀ l : List Nd, cellsL l = encs l
  | [] => rfl
  | x :: r => by rw [cellsL, cellsL_eq r]; rfl
theorem enc_nd (k n m : Int) (ks : List Nd) : (Enc.enc (Nd.mk k n m ks) : List DV) = [.i k, .i n, .i m, slOf ks] := by
  show [DV.i k, .i n, .i m, .sl 4 (cellsL ks)] = _
  rw [cellsL_eq]; rfl
theorem Nd.ind {Q : Nd → Prop} (h : ∀ k n m ks, (∀ x ∈ ks, Q x) → Q (.mk k n m ks)) : ∀ t, Q t
  | .mk k n m ks => h k n m ks fun x hx => Nd.ind h x
termination_by t => SizeOf.sizeOf t
decreasing_by
  have := List.sizeOf_lt_of_mem hx
  simp; omega
abbrev strD (l : List UInt8) : DV := .sc (.string ⟨l.toArray⟩)
end Go.Bl
namespace Go.Av
open Go.Bl
section
variable {P : Program} {G : Nat → DV} {B : Nat} {f : Operand → DV} {σ : List ABlk} {K : DV → List ABlk → Prop} {dst : Option Tmp} {type : TypeId} {pos : String} {after : Array Edge} {gd : Option (Nat × Bool)}
theorem bytes_append (a b : List UInt8) : ((⟨a.toArray⟩ : ByteArray) ++ ⟨b.toArray⟩) = ⟨(a ++ b).toArray⟩ := by
  apply ByteArray.ext
  simp [ByteArray.data_append]
theorem s_add_s {t t' : TypeId} {g1 : Bool} {z1 : Nat} {x y : Operand} {a b : List UInt8} [ht : TyI P t .string g1 z1] (hx : f x = .sc (.string ⟨a.toArray⟩)) (hy : f y = .sc (.string ⟨b.toArray⟩)) (hl : a.length + b.length ≤ 9223372036854775807)
    (k : K (strD (a ++ b)) σ) : OpSem P G B ⟨dst, .binOp .add t x y t', type, pos, after, gd⟩ f σ K :=
  s_bin hx hy (fun w => by
    have : (eqGuard .add t x y (.string ⟨a.toArray⟩) (.string ⟨b.toArray⟩)).run P w = .ok () w := by unfold eqGuard; rfl
    rw [Sem.run_bind, this]
    have h2 : ¬ IntKind.i64.max < ((ByteArray.size ⟨a.toArray⟩ + ByteArray.size ⟨b.toArray⟩ : Nat) : Int) := by
      have e : IntKind.i64.max = 9223372036854775807 := rfl
      rw [e]
      show ¬ (9223372036854775807 : Int) < ((a.toArray.size + b.toArray.size : Nat) : Int)
      simp; omega
    simp [binOp, run_underlying ht.u, Op.stringOp, h2, bytes_append]
    show ((a.toArray.size : Nat) : Int) + ((b.toArray.size : Nat) : Int) ≤ 9223372036854775807
    simp; omega) k
end
end Go.Av
namespace Go.Proofs
open Go.Av Go.Bl
variable {G : Nat → DV}
theorem itoa_small (i : Nat) (hi : i < 100) : Go.Av.Pure Tryd.prog G 83 [.i i] (strD (Lib.decDigits i)) := fun B X vs hS hσ hB hG hv => by
  have hvs : vs = #[.int .i64 i] := by
    obtain ⟨h1, h2⟩ := hv
    have := VRep.sc_eq (h2 0 _ rfl)
    apply Array.ext
    · simpa using h1
    · intro j hj1 hj2
      have hj : j = 0 := by simp at hj2; omega
      subst hj
      simpa [Array.getD_eq_getD_getElem?, hj1] using this
  subst hvs
  refine (Tryd.strconv_Itoa_small i hi X.w).mono ?_
  rintro e w' ⟨rfl, rfl⟩
  exact ⟨_, rfl, X, rfl, hS, WExt.refl X, _, .sc _, rfl, hσ⟩
end Go.Proofs
end
section
namespace Go.Proofs
open Go.Av
variable {G : Nat → DV}
attribute [local irreducible] OpSem ARun AOps ALex ACalls AEnd AClose RV
open Go.Bl
end Go.Proofs
end
section
namespace Go.Av
def mapI (M : List (Int × Int)) : List (Int × DV) := M.map fun p => (p.1, .i p.2)
def idxI (M : List (Int × Int)) (x : Int) : Option Nat := M.findIdx? fun p => decide (p.1 = x)
def getI (M : List (Int × Int)) (x : Int) : Option Int := (idxI M x).map fun j => (M.getD j (0, 0)).2
def putI (M : List (Int × Int)) (x v : Int) : List (Int × Int) := match idxI M x with
  | some j => M.set j (x, v)
  | none => M ++ [(x, v)]
theorem mapI_put (M : List (Int × Int)) (x v : Int) : iput (mapI M) x (.i v) = mapI (putI M x v) := by
  have e : ifind (mapI M) x = idxI M x := by unfold ifind mapI idxI; rw [List.findIdx?_map]; rfl
  unfold iput putI
  rw [e]
  cases idxI M x with
  | none => simp [mapI]
  | some j => simp [mapI, List.map_set]
theorem mapI_clo {M : List (Int × Int)} : ∀ p ∈ imap (mapI M), p.2.clo = true := fun p hp => by
  simp only [imap, mapI, List.map_map, List.mem_map] at hp
  obtain ⟨x, _, rfl⟩ := hp
  simp [DV.clo]
section
variable {P : Program} {G : Nat → DV} {B : Nat} {f : Operand → DV} {σ : List ABlk} {K : DV → List ABlk → Prop} {dst : Option Tmp} {type : TypeId} {pos : String} {after : Array Edge} {gd : Option (Nat × Bool)}
theorem run_lookup_i {X : AX} {t kt et : TypeId} {agg a1 : Bool} {size s1 k g : Nat} {M : List (Int × Int)} {x : Int} {vm vk : Value} (ok : Bool) (ht : TyI P t (.map kt et) agg size) (hkt : TyI P kt (.int .i64) a1 s1) (hz : (P.info? et).bind (·.zero) = some (.int .i64 0)) (hS : Sto X) (e1 : VRep X.lay (.mp k g) vm) (hσk : X.σ[k]? = some (.mapb g (imap (mapI M)))) (e2 : vk = .int .i64 x) :
    (Instr.lookup t vm vk ok).run P X.w = .ok (if ok then .tuple #[.int .i64 ((getI M x).getD 0), .bool (getI M x).isSome] else .int .i64 ((getI M x).getD 0)) X.w := by
  subst e2
  obtain ⟨b, n, es, clock, hρ, hb, hl, _, hes⟩ := hS.map hσk
  have e1 := VRep.mp_inv hσk e1 hρ
  subst e1
  obtain ⟨hl', hkey⟩ := map_keys hl hes
  have hls : es.toList.length = M.length := by simpa [mapI] using hl'
  have hke : ∀ j (hj : j < es.toList.length), es.toList[j].key = .int .i64 (M[j]'(by omega)).1 ∧ es.toList[j].val = .int .i64 (M[j]'(by omega)).2 := fun j hj => by
    obtain ⟨h1, h2⟩ := hkey j (by simp [mapI]; omega) hj
    refine ⟨by rw [h1]; simp [mapI], ?_⟩
    have e : ((mapI M)[j]'(by simp [mapI]; omega)).2 = .sc (.int .i64 (M[j]'(by omega)).2) := by simp [mapI]
    rw [e] at h2
    exact VRep.sc_eq h2
  cases hfi : idxI M x with
  | none =>
    have hno := List.findIdx?_eq_none_iff.1 hfi
    have hg : getI M x = none := by unfold getI; rw [hfi]; rfl
    have hf := findNow_none (K := .i64) (x := x) es.toList 0 fun e he => by
      obtain ⟨j, hj, rfl⟩ := List.getElem_of_mem he
      exact ⟨_, of_decide_eq_false (hno _ (List.getElem_mem (show j < M.length by omega))), (hke j hj).1⟩
    have h1 : (zeroValue et).run P X.w = .ok (.int .i64 0) X.w := by
      cases hi : P.info? et with
      | none => simp [hi] at hz
      | some i =>
        simp [hi] at hz
        simp [zeroValue, typeInfo, hi, hz, Result.andThen]
    rw [hg]
    cases ok <;> simp [Instr.lookup, run_underlying ht.u, MapKept.run_getObj_map hb, MapKept.run_checkKey hkt.u (k := .int .i64 x) rfl, MapKept.run_findKey hkt.u hf, Result.andThen, h1]
  | some j =>
    obtain ⟨h1, h2, h3⟩ := List.findIdx?_eq_some_iff_getElem.1 hfi
    have hj : j < es.toList.length := by omega
    have e : M[j].1 = x := of_decide_eq_true h2
    have hg : getI M x = some M[j].2 := by
      unfold getI; rw [hfi, Option.map_some, List.getD_eq_getElem?_getD, List.getElem?_eq_getElem h1]; rfl
    have hf := findNow_some (K := .i64) (x := x) es.toList 0 j hj (by rw [(hke j hj).1, e]) fun i hi => ⟨_, fun e => h3 i hi (decide_eq_true e), (hke i (by omega)).1⟩
    rw [hg]
    have hv := (hke j hj).2
    cases ok <;> simp [Instr.lookup, run_underlying ht.u, MapKept.run_getObj_map hb, MapKept.run_checkKey hkt.u (k := .int .i64 x) rfl, MapKept.run_findKey hkt.u hf, Result.andThen] <;> simpa using hv
theorem s_lookup_iok {t kt et : TypeId} {agg a1 : Bool} {size s1 : Nat} {m ix : Operand} {k g : Nat} {M : List (Int × Int)} {x : Int} [ht : TyI P t (.map kt et) agg size] [hkt : TyI P kt (.int .i64) a1 s1] (hm : f m = .mp k g) (hσk : σ[k]? = some (.mapb g (imap (mapI M)))) (hx : f ix = .sc (.int .i64 x)) (hz : (P.info? et).bind (·.zero) = some (.int .i64 0))
    (kk : K (.tup [.i ((getI M x).getD 0), .b (getI M x).isSome]) σ) : OpSem P G B ⟨dst, .lookup t m ix true, type, pos, after, gd⟩ f σ K := fun X ρ hS hσ hB _ hf => by
  subst hσ
  have e1 := hf m (by simp [Op.operands]); rw [hm] at e1
  have e2 := hf ix (by simp [Op.operands]); rw [hx] at e2
  have := run_lookup_i true ht hkt hz hS e1 hσk (VRep.sc_eq e2)
  simp only [execOp, this, Sem.run_bind, Sem.run_pure, Result.andThen_ok, if_true]
  refine ⟨X, rfl, hS, WExt.refl X, _, .tup _ _ rfl fun j d hj => ?_, kk⟩
  match j, hj with
  | 0, hj => cases hj; exact .sc _
  | 1, hj => cases hj; exact .sc _
  | j + 2, hj => simp at hj
theorem s_lookup_i {t kt et : TypeId} {agg a1 : Bool} {size s1 : Nat} {m ix : Operand} {k g : Nat} {M : List (Int × Int)} {x : Int} [ht : TyI P t (.map kt et) agg size] [hkt : TyI P kt (.int .i64) a1 s1] (hm : f m = .mp k g) (hσk : σ[k]? = some (.mapb g (imap (mapI M)))) (hx : f ix = .sc (.int .i64 x)) (hz : (P.info? et).bind (·.zero) = some (.int .i64 0))
    (kk : K (.i ((getI M x).getD 0)) σ) : OpSem P G B ⟨dst, .lookup t m ix false, type, pos, after, gd⟩ f σ K := fun X ρ hS hσ hB _ hf => by
  subst hσ
  have e1 := hf m (by simp [Op.operands]); rw [hm] at e1
  have e2 := hf ix (by simp [Op.operands]); rw [hx] at e2
  have := run_lookup_i false ht hkt hz hS e1 hσk (VRep.sc_eq e2)
  simp only [execOp, this, Sem.run_bind, Sem.run_pure, Result.andThen_ok, Bool.false_eq_true, if_false]
  exact ⟨X, rfl, hS, WExt.refl X, _, .sc _, kk⟩
theorem s_mapupd_i {t kt et : TypeId} {agg a1 : Bool} {size s1 : Nat} {m ix y : Operand} {k g : Nat} {M : List (Int × Int)} {x v : Int} {σ' : List ABlk} [ht : TyI P t (.map kt et) agg size] [hkt : TyI P kt (.int .i64) a1 s1] (hm : f m = .mp k g) (hσk : σ[k]? = some (.mapb g (imap (mapI M)))) (hx : f ix = .sc (.int .i64 x)) (hy : f y = .sc (.int .i64 v))
    (hσ' : setA σ k (.mapb g (imap (mapI (putI M x v)))) = some σ') (kk : K (.sc undef) σ') : OpSem P G B ⟨dst, .mapUpdate t m ix y, type, pos, after, gd⟩ f σ K := s_mapupd hm hσk hx hy (by rw [mapI_put]; exact hσ') kk
theorem s_mkmap_i {t : TypeId} (k : ∀ g, B < g → K (.mp σ.length g) (σ ++ [.mapb g (imap (mapI []))])) : OpSem P G B ⟨dst, .makeMap t none, type, pos, after, gd⟩ f σ K := s_mkmap k
end
end Go.Av
end
section
namespace Go.Av
section
variable {P : Program} {G : Nat → DV}
def TM (P : Program) (G : Nat → DV) (f : FuncId) (args : Nat → List DV) (M : List (Int × Int)) (res : DV) (M' : List (Int × Int)) : Prop :=
  ∀ g B, g ≤ B → ACalls P G B f (args g) [.mapb g (imap (mapI M))] (fun d τ => d = res ∧ τ = [.mapb g (imap (mapI M'))])
def CM (P : Program) (G : Nat → DV) (f : FuncId) (args : Nat → List DV) (M : List (Int × Int)) (res : DV) (M' : List (Int × Int)) : Prop :=
  ∀ gp g B, gp ≤ B → g ≤ B → ACalls P G B f (args gp) [.row gp [.mp 1 g], .mapb g (imap (mapI M))] (fun d τ => d = res ∧ τ = [.row gp [.mp 1 g], .mapb g (imap (mapI M'))])
theorem TM.lift {f : FuncId} {args : Nat → List DV} {M M' : List (Int × Int)} {res : DV} (h : TM P G f args M res M') {B k g : Nat} {es : List DV} {σ σ' : List ABlk} (hargs : RenL (RenD (qf [k] σ.length)) es (args g)) (hk : σ[k]? = some (.mapb g (imap (mapI M)))) (hres : res.clo = true)
    (hσ' : setA σ k (.mapb g (imap (mapI M'))) = some σ') : ACalls P G B f es σ (fun d s => d = res ∧ s = σ') := by
  refine ACalls.sub (R := fun _ d τ => d = res ∧ τ = [.mapb g (imap (mapI M'))]) (ps := [k]) hargs (by simp) (τ := [.mapb g (imap (mapI M))]) rfl (fun i hi => ?_) (fun B' hB hg => h g B' (hg 0 _ _ rfl rfl)) ?_
  · have : i = 0 := by simpa using hi
    subst this
    exact ⟨_, _, hk, rfl, .map mapI_clo⟩
  · rintro B' d' τ' hB ⟨rfl, rfl⟩
    exact ⟨d', σ', Out.of (bs := [.mapb g (imap (mapI M'))]) (.s (.clo hres)) (by simp) rfl (.cons (.map mapI_clo) .nil) (by simp [setAll, hσ']), rfl, rfl⟩
theorem CM.lift {f : FuncId} {args : Nat → List DV} {M M' : List (Int × Int)} {res : DV} (h : CM P G f args M res M') {B kp k gp g : Nat} {es : List DV} {σ σ' : List ABlk} (hargs : RenL (RenD (qf [kp, k] σ.length)) es (args gp)) (hp : σ[kp]? = some (.row gp [.mp k g])) (hk : σ[k]? = some (.mapb g (imap (mapI M)))) (hne : Nat.beq kp k = false) (hres : res.clo = true)
    (hσ' : setA σ k (.mapb g (imap (mapI M'))) = some σ') : ACalls P G B f es σ (fun d s => d = res ∧ s = σ') := by
  have hne' : kp ≠ k := fun e => by rw [e, Nat.beq_refl] at hne; cases hne
  have hq : ∀ n, qf [kp, k] n 1 = k := fun n => rfl
  refine ACalls.sub (R := fun _ d τ => d = res ∧ τ = [.row gp [.mp 1 g], .mapb g (imap (mapI M'))]) (ps := [kp, k]) hargs (by simp [hne']) (τ := [.row gp [.mp 1 g], .mapb g (imap (mapI M))]) rfl (fun i hi => ?_) (fun B' hB hg => h gp g B' (hg 0 _ _ rfl rfl) (hg 1 _ _ rfl rfl)) ?_
  · match i, hi with
    | 0, _ => exact ⟨_, _, hp, rfl, .row (.cons (.mp rfl) .nil)⟩
    | 1, _ => exact ⟨_, _, hk, rfl, .map mapI_clo⟩
    | i + 2, hi => exact absurd hi (by simp)
  · rintro B' d' τ' hB ⟨rfl, rfl⟩
    have hset : setA σ kp (.row gp [.mp k g]) = some σ := by
      have : ∀ (l : List ABlk) (i : Nat) (b : ABlk), l[i]? = some b → setA l i b = some l := fun l => by
        induction l with
        | nil => intro i b h; simp at h
        | cons a r ih =>
          intro i b h
          cases i with
          | zero => simp at h; subst h; rfl
          | succ i => simp at h; simp [setA, ih i b h]
      exact this σ kp _ hp
    exact ⟨d', σ', Out.of (bs := [.row gp [.mp k g], .mapb g (imap (mapI M'))]) (.s (.clo hres)) (by simp [hne']) rfl (.cons (.row (.cons (.mp rfl) .nil)) (.cons (.map mapI_clo) .nil)) (by simp [setAll, hset, hσ']), rfl, rfl⟩
variable {B : Nat} {f : Operand → DV} {σ : List ABlk} {K : DV → List ABlk → Prop} {dst : Option Tmp} {type : TypeId} {pos : String} {after : Array Edge} {gd : Option (Nat × Bool)}
theorem s_call_tm {args : Array Operand} {ts : Array TypeId} {fid : FuncId} {ars : Nat → List DV} {es : List DV} {M M' : List (Int × Int)} {res : DV} {k g : Nat} {σ' : List ABlk} [FnOk P fid] (h : TM P G fid ars M res M') (hx : f (.func fid) = .fn (.func fid) [] []) (hds : reL (args.toList.map f) = some es) (hk : σ[k]? = some (.mapb g (imap (mapI M)))) (hargs : RenL (RenD (qf [k] σ.length)) es (ars g)) (hres : res.clo = true)
    (hσ' : setA σ k (.mapb g (imap (mapI M'))) = some σ') (kk : K res σ') : OpSem P G B ⟨dst, .call ⟨.value (.func fid), args, ts⟩, type, pos, after, gd⟩ f σ K := s_call hx hds ((h.lift hargs hk hres hσ').mono fun _ _ ⟨h1, h2⟩ => by rw [h1, h2]; exact kk)
theorem s_callv_cm {x : Operand} {args : Array Operand} {ts : Array TypeId} {fid : FuncId} {first cap : List DV} {ars : Nat → List DV} {es : List DV} {M M' : List (Int × Int)} {res : DV} {kp k gp g : Nat} {σ' : List ABlk} [FnOk P fid] (h : CM P G fid ars M res M') (hx : f x = .fn (.func fid) first cap) (hds : reL (first ++ args.toList.map f ++ cap) = some es) (hp : σ[kp]? = some (.row gp [.mp k g])) (hk : σ[k]? = some (.mapb g (imap (mapI M)))) (hne : Nat.beq kp k = false) (hargs : RenL (RenD (qf [kp, k] σ.length)) es (ars gp)) (hres : res.clo = true)
    (hσ' : setA σ k (.mapb g (imap (mapI M'))) = some σ') (kk : K res σ') : OpSem P G B ⟨dst, .call ⟨.value x, args, ts⟩, type, pos, after, gd⟩ f σ K := s_callv hx hds ((h.lift hargs hp hk hne hres hσ').mono fun _ _ ⟨h1, h2⟩ => by rw [h1, h2]; exact kk)
theorem s_call_cm {args : Array Operand} {ts : Array TypeId} {fid : FuncId} {ars : Nat → List DV} {es : List DV} {M M' : List (Int × Int)} {res : DV} {kp k gp g : Nat} {σ' : List ABlk} [FnOk P fid] (h : CM P G fid ars M res M') (hx : f (.func fid) = .fn (.func fid) [] []) (hds : reL (args.toList.map f) = some es) (hp : σ[kp]? = some (.row gp [.mp k g])) (hk : σ[k]? = some (.mapb g (imap (mapI M)))) (hne : Nat.beq kp k = false) (hargs : RenL (RenD (qf [kp, k] σ.length)) es (ars gp)) (hres : res.clo = true)
    (hσ' : setA σ k (.mapb g (imap (mapI M'))) = some σ') (kk : K res σ') : OpSem P G B ⟨dst, .call ⟨.value (.func fid), args, ts⟩, type, pos, after, gd⟩ f σ K := s_call hx hds ((h.lift hargs hp hk hne hres hσ').mono fun _ _ ⟨h1, h2⟩ => by rw [h1, h2]; exact kk)
end
end Go.Av
end
section
namespace Go.Proofs
open Go.Av
variable {G : Nat → DV}
attribute [local irreducible] OpSem ARun AOps ALex ACalls AEnd AClose RV
open Go.Bl
mutual
def typesM : Nd → List (Int × Int) → Bool × List (Int × Int)
  | .mk k n m ks, M => if k = 6 ∧ (getI M n).isSome = true ∧ (getI M n).getD 0 ≠ m then (false, M) else typesL ks (if k = 6 then putI M n m else M)
def typesL : List Nd → List (Int × Int) → Bool × List (Int × Int)
  | [], M => (true, M)
  | x :: r, M => if (typesM x M).1 = true then typesL r (typesM x M).2 else (false, (typesM x M).2)
end
theorem typesL_snoc (x : Nd) : ∀ (a : List Nd) (M : List (Int × Int)), typesL (a ++ [x]) M = if (typesL a M).1 = true then typesM x (typesL a M).2 else typesL a M
  | [], M => by
    simp only [List.nil_append, typesL, if_true]
    cases h : (typesM x M).1
    · rw [if_neg (by simp)]; rw [← h]
    · rw [if_pos rfl]; rw [← h]
  | y :: r, M => by
    rw [List.cons_append, typesL, typesL]
    split
    · exact typesL_snoc x r _
    · rw [if_neg (by simp)]
theorem typesL_false {a : List Nd} {M : List (Int × Int)} (h : (typesL a M).1 = false) (b : List Nd) : typesL (a ++ b) M = typesL a M := by
  induction a generalizing M with
  | nil => simp [typesL] at h
  | cons y r ih =>
    rw [List.cons_append, typesL, typesL] at *
    split
    · rename_i h1
      rw [if_pos h1] at h
      exact ih h
    · rfl
theorem typesL_take {ks : List Nd} {M : List (Int × Int)} {i : Nat} (hi : i < ks.length) (h : (typesL (ks.take i) M).1 = true) : typesL (ks.take (i + 1)) M = typesM ks[i] (typesL (ks.take i) M).2 := by
  rw [List.take_succ_eq_append_getElem hi, typesL_snoc, if_pos h]
theorem typesL_bad {ks : List Nd} {M : List (Int × Int)} {i : Nat} (h : (typesL (ks.take i) M).1 = false) : typesL ks M = typesL (ks.take i) M := by
  have := typesL_false h (ks.drop i)
  rwa [List.take_append_drop] at this
def idxT (ks : List Nd) (M : List (Int × Int)) : Int := match (List.range ks.length).find? fun i => !(typesL (ks.take (i + 1)) M).1 with
  | some i => i
  | none => -1
theorem idxT_at {ks : List Nd} {M : List (Int × Int)} {i : Nat} (hi : i < ks.length) (h : (typesL (ks.take i) M).1 = true) (h' : (typesL (ks.take (i + 1)) M).1 = false) : idxT ks M = i := by
  unfold idxT
  have : (List.range ks.length).find? (fun i => !(typesL (ks.take (i + 1)) M).1) = some i := by
    rw [List.find?_range_eq_some]
    refine ⟨by rw [h']; rfl, List.mem_range.2 hi, fun j hj => ?_⟩
    cases hb : (typesL (ks.take (j + 1)) M).1
    · have h1 : (typesL ((ks.take i).take (j + 1)) M).1 = false := by rw [List.take_take, Nat.min_eq_left (by omega)]; exact hb
      have := typesL_bad h1
      rw [this, h1] at h; cases h
    · rfl
  rw [this]
theorem typesL_first {ks : List Nd} {M : List (Int × Int)} (h : (typesL ks M).1 = false) : ∃ i, i < ks.length ∧ (typesL (ks.take i) M).1 = true ∧ (typesL (ks.take (i + 1)) M).1 = false := by
  have key : ∀ n, n ≤ ks.length → (typesL (ks.take n) M).1 = true ∨ ∃ i, i < n ∧ (typesL (ks.take i) M).1 = true ∧ (typesL (ks.take (i + 1)) M).1 = false := fun n => by
    induction n with
    | zero => intro _; exact .inl rfl
    | succ n ih =>
      intro hn
      rcases ih (by omega) with h1 | ⟨i, h1, h2⟩
      · cases h2 : (typesL (ks.take (n + 1)) M).1
        · exact .inr ⟨n, by omega, h1, h2⟩
        · exact .inl rfl
      · exact .inr ⟨i, by omega, h2⟩
  rcases key ks.length (Nat.le_refl _) with h1 | ⟨i, h1, h2, h3⟩
  · rw [List.take_length, h] at h1; cases h1
  · exact ⟨i, h1, h2, h3⟩
theorem idxT_none {ks : List Nd} {M : List (Int × Int)} (h : (typesL ks M).1 = true) : idxT ks M = -1 := by
  unfold idxT
  have : (List.range ks.length).find? (fun i => !(typesL (ks.take (i + 1)) M).1) = none := by
    rw [List.find?_eq_none]
    intro i hi hb
    have hb : (typesL (ks.take (i + 1)) M).1 = false := by simpa using hb
    rw [typesL_bad hb, hb] at h; cases h
  rw [this]
theorem indexFuncT_c (ks : List Nd) (hks : ks.length ≤ 1048576) (M : List (Int × Int)) (hcl : ∀ i (hi : i < ks.length) (M : List (Int × Int)), CM Tryd.prog G 66 (fun gp => [.agg (Enc.enc ks[i]), .ptr 0 gp 0]) M (.b (!(typesM ks[i] M).1)) (typesM ks[i] M).2) :
    CM Tryd.prog G 81 (fun gp => [slOf ks, .fn (.func 66) [] [.ptr 0 gp 0]]) M (.i (idxT ks M)) (typesL ks M).2 := fun gp g B b1 b2 => by
  refine calls_of_run Tryd.func81 rfl Tryd.ntmps81 rfl (t := [(0, slOf ks), (1, .fn (.func 66) [] [.ptr 0 gp 0])]) rfl fun E hE => ?_
  (repeat' first | refine s_mv rfl ?_ | refine s_as rfl ?_ | refine s_len_sl rfl ?_ | refine o_nil ?_ | refine o_op rfl ?_ | refine r_seq ?_ | refine r_region ?_ | refine r_block ?_)
  refine r_loop (fun (i : Nat) => ⟨[(0, slOf ks), (1, .fn (.func 66) [] [.ptr 0 gp 0]), (7, .i ks.length), (8, .i i)], [.row gp [.mp 1 g], .mapb g (imap (mapI (typesL (ks.take i) M).2))]⟩) (fun i => i ≤ ks.length ∧ (typesL (ks.take i) M).1 = true) (fun i => ks.length - i) 0 ?_ ⟨by omega, rfl⟩ ?_
  · exact al rfl
  intro i ⟨hi, hok⟩
  (repeat' first | refine s_lss rfl rfl ?_ | refine o_nil ?_ | refine o_op rfl ?_ | refine r_seq ?_ | refine r_region ?_)
  refine r_cond_d rfl (fun h => ?_) (fun h => ?_)
  · have hi2 : i < ks.length := by omega
    have ht := typesL_take hi2 hok
    (repeat' first | refine s_mv rfl ?_ | refine s_as rfl ?_ | refine s_load_epe rfl ?_ | refine s_idx_sln rfl rfl (by first | assumption | omega | (simp; done) | (simp; omega)) ?_ | refine s_callv_cm (kp := 0) (k := 1) (hcl i hi2 (typesL (ks.take i) M).2) rfl rfl rfl rfl (by rfl) (by repeat' first | exact .nil | refine .cons ?_ ?_ | exact .s (.mp rfl) | exact .s (.ptr rfl) | exact .s (.ref rfl) | exact .fn (by repeat' first | exact .nil | refine .cons ?_ ?_ | exact .ptr rfl | exact .mp rfl | exact .clo clo_sc) (by repeat' first | exact .nil | refine .cons ?_ ?_ | exact .ptr rfl | exact .mp rfl | exact .clo clo_sc) | exact .s (.clo (by (repeat' first | exact Enc.clo _ | exact clo_sc | exact clo_slOf _ | exact clo_sl (encs_clo _) | exact encs_clo _ | refine clo_fn ?_ ?_ | refine clo_ep ?_ | refine clo_tup ?_ | refine clo_agg ?_ | exact ac_nil | refine ac_cons ?_ ?_ | refine clo_sl ?_); done))) (by repeat' first | exact clo_sc | exact clo_slOf _ | exact clo_sl (encs_clo _) | exact encs_clo _ | refine clo_fn ?_ ?_ | refine clo_ep ?_ | refine clo_tup ?_ | refine clo_agg ?_ | exact ac_nil | refine ac_cons ?_ ?_ | refine clo_sl ?_) (by rfl) ?_ | refine o_nil ?_ | refine o_op rfl ?_ | refine r_seq ?_ | refine r_region ?_ | refine r_block ?_ | refine r_skip ?_)
    refine r_cond rfl (fun hb => ?_) (fun hb => ?_)
    · have hf : (typesL (ks.take (i + 1)) M).1 = false := by rw [ht]; simpa using hb
      rw [idxT_at hi2 hok hf, typesL_bad hf, ht]
      (repeat' first | refine s_mv rfl ?_ | refine s_as rfl ?_ | refine o_nil ?_ | refine o_op rfl ?_ | refine r_seq ?_ | refine r_region ?_ | refine r_ret ?_)
      exact e_1 (Tryd.results81) (rv_tmp rfl) (c_same ⟨rfl, rfl⟩)
    · have hf : (typesL (ks.take (i + 1)) M).1 = true := by rw [ht]; simpa using hb
      (repeat' first | refine s_mv rfl ?_ | refine s_add rfl rfl (by omega) ?_ | refine o_nil ?_ | refine o_op rfl ?_ | refine r_region ?_ | refine r_skip ?_)
      refine ⟨i + 1, ⟨by omega, hf⟩, by omega, ?_⟩
      rw [ht]
      exact al rfl
  · have hi2 : i = ks.length := by omega
    subst hi2
    rw [List.take_length] at hok ⊢
    rw [idxT_none hok]
    (repeat' first | refine s_as rfl ?_ | refine o_nil ?_ | refine o_op rfl ?_ | refine r_seq ?_ | refine r_region ?_ | refine r_exit rfl ?_ | refine r_ret ?_)
    exact e_1 (Tryd.results81) (rv_tmp rfl) (c_same ⟨rfl, rfl⟩)
theorem containsFuncT_c (ks : List Nd) (hks : ks.length ≤ 1048576) (M : List (Int × Int)) (hcl : ∀ i (hi : i < ks.length) (M : List (Int × Int)), CM Tryd.prog G 66 (fun gp => [.agg (Enc.enc ks[i]), .ptr 0 gp 0]) M (.b (!(typesM ks[i] M).1)) (typesM ks[i] M).2) :
    CM Tryd.prog G 65 (fun gp => [slOf ks, .fn (.func 66) [] [.ptr 0 gp 0]]) M (.b (!(typesL ks M).1)) (typesL ks M).2 := fun gp g B b1 b2 => by
  have hix := indexFuncT_c ks hks M hcl
  refine calls_of_run Tryd.func65 rfl Tryd.ntmps65 rfl (t := [(0, slOf ks), (1, .fn (.func 66) [] [.ptr 0 gp 0])]) rfl fun E hE => ?_
  (repeat' first | refine s_mv rfl ?_ | refine s_as rfl ?_ | refine s_geq rfl rfl ?_ | refine s_call_cm (kp := 0) (k := 1) (hix) rfl rfl rfl rfl (by rfl) (by repeat' first | exact .nil | refine .cons ?_ ?_ | exact .s (.mp rfl) | exact .s (.ptr rfl) | exact .s (.ref rfl) | exact .fn (by repeat' first | exact .nil | refine .cons ?_ ?_ | exact .ptr rfl | exact .mp rfl | exact .clo clo_sc) (by repeat' first | exact .nil | refine .cons ?_ ?_ | exact .ptr rfl | exact .mp rfl | exact .clo clo_sc) | exact .s (.clo (by (repeat' first | exact Enc.clo _ | exact clo_sc | exact clo_slOf _ | exact clo_sl (encs_clo _) | exact encs_clo _ | refine clo_fn ?_ ?_ | refine clo_ep ?_ | refine clo_tup ?_ | refine clo_agg ?_ | exact ac_nil | refine ac_cons ?_ ?_ | refine clo_sl ?_); done))) (by repeat' first | exact clo_sc | exact clo_slOf _ | exact clo_sl (encs_clo _) | exact encs_clo _ | refine clo_fn ?_ ?_ | refine clo_ep ?_ | refine clo_tup ?_ | refine clo_agg ?_ | exact ac_nil | refine ac_cons ?_ ?_ | refine clo_sl ?_) (by rfl) ?_ | refine o_nil ?_ | refine o_op rfl ?_ | refine r_seq ?_ | refine r_region ?_ | refine r_ret ?_)
  exact e_1 (Tryd.results65) (rv_tmp rfl) (c_same ⟨congrArg DV.b (by
    cases h : (typesL ks M).1
    · obtain ⟨i, hi, h1, h2⟩ := typesL_first h
      rw [idxT_at hi h1 h2]; simp
    · rw [idxT_none h]; rfl), rfl⟩)
end Go.Proofs
end
