/-
  Part 15 of the proof: X0 W5 X2 AvT AvU LV.
-/
import Derived.Test.YtecbcpilcjmhlaaDoorZB0
import Derived.Test.YtecbcpilcjmhlaaDoorZB1
import Derived.Test.YtecbcpilcjmhlaaDoorZB3
import Derived.Test.YtecbcpilcjmhlaaDoorZB5
import Derived.Test.YtecbcpilcjmhlaaDoorZB7
import Derived.Test.YtecbcpilcjmhlaaDoorZB9
import Derived.Test.YtecbcpilcjmhlaaDoorZB14
set_option linter.unusedSimpArgs false
set_option linter.unusedVariables false
set_option maxRecDepth 10000
set_option maxHeartbeats 4000000
section
namespace Go.Proofs
open Go.Av
variable {G : Nat -> DV}
attribute [local irreducible] OpSem WE WY W0 ACalls ZE QV RV
open Go.Bl Go.Fo
def valsM (n : Int) : List Int := [n % 16 - 8, n / 16 % 16 - 8, n / 256 % 2, n / 512]
theorem valsM_ok {n : Int} (h : 0 <= n /\ n < 1024) : Vok (valsM n) /\ Vtr F4 (valsM n) := by
 refine ⟨⟨Nat.le_of_ble_eq_true rfl, fun x hx => ?_⟩, fun m hm => ?_⟩
 ·simp only [valsM, List.mem_cons, List.not_mem_nil, or_false] at hx
  rcases hx with rfl | rfl | rfl | rfl <;> omega
 ·have h2 : 2 <= m := by
   unfold F4 at hm
   split at hm
   ·cases hm
   ·omega
  have h4 : m < 4 \/ 4 <= m := by omega
  unfold WM
  split
  ·rename_i hl
   have hl : m < 4 := hl
   have : m = 2 \/ m = 3 := by omega
   rcases this with rfl | rfl
   ·show n / 256 % 2 = 0 \/ n / 256 % 2 = 1; omega
   ·show n / 512 = 0 \/ n / 512 = 1; omega
  ·exact .inl rfl
theorem r20Values_c (n : Int) (hn : Ord.I64 n) : Go.Av.Pure Tryd.prog G 16 [.i n] (Qy (valsM (Ord.around n 1024))) := fun B => by
 have har := around_c (G := G) n 1024 hn (by decide)
 have hb := Ord.around_bound n (most := 1024) (by decide)
 generalize Ord.around n 1024 = x at *
 refine Qb Tryd.func16 rfl Tryd.ntmps16 rfl (t := [(0, .i n)]) rfl fun E hE => ?_
 (repeat' first | refine Qt rfl ?_ | refine Qv rfl ?_ | refine Zn rfl rfl (by omega) ?_ | refine s_quo rfl rfl (by omega) (by omega) (by omega) ?_ | refine s_rem rfl rfl (by first | omega | exact nn_shr (by omega)) (by omega) ?_ | refine QZ rfl rfl (har) ?_ | refine Wl rfl rfl (by decide) rfl ?_ | refine Qe ?_ | refine Qp rfl ?_ | refine Qf ?_ | refine Qa ?_ | refine Qm ?_ | fail)
 refine e_1 Tryd.results16 (Qh rfl) (Qr ?_)
 rfl
theorem blast_ty01 {F : Int -> Int} {ts : List Nd} (hts : Lot F ts) : ∀ j, j < (Qw ts).nm.length -> (Qw ts).ty.getD j 0 = 0 \/ (Qw ts).ty.getD j 0 = 1 := fun j hj => by
 have h := W4 hts
 rw [h.ty j hj, ZB hj]
 obtain ⟨p, hp, hpe⟩ := ((foundM_ok hts).2 _).1 (mem_nm.1 (List.getElem_mem hj)).2.2
 obtain ⟨t, ht, hpt⟩ := of_varsL hp
 have h01 := (varsN_rng (hts.ty t ht) p hpt).2
 have hc : p.2 = F p.1 := hts.con t ht p hpt
 have e : F (Qw ts).nm[j] = p.2 := by rw [hc, hpe]
 rw [e]; exact h01
theorem formed_blast {F : Int -> Int} {ts : List Nd} (hts : Lot F ts) (hF : ∀ n, 0 <= F n) (hsz : QW ts <= 99999) (nf : Zy (Wo ts).1 = false) :
  Go.Av.Pure Tryd.prog G 14 [.agg [.i (Wo ts).1.vars, Qy (Wo ts).1.cl, Qy (Qw ts).nm, Qy (Qw ts).ty, Qy (Qw ts).fi], Qy ts] (.b true) := by
 have h := W4 hts
 obtain ⟨s1, s2, s3, s4⟩ := blast_size hts
 obtain ⟨b1, b2⟩ := nofull_bd nf
 obtain ⟨a, g, _⟩ := blast_sem hts (vals := []) ⟨by decide, fun x hx => (by cases hx)⟩ (fun n _ => .inl (by unfold WM; split <;> rfl)) nf
 have hv := h.v1
 have hsz1 : 1 <= QW ts \/ QW ts = 0 := by omega
 have hw := blast_ty01 hts
 have hwid : ∀ k : Int, k = 0 \/ k = 1 -> widI k = 4 - 3 * k := fun k hk => by rcases hk with rfl | rfl <;> rfl
 refine formed_c hsz (blast_nm hts) (blast_ty hF hts) h.l3 (by omega) b1 b2 (by omega) (by omega) ?_ ?_ ?_ ?_
 ·intro x hx
  obtain ⟨j, hj, rfl⟩ := mem_getD hx
  exact hw j (by have := h.l2; omega)
 ·intro i h1 h2
  have hr := h.rng i (by have := h.l3; omega)
  have hh := hw i (by have := h.l3; omega)
  rw [hwid _ hh, ZB h1, ZB h2] at hr
  omega
 ·intro i j h1 h2 hij
  have hm := h.mono i j hij (by have := h.l3; omega)
  have hh := hw i (by have := h.l3; omega)
  rw [hwid _ hh, ZB (show i < (Qw ts).fi.length by omega), ZB h2, ZB h1] at hm
  exact hm
 ·intro c hc
  refine ⟨by have := s3 c hc; omega, fun x hx => ?_⟩
  exact g.lits c hc x hx
theorem lits_blast {F : Int -> Int} {ts : List Nd} (hts : Lot F ts) {vals : List Int} (hv : Vok vals) (nf : Zy (Wo ts).1 = false) :
  Go.Av.Pure Tryd.prog G 18 [.agg [.i (Wo ts).1.vars, Qy (Wo ts).1.cl, Qy (Qw ts).nm, Qy (Qw ts).ty, Qy (Qw ts).fi], Qy vals] (Qy (litsV vals (Qw ts))) := by
 have h := W4 hts
 obtain ⟨s1, s2, s3, s4⟩ := blast_size hts
 obtain ⟨b1, b2⟩ := nofull_bd nf
 have hl := qr (WZ ts) 64
 rw [blast_nm hts] at hl
 refine (literals_c _ _ _ _ _ vals (by omega) h.l2 h.l3 (fun x hx => ?_) (fun x hx => ?_) hv.1 (fun x hx => by have := hv.2 x hx; omega)).read
 ·obtain ⟨j, hj, rfl⟩ := mem_getD hx
  have := h.nm j hj
  omega
 ·obtain ⟨j, hj, rfl⟩ := mem_getD hx
  have := h.rng j (by have := h.l3; omega)
  have hw := widI_bd ((Qw ts).ty.getD j 0)
  omega
theorem follow_blast {F : Int -> Int} {ts : List Nd} (hts : Lot F ts) {vals : List Int} (hv : Vok vals) (nf : Zy (Wo ts).1 = false) (c2 c3 c4 : DV) :
  Go.Av.Pure Tryd.prog G 17 [.agg [.i (Wo ts).1.vars, Qy (Wo ts).1.cl, c2, c3, c4], Qy (litsV vals (Qw ts))] (retM (followM (Wo ts).1.cl (litsV vals (Qw ts)))) := by
 have h := W4 hts
 obtain ⟨s1, s2, s3, s4⟩ := blast_size hts
 obtain ⟨b1, b2⟩ := nofull_bd nf
 obtain ⟨a, g, _⟩ := blast_sem hts (vals := []) ⟨by decide, fun x hx => (by cases hx)⟩ (fun n _ => .inl (by unfold WM; split <;> rfl)) nf
 have hl := qr (WZ ts) 64
 rw [blast_nm hts] at hl
 refine follow_c _ _ c2 c3 c4 _ (by omega) (fun c hc => by have := s3 c hc; omega) ?_ (fun c hc x hx => ?_) (fun x hx => ?_)
 ·have := litsTo_len vals (Qw ts).nm (Qw ts).ty (Qw ts).fi (Qw ts).nm.length
  show (litsTo vals (Qw ts).nm (Qw ts).ty (Qw ts).fi (Qw ts).nm.length).length <= _
  omega
 ·obtain ⟨q1, q2, q3⟩ := g.lits c hc x hx
  exact ⟨by omega, by omega⟩
 ·obtain ⟨q1, q2, q3⟩ := (lits_true (vals := vals) h hx).1
  exact ⟨by omega, by omega⟩
end Go.Proofs
end
section
namespace Go.Proofs
open Go.Av
variable {G : Nat -> DV}
attribute [local irreducible] OpSem WE WY W0 ACalls ZE QV RV
open Go.Fv
theorem values2_nil (vs : Int) (cl : List (List Int)) (model : List Bool) : Go.Av.Pure Tryd.prog G 24 [.agg [.i vs, Qy cl, Qy ([] : List Int), Qy ([] : List Int), Qy ([] : List Int)], Qy model] .nil := fun B => by
 refine Qb Tryd.func24 rfl Tryd.ntmps24 rfl (t := [(0, .agg [.i vs, Qy cl, Qy ([] : List Int), Qy ([] : List Int), Qy ([] : List Int)]), (1, Qy model)]) rfl fun E hE => ?_
 (repeat' first | refine Qv rfl ?_ | refine Qc rfl rfl rfl ?_ | refine QH rfl rfl ?_ | refine Qn rfl ?_ | refine Qd rfl rfl ?_ | refine Q5 rfl rfl (fun _ _ => ?_) | refine Qe ?_ | refine Qp rfl ?_ | refine Qf ?_ | refine Qa ?_ | refine Qs rfl ?_ | refine Qm ?_ | fail)
 refine e_1 Tryd.results24 (Qh rfl) (Qr ?_)
 rfl
theorem values2_c (vs : Int) (cl : List (List Int)) (names types firsts : List Int) (model : List Bool) (hn : names.length <= 64) (h0 : 0 < names.length) (ht : types.length = names.length) (hf : firsts.length = names.length) (hb : ∀ x ∈ names, 0 <= x /\ x < 64) (hfb : ∀ x ∈ firsts, 1 <= x /\ x <= 100000) (hm : model.length <= 4611686018427387904) :
  Own Tryd.prog G 24 [.agg [.i vs, Qy cl, Qy names, Qy types, Qy firsts], Qy model] (Go.Fv.outM names types firsts model names.length).length 1 (Qq (Go.Fv.outM names types firsts model names.length)) := fun B => by
 have hm1 : -1 <= maxM names := max_le
 have hm2 : maxM names < 64 := max_lt (fun x hx => (hb x hx).2) (by omega)
 refine Qb Tryd.func24 rfl Tryd.ntmps24 rfl (t := [(0, .agg [.i vs, Qy cl, Qy names, Qy types, Qy firsts]), (1, Qy model)]) rfl fun E hE => ?_
 (repeat' first | refine Qt rfl ?_ | refine Qv rfl ?_ | refine Qc rfl rfl rfl ?_ | refine QH rfl rfl ?_ | refine QS rfl rfl (by omega) ?_ | refine Qn rfl ?_ | refine QZ rfl rfl (maxI_c names (by omega) h0 (fun x hx => (hb x hx).1)) ?_ | refine Qd rfl rfl ?_ | refine s_make rfl rfl rfl (by omega) (by omega) (by omega) (by omega) (fun _ _ => ?_) | refine Q5 rfl rfl (fun _ _ => ?_) | refine Qe ?_ | refine Qp rfl ?_ | refine Qf ?_ | refine Qa ?_ | refine Qg ?_ | refine Qj ?_ | refine QD rfl (by omega) ?_ | fail)
 rename_i g0 hg0 g1 hg1
 refine r_pubptr 2 rfl rfl (by rfl) ?_
 have hz : Qq (Go.Fv.outM names types firsts model 0) = WP [.int .i64 0] (maxM names + 1).toNat := (zeros_eq _).symm
 refine Wi (fun i : Nat => ⟨[(1, Qy model), (2, .ep [.i vs, Qy cl, Qy names, Qy types, Qy firsts]), (5, .ref 1 g1 0 (maxM names + 1).toNat 1), (21, Qy names), (22, .i names.length), (23, .i i)], [.gone, .row g1 (Qq (Go.Fv.outM names types firsts model i))]⟩) (fun i => i <= names.length) (fun i => names.length - i) 0 ?_ (by omega) ?_
 ·rw [hz]
  exact zal rfl
 intro i hi
 have hol := outM_len names types firsts model i
 by_cases hc : i < names.length
 ·have hit : i < types.length := by omega
  have hif : i < firsts.length := by omega
  have hbi := hb _ (List.getElem_mem hc)
  have hfi := hfb _ (List.getElem_mem hif)
  have hmx : names[i] <= maxM names := le_max (List.getElem_mem hc)
  have hwl := wid_le types[i]
  have hsu : Go.Fv.outM names types firsts model (i + 1) = (Go.Fv.outM names types firsts model i).set (names[i]).toNat (valM model types[i] firsts[i]) := by
   rw [Go.Fv.outM, Ord.getD_lt hc, Ord.getD_lt hit, Ord.getD_lt hif]
  clear hb hfb
  (repeat' first | refine Qt rfl ?_ | refine Qv rfl ?_ | refine QF rfl ?_ | refine Qo rfl rfl (by first | assumption | omega | (simp; done) | (simp; omega)) ?_ | refine QG rfl rfl ?_ | refine QZ rfl rfl (widthV_c _) ?_ | refine s_fld_ep rfl rfl ?_ | refine Qe ?_ | refine Qp rfl ?_ | refine Qf ?_ | refine Qa ?_ | refine Qg ?_ | refine Qj ?_ | refine Qx rfl (by omega) ?_ | fail)
  refine Wi (fun k : Nat => ⟨[(1, Qy model), (2, .ep [.i vs, Qy cl, Qy names, Qy types, Qy firsts]), (5, .ref 1 g1 0 (maxM names + 1).toNat 1), (21, Qy names), (22, .i names.length), (23, .i i), (6, .i i), (7, .i names[i]), (8, .i (nM model (firsts[i] - 1).toNat k)), (33, .i (wid types[i])), (34, .i k)], [.gone, .row g1 (Qq (Go.Fv.outM names types firsts model i))]⟩) (fun k => k <= wid types[i]) (fun k => wid types[i] - k) 0 ?_ (by omega) ?_
  ·exact zal rfl
  intro k hk
  have hnl := nM_lt model (firsts[i] - 1).toNat k
  by_cases hkw : k < wid types[i]
  ·have hor := or_pow k (by omega) _ hnl
   have e : (firsts[i] - 1 + (k : Int)).toNat = (firsts[i] - 1).toNat + k := by omega
   have hn1 : nM model (firsts[i] - 1).toNat (k + 1) = if bitM model ((firsts[i] - 1).toNat + k) then nM model (firsts[i] - 1).toNat k + 2 ^ k else nM model (firsts[i] - 1).toNat k := rfl
   by_cases hml : firsts[i] - 1 + (k : Int) < model.length
   ·have hlt : (firsts[i] - 1 + (k : Int)).toNat < model.length := by omega
    have hbm : bitM model ((firsts[i] - 1).toNat + k) = model[(firsts[i] - 1 + (k : Int)).toNat]'hlt := by
     unfold bitM
     rw [Ord.getD_lt (by omega)]
     simp only [e]
    (repeat' first | refine Qt rfl ?_ | refine Qv rfl ?_ | refine QF rfl ?_ | refine Qo rfl rfl (by first | assumption | omega | (simp; done) | (simp; omega)) ?_ | refine s_idx_sl rfl rfl (by omega) (by first | assumption | omega | (simp; done) | (simp; omega)) ?_ | refine QG rfl rfl ?_ | refine QS rfl rfl (by omega) ?_ | refine Zn rfl rfl (by omega) ?_ | refine Qn rfl ?_ | refine WR rfl rfl ?_ | refine s_fld_ep rfl rfl ?_ | refine Qe ?_ | refine Qp rfl ?_ | refine WC rfl rfl rfl rfl ?_ | refine Wm rfl rfl (by omega) ?_ | refine Qf ?_ | refine Qa ?_ | refine Qg ?_ | refine Qj ?_ | refine Qx rfl (by omega) ?_ | fail)
    refine r_cond rfl (fun h => ?_) (fun h => ?_)
    ·rw [hbm, h, if_pos rfl] at hn1
     (repeat' first | refine Qt rfl ?_ | refine Qv rfl ?_ | refine QS rfl rfl (by omega) ?_ | refine s_or rfl rfl ?_ | refine s_shl rfl rfl (by omega) ?_ | refine Qe ?_ | refine Qp rfl ?_ | refine Qa ?_ | fail)
     refine ⟨k + 1, hkw, by omega, ?_⟩
     rw [hn1, <- hor]
     exact zal rfl
    ·rw [hbm, h, if_neg (by decide)] at hn1
     (repeat' first | refine Qt rfl ?_ | refine QS rfl rfl (by omega) ?_ | refine Qe ?_ | refine Qp rfl ?_ | refine Qa ?_ | refine Qj ?_ | fail)
     refine ⟨k + 1, hkw, by omega, ?_⟩
     rw [hn1]
     exact zal rfl
   ·have hbm : bitM model ((firsts[i] - 1).toNat + k) = false := by
     unfold bitM
     rw [List.getD_eq_getElem?_getD, List.getElem?_eq_none (by omega)]; rfl
    rw [hbm, if_neg (by decide)] at hn1
    (repeat' first | refine Qt rfl ?_ | refine Qv rfl ?_ | refine QF rfl ?_ | refine Qo rfl rfl (by first | assumption | omega | (simp; done) | (simp; omega)) ?_ | refine QG rfl rfl ?_ | refine QS rfl rfl (by omega) ?_ | refine Zn rfl rfl (by omega) ?_ | refine Qn rfl ?_ | refine Wk rfl rfl ?_ | refine s_fld_ep rfl rfl ?_ | refine Qe ?_ | refine Qp rfl ?_ | refine WO rfl rfl rfl rfl ?_ | refine Wn rfl rfl (by omega) ?_ | refine Qf ?_ | refine Qa ?_ | refine Qg ?_ | refine Qj ?_ | refine Qi rfl ?_ | refine Qx rfl (by omega) ?_ | fail)
    refine ⟨k + 1, hkw, by omega, ?_⟩
    rw [hn1]
    exact zal rfl
  ·by_cases ht1 : types[i] = 1
   ·have hkk : k = 1 := by unfold wid at hkw hk; rw [if_pos ht1] at hkw hk; omega
    subst hkk
    rw [valM, if_pos ht1] at hsu
    (repeat' first | refine Qt rfl ?_ | refine QF rfl ?_ | refine Qo rfl rfl (by first | assumption | omega | (simp; done) | (simp; omega)) ?_ | refine s_idx_ref1i rfl rfl rfl (by omega) (by omega) ?_ | refine QG rfl rfl ?_ | refine W6 rfl rfl ?_ | refine QS rfl rfl (by omega) ?_ | refine s_fld_ep rfl rfl ?_ | refine Q2 rfl rfl rfl rfl rfl (by first | assumption | omega) rfl ?_ | refine Qe ?_ | refine Qp rfl ?_ | refine Q0 ?_ | refine Qf ?_ | refine Qa ?_ | refine Qj ?_ | refine QD rfl (by omega) ?_ | refine QU rfl ?_ | fail)
    refine ⟨i + 1, hc, by omega, ?_⟩
    rw [hsu]
    exact zal rfl
   ·have hkk : k = 4 := by unfold wid at hkw hk; rw [if_neg ht1] at hkw hk; omega
    subst hkk
    rw [valM, if_neg ht1] at hsu
    have h16 : nM model (firsts[i] - 1).toNat 4 < 16 := hnl
    have hol2 : ((Go.Fv.outM names types firsts model i).set (names[i]).toNat (nM model (firsts[i] - 1).toNat 4 : Nat)).length = (maxM names + 1).toNat := by rw [List.length_set]; exact hol
    have hss : Go.Fv.outM names types firsts model (i + 1) = ((Go.Fv.outM names types firsts model i).set (names[i]).toNat (nM model (firsts[i] - 1).toNat 4)).set (names[i]).toNat (wrapM (nM model (firsts[i] - 1).toNat 4)) := by rw [hsu, List.set_set]
    (repeat' first | refine Qt rfl ?_ | refine QF rfl ?_ | refine Qo rfl rfl (by first | assumption | omega | (simp; done) | (simp; omega)) ?_ | refine s_idx_ref1i rfl rfl rfl (by omega) (by omega) ?_ | refine QG rfl rfl ?_ | refine W6 rfl rfl ?_ | refine QS rfl rfl (by omega) ?_ | refine QZ rfl rfl (wWrap_c _ (by assumption)) ?_ | refine s_fld_ep rfl rfl ?_ | refine Q2 rfl rfl rfl rfl rfl (by first | assumption | omega) rfl ?_ | refine Qe ?_ | refine Qp rfl ?_ | refine Q0 ?_ | refine Qf ?_ | refine Qa ?_ | refine Qx rfl (by omega) ?_ | refine QD rfl (by omega) ?_ | refine QU rfl ?_ | fail)
    refine ⟨i + 1, hc, by omega, ?_⟩
    rw [hss]
    exact zal rfl
 ·have : i = names.length := by omega
  subst this
  rw [<- hol]
  (repeat' first | refine Qt rfl ?_ | refine Qv rfl ?_ | refine QG rfl rfl ?_ | refine Qe ?_ | refine Qp rfl ?_ | refine Qf ?_ | refine Qa ?_ | refine QD rfl (by omega) ?_ | refine QU rfl ?_ | refine Qm ?_ | fail)
  exact e_1 Tryd.results24 (Qh rfl) (c_ownedB hE rfl rfl rfl rfl)
end Go.Proofs
end
section
namespace Go.Proofs
open Go.Av
variable {G : Nat -> DV}
attribute [local irreducible] OpSem WE WY W0 ACalls ZE QV RV
open Go.Bl Go.Fo
def satC (model : List Bool) (c : List Int) : Bool := c.any fun x => ltv (bm model) x
theorem sat_lit {model : List Bool} {x : Int} (h0 : x ≠ 0) (h1 : -(model.length : Int) <= x) (h2 : x <= model.length) (hk : (max x (-x) - 1).toNat < model.length) : ltv (bm model) x = (model[(max x (-x) - 1).toNat] == decide (0 < x)) := by
 unfold ltv bm
 by_cases hp : 0 < x
 ·rw [if_pos hp, List.getD_eq_getElem?_getD, List.getElem?_eq_getElem (by omega), decide_eq_true hp]
  show model[x.toNat - 1] = _
  have e : (max x (-x) - 1).toNat = x.toNat - 1 := by omega
  simp only [e]
  cases model[x.toNat - 1] <;> rfl
 ·rw [if_neg hp, List.getD_eq_getElem?_getD, List.getElem?_eq_getElem (by omega), decide_eq_false hp]
  show (!model[(-x).toNat - 1]) = _
  have e : (max x (-x) - 1).toNat = (-x).toNat - 1 := by omega
  simp only [e]
  cases model[(-x).toNat - 1] <;> rfl
theorem anyc_succ {c : List Int} {f : Int -> Bool} {k : Nat} (h : k < c.length) : (c.take (k + 1)).any f = ((c.take k).any f || f c[k]) := by
 rw [List.take_succ_eq_append_getElem h, List.any_append, List.any_cons, List.any_nil, Bool.or_false]
theorem satisfied_c (cl : List (List Int)) (model : List Bool) (hcl : cl.length <= 100000) (hml : model.length <= 100000) (hc : ∀ c ∈ cl, c.length <= 1000 /\ ∀ x ∈ c, x ≠ 0 /\ -(model.length : Int) <= x /\ x <= model.length) : Go.Av.Pure Tryd.prog G 26 [Qy cl, Qy model] (.b (cl.all (satC model))) := fun B => by
 refine Qb Tryd.func26 rfl Tryd.ntmps26 rfl (t := [(0, Qy cl), (1, Qy model)]) rfl fun E hE => ?_
 (repeat' first | refine Qv rfl ?_ | refine Qe ?_ | refine Qp rfl ?_ | refine Qf ?_ | refine Qa ?_ | refine Qg ?_ | fail)
 refine Wi (fun (i : Nat) => ⟨[(0, Qy cl), (1, Qy model), (5, .i i)], []⟩) (fun i => i <= cl.length /\ (cl.take i).all (satC model) = true) (fun i => cl.length - i) 0 ?_ ⟨by omega, rfl⟩ ?_
 ·exact zal rfl
 intro i ⟨hi2, hacc⟩
 by_cases hj : i < cl.length
 ·obtain ⟨hc1, hc2⟩ := hc _ (List.getElem_mem hj)
  clear hc
  (repeat' first | refine Qt rfl ?_ | refine Qv rfl ?_ | refine QG rfl rfl ?_ | refine Qn rfl ?_ | refine Qe ?_ | refine Qp rfl ?_ | refine Qf ?_ | refine Qa ?_ | refine Qg ?_ | refine Qj ?_ | refine Qx rfl (by omega) ?_ | fail)
  refine Wi (fun (k : Nat) => ⟨[(0, Qy cl), (1, Qy model), (5, .i i), (6, .b ((cl[i].take k).any fun x => ltv (bm model) x)), (7, .i k)], []⟩) (fun k => k <= cl[i].length) (fun k => cl[i].length - k) 0 ?_ (by omega) ?_
  ·exact zal rfl
  intro k hk
  by_cases hkc : k < cl[i].length
  ·obtain ⟨x0, x1, x2⟩ := hc2 _ (List.getElem_mem hkc)
   have hx : (max cl[i][k] (-cl[i][k]) - 1).toNat < model.length := by omega
   have hsu := anyc_succ (f := fun x => ltv (bm model) x) hkc
   have hl := sat_lit x0 x1 x2 hx
   clear hc2 hacc
   cases hb : (cl[i].take k).any fun x => ltv (bm model) x with
   | true =>
    rw [hb, Bool.true_or] at hsu
    (repeat' first | refine Qt rfl ?_ | refine Qv rfl ?_ | refine QF rfl ?_ | refine Qo rfl rfl (by first | assumption | omega | (simp; done) | (simp; omega)) ?_ | refine QG rfl rfl ?_ | refine s_leq rfl rfl ?_ | refine Wv rfl rfl ?_ | refine QS rfl rfl (by omega) ?_ | refine s_max_m rfl rfl ?_ | refine Qn rfl ?_ | refine WR rfl rfl ?_ | refine Z1 rfl (by omega) ?_ | refine Qe ?_ | refine Qp rfl ?_ | refine WC rfl rfl rfl rfl ?_ | refine WO rfl rfl rfl rfl ?_ | refine Wm rfl rfl (by omega) ?_ | refine Qf ?_ | refine Qa ?_ | refine Qg ?_ | refine Qj ?_ | refine Qx rfl (by omega) ?_ | fail)
    refine ⟨k + 1, by omega, by omega, ?_⟩
    rw [hsu]
    exact zal rfl
   | false =>
    rw [hb, Bool.false_or, hl] at hsu
    (repeat' first | refine Qt rfl ?_ | refine Qv rfl ?_ | refine QF rfl ?_ | refine Qo rfl rfl (by first | assumption | omega | (simp; done) | (simp; omega)) ?_ | refine s_idx_sl rfl rfl (by omega) (by first | assumption | omega | (simp; done) | (simp; omega)) ?_ | refine QG rfl rfl ?_ | refine s_leq rfl rfl ?_ | refine s_gtr rfl rfl ?_ | refine Wv rfl rfl ?_ | refine s_eql_b rfl rfl ?_ | refine QS rfl rfl (by omega) ?_ | refine Zn rfl rfl (by omega) ?_ | refine s_max_m rfl rfl ?_ | refine Qn rfl ?_ | refine WR rfl rfl ?_ | refine Wk rfl rfl ?_ | refine Z1 rfl (by omega) ?_ | refine Qe ?_ | refine Qp rfl ?_ | refine WC rfl rfl rfl rfl ?_ | refine Wm rfl rfl (by omega) ?_ | refine Qf ?_ | refine Qa ?_ | refine Qg ?_ | refine Qj ?_ | refine Qx rfl (by omega) ?_ | fail)
    refine ⟨k + 1, by omega, by omega, ?_⟩
    rw [hsu]
    exact zal rfl
  ·have hkc : k = cl[i].length := by omega
   subst hkc
   rw [List.take_length]
   clear hc2
   cases hb : cl[i].any fun x => ltv (bm model) x with
   | true =>
    have hacc' : (cl.take (i + 1)).all (satC model) = true := by
     rw [List.take_succ_eq_append_getElem hj, List.all_append, hacc, List.all_cons, List.all_nil]
     unfold satC; rw [hb]; rfl
    (repeat' first | refine Qt rfl ?_ | refine Qv rfl ?_ | refine QF rfl ?_ | refine Qo rfl rfl (by first | assumption | omega | (simp; done) | (simp; omega)) ?_ | refine QG rfl rfl ?_ | refine QS rfl rfl (by omega) ?_ | refine Qn rfl ?_ | refine ZQ rfl ?_ | refine Qe ?_ | refine Qp rfl ?_ | refine Qf ?_ | refine Qa ?_ | refine Qj ?_ | refine Qi rfl ?_ | refine QD rfl (by omega) ?_ | refine QU rfl ?_ | fail)
    refine ⟨i + 1, ⟨by omega, hacc'⟩, by omega, ?_⟩
    exact zal rfl
   | false =>
    have hf : cl.all (satC model) = false := by
     rw [List.all_eq_false]
     exact ⟨_, List.getElem_mem hj, by unfold satC; rw [hb]; decide⟩
    rw [hf]
    (repeat' first | refine Qt rfl ?_ | refine Qv rfl ?_ | refine QF rfl ?_ | refine Qo rfl rfl (by first | assumption | omega | (simp; done) | (simp; omega)) ?_ | refine QG rfl rfl ?_ | refine Qn rfl ?_ | refine ZQ rfl ?_ | refine Qe ?_ | refine Qp rfl ?_ | refine Qf ?_ | refine Qa ?_ | refine Qs rfl ?_ | refine QD rfl (by omega) ?_ | refine QU rfl ?_ | refine Qm ?_ | fail)
    refine e_1 Tryd.results26 (Qh rfl) (Qr ?_)
    rfl
 ·rw [List.take_of_length_le (by omega)] at hacc
  rw [hacc]
  clear hc
  (repeat' first | refine Qt rfl ?_ | refine Qv rfl ?_ | refine QG rfl rfl ?_ | refine Qn rfl ?_ | refine Qe ?_ | refine Qp rfl ?_ | refine Qf ?_ | refine Qa ?_ | refine QD rfl (by omega) ?_ | refine QU rfl ?_ | refine Qm ?_ | fail)
  refine e_1 Tryd.results26 (Qh rfl) (Qr ?_)
  rfl
theorem satB_iff {cl : List (List Int)} {model : List Bool} : cl.all (satC model) = true ↔ Sat cl model := by
 rw [List.all_eq_true]
 constructor
 ·intro h c hc
  have := h c hc
  unfold satC at this
  rw [List.any_eq_true] at this
  exact this
 ·intro h c hc
  unfold satC
  rw [List.any_eq_true]
  exact h c hc
end Go.Proofs
end
section
namespace Go.Av
open Classical
section
variable {P : Program} {G : Nat -> DV}
theorem Own.view {f : FuncId} {args args' : List DV} {len es : Nat} {cs : List DV} (h : Own P G f args' len es cs) (hc : ∀ d ∈ cs, d.flat = true) {B : Nat} {σ : List ABlk} (hvw : View σ args args') : ACalls P G B f args σ (fun d' σ' => ∃ g, B < g /\ d' = .ref σ.length g 0 len es /\ σ' = σ ++ [.row g cs]) := fun X vs hS hσ hB hG hv => by
 subst hσ
 obtain ⟨k1, k2⟩ := hvw.get hS
 refine (h X.N (X.aside True) vs (hS.aside _) rfl (Nat.le_refl _) (fun g => ⟨(hG g).1, (hG g).2.mono (Z7 _)⟩) ⟨by rw [hv.1, k1], fun j e hj => (by
  have hlt : j < args.length := by rw [k1]; exact (List.getElem?_eq_some_iff.1 hj).1
  exact k2 j _ e _ (List.getElem?_eq_getElem hlt) hj (hv.2 j _ (List.getElem?_eq_getElem hlt)))⟩).mono ?_
 rintro e w' ⟨v, he, Y, hw, hY, hE, d', hr, g, hg, rfl, hσ'⟩
 subst hw
 have hback := hS.back hE
 have hEb := WExt.back hS hE
 have hY0 : Y.σ[0]? = some (.row g cs) := by rw [hσ']; rfl
 have hlY : Y.live 0 g := Wr hY0
 have hgN : g <= Y.N := hY.gen 0 g hlY
 have hnew : ∀ b n, Y.ρ 0 = some (b, n) -> X.w.heap.size <= b := fun b n hb => by
  rcases Nat.lt_or_ge b X.w.heap.size with hlt | hge
  ·exact absurd ⟨0, g, n, hlY, hb⟩ (hE.old b hlt Zk).2
  ·exact hge
 let Z : AX := { w := Y.w, ρ := fun i => if i = X.σ.length then Y.ρ 0 else X.ρ i, σ := X.σ ++ [.row g cs], N := Y.N, hid := X.hid }
 have hlive : ∀ k g', Z.live k g' ↔ (k < X.σ.length /\ X.live k g') \/ (k = X.σ.length /\ g' = g) := fun k g' => by
  have := AX.push_live (X := X) (w' := Y.w) (ob := Y.ρ 0) (B := .row g cs) (k := k) (g := g')
  simp only [ABlk.gen?, Option.some.injEq] at this
  rw [show Z.live k g' ↔ (X.push Y.w (Y.ρ 0) (.row g cs)).live k g' from Iff.rfl, this]
  constructor <;> (rintro (h | ⟨h1, h2⟩); exact .inl h; exact .inr ⟨h1, h2.symm⟩)
 have hρ1 : ∀ k, k < X.σ.length -> Z.ρ k = X.ρ k := fun k hk => by simp only [Z]; rw [if_neg (by omega)]
 have hρ2 : Z.ρ X.σ.length = Y.ρ 0 := by simp only [Z, if_true]
 have hmut : ∀ b, Z.mut b -> X.mut b \/ X.w.heap.size <= b := fun b ⟨k, g', n, hl, hr⟩ => by
  rcases (hlive k g').1 hl with ⟨h1, h2⟩ | ⟨h1, _⟩
  ·rw [hρ1 k h1] at hr; exact .inl ⟨k, g', n, h2, hr⟩
  ·rw [h1, hρ2] at hr; exact .inr (hnew b n hr)
 have hEZ : WExt X Z := {
  hid := rfl, top := hE.top, os := hE.os, tape := hE.tape, output := hE.output, size := hE.size
  old := fun b hb hm => ⟨(hE.old b hb Zk).1, fun hz => by rcases hmut b hz with h | h; exact hm h; omega⟩
  rows := fun k g' hg' hl => by
   rcases (hlive k g').1 hl with ⟨h1, h2⟩ | ⟨h1, h2⟩
   ·exact ⟨h2, hρ1 k h1⟩
   ·omega }
 have hSZ : Sto Z := {
  inj := fun k k' g1 g1' b n n' hl hl' hr hr' => by
   rcases (hlive k g1).1 hl with ⟨h1, h2⟩ | ⟨h1, h2⟩ <;> rcases (hlive k' g1').1 hl' with ⟨h1', h2'⟩ | ⟨h1', h2'⟩
   ·rw [hρ1 k h1] at hr; rw [hρ1 k' h1'] at hr'; exact hS.inj k k' g1 g1' b n n' h2 h2' hr hr'
   ·rw [hρ1 k h1] at hr; rw [h1', hρ2] at hr'; have := hS.ρ_lt h2 hr; have := hnew b n' hr'; omega
   ·rw [hρ1 k' h1'] at hr'; rw [h1, hρ2] at hr; have := hS.ρ_lt h2' hr'; have := hnew b n hr; omega
   ·rw [h1, h1']
  gen := fun k g' hl => by
   rcases (hlive k g').1 hl with ⟨h1, h2⟩ | ⟨h1, h2⟩
   ·exact Nat.le_trans (hS.gen k g' h2) hE.top
   ·rw [h2]; exact hgN
  hid := fun b ⟨k, g', n, hl, hr⟩ hh => by
   rcases (hlive k g').1 hl with ⟨h1, h2⟩ | ⟨h1, h2⟩
   ·rw [hρ1 k h1] at hr; exact hS.hid b ⟨k, g', n, h2, hr⟩ hh
   ·rw [h1, hρ2] at hr; have := hnew b n hr; have := hS.hidlt b hh; omega
  hidlt := fun b hb => Nat.lt_of_lt_of_le (hS.hidlt b hb) hE.size
  holds := fun k B' hB' => by
   simp only [Z, List.getElem?_append] at hB'
   split at hB'
   ·rename_i hlt
    rw [hρ1 k hlt]
    cases hg' : B'.gen? with
    | none => cases B' <;> first | trivial | cases hg'
    | some g' => exact (hS.holds k B' hB').mono hEZ.le fun b n hb => (hE.old b (hS.ρ_lt ((AX.live_get hB').2 hg') hb) Zk).1
   ·rename_i hge
    have hkl : k = X.σ.length := by
     rcases Nat.lt_or_ge (k - X.σ.length) 1 with h' | h'
     ·omega
     ·rw [List.getElem?_eq_none (by simpa using h')] at hB'; cases hB'
    subst hkl
    simp at hB'
    subst hB'
    rw [hρ2]
    have hh := hY.holds 0 _ hY0
    cases hρ0 : Y.ρ 0 with
    | none => rw [hρ0] at hh; exact hh
    | some x =>
     obtain ⟨b, n⟩ := x
     rw [hρ0] at hh
     obtain ⟨arr, T, fr, q1, q2, q3, q4, q5⟩ := hh
     exact ⟨arr, T, fr, q1, q2, q3, q4, fun j d hj => ⟨(q5 j d hj).1, (q5 j d hj).2.flat (hc d (List.mem_of_getElem? hj))⟩⟩ }
 have hinv := hr.ref_inv hY0
 refine ⟨v, he, Z, rfl, hSZ, hEZ, .ref X.σ.length g 0 len es, ?_, g, by omega, rfl, rfl⟩
 cases hr with | ref _ _ _ _ _ a l c _ _ =>
 refine .ref _ _ _ _ _ _ _ _ hgN fun ob hob => ?_
 rw [AX.row_mk ((hlive _ _).2 (.inr ⟨rfl, rfl⟩)), hρ2] at hob
 rw [<- Option.some.inj hob]
 exact hinv
theorem encs_flat (l : List Int) : ∀ d ∈ Qq l, d.flat = true := fun d hd => by
 unfold Qq at hd
 obtain ⟨x, _, hx⟩ := List.mem_flatMap.1 hd
 rw [List.mem_singleton.1 hx]; rfl
variable {B : Nat} {f : Operand -> DV} {σ : List ABlk} {K : DV -> List ABlk -> Prop} {dst : Option Tmp} {type : TypeId} {pos : String} {after : Array Edge} {gd : Option (Nat × Bool)}
theorem s_call_vo {args : Array Operand} {ts : Array TypeId} {fid : FuncId} {ds ds' cs : List DV} {len es : Nat} [FnOk P fid] (hx : f (.func fid) = .fn (.func fid) [] []) (hds : reL (args.toList.map f) = some ds) (hv : View σ ds ds') (h : Own P G fid ds' len es cs) (hc : ∀ d ∈ cs, d.flat = true) (k : ∀ g, B < g -> K (.ref σ.length g 0 len es) (σ ++ [.row g cs])) :
  OpSem P G B ⟨dst, .call ⟨.value (.func fid), args, ts⟩, type, pos, after, gd⟩ f σ K := s_call hx hds ((h.view hc hv).mono fun _ _ ⟨g, hg, h1, h2⟩ => by rw [h1, h2]; exact k g hg)
end
section
variable {P : Program} {G : Nat -> DV} {B : Nat} {f : Operand -> DV} {σ : List ABlk} {K : DV -> List ABlk -> Prop} {dst : Option Tmp} {type : TypeId} {pos : String} {after : Array Edge} {gd : Option (Nat × Bool)}
end
theorem s_build_w {P : Program} {G : Nat -> DV} {B : Nat} {f : Operand -> DV} {σ : List ABlk} {K : DV -> List ABlk -> Prop} {dst : Option Tmp} {type : TypeId} {pos : String} {after : Array Edge} {gd : Option (Nat × Bool)} {t : TypeId} {ps : Array (Nat × Operand)} {d0 d1 : DV} {σ1 : List ABlk} (h : OpSem P G B ⟨dst, .build t ps, type, pos, after, gd⟩ f σ (fun d s => d = d0 /\ s = σ1)) (hs : ∀ (L : Lay) (v : Value), VRep L d0 v -> VRep L d1 v) (k : K d1 σ1) : OpSem P G B ⟨dst, .build t ps, type, pos, after, gd⟩ f σ K := fun X ρ h1 h2 h3 h4 h5 => by
 have hs' := h X ρ h1 h2 h3 h4 h5
 generalize (execOp ρ ⟨dst, .build t ps, type, pos, after, gd⟩).run P X.w = r at hs' ⊢
 have ap : ∀ v w', APost X (fun d s => d = d0 /\ s = σ1) v w' -> APost X K v w' := fun v w' ⟨X', a, b, c, d, hd, e1, e2⟩ => ⟨X', a, b, c, d1, hs _ _ (by rw [<- e1]; exact hd), by rw [e2]; exact k⟩
 cases r with
 | ok nx w' =>
  cases nx <;> simp only [OPost] at hs' ⊢
  case value v => exact ap _ _ hs'
  case skip => exact ap _ _ hs'
  case enter f args => exact ⟨hs'.1, hs'.2.mono fun e w'' ⟨v, he, hp⟩ => ⟨v, he, ap _ _ hp⟩⟩
 | halt hh w' => simp only [OPost] at hs'
section
variable {P : Program} {G : Nat -> DV} {n : Nat} {ops : Array Oper} {B : Nat} {t : Fr} {σ : List ABlk} {ι : Type} {I : ι -> List ABlk}
end
end Go.Av
end
section
namespace Go.Proofs
open Go.Av
variable {G : Nat -> DV}
attribute [local irreducible] OpSem WE WY W0 ACalls ZE QV RV
open Go.Bl Go.Fo
def exT : Nd := .mk 9 10 0 [.mk 6 0 0 [], .mk 4 3 0 []]
theorem exT_ok : Lot F4 [exT] := by
 have h : Tt exT 1 := Tt.bin (n := 10) (by decide) (.var (m := 0) (by decide) (.inl rfl)) (.num (by decide))
 refine ⟨fun t ht => ?_, fun t ht p hp => ?_, by decide, by decide⟩
 ·rw [List.mem_singleton.1 ht]; exact h
 ·rw [List.mem_singleton.1 ht] at hp
  have hp : p ∈ [((0 : Int), (0 : Int))] := hp
  rw [List.mem_singleton.1 hp]; rfl
theorem vtr_one (v : Int) : Vtr F4 [v] := fun n hn => by
 left
 have h2 : 2 <= n := by
  unfold F4 at hn
  split at hn
  ·cases hn
  ·omega
 unfold WM
 rw [if_neg]
 show ¬ n < ((1 : Nat) : Int)
 omega
theorem lives2_c (hG0 : G 0 = opsD) (hG1 : G 1 = pow10T) : Go.Av.Pure Tryd.prog G 15 [] (.b true) := fun B => by
 have hts := exT_ok
 have hF : ∀ n, 0 <= F4 n := fun n => by
   unfold F4; split; · omega
   ·split <;> omega
 have hsz : QW [exT] = 3 := by rfl
 have nf : Zy (Wo [exT]).1 = false := Bool.eq_false_iff.2 fun h => by have := blast_nofull hts h; omega
 have hblast := blast_c hG0 hG1 hts
 unfold blastR at hblast
 rw [if_neg (by rw [nf]; decide)] at hblast
 have hformed := formed_blast (G := G) hts hF (by omega) nf
 have vok : ∀ v : Int, -8 <= v /\ v <= 7 -> Vok [v] := fun v h => ⟨Nat.le_of_ble_eq_true rfl, fun x hx => by rw [List.mem_singleton.1 hx]; exact h⟩
 have yes : ∀ v : Int, -8 <= v /\ v <= 7 -> evN [v] exT = 1 -> ∃ lits o : List Int, Go.Av.Pure Tryd.prog G 18 [.agg [.i (Wo [exT]).1.vars, Qy (Wo [exT]).1.cl, Qy (Qw [exT]).nm, Qy (Qw [exT]).ty, Qy (Qw [exT]).fi], Qy [v]] (Qy lits) /\ Go.Av.Pure Tryd.prog G 17 [.agg [.i (Wo [exT]).1.vars, Qy (Wo [exT]).1.cl, Qy (Qw [exT]).nm, Qy (Qw [exT]).ty, Qy (Qw [exT]).fi], Qy lits] (.tup [Qy o, .b true]) := fun v hv he => by
  obtain ⟨a, _, _, hfm⟩ := blast_follow hts (vok v hv) (vtr_one v) nf
  have hfo := follow_blast (G := G) hts (vok v hv) nf (Qy (Qw [exT]).nm) (Qy (Qw [exT]).ty) (Qy (Qw [exT]).fi)
  rw [hfm, if_pos (by rw [List.all_cons, List.all_nil, he]; rfl)] at hfo
  exact ⟨_, _, lits_blast hts (vok v hv) nf, hfo⟩
 have no : ∀ v : Int, -8 <= v /\ v <= 7 -> evN [v] exT = 0 -> ∃ lits : List Int, Go.Av.Pure Tryd.prog G 18 [.agg [.i (Wo [exT]).1.vars, Qy (Wo [exT]).1.cl, Qy (Qw [exT]).nm, Qy (Qw [exT]).ty, Qy (Qw [exT]).fi], Qy [v]] (Qy lits) /\ Go.Av.Pure Tryd.prog G 17 [.agg [.i (Wo [exT]).1.vars, Qy (Wo [exT]).1.cl, Qy (Qw [exT]).nm, Qy (Qw [exT]).ty, Qy (Qw [exT]).fi], Qy lits] (.tup [.nil, .b false]) := fun v hv he => by
  obtain ⟨a, _, _, hfm⟩ := blast_follow hts (vok v hv) (vtr_one v) nf
  have hfo := follow_blast (G := G) hts (vok v hv) nf (Qy (Qw [exT]).nm) (Qy (Qw [exT]).ty) (Qy (Qw [exT]).fi)
  rw [hfm, if_neg (by rw [List.all_cons, List.all_nil, he]; decide)] at hfo
  exact ⟨_, lits_blast hts (vok v hv) nf, hfo⟩
 obtain ⟨k2, o2, hl2, hf2⟩ := yes 2 (by decide) (by kernel_rfl)
 obtain ⟨k3, hl3, hf3⟩ := no 3 (by decide) (by kernel_rfl)
 obtain ⟨k1, o1, hl1, hf1⟩ := yes (-1) (by decide) (by kernel_rfl)
 have e0 : followM [[1, 2], [-1, 3]] [-2] = some [1, -2, 3] := by kernel_rfl
 have hf0 := follow_c (G := G) 3 [[1, 2], [-1, 3]] .nil .nil .nil [-2] (by decide) (by decide) (by decide) (by decide) (by decide)
 rw [e0] at hf0
 change Go.Av.Pure _ _ _ _ (.tup [Qy ([1, -2, 3] : List Int), .b true]) at hf0
 have hsi := sameIntsV_c (G := G) [1, -2, 3] [1, -2, 3] (by decide) (by decide)
 rw [decide_eq_true rfl] at hsi
 have hvar := r20Var_c (G := G) 0 0
 have hbin := r20Bin_c (G := G) 10 (.mk 6 0 0 []) (.mk 4 3 0 [])
 have ex : Qy [exT] = .sl 4 [.i 9, .i 10, .i 0, Qy [Nd.mk 6 0 0 [], Nd.mk 4 3 0 []]] := (sl_nd1 9 10 0 _).symm
 rw [ex] at hblast hformed
 rw [We 6 0 0] at hvar
 rw [We 6 0 0, We 4 3 0, We 9 10 0] at hbin
 generalize (Wo [exT]).1.vars = vs at *
 generalize (Wo [exT]).1.cl = cl at *
 generalize (Qw [exT]).nm = nm at *
 generalize (Qw [exT]).ty = ty at *
 generalize (Qw [exT]).fi = fi at *
 clear yes no vok nf hts
 refine Qb Tryd.func15 rfl Tryd.ntmps15 rfl (t := []) rfl fun E hE => ?_
 (repeat' first | refine Qt rfl ?_ | refine Qv rfl ?_ | refine Qu rfl rfl (by first | assumption | exact Enc.len _ | rfl) ?_ | refine W6 rfl rfl ?_ | refine QZ rfl rfl (hvar) ?_ | refine QZ rfl rfl (hbin) ?_ | refine QZ rfl rfl (hblast) ?_ | refine QZ rfl rfl (hformed) ?_ | refine QZ rfl rfl (hf0) ?_ | refine QZ rfl rfl (hsi) ?_ | refine WR rfl rfl ?_ | refine Wk rfl rfl ?_ | refine Ql rfl rfl rfl (by first | assumption | exact Enc.len _ | rfl) (by first | assumption | exact Enc.len _ | rfl) rfl ?_ | refine s_build_w (Zi rfl rfl ⟨rfl, rfl⟩) (fun _ _ => (sub_nd (.i 4) (.i 3) (.i 0) 4).rep) ?_ | refine Zi rfl rfl ?_ | refine ZQ rfl ?_ | refine Wh rfl rfl rfl ?_ | refine Wl rfl rfl (by decide) rfl ?_ | refine QJ (fun _ _ => ?_) | refine Qe ?_ | refine Qp rfl ?_ | refine Q0 ?_ | refine WC rfl rfl rfl rfl ?_ | refine Qf ?_ | refine Qa ?_ | (refine Wa ?_; first | refine Wj (by rfl) (by kernel_rfl) (by kernel_rfl) ?_ | refine QT (by kernel_rfl) (by kernel_rfl) ?_) | refine Qj ?_ | refine Qi rfl ?_ | refine Qm ?_ | refine x_op rfl (by (repeat' first | refine Qt rfl ?_ | refine Qv rfl ?_ | refine Qu rfl rfl (by first | assumption | exact Enc.len _ | rfl) ?_ | refine QZ rfl rfl (hl2) ?_ | refine QZ rfl rfl (hl3) ?_ | refine QZ rfl rfl (hl1) ?_ | refine QZ rfl rfl (hf2) ?_ | refine QZ rfl rfl (hf3) ?_ | refine QZ rfl rfl (hf1) ?_ | refine Wh rfl rfl rfl ?_ | refine Wl rfl rfl (by decide) rfl ?_ | exact ⟨rfl, rfl⟩)) ?_ | refine x_nil ?_ | fail)
 all_goals exact e_1 (Tryd.results15) (Qh rfl) (QC (σ := []) (r := [_, _]) ⟨rfl, rfl⟩)
end Go.Proofs
end
