/-
  Part 16 of the proof: X3 RT RT2.
-/
import Derived.Test.YtecbcpilcjmhlaaDoorRows
import Derived.ProofKit
import Derived.LaidMore
import Derived.LaidHandle
import Derived.OpenShut
import Derived.Deep.Strs
import Derived.Stop.Joined
import Derived.LaidSub
import Derived.MakeChecks
import Derived.Test.YtecbcpilcjmhlaaDoorZB1
import Derived.Test.YtecbcpilcjmhlaaDoorZB3
import Derived.Test.YtecbcpilcjmhlaaDoorZB5
import Derived.Test.YtecbcpilcjmhlaaDoorZB9
import Derived.Test.YtecbcpilcjmhlaaDoorZB15
set_option linter.unusedSimpArgs false
set_option linter.unusedVariables false
set_option maxRecDepth 100000
set_option maxHeartbeats 4000000
section
namespace Go.Proofs
open Go.Av
variable {G : Nat -> DV}
attribute [local irreducible] OpSem WE WY W0 ACalls ZE QV RV
open Go.Bl Go.Fo
theorem alL_get (a : Nat -> Bool) : ∀ (m : Nat) {k : Nat} (h : k < (alL a m).length), (alL a m)[k] = al a ((k : Int) + 1)
 | 0, k, h => absurd h (by show ¬ k < 0; omega)
 | m + 1, k, h => by
  have hl := alL_len a m
  have h' : k < (alL a m ++ [al a ((m : Int) + 1)]).length := h
  show (alL a m ++ [al a ((m : Int) + 1)])[k] = _
  by_cases hk : k < m
  ·rw [List.getElem_append_left (by omega)]; exact alL_get a m (by omega)
  ·rw [List.length_append, List.length_singleton] at h'
   have : k = m := by omega
   subst this
   rw [List.getElem_append_right (by omega)]
   simp [hl]
theorem al_max (a : Nat -> Bool) (k : Nat) : max (al a ((k : Int) + 1)) (-(al a ((k : Int) + 1))) = (k : Int) + 1 /\ decide (0 < al a ((k : Int) + 1)) = a (k + 1) := by
 unfold al
 have e : ((k : Int) + 1).toNat = k + 1 := by omega
 rw [e]
 cases a (k + 1) with
 | true => rw [if_pos rfl]; exact ⟨by omega, decide_eq_true (by omega)⟩
 | false => rw [if_neg (by decide)]; exact ⟨by omega, decide_eq_false (by omega)⟩
def fillM (a : Nat -> Bool) (n k : Nat) : List Bool := mdl a k ++ List.replicate (n - k) false
theorem fill_len (a : Nat -> Bool) {n k : Nat} (h : k <= n) : (fillM a n k).length = n := by
 unfold fillM
 rw [List.length_append, mdl_len, List.length_replicate]; omega
theorem fill_succ (a : Nat -> Bool) {n k : Nat} (h : k < n) : fillM a n (k + 1) = (fillM a n k).set k (a (k + 1)) := by
 unfold fillM
 rw [List.set_append_right _ _ (by rw [mdl_len]; exact Nat.le_refl _), mdl_len, Nat.sub_self, mdl, List.append_assoc]
 congr 1
 obtain ⟨r, hr⟩ : ∃ r, n - k = r + 1 := ⟨n - k - 1, by omega⟩
 rw [hr, show n - (k + 1) = r by omega, List.replicate_succ]; rfl
theorem fill_all (a : Nat -> Bool) (n : Nat) : fillM a n n = mdl a n := by
 unfold fillM
 rw [Nat.sub_self]; simp
theorem blastModels_c (hG0 : G 0 = opsD) (hG1 : G 1 = pow10T) (l : List Int) (fr at1 : Int) (hll : l.length <= 4611686018427387904) (hl : ∀ x ∈ l, Ord.I64 x) (hfr : Ord.I64 fr) (hat : Ord.I64 at1) :
  Go.Av.Pure Tryd.prog G 7 [Qy l, .i fr, .i at1] (.b true) := fun B => by
 have hlv := lives2_c (G := G) hG0 hG1
 have hT := (terms_c (G := G) l hl hll).read
 obtain ⟨hts, ht3, hsz⟩ := termsM_ok l
 generalize termsM l = ts at *
 have hB := blast_c hG0 hG1 hts
 have hcnt := nodesCnt_c (G := G) ts (by omega)
 unfold blastR at hB
 cases nf : Zy (Wo ts).1 with
 | true =>
  rw [if_pos nf] at hB
  have h14 := blast_nofull hts nf
  clear hts
  refine Qb Tryd.func7 rfl Tryd.ntmps7 rfl (t := [(0, Qy l), (1, .i fr), (2, .i at1)]) rfl fun E hE => ?_
  (repeat' first | refine Qt rfl ?_ | refine Qv rfl ?_ | refine Wv rfl rfl ?_ | refine QH rfl rfl ?_ | refine W6 rfl rfl ?_ | refine QZ rfl rfl (hT) ?_ | refine QZ rfl rfl (hB) ?_ | refine QZ rfl rfl (hcnt) ?_ | refine QZ rfl rfl (hlv) ?_ | refine WR rfl rfl ?_ | refine Ql rfl rfl rfl (by first | assumption | exact Enc.len _ | rfl) (by first | assumption | exact Enc.len _ | rfl) rfl ?_ | refine Wh rfl rfl rfl ?_ | refine QJ (fun _ _ => ?_) | refine Qe ?_ | refine Qp rfl ?_ | refine Q0 ?_ | refine WC rfl rfl rfl rfl ?_ | refine Wm rfl rfl (by omega) ?_ | refine Qf ?_ | refine Qa ?_ | refine Qs rfl ?_ | refine Qm ?_ | fail)
  exact e_1 (Tryd.results7) (Qh rfl) (QC (σ := []) (r := [_]) ⟨rfl, rfl⟩)
 | false =>
  rw [if_neg (by rw [nf]; decide)] at hB
  have hF1 : ∀ n, F4 n = 1 -> 0 <= n := fun n h => by
   unfold F4 at h
   split at h
   ·cases h
   ·omega
  have hF : ∀ n, 0 <= F4 n := fun n => by
   unfold F4
   split
   ·omega
   ·split <;> omega
  have hf := formed_blast (G := G) hts hF (by omega) nf
  have hr1 := around_c (G := G) fr 1024 hfr (by decide)
  have hrb := Ord.around_bound fr (most := 1024) (by decide)
  have hbd := blast_size hts
  have hrb0 := W4 hts
  have hv1 := hrb0.v1
  have hn := nofull_bd nf
  have hnm4 : ∀ j, j < (Qw ts).nm.length -> 0 <= (Qw ts).nm.getD j 0 /\ (Qw ts).nm.getD j 0 < 4 := fun j hj => by
   have h01 := blast_ty01 hts j hj
   rw [hrb0.ty j hj] at h01
   have h0 := (hrb0.nm j hj).1
   refine ⟨h0, ?_⟩
   unfold F4 at h01
   split at h01
   ·omega
   ·split at h01 <;> omega
  obtain ⟨cl, hcl⟩ : ∃ cl, cl = (Wo ts).1.cl := ⟨_, rfl⟩
  obtain ⟨vs, hvs⟩ : ∃ vs, vs = (Wo ts).1.vars := ⟨_, rfl⟩
  obtain ⟨nm, hnm⟩ : ∃ nm, nm = (Qw ts).nm := ⟨_, rfl⟩
  obtain ⟨ty, hty⟩ : ∃ ty, ty = (Qw ts).ty := ⟨_, rfl⟩
  obtain ⟨fi, hfi⟩ : ∃ fi, fi = (Qw ts).fi := ⟨_, rfl⟩
  obtain ⟨bk, hbk⟩ : ∃ bk : List Bool -> List Int, bk = backM (Qw ts) := ⟨_, rfl⟩
  have hsatc : ∀ model : List Bool, (model.length : Int) = vs -> Go.Av.Pure Tryd.prog G 26 [Qy cl, Qy model] (.b (cl.all (satC model))) := fun model hm => by
   subst hcl hvs
   obtain ⟨a, g, _⟩ := blast_sem hts (vals := []) ⟨by decide, fun x hx => (by cases hx)⟩ (fun n _ => .inl (by unfold WM; split <;> rfl)) nf
   refine satisfied_c _ _ (by omega) (by omega) fun c hc => ⟨by have := hbd.2.2.1 c hc; omega, fun x hx => ?_⟩
   obtain ⟨q1, q2, q3⟩ := g.lits c hc x hx
   exact ⟨q1, by omega, by omega⟩
  have hbkc : ∀ model : List Bool, (model.length : Int) = vs -> 0 < nm.length -> Own Tryd.prog G 24 [.agg [.i vs, Qy cl, Qy nm, Qy ty, Qy fi], Qy model] (bk model).length 1 (Qq (bk model)) := fun model hm h0 => by
   subst hnm hty hfi hbk
   have hl := qr (WZ ts) 64
   rw [blast_nm hts] at hl
   refine values2_c vs cl _ _ _ model (by omega) h0 hrb0.l2 hrb0.l3 (fun x hx => ?_) (fun x hx => ?_) (by omega)
   ·obtain ⟨j, hj, rfl⟩ := mem_getD hx
    have := hnm4 j hj
    omega
   ·obtain ⟨j, hj, rfl⟩ := mem_getD hx
    have := hrb0.rng j (by have := hrb0.l3; omega)
    have hw := widI_bd ((Qw ts).ty.getD j 0)
    omega
  have hstep : ∀ i : Nat, i < 24 -> ∃ vals : List Int, Go.Av.Pure Tryd.prog G 16 [.i (Ord.around fr 1024 + 43 * (i : Int))] (Qy vals) /\ ∃ lits : List Int, Go.Av.Pure Tryd.prog G 18 [.agg [.i vs, Qy cl, Qy nm, Qy ty, Qy fi], Qy vals] (Qy lits) /\
    (Go.Av.Pure Tryd.prog G 19 [Qy ts, Qy vals] (.b false) \/ Go.Av.Pure Tryd.prog G 19 [Qy ts, Qy vals] (.b true) /\ vals.length = 4 /\
     ∃ a : Nat -> Bool, Go.Av.Pure Tryd.prog G 17 [.agg [.i vs, Qy cl, Qy nm, Qy ty, Qy fi], Qy lits] (.tup [Qy (alL a vs.toNat), .b true]) /\ cl.all (satC (mdl a vs.toNat)) = true /\
      ∀ j (hj : j < nm.length), nm[j].toNat < (bk (mdl a vs.toNat)).length /\ (bk (mdl a vs.toNat)).getD nm[j].toNat 0 = vals.getD nm[j].toNat 0) := fun i hi => by
   have hI : Ord.I64 (Ord.around fr 1024 + 43 * (i : Int)) := ⟨by omega, by omega⟩
   have hrb2 := Ord.around_bound (Ord.around fr 1024 + 43 * (i : Int)) (most := 1024) (by decide)
   obtain ⟨hvok, hvt⟩ := valsM_ok hrb2
   have hfo := follow_blast (G := G) hts hvok nf (Qy (Qw ts).nm) (Qy (Qw ts).ty) (Qy (Qw ts).fi)
   have htr := true_c (G := G) hvok (ts := ts) (by omega) hts.ty
   obtain ⟨a, g, ag, hfm⟩ := blast_follow hts hvok hvt nf
   rw [hfm] at hfo
   subst hcl hvs hnm hty hfi hbk
   refine ⟨_, r20Values_c _ hI, _, lits_blast hts hvok nf, ?_⟩
   generalize hx : valsM (Ord.around (Ord.around fr 1024 + 43 * (i : Int)) 1024) = vals at *
   cases hall : (ts.all fun t => decide (evN vals t = 1)) with
   | false =>
    rw [hall] at htr
    exact .inl htr
   | true =>
    rw [hall] at htr
    rw [hall, if_pos rfl] at hfo
    have hp : ∀ t ∈ ts, evN vals t = 1 := fun t ht => of_decide_eq_true (List.all_eq_true.1 hall t ht)
    have hvl : vals.length = 4 := by rw [<- hx]; rfl
    refine .inr ⟨htr, hvl, a, hfo, satB_iff.2 (mdl_sat g hp), fun j hj => ?_⟩
    rw [<- ZB hj]
    refine ⟨(back_len hrb0).2 j hj, ?_⟩
    rw [back_same hts hvok hvt ag (by omega) hj]
    unfold WM
    have := hnm4 j hj
    rw [if_pos (by omega)]
  have hevc : ∀ model : List Bool, cl.all (satC model) = true -> ∀ t ∈ ts, Go.Av.Pure Tryd.prog G 27 [.agg (Enc.enc t), Qy (bk model)] (.i 1) := fun model hm t ht => by
   subst hcl hbk
   have h1 := sat_true hts hF1 nf (satB_iff.1 hm) t ht
   have h2 := tEval_c (G := G) hG0 (back_vok (model := model) hts) (hts.ty t ht)
   rwa [h1] at h2
  have hbk0 : nm.length = 0 -> ∀ model, bk model = [] := fun h0 model => by
   subst hnm hbk
   have h1 : (Qw ts).nm = [] := List.eq_nil_of_length_eq_zero h0
   unfold backM
   rw [h1]; rfl
  have hnm4 : ∀ j (hj : j < nm.length), 0 <= nm[j] /\ nm[j] < 4 := fun j hj => by
   rw [<- ZB hj]
   subst hnm
   exact hnm4 j hj
  have hvs1 : 1 <= vs /\ vs <= 2000 := by subst hvs; omega
  rw [<- hcl, <- hvs, <- hnm, <- hty, <- hfi] at hB hf
  have hnl0 : nm.length <= 64 := by subst hnm; have := qr (WZ ts) 64; rw [blast_nm hts] at this; exact this
  have hty0 : ty.length = nm.length /\ fi.length = nm.length := by subst hnm hty hfi; exact ⟨hrb0.l2, hrb0.l3⟩
  generalize Ord.around fr 1024 = x at *
  clear hcl hvs hnm hty hfi hbk nf hts hrb0 hbd hn hv1 hF hF1
  refine Qb Tryd.func7 rfl Tryd.ntmps7 rfl (t := [(0, Qy l), (1, .i fr), (2, .i at1)]) rfl fun E hE => ?_
  (repeat' first | refine Qt rfl ?_ | refine Qv rfl ?_ | refine Qu rfl rfl (by first | assumption | exact Enc.len _ | rfl) ?_ | refine W6 rfl rfl ?_ | refine QZ rfl rfl (hT) ?_ | refine QZ rfl rfl (hB) ?_ | refine QZ rfl rfl (hf) ?_ | refine Ql rfl rfl rfl (by first | assumption | exact Enc.len _ | rfl) (by first | assumption | exact Enc.len _ | rfl) rfl ?_ | refine ZQ rfl ?_ | refine Wh rfl rfl rfl ?_ | refine QJ (fun _ _ => ?_) | refine Qe ?_ | refine Qp rfl ?_ | refine Q0 ?_ | refine Qf ?_ | refine Qa ?_ | refine Qg ?_ | refine Qj ?_ | refine Qi rfl ?_ | fail)
  rename_i g8 hg8
  refine Wi (fun (i : Nat) => ⟨[(1, .i fr), (2, .i at1), (7, Qy ts), (8, .ptr 0 g8 0), (10, .i i)], [.row g8 [.i vs, Qy cl, Qy nm, Qy ty, Qy fi]]⟩) (fun i => i <= 24) (fun i => 24 - i) 0 ?_ (by omega) ?_
  ·exact zal rfl
  intro i hi
  by_cases hi6 : i < 24
  ·obtain ⟨vals, hva, lits, hlit, hor⟩ := hstep i hi6
   clear hstep hB hf hT hcnt
   rcases hor with htr | ⟨htr, hvl, a, hfo, hs1, hbs⟩
   ·clear hlv hsatc hbkc hevc hbk0 hnm4
    (repeat' first | refine Qt rfl ?_ | refine Qv rfl ?_ | refine Z2 rfl rfl (by omega) ?_ | refine QG rfl rfl ?_ | refine QS rfl rfl (by omega) ?_ | refine QZ rfl rfl (hva) ?_ | refine QZ rfl rfl (htr) ?_ | refine QZ rfl rfl (hr1) ?_ | refine ZQ rfl ?_ | refine Qe ?_ | refine Qp rfl ?_ | refine Qf ?_ | refine Qa ?_ | refine Qg ?_ | refine Qj ?_ | refine Qs rfl ?_ | refine Qx rfl (by omega) ?_ | refine QU rfl ?_ | fail)
    refine ⟨i + 1, by omega, by omega, ?_⟩
    exact zal rfl
   ·obtain ⟨n, hnv⟩ : ∃ n : Nat, vs = (n : Int) := ⟨vs.toNat, by omega⟩
    subst hnv
    rw [Int.toNat_natCast] at hfo hs1 hbs
    have hol := alL_len a n
    have hok : ∀ k (h : k < (alL a n).length), max (alL a n)[k] (-(alL a n)[k]) = (k : Int) + 1 /\ decide (0 < (alL a n)[k]) = a (k + 1) := fun k h => by rw [alL_get]; exact al_max a k
    generalize alL a n = o at *
    (repeat' first | refine Qt rfl ?_ | refine Qv rfl ?_ | refine Qc rfl rfl rfl ?_ | refine Z2 rfl rfl (by omega) ?_ | refine QG rfl rfl ?_ | refine W6 rfl rfl ?_ | refine QS rfl rfl (by omega) ?_ | refine QZ rfl rfl (hva) ?_ | refine QZ rfl rfl (htr) ?_ | refine QZ rfl rfl (hr1) ?_ | refine Qn rfl ?_ | refine Wk rfl rfl ?_ | refine ZQ rfl ?_ | refine Qd rfl rfl ?_ | refine s_make rfl rfl rfl (by omega) (by omega) (by omega) (by omega) (fun _ _ => ?_) | refine Qe ?_ | refine Qp rfl ?_ | refine WC rfl rfl rfl rfl ?_ | refine Qf ?_ | refine Qa ?_ | refine Qg ?_ | (refine Wa ?_; first | refine Wj (by rfl) (by kernel_rfl) (by kernel_rfl) ?_ | refine QT (by kernel_rfl) (by kernel_rfl) ?_) | refine Qj ?_ | refine Qi rfl ?_ | refine Qx rfl (by omega) ?_ | refine QD rfl (by omega) ?_ | refine x_op rfl (by (repeat' first | refine Qt rfl ?_ | refine Qv rfl ?_ | refine Qu rfl rfl (by first | assumption | exact Enc.len _ | rfl) ?_ | refine QZ rfl rfl (hlit) ?_ | refine QZ rfl rfl (hfo) ?_ | refine Wh rfl rfl rfl ?_ | exact ⟨rfl, rfl⟩)) ?_ | refine x_nil ?_ | fail)
    rename_i g14 hg14
    rw [show WP [.bool false] ((n : Int)).toNat = Qq (List.replicate n false) from boolz_eq n]
    refine Wi (fun (k : Nat) => ⟨[(2, .i at1), (7, Qy ts), (8, .ptr 0 g8 0), (11, Qy vals), (12, Qy o), (14, .ref 1 g14 0 n 1), (15, .i k)], [.row g8 [.i (n : Int), Qy cl, Qy nm, Qy ty, Qy fi], .row g14 (Qq (fillM a n k))]⟩) (fun k => k <= n) (fun k => n - k) 0 ?_ (by omega) ?_
    ·exact zal rfl
    intro k hk
    have hfl := fill_len a hk
    by_cases hkn : k < n
    ·have hko : k < o.length := by omega
     obtain ⟨o1, o2⟩ := hok k hko
     have ek : (max o[k] (-o[k]) - 1).toNat = k := by omega
     have hfs : fillM a n (k + 1) = (fillM a n k).set (max o[k] (-o[k]) - 1).toNat (decide (0 < o[k])) := by rw [o2, ek]; exact fill_succ a hkn
     clear hok hs1 hbs hlv hsatc hbkc hevc hbk0 hnm4 hlit hfo htr hva
     (repeat' first | refine Qt rfl ?_ | refine Qv rfl ?_ | refine QF rfl ?_ | refine Qc rfl rfl rfl ?_ | refine Qo rfl rfl (by first | assumption | omega | (simp; done) | (simp; omega)) ?_ | refine s_idx_ref1i rfl rfl rfl (by omega) (by omega) ?_ | refine QG rfl rfl ?_ | refine s_gtr rfl rfl ?_ | refine QS rfl rfl (by omega) ?_ | refine Zn rfl rfl (by omega) ?_ | refine Qn rfl ?_ | refine Wk rfl rfl ?_ | refine Q2 rfl rfl rfl rfl rfl (by first | assumption | omega) rfl ?_ | refine Qd rfl rfl ?_ | refine Qe ?_ | refine Qp rfl ?_ | refine Q0 ?_ | refine WC rfl rfl rfl rfl ?_ | refine Wn rfl rfl (by omega) ?_ | refine Qf ?_ | refine Qa ?_ | refine Qg ?_ | (refine Wa ?_; first | refine Wj (by rfl) (by kernel_rfl) (by kernel_rfl) ?_ | refine QT (by kernel_rfl) (by kernel_rfl) ?_) | refine Qj ?_ | refine Qx rfl (by omega) ?_ | refine QD rfl (by omega) ?_ | refine x_op rfl (by (repeat' first | refine Qt rfl ?_ | refine Qv rfl ?_ | refine QF rfl ?_ | refine Qo rfl rfl (by first | assumption | omega | (simp; done) | (simp; omega)) ?_ | refine s_max_m rfl rfl ?_ | refine Z1 rfl (by omega) ?_ | exact ⟨rfl, rfl⟩)) ?_ | refine x_nil ?_ | fail)
     refine ⟨k + 1, by omega, by omega, ?_⟩
     rw [hfs]
     exact zal rfl
    ·have hkn : n = k := by omega
     subst hkn
     rw [fill_all]
     have hml := mdl_len a n
     generalize mdl a n = md at *
     obtain ⟨y, hy⟩ : ∃ y : Nat, Ord.around at1 (n : Int) = (y : Int) := ⟨(Ord.around at1 (n : Int)).toNat, by have := Ord.around_bound at1 (most := (n : Int)) (by omega); omega⟩
     have hyb := Ord.around_bound at1 (most := (n : Int)) (by omega)
     have hr2 := around_c (G := G) at1 (n : Int) hat (by omega)
     rw [hy] at hr2 hyb
     have hyl : y < md.length := by omega
     have hsat := hsatc md (by omega)
     rw [hs1] at hsat
     have hsat2 := hsatc (md.set y (!md[y]'hyl)) (by rw [List.length_set]; omega)
     have hlen1 : n * 1 = (Qq md).length := by rw [Qz, hml]; rfl
     have hlen2 : n * 1 = (Qq (md.set y (!md[y]'hyl))).length := by rw [Qz, List.length_set, hml]; rfl
     clear hok
     by_cases hn0 : nm.length = 0
     ·have hnil : nm = [] /\ ty = [] /\ fi = [] := ⟨List.eq_nil_of_length_eq_zero (by omega), List.eq_nil_of_length_eq_zero (by omega), List.eq_nil_of_length_eq_zero (by omega)⟩
      obtain ⟨rfl, rfl, rfl⟩ := hnil
      have hback := values2_nil (G := G) (n : Int) cl md
      have hother := values2_nil (G := G) (n : Int) cl (md.set y (!md[y]'hyl))
      have hev0 : cl.all (satC (md.set y (!md[y]'hyl))) = true -> ∀ t ∈ ts, Go.Av.Pure Tryd.prog G 27 [.agg (Enc.enc t), .nil] (.i 1) := fun h t ht => by
       have := hevc _ h t ht
       rw [hbk0 rfl] at this
       exact Pure.sub this rfl (sub_cons (.refl _) (sub_cons (.nil _) sub_nil))
      clear hbkc hevc hbk0 hsatc hfo hlit hva htr
      (repeat' first | refine Qt rfl ?_ | refine Qv rfl ?_ | refine Qu rfl rfl (by first | assumption | exact Enc.len _ | rfl) ?_ | refine QG rfl rfl ?_ | refine Z3 rfl rfl (.same (.ref rfl hlen1 (Qk _) .nil)) hback rfl ?_ | refine Qn rfl ?_ | refine Qe ?_ | refine Qp rfl ?_ | refine Qf ?_ | refine Qa ?_ | refine Qg ?_ | refine QD rfl (by omega) ?_ | refine QU rfl ?_ | fail)
      refine Wi (fun _ : Unit => ⟨[(2, .i at1), (7, Qy ts), (8, .ptr 0 g8 0), (14, .ref 1 g14 0 n 1), (18, .i 0)], [.row g8 [.i (n : Int), Qy cl, Qy ([] : List Int), Qy ([] : List Int), Qy ([] : List Int)], .row g14 (Qq md)]⟩) (fun _ => True) (fun _ => 0) () ?_ trivial ?_
      ·exact zal rfl
      intro _ _
      (repeat' first | refine Qt rfl ?_ | refine Qv rfl ?_ | refine Qu rfl rfl (by first | assumption | exact Enc.len _ | rfl) ?_ | refine Qc rfl rfl rfl ?_ | refine Q9 rfl rfl rfl (by first | assumption | omega) rfl ?_ | refine WK rfl rfl rfl (by omega) ?_ | refine QG rfl rfl ?_ | refine s_gtr rfl rfl ?_ | refine Z3 rfl rfl (.same (.ref rfl hlen2 (Qk _) .nil)) hother rfl ?_ | refine Z3 rfl rfl (.same (.ref rfl hlen1 (Qk _) .nil)) hsat rfl ?_ | refine QZ rfl rfl (hr2) ?_ | refine Qn rfl ?_ | refine s_len_ref rfl rfl ?_ | refine Q2 rfl rfl rfl rfl rfl (by first | assumption | omega) rfl ?_ | refine ZQ rfl ?_ | refine Qd rfl rfl ?_ | refine Qe ?_ | refine Qp rfl ?_ | refine Q0 ?_ | refine Qf ?_ | refine Qa ?_ | refine Qg ?_ | refine Qj ?_ | refine Qi rfl ?_ | refine Qx rfl (by omega) ?_ | refine QU rfl ?_ | fail)
      cases hs2 : cl.all (satC (md.set y (!md[y]'hyl))) with
      | false =>
       rw [hs2] at hsat2
       refine Wi (fun _ : Unit => ⟨[(7, Qy ts), (8, .ptr 0 g8 0), (14, .ref 1 g14 0 n 1), (20, .nil), (21, .i 0)], [.row g8 [.i (n : Int), Qy cl, Qy ([] : List Int), Qy ([] : List Int), Qy ([] : List Int)], .row g14 (Qq (md.set y (!md[y]'hyl)))]⟩) (fun _ => True) (fun _ => 0) () ?_ trivial ?_
       ·exact zal rfl
       intro _ _
       by_cases hkt : 0 < ts.length
       ·(repeat' first | refine Qt rfl ?_ | refine Qv rfl ?_ | refine Qc rfl rfl rfl ?_ | refine QG rfl rfl ?_ | refine Z3 rfl rfl (.same (.ref rfl hlen2 (Qk _) .nil)) hsat2 rfl ?_ | refine QZ rfl rfl (hlv) ?_ | refine Qn rfl ?_ | refine WR rfl rfl ?_ | refine Qd rfl rfl ?_ | refine Qe ?_ | refine Qp rfl ?_ | refine WC rfl rfl rfl rfl ?_ | refine Wm rfl rfl (by omega) ?_ | refine Qf ?_ | refine Qa ?_ | refine Qi rfl ?_ | refine QU rfl ?_ | refine Qm ?_ | fail)
        exact e_1 (Tryd.results7) (Qh rfl) (QC (σ := []) (r := [_, _]) ⟨rfl, rfl⟩)
       ·(repeat' first | refine Qt rfl ?_ | refine Qv rfl ?_ | refine QG rfl rfl ?_ | refine QZ rfl rfl (hlv) ?_ | refine Qn rfl ?_ | refine Wk rfl rfl ?_ | refine Qe ?_ | refine Qp rfl ?_ | refine WO rfl rfl rfl rfl ?_ | refine Wn rfl rfl (by omega) ?_ | refine Qf ?_ | refine Qa ?_ | refine Qi rfl ?_ | refine QU rfl ?_ | refine Qm ?_ | fail)
        exact e_1 (Tryd.results7) (Qh rfl) (QC (σ := []) (r := [_, _]) ⟨rfl, rfl⟩)
      | true =>
       rw [hs2] at hsat2
       have hev0 := hev0 hs2
       refine Wi (fun (k : Nat) => ⟨[(7, Qy ts), (8, .ptr 0 g8 0), (14, .ref 1 g14 0 n 1), (20, .nil), (21, .i k)], [.row g8 [.i (n : Int), Qy cl, Qy ([] : List Int), Qy ([] : List Int), Qy ([] : List Int)], .row g14 (Qq (md.set y (!md[y]'hyl)))]⟩) (fun k => k <= ts.length) (fun k => ts.length - k) 0 ?_ (by omega) ?_
       ·exact zal rfl
       intro k hk
       by_cases hkt : k < ts.length
       ·(repeat' first | refine Qt rfl ?_ | refine Qv rfl ?_ | refine QM rfl ?_ | refine Qc rfl rfl rfl ?_ | refine Qo rfl rfl (by first | assumption | omega | (simp; done) | (simp; omega)) ?_ | refine QG rfl rfl ?_ | refine W6 rfl rfl ?_ | refine QS rfl rfl (by omega) ?_ | refine Z3 rfl rfl (.same (.ref rfl hlen2 (Qk _) .nil)) hsat2 rfl ?_ | refine QZ rfl rfl (hev0 _ (List.getElem_mem hkt)) ?_ | refine Qn rfl ?_ | refine WR rfl rfl ?_ | refine Qd rfl rfl ?_ | refine Qe ?_ | refine Qp rfl ?_ | refine WC rfl rfl rfl rfl ?_ | refine Wm rfl rfl (by omega) ?_ | refine Qf ?_ | refine Qa ?_ | refine Qg ?_ | refine Qj ?_ | refine Qs rfl ?_ | refine Qi rfl ?_ | fail)
        refine ⟨k + 1, by omega, by omega, ?_⟩
        exact zal rfl
       ·(repeat' first | refine Qt rfl ?_ | refine Qv rfl ?_ | refine QG rfl rfl ?_ | refine QZ rfl rfl (hlv) ?_ | refine Qn rfl ?_ | refine Wk rfl rfl ?_ | refine Qe ?_ | refine Qp rfl ?_ | refine WO rfl rfl rfl rfl ?_ | refine Wn rfl rfl (by omega) ?_ | refine Qf ?_ | refine Qa ?_ | refine Qi rfl ?_ | refine QU rfl ?_ | refine Qm ?_ | fail)
        exact e_1 (Tryd.results7) (Qh rfl) (QC (σ := []) (r := [_, _]) ⟨rfl, rfl⟩)
     ·have hback := hbkc md (by omega) (by omega)
      have hother := hbkc (md.set y (!md[y]'hyl)) (by rw [List.length_set]; omega) (by omega)
      have hev := hevc (md.set y (!md[y]'hyl))
      have hlen3 : (bk (md.set y (!md[y]'hyl))).length * 1 = (Qq (bk (md.set y (!md[y]'hyl)))).length := by rw [Qz]; rfl
      generalize bk (md.set y (!md[y]'hyl)) = b2 at *
      generalize bk md = b1 at *
      clear hbkc hevc hbk0 hsatc hfo hlit hva htr
      (repeat' first | refine Qt rfl ?_ | refine Qv rfl ?_ | refine Qu rfl rfl (by first | assumption | exact Enc.len _ | rfl) ?_ | refine QG rfl rfl ?_ | refine s_call_vo rfl rfl (.same (.ref rfl hlen1 (Qk _) .nil)) hback (encs_flat _) (fun _ _ => ?_) | refine Qn rfl ?_ | refine Qe ?_ | refine Qp rfl ?_ | refine Qf ?_ | refine Qa ?_ | refine Qg ?_ | refine QD rfl (by omega) ?_ | refine QU rfl ?_ | fail)
      rename_i g17 hg17
      refine Wi (fun (k : Nat) => ⟨[(2, .i at1), (7, Qy ts), (8, .ptr 0 g8 0), (11, Qy vals), (14, .ref 1 g14 0 n 1), (17, .ref 2 g17 0 b1.length 1), (18, .i k)], [.row g8 [.i (n : Int), Qy cl, Qy nm, Qy ty, Qy fi], .row g14 (Qq md), .row g17 (Qq b1)]⟩) (fun k => k <= nm.length) (fun k => nm.length - k) 0 ?_ (by omega) ?_
      ·exact zal rfl
      intro k hk
      by_cases hkn : k < nm.length
      ·have h4 := hnm4 k hkn
       obtain ⟨h5, h6⟩ := hbs k hkn
       have hvi : nm[k].toNat < vals.length := by omega
       have h6 : b1[nm[k].toNat] = vals[nm[k].toNat] := by
        rw [ZB h5, ZB hvi] at h6; exact h6
       clear hbs hnm4 hlv
       (repeat' first | refine Qt rfl ?_ | refine Qv rfl ?_ | refine QF rfl ?_ | refine Qc rfl rfl rfl ?_ | refine Qo rfl rfl (by first | assumption | omega | (simp; done) | (simp; omega)) ?_ | refine QG rfl rfl ?_ | refine Wv rfl rfl ?_ | refine QS rfl rfl (by omega) ?_ | refine Qn rfl ?_ | refine s_len_ref rfl rfl ?_ | refine Qd rfl rfl ?_ | refine Qe ?_ | refine Qp rfl ?_ | refine Qf ?_ | refine Qa ?_ | refine Qg ?_ | (refine Wa ?_; first | refine Wj (by rfl) (by kernel_rfl) (by kernel_rfl) ?_ | refine QT (by kernel_rfl) (by kernel_rfl) ?_) | refine Qj ?_ | refine Qx rfl (by omega) ?_ | refine QD rfl (by omega) ?_ | refine x_op rfl (by (repeat' first | refine Qt rfl ?_ | refine QF rfl ?_ | refine Qc rfl rfl rfl ?_ | refine Q9 rfl rfl rfl (by first | assumption | omega) rfl ?_ | refine Qo rfl rfl (by first | assumption | omega | (simp; done) | (simp; omega)) ?_ | refine s_idx_sl rfl rfl (by omega) (by first | assumption | omega | (simp; done) | (simp; omega)) ?_ | refine s_idx_ref1i rfl rfl rfl (by omega) (by omega) ?_ | refine W6 rfl rfl ?_ | refine Qd rfl rfl ?_ | exact ⟨rfl, rfl⟩)) ?_ | refine x_nil ?_ | fail)
       refine ⟨k + 1, by omega, by omega, ?_⟩
       exact zal rfl
      clear hbs hnm4
      (repeat' first | refine Qt rfl ?_ | refine Qv rfl ?_ | refine Qu rfl rfl (by first | assumption | exact Enc.len _ | rfl) ?_ | refine Qc rfl rfl rfl ?_ | refine Q9 rfl rfl rfl (by first | assumption | omega) rfl ?_ | refine WK rfl rfl rfl (by omega) ?_ | refine QG rfl rfl ?_ | refine s_gtr rfl rfl ?_ | refine s_call_vo rfl rfl (.same (.ref rfl hlen2 (Qk _) .nil)) hother (encs_flat _) (fun _ _ => ?_) | refine Z3 rfl rfl (.same (.ref rfl hlen1 (Qk _) .nil)) hsat rfl ?_ | refine QZ rfl rfl (hr2) ?_ | refine Qn rfl ?_ | refine s_len_ref rfl rfl ?_ | refine Q2 rfl rfl rfl rfl rfl (by first | assumption | omega) rfl ?_ | refine ZQ rfl ?_ | refine Qd rfl rfl ?_ | refine Qe ?_ | refine Qp rfl ?_ | refine Q0 ?_ | refine Qf ?_ | refine Qa ?_ | refine Qg ?_ | refine Qj ?_ | refine Qi rfl ?_ | refine Qx rfl (by omega) ?_ | refine QD rfl (by omega) ?_ | refine QU rfl ?_ | fail)
      rename_i g20 hg20
      cases hs2 : cl.all (satC (md.set y (!md[y]'hyl))) with
      | false =>
       rw [hs2] at hsat2
       refine Wi (fun _ : Unit => ⟨[(7, Qy ts), (8, .ptr 0 g8 0), (14, .ref 1 g14 0 n 1), (20, .ref 3 g20 0 b2.length 1), (21, .i 0)], [.row g8 [.i (n : Int), Qy cl, Qy nm, Qy ty, Qy fi], .row g14 (Qq (md.set y (!md[y]'hyl))), .row g17 (Qq b1), .row g20 (Qq b2)]⟩) (fun _ => True) (fun _ => 0) () ?_ trivial ?_
       ·exact zal rfl
       intro _ _
       by_cases hkt : 0 < ts.length
       ·(repeat' first | refine Qt rfl ?_ | refine Qv rfl ?_ | refine Qc rfl rfl rfl ?_ | refine QG rfl rfl ?_ | refine Z3 rfl rfl (.same (.ref rfl hlen2 (Qk _) .nil)) hsat2 rfl ?_ | refine QZ rfl rfl (hlv) ?_ | refine Qn rfl ?_ | refine WR rfl rfl ?_ | refine Qd rfl rfl ?_ | refine Qe ?_ | refine Qp rfl ?_ | refine WC rfl rfl rfl rfl ?_ | refine Wm rfl rfl (by omega) ?_ | refine Qf ?_ | refine Qa ?_ | refine Qi rfl ?_ | refine QU rfl ?_ | refine Qm ?_ | fail)
        exact e_1 (Tryd.results7) (Qh rfl) (QC (σ := []) (r := [_, _, _, _]) ⟨rfl, rfl⟩)
       ·(repeat' first | refine Qt rfl ?_ | refine Qv rfl ?_ | refine QG rfl rfl ?_ | refine QZ rfl rfl (hlv) ?_ | refine Qn rfl ?_ | refine Wk rfl rfl ?_ | refine Qe ?_ | refine Qp rfl ?_ | refine WO rfl rfl rfl rfl ?_ | refine Wn rfl rfl (by omega) ?_ | refine Qf ?_ | refine Qa ?_ | refine Qi rfl ?_ | refine QU rfl ?_ | refine Qm ?_ | fail)
        exact e_1 (Tryd.results7) (Qh rfl) (QC (σ := []) (r := [_, _, _, _]) ⟨rfl, rfl⟩)
      | true =>
       rw [hs2] at hsat2
       have hev := hev hs2
       refine Wi (fun (k : Nat) => ⟨[(7, Qy ts), (8, .ptr 0 g8 0), (14, .ref 1 g14 0 n 1), (20, .ref 3 g20 0 b2.length 1), (21, .i k)], [.row g8 [.i (n : Int), Qy cl, Qy nm, Qy ty, Qy fi], .row g14 (Qq (md.set y (!md[y]'hyl))), .row g17 (Qq b1), .row g20 (Qq b2)]⟩) (fun k => k <= ts.length) (fun k => ts.length - k) 0 ?_ (by omega) ?_
       ·exact zal rfl
       intro k hk
       by_cases hkt : k < ts.length
       ·(repeat' first | refine Qt rfl ?_ | refine Qv rfl ?_ | refine QM rfl ?_ | refine Qc rfl rfl rfl ?_ | refine Qo rfl rfl (by first | assumption | omega | (simp; done) | (simp; omega)) ?_ | refine QG rfl rfl ?_ | refine W6 rfl rfl ?_ | refine QS rfl rfl (by omega) ?_ | refine Z3 rfl rfl (.same (.ref rfl hlen2 (Qk _) .nil)) hsat2 rfl ?_ | refine Z3 rfl rfl (.same (.ref rfl hlen3 (Qk _) .nil)) (hev _ (List.getElem_mem hkt)) rfl ?_ | refine Qn rfl ?_ | refine WR rfl rfl ?_ | refine Qd rfl rfl ?_ | refine Qe ?_ | refine Qp rfl ?_ | refine WC rfl rfl rfl rfl ?_ | refine Wm rfl rfl (by omega) ?_ | refine Qf ?_ | refine Qa ?_ | refine Qg ?_ | refine Qj ?_ | refine Qs rfl ?_ | refine Qi rfl ?_ | fail)
        refine ⟨k + 1, by omega, by omega, ?_⟩
        exact zal rfl
       ·(repeat' first | refine Qt rfl ?_ | refine Qv rfl ?_ | refine QG rfl rfl ?_ | refine QZ rfl rfl (hlv) ?_ | refine Qn rfl ?_ | refine Wk rfl rfl ?_ | refine Qe ?_ | refine Qp rfl ?_ | refine WO rfl rfl rfl rfl ?_ | refine Wn rfl rfl (by omega) ?_ | refine Qf ?_ | refine Qa ?_ | refine Qi rfl ?_ | refine QU rfl ?_ | refine Qm ?_ | fail)
        exact e_1 (Tryd.results7) (Qh rfl) (QC (σ := []) (r := [_, _, _, _]) ⟨rfl, rfl⟩)
  ·clear hstep hB hf hT hcnt
   (repeat' first | refine Qt rfl ?_ | refine Qv rfl ?_ | refine QG rfl rfl ?_ | refine QZ rfl rfl (hlv) ?_ | refine Qe ?_ | refine Qp rfl ?_ | refine Qf ?_ | refine Qa ?_ | refine QD rfl (by omega) ?_ | refine QU rfl ?_ | refine Qm ?_ | fail)
   exact e_1 (Tryd.results7) (Qh rfl) (QC (σ := []) (r := [_]) ⟨rfl, rfl⟩)
end Go.Proofs
end
section
namespace Go.Av
open Classical Go.ChangeShapes Go.WideShapes Go.ChangeAt Go.RowKit
theorem law_callsG {P : Program} {G : Nat -> DV} {f : FuncId} {args : List DV} (h : Pure P G f args (.b true)) {W : World} {vs : Array Value} (hv : ∀ L, Sees W L -> VReps L args vs)
  (hG : ∀ L, Sees W L -> ∀ g, (G g).clo = true /\ VRep L (G g) (.pointer (some ⟨g, 0, none⟩))) :
  Calls P f vs W fun e W' => e = .returned (.bool true) /\ Below W.heap.size W W' := by
 let X : AX := { w := W, ρ := fun _ => none, σ := [], N := 0, hid := fun _ => False }
 have hm : ∀ b, ¬ X.mut b := fun b ⟨k, g, n, hl, _⟩ => by simp [AX.live, X] at hl
 have hS : Sto X := {
  inj := fun k k' g g' b n n' hl => by simp [AX.live, X] at hl
  gen := fun k g hl => by simp [AX.live, X] at hl
  hid := fun b hb => absurd hb (hm b)
  hidlt := fun b hb => hb.elim
  holds := fun k B hB => by simp [X] at hB }
 have hL : Sees W X.lay := fun b o v hc => AX.imm_mk (hm b) (fun h => h) hc
 refine (h 0 X vs hS rfl (Nat.le_refl _) (hG X.lay hL) (hv X.lay hL)).mono ?_
 rintro e w' ⟨v, rfl, Y, hw, hY, hE, d, hr, rfl, _⟩
 subst hw
 rw [VRep.sc_eq hr]
 exact ⟨rfl, hE.os, hE.tape, hE.output, hE.size, fun k hk => (hE.old k hk (hm k)).1⟩
theorem chunks {A B : Type} (g : B -> List A) (hg : ∀ b, (g b).length = 3) : ∀ (l : List B) (L : List A), L.length = 3 * l.length -> (∀ i b, l[i]? = some b -> (L.drop (i * 3)).take 3 = g b) -> L = l.flatMap g
 | [], L, hl, _ => List.eq_nil_of_length_eq_zero (by simpa using hl)
 | b :: l, L, hl, h => by
  have h0 := h 0 b rfl
  have hr := chunks g hg l (L.drop 3) (by rw [List.length_drop, hl, List.length_cons]; omega) fun i b' hb => by
   have := h (i + 1) b' (by simpa using hb)
   rw [List.drop_drop]
   rwa [show 3 + i * 3 = (i + 1) * 3 by omega]
  rw [List.flatMap_cons, <- hr, <- h0]
  simp
end Go.Av
namespace Go.Proofs.YtecbcpilcjmhlaaDoor
open Go.ChangeShapes Go.WideShapes Go.ChangeAt Go.RowKit Go.Av Go.Proofs
def opsL : List (UInt8 × List UInt8 × Nat × Bool × Bool) := [(115, [99, 111, 114, 105, 97, 47, 119, 111, 114, 100, 46, 111, 112, 101, 114, 97, 116, 105, 111, 110, 115, 36, 49], 136, false, false), (115, [99, 111, 114, 105, 97, 47, 119, 111, 114, 100, 46, 111, 112, 101, 114, 97, 116, 105, 111, 110, 115, 36, 50], 137, false, false), (115, [99, 111, 114, 105, 97, 47, 119, 111, 114, 100, 46, 111, 112, 101, 114, 97, 116, 105, 111, 110, 115, 36, 51], 138, false, false), (115, [99, 111, 114, 105, 97, 47, 119, 111, 114, 100, 46, 111, 112, 101, 114, 97, 116, 105, 111, 110, 115, 36, 52], 139, true, false), (115, [99, 111, 114, 105, 97, 47, 119, 111, 114, 100, 46, 111, 112, 101, 114, 97, 116, 105, 111, 110, 115, 36, 53], 140, true, false), (115, [99, 111, 114, 105, 97, 47, 119, 111, 114, 100, 46, 111, 112, 101, 114, 97, 116, 105, 111, 110, 115, 36, 54], 141, false, false), (115, [99, 111, 114, 105, 97, 47, 119, 111, 114, 100, 46, 111, 112, 101, 114, 97, 116, 105, 111, 110, 115, 36, 55], 142, false, false), (115, [99, 111, 114, 105, 97, 47, 119, 111, 114, 100, 46, 111, 112, 101, 114, 97, 116, 105, 111, 110, 115, 36, 56], 143, false, false), (115, [99, 111, 114, 105, 97, 47, 119, 111, 114, 100, 46, 111, 112, 101, 114, 97, 116, 105, 111, 110, 115, 36, 57], 144, false, false), (115, [99, 111, 114, 105, 97, 47, 119, 111, 114, 100, 46, 111, 112, 101, 114, 97, 116, 105, 111, 110, 115, 36, 49, 48], 146, false, false), (115, [99, 111, 114, 105, 97, 47, 119, 111, 114, 100, 46, 111, 112, 101, 114, 97, 116, 105, 111, 110, 115, 36, 49, 49], 147, false, true), (115, [99, 111, 114, 105, 97, 47, 119, 111, 114, 100, 46, 111, 112, 101, 114, 97, 116, 105, 111, 110, 115, 36, 49, 50], 149, false, true), (115, [99, 111, 114, 105, 97, 47, 119, 111, 114, 100, 46, 111, 112, 101, 114, 97, 116, 105, 111, 110, 115, 36, 49, 51], 150, false, true), (115, [99, 111, 114, 105, 97, 47, 119, 111, 114, 100, 46, 111, 112, 101, 114, 97, 116, 105, 111, 110, 115, 36, 49, 52], 151, false, true)]
def opD (e : UInt8 × List UInt8 × Nat × Bool × Bool) : DataW (List UInt8) := .agg [.held (e.1 :: e.2.1), .lit (.bool e.2.2.2.1), .lit (.bool e.2.2.2.2)]
def opV (e : UInt8 × List UInt8 × Nat × Bool × Bool) : List Value := [.func (.func e.2.2.1) #[] #[], .bool e.2.2.2.1, .bool e.2.2.2.2]
def opC (e : UInt8 × List UInt8 × Nat × Bool × Bool) : List DV := [.fn (.func e.2.2.1) [] [], .b e.2.2.2.1, .b e.2.2.2.2]
theorem opsT_eq : opsT = .ep (opsL.flatMap opC) := rfl
theorem opsNamed : (opsL.all fun e => ((List.range Tryd.prog.funcs.size).filter fun f => (Tryd.prog.funcs[f]?).any (·.name.toUTF8.data.toList == e.1 :: e.2.1)) == [e.2.2.1]) = true := by kernel_rfl
theorem gOps : Tryd.prog.globalNamed "scoria/word.operations" = some 0 := by kernel_rfl
theorem tOps : (Tryd.prog.globals[0]?).map (·.type) = some 108 := by kernel_rfl
theorem cells107 : Tryd.prog.cellsOf 107 = 3 := by kernel_rfl
theorem cells108 : Tryd.prog.cellsOf 108 = 42 := by kernel_rfl
theorem cells28 : Tryd.prog.cellsOf 28 = 1 := by kernel_rfl
theorem cells4 : Tryd.prog.cellsOf 4 = 1 := by kernel_rfl
theorem op_of {W : World} {fuel : Nat} {c : List Value} {e : UInt8 × List UInt8 × Nat × Bool × Bool} {q : List MemPlace} (he : e ∈ opsL) (h : DataW.trod (funcToken Tryd.prog) Tryd.prog W 0 (fun _ => true) true fuel 107 c = some (opD e, q)) : c = opV e := by
 obtain ⟨y0, y1, y2, n, hx, hl, h0, h1, h2⟩ := Deep.trod_struct3 Tryd.underlying107 h
 rw [cells107] at hl
 match c, hl with
 | [c0, c1, c2], _ =>
  simp only [opD, Prod.mk.injEq, DataW.agg.injEq, List.cons.injEq, and_true] at hx
  obtain ⟨⟨e0, e1, e2⟩, _⟩ := hx
  have h0 : DataW.trod (funcToken Tryd.prog) Tryd.prog W 0 (fun _ => true) true n 28 [c0] = some y0 := by simp only [cells28, cells4] at h0; exact h0
  have h1 : DataW.trod (funcToken Tryd.prog) Tryd.prog W 0 (fun _ => true) true n 4 [c1] = some y1 := by simp only [cells4, cells28] at h1; exact h1
  have h2 : DataW.trod (funcToken Tryd.prog) Tryd.prog W 0 (fun _ => true) true n 4 [c2] = some y2 := by simp only [cells4, cells28] at h2; exact h2
  obtain ⟨y0, q0⟩ := y0
  cases e0
  have hone := eq_of_beq (List.all_eq_true.1 opsNamed e he)
  obtain rfl := func_of_trod Tryd.underlying28 hone h0
  obtain ⟨b1, hb1, rfl⟩ := DataW.trod_bool Tryd.underlying4 h1
  obtain ⟨b2, hb2, rfl⟩ := DataW.trod_bool Tryd.underlying4 h2
  cases hb1; cases hb2
  simp only [DataW.lit.injEq, Lit.bool.injEq] at e1 e2
  subst e1; subst e2
  rfl
theorem rep_ops (L : Lay) : ∀ (l : List (UInt8 × List UInt8 × Nat × Bool × Bool)) (j : Nat) (d : DV), (l.flatMap opC)[j]? = some d -> VRep L d ((l.flatMap opV).getD j undef)
 | [], j, d, h => by simp at h
 | e :: l, 0, d, h => by
  cases h
  exact .fn _ [] [] #[] #[] rfl rfl (fun j d h => by simp at h) (fun j d h => by simp at h)
 | e :: l, 1, d, h => by cases h; exact .sc _
 | e :: l, 2, d, h => by cases h; exact .sc _
 | e :: l, j + 3, d, h => rep_ops L l j d h
theorem of_laid {W : World} {l : List (String × DataW Unit)} (hin : ("scoria/word.operations", Rows.laid_scoria_word_operations) ∈ l) (h : laidMetH Tryd.prog l W) (L : Lay) (hL : Sees W L) :
  ∀ g, (G1 g).clo = true /\ VRep L (G1 g) (.pointer (some ⟨g, 0, none⟩)) := by
 obtain ⟨g, t, cs, fuel, p, hg, ht, hv, hd⟩ := h.funcs hin
 obtain rfl := Option.some.inj (gOps.symm.trans hg)
 obtain rfl := Option.some.inj (tOps.symm.trans ht)
 have hd' : DataW.trod (funcToken Tryd.prog) Tryd.prog W 0 (fun _ => true) true fuel 108 cs.toList = some (.agg (opsL.map opD), p) := hd
 obtain ⟨xs, m, _, hx, hl, hn, hel⟩ := DataW.trod_array (inferInstance : TyI Tryd.prog 108 (.array 14 107) true 42).u hd'
 rw [cells108] at hl
 simp only [Prod.mk.injEq, DataW.agg.injEq] at hx
 have hc : cs.toList = opsL.flatMap opV := chunks opV (fun _ => rfl) opsL cs.toList hl fun i e hi => by
  have hi14 : i < 14 := (List.getElem?_eq_some_iff.1 hi).1
  have h1 := hel i hi14
  rw [cells107] at h1
  have hxi : (xs.map (·.1))[i]? = some (opD e) := by rw [<- hx.1, List.getElem?_map, hi]; rfl
  rw [List.getElem?_map] at hxi
  cases hxs : xs[i]? with
  | none => rw [hxs] at hxi; cases hxi
  | some y =>
   rw [hxs] at hxi h1
   obtain ⟨y1, y2⟩ := y
   cases Option.some.inj hxi
   exact op_of (List.mem_of_getElem? hi) h1
 intro g
 cases g with
 | succ g => exact ⟨by simp [G1, DV.clo], .any _⟩
 | zero =>
  refine ⟨?_, ?_⟩
  ·show opsT.clo = true
   unfold opsT
   repeat' first | exact QX | refine QN ?_ ?_ | exact QA | refine WV ?_ | refine WX ?_ ?_
  show VRep L opsT _
  rw [opsT_eq]
  refine .ep _ 0 0 (fun j => (opsL.flatMap opV).getD j undef) (by decide) (fun j hj => ?_) (rep_ops L opsL)
  refine hL _ _ _ ?_
  rw [World.var?_cell hg hv, Nat.zero_add, <- hc]
  have hj' : j < cs.toList.length := by rw [hl]; exact hj
  rw [List.getD_eq_getElem?_getD, List.getElem?_eq_getElem hj']
  simp
theorem len_of {H : Type} {enc : TypeId × Value -> H} {W : World} {t e : TypeId} {v : Value} {d : DataW H} {q : List MemPlace} {α : Type} [Enc α] {y : List α} {ts : List TypeId} {ds : List (DataW H)} {sp : Nat -> Bool} {j : Nat}
  (he : Enc.es α = 1) (hb : 1 <= Tryd.prog.bytesOf e) (ht : Tryd.prog.underlying t = some (.slice e)) (hsz : (DataW.weightsEach Tryd.prog ts ds).all (· <= reachBytes) = true) (hj : ts[j]? = some t) (hd : ds[j]? = some d)
  (hok : v.cells.toList = [v]) (h : DataW.Trod enc Tryd.prog W 0 sp true t v d q) (r : ∀ L, Sees W L -> ∀ e, Enc.enc y = [e] -> VRep L e v) : y.length <= 140737488355328 := by
 obtain ⟨fuel, hf⟩ := h
 rw [hok] at hf
 have hr := r { imm := fun b o => W.cell? ⟨b, o, none⟩, row := fun _ _ => none, top := 0 } (fun _ _ _ h => h) _ rfl
 have hlen : ∀ {a : Option Addr} {len cap : Nat}, v = .slice a len cap -> y.length = len := fun hv => by
  subst hv
  generalize hs : Qy y = s at hr
  cases hr with
  | sl es cs a len cap f h1 =>
   unfold Qy at hs
   cases hs
   rw [Qz, he] at h1
   omega
  | _ => cases hs
 rcases DataW.trod_slice ht hf with ⟨h1, _⟩ | ⟨a, len, cap, elems, rest, n, _, h1, h2, _, _, _, h3, _⟩
 ·have := hlen (List.cons.inj h1).1
  omega
 ·have := hlen (List.cons.inj h1).1
  cases h2
  have h4 := sized_slice hsz hj hd ht
  rw [List.length_map, h3] at h4
  have h5 := reachBytes_lt
  have h6 : len <= (len + (rest.map (·.1)).length) * Tryd.prog.bytesOf e := Nat.le_trans (Nat.le_add_right _ _) (Nat.le_mul_of_pos_right _ hb)
  omega
end Go.Proofs.YtecbcpilcjmhlaaDoor
end
section
namespace Go.Proofs.YtecbcpilcjmhlaaDoor
open Go.ChangeShapes Go.WideShapes Go.ChangeAt Go.RowKit Go.Av Go.Proofs
def G01 : Nat -> DV := fun g => match g with | 0 => opsT | 1 => pow10T | _ => .any
theorem gPow : Tryd.prog.globalNamed "internal/strconv.uint64pow10" = some 1 := by kernel_rfl
theorem tPow : (Tryd.prog.globals[1]?).map (·.type) = some 132 := by kernel_rfl
theorem cells126 : Tryd.prog.cellsOf 126 = 1 := by kernel_rfl
theorem cells132 : Tryd.prog.cellsOf 132 = 20 := by kernel_rfl
theorem ones {A B : Type} (g : B -> A) : ∀ (l : List B) (L : List A), L.length = l.length -> (∀ i b, l[i]? = some b -> (L.drop i).take 1 = [g b]) -> L = l.map g
 | [], L, hl, _ => List.eq_nil_of_length_eq_zero (by simpa using hl)
 | b :: l, L, hl, h => by
  have h0 := h 0 b rfl
  have hr := ones g l (L.drop 1) (by rw [List.length_drop, hl, List.length_cons]; omega) fun i b' hb => by
   have := h (i + 1) b' (by simpa using hb)
   rw [List.drop_drop]
   rwa [show 1 + i = i + 1 by omega]
  rw [List.map_cons, <- hr]
  have : L = L.take 1 ++ L.drop 1 := (List.take_append_drop 1 L).symm
  rw [List.drop_zero] at h0
  rw [h0] at this
  exact this
theorem pow_laid {W : World} {l : List (String × DataW Unit)} (hf : l.filter (fun x => x.1 == "internal/strconv.uint64pow10") = [("internal/strconv.uint64pow10", Rows.laid_internal_strconv_uint64pow10)]) (h : laidMetH Tryd.prog l W) :
  ∃ cs, W.var? Tryd.prog "internal/strconv.uint64pow10" = some cs /\ cs.toList = pow10L.map fun z => .int .u64 z := by
 have h1 := h.filter fun x => x.1 == "internal/strconv.uint64pow10"
 rw [hf, MakeChecks.laidMetH_plain _ _ _ (by kernel_rfl)] at h1
 obtain ⟨ps, ⟨g, t, cs, f, p, q, hg, ht, hv, hd, _⟩, _, _⟩ := h1
 obtain rfl := Option.some.inj (gPow.symm.trans hg)
 obtain rfl := Option.some.inj (tPow.symm.trans ht)
 refine ⟨cs, hv, ?_⟩
 obtain ⟨xs, m, _, hx, hl, hn, hel⟩ := DataW.trod_array (inferInstance : TyI Tryd.prog 132 (.array 20 126) true 20).u hd
 rw [cells132] at hl
 simp only [Prod.mk.injEq] at hx
 have hx1 : DataW.agg (H := Unit) (pow10L.map fun z => .lit (.int .u64 z)) = .agg (xs.map (·.1)) := hx.1
 have hx2 : (pow10L.map fun z => DataW.lit (H := Unit) (.int .u64 z)) = xs.map (·.1) := by simpa only [DataW.agg.injEq] using hx1
 refine ones (fun z => .int .u64 z) pow10L cs.toList hl fun i z hi => ?_
 have hi20 : i < 20 := (List.getElem?_eq_some_iff.1 hi).1
 have h1 := hel i hi20
 rw [cells126, Nat.mul_one] at h1
 have hxi : (xs.map (·.1))[i]? = some (.lit (.int .u64 z)) := by rw [<- hx2, List.getElem?_map, hi]; rfl
 rw [List.getElem?_map] at hxi
 cases hxs : xs[i]? with
 | none => rw [hxs] at hxi; cases hxi
 | some y =>
  rw [hxs] at hxi h1
  obtain ⟨k, e1, e2, _⟩ := DataW.trod_int (inferInstance : TyI Tryd.prog 126 (.int .u64) false 1).u h1
  have hy := Option.some.inj hxi
  rw [e2] at hy
  have hk : k = z := by simpa using hy
  rw [e1, hk]
theorem of_laid2 {W : World} {l : List (String × DataW Unit)} (hin : ("scoria/word.operations", Rows.laid_scoria_word_operations) ∈ l)
  (hf : l.filter (fun x => x.1 == "internal/strconv.uint64pow10") = [("internal/strconv.uint64pow10", Rows.laid_internal_strconv_uint64pow10)]) (h : laidMetH Tryd.prog l W) (L : Lay) (hL : Sees W L) :
  ∀ g, (G01 g).clo = true /\ VRep L (G01 g) (.pointer (some ⟨g, 0, none⟩)) := by
 intro g
 match g with
 | 0 => exact of_laid hin h L hL 0
 | g + 2 => exact ⟨by simp [G01, DV.clo], .any _⟩
 | 1 =>
  obtain ⟨cs, hv, hcs⟩ := pow_laid hf h
  refine ⟨?_, ?_⟩
  ·show pow10T.clo = true
   unfold pow10T
   refine WV fun d hd => ?_
   obtain ⟨z, _, rfl⟩ := List.mem_map.1 hd
   exact QA
  show VRep L pow10T _
  unfold pow10T
  refine .ep _ 1 0 (fun j => (pow10L.map fun z => Value.int .u64 z).getD j undef) (by decide) (fun j hj => ?_) (fun j d hd => ?_)
  ·refine hL _ _ _ ?_
   rw [World.var?_cell gPow hv, Nat.zero_add, <- hcs]
   have hj' : j < cs.toList.length := by rw [hcs]; simpa using hj
   rw [List.getD_eq_getElem?_getD, List.getElem?_eq_getElem hj']
   simp
  ·rw [List.getElem?_map] at hd
   cases hz : pow10L[j]? with
   | none => rw [hz] at hd; cases hd
   | some z =>
    rw [hz] at hd
    cases hd
    rw [List.getD_eq_getElem?_getD, List.getElem?_map, hz]
    exact .sc _
end Go.Proofs.YtecbcpilcjmhlaaDoor
end
