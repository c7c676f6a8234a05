/-
  What functions of the program hand back: contracts over abstract values.
-/
import Derived.Test.YtecbcpilcjmhlaaDoorAvN
import Derived.Test.YtecbcpilcjmhlaaDoorInst
import Derived.Test.YtecbcpilcjmhlaaDoorV4
import Derived.Test.YtecbcpilcjmhlaaDoorV8
import Derived.Test.YtecbcpilcjmhlaaDoorW2
import Derived.Test.YtecbcpilcjmhlaaDoorW3
import Derived.Test.YtecbcpilcjmhlaaDoorAvR
namespace Go.Proofs
open Go.Av
set_option linter.unusedSimpArgs false
set_option linter.unusedVariables false
set_option maxRecDepth 10000
set_option maxHeartbeats 4000000
variable {G : Nat → DV}
attribute [local irreducible] OpSem ARun AOps ALex ACalls AEnd AClose RV
open Go.Fv
def nmL (l : List Int) (i : Nat) : List Int := (List.range i).map fun j => Ord.around (l.getD (3 * j) 0) 64
def tyL (l : List Int) (i : Nat) : List Int := (List.range i).map fun j => Ord.around (l.getD (3 * j + 1) 0) 2
def fiL (l : List Int) (i : Nat) : List Int := (List.range i).map fun j => 1 + Ord.around (l.getD (3 * j + 2) 0) 30
theorem nmL_len (l : List Int) (i : Nat) : (nmL l i).length = i := by simp [nmL]
theorem tyL_len (l : List Int) (i : Nat) : (tyL l i).length = i := by simp [tyL]
theorem fiL_len (l : List Int) (i : Nat) : (fiL l i).length = i := by simp [fiL]
theorem nmL_succ (l : List Int) (i : Nat) : nmL l (i + 1) = nmL l i ++ [Ord.around (l.getD (3 * i) 0) 64] := by simp [nmL, List.range_succ]
theorem tyL_succ (l : List Int) (i : Nat) : tyL l (i + 1) = tyL l i ++ [Ord.around (l.getD (3 * i + 1) 0) 2] := by simp [tyL, List.range_succ]
theorem fiL_succ (l : List Int) (i : Nat) : fiL l (i + 1) = fiL l i ++ [1 + Ord.around (l.getD (3 * i + 2) 0) 30] := by simp [fiL, List.range_succ]

theorem blastValues_c (hG : G 0 = opsT) (l : List Int) (model : List Bool) (hll : l.length ≤ 4611686018427387904) (hl : ∀ x ∈ l, Ord.I64 x) (hml : model.length ≤ 4611686018427387904) :
    Go.Av.Pure Tryd.prog G 6 [slOf l, slOf model] (.b true) := fun B => by
  have hlv := lives_c hG
  refine calls_of_run Tryd.func6 rfl Tryd.ntmps6 rfl (t := [(0, slOf l), (1, slOf model)]) rfl fun E hE => ?_
  (repeat' first | refine s_as rfl ?_ | refine s_alloc (fun _ _ => ?_) | refine o_nil ?_ | refine o_op rfl ?_ | refine r_seq ?_ | refine r_region ?_ | refine r_block ?_)
  rename_i g0 hg0
  refine r_ownin 0 2 1 rfl rfl (fun _ => rfl) fun g1 hg1 => ?_
  refine r_ownin 0 3 1 rfl rfl (fun _ => rfl) fun g2 hg2 => ?_
  refine r_ownin 0 4 1 rfl rfl (fun _ => rfl) fun g3 hg3 => ?_
  refine r_loop4 (fun (i : Nat) g1 g2 g3 => ⟨[(0, slOf l), (1, slOf model), (5, .ptr 0 g0 0), (6, .i ((3 * i : Nat) : Int))], [.row g0 [.i 0, .nil, .ref 1 g1 0 (nmL l i).length 1, .ref 2 g2 0 (tyL l i).length 1, .ref 3 g3 0 (fiL l i).length 1], .row g1 (encs (nmL l i)), .row g2 (encs (tyL l i)), .row g3 (encs (fiL l i))]⟩) (fun i g1 g2 g3 => i ≤ 8 ∧ E.N < g1 ∧ E.N < g2 ∧ E.N < g3) (fun i => 8 - i) 0 g1 g2 g3 ?_ ⟨by omega, hg1, hg2, hg3⟩ ?_
  · exact ale_drop (by repeat' first | exact mem_nil | refine mem_cons rfl ?_) rfl
  intro i g1 g2 g3 ⟨hi, hg1, hg2, hg3⟩
  have hn1 := nmL_len l i
  have hn2 := tyL_len l i
  have hn3 := fiL_len l i
  by_cases hc : 3 * i + 2 < l.length ∧ 3 * i < 24
  · obtain ⟨hc1, hc2⟩ := hc
    have q0 : 3 * i < l.length := by omega
    have q1 : 3 * i + 1 < l.length := by omega
    have a0 := hl _ (List.getElem_mem q0)
    have a1 := hl _ (List.getElem_mem q1)
    have a2 := hl _ (List.getElem_mem hc1)
    have b2 := Ord.around_bound (l[3 * i + 2]'hc1) (most := 30) (by decide)
    have s0 := nmL_succ l i
    have s1 := tyL_succ l i
    have s2 := fiL_succ l i
    rw [Ord.getD_lt q0] at s0
    rw [Ord.getD_lt q1] at s1
    rw [Ord.getD_lt hc1] at s2
    have h2 := around_c (G := G) (l[3 * i + 2]'hc1) 30 a2 (by decide)
    generalize Ord.around (l[3 * i + 2]'hc1) 30 = x2 at h2 b2 s2
    have e3 : ((3 * (i + 1) : Nat) : Int) = ((3 * i : Nat) : Int) + 3 := by omega
    (repeat' first | refine s_mv rfl ?_ | refine s_as rfl ?_ | refine s_lss rfl rfl ?_ | refine s_add rfl rfl (by omega) ?_ | refine s_len_sl rfl ?_ | refine s_app1 rfl rfl rfl rfl rfl rfl rfl (by first | omega | (simp; omega)) (by first | omega | (simp; omega)) (fun _ => rfl) (fun _ _ => ?_) | refine s_pt rfl rfl ?_ | refine s_fld_ptr rfl rfl ?_ | refine s_store rfl rfl rfl rfl (by rfl) (by rfl) (by rfl) ?_ | refine o_nil ?_ | refine o_op rfl ?_ | refine o_op0 ?_ | refine o_gy rfl rfl rfl rfl ?_ | refine o_sp_t rfl rfl (by omega) ?_ | refine r_seq ?_ | refine r_region ?_ | refine r_block ?_ | (refine g_draw ?_; first | refine r_draw0 (by rfl) (by kernel_rfl) (by kernel_rfl) ?_ | refine r_drawq (by kernel_rfl) (by kernel_rfl) ?_) | refine r_skip ?_ | refine r_cond_dt rfl (by omega) ?_ | refine x_op rfl (by (repeat' first | refine s_mv rfl ?_ | refine s_load_ep rfl ?_ | refine s_load_row rfl rfl rfl ?_ | refine s_idx_sln rfl rfl (by first | assumption | omega | (simp; done) | (simp; omega)) ?_ | refine s_add rfl rfl (by omega) ?_ | refine s_call_p rfl rfl (h2) (by repeat' first | exact clo_sc | exact clo_slOf _ | exact clo_sl (encs_clo _) | exact encs_clo _ | refine clo_fn ?_ ?_ | refine clo_ep ?_ | refine clo_tup ?_ | refine clo_agg ?_ | exact ac_nil | refine ac_cons ?_ ?_ | refine clo_sl ?_) ?_ | refine s_call_p rfl rfl (around_c _ _ (by assumption) (by decide)) (by repeat' first | exact clo_sc | exact clo_slOf _ | exact clo_sl (encs_clo _) | exact encs_clo _ | refine clo_fn ?_ ?_ | refine clo_ep ?_ | refine clo_tup ?_ | refine clo_agg ?_ | exact ac_nil | refine ac_cons ?_ ?_ | refine clo_sl ?_) ?_ | refine s_fld_ptr rfl rfl ?_ | refine s_bslice rfl rfl (by decide) rfl ?_ | exact ⟨rfl, rfl⟩)) ?_ | refine x_nil ?_)
    rename_i ga hga gb hgb gc hgc
    refine ⟨i + 1, ga, gb, gc, ⟨by omega, by omega, by omega, by omega⟩, by omega, ?_⟩
    rw [s0, s1, s2, e3]
    exact ale_drop (by repeat' first | exact mem_nil | refine mem_cons rfl ?_) rfl
  · have hb1 : ∀ x ∈ nmL l i, 0 ≤ x ∧ x < 64 := fun x hx => by
      obtain ⟨j, _, rfl⟩ := List.mem_map.1 hx
      exact Ord.around_bound _ (by decide)
    have hb3 : ∀ x ∈ fiL l i, 1 ≤ x ∧ x ≤ 30 := fun x hx => by
      obtain ⟨j, _, rfl⟩ := List.mem_map.1 hx
      have := Ord.around_bound (l.getD (3 * j + 2) 0) (most := 30) (by decide)
      omega
    have hr := (rValues_c (G := G) (nmL l i) (tyL l i) (fiL l i) model (by omega) (by omega) (by omega) hb1 hb3 hml).read
    have hol := outM_len (nmL l i) (tyL l i) (fiL l i) model (nmL l i).length
    have hmx : maxM (nmL l i) < 64 := max_lt (fun x hx => (hb1 x hx).2) (by omega)
    have hs0 := sameInts_c (G := G) (Go.Fv.outM (nmL l i) (tyL l i) (fiL l i) model (nmL l i).length) (Go.Fv.outM (nmL l i) (tyL l i) (fiL l i) model (nmL l i).length) (by omega) (by omega)
    rw [decide_eq_true rfl] at hs0
    refine r_pubin 0 2 rfl rfl rfl (encs_len _).symm rfl rfl ?_
    refine r_pubin 0 3 rfl rfl rfl (encs_len _).symm rfl rfl ?_
    refine r_pubin 0 4 rfl rfl rfl (encs_len _).symm rfl rfl ?_
    refine r_pubptr 5 rfl rfl (by rfl) ?_
    by_cases h0 : i = 0
    · subst h0
      have hv : Go.Av.Pure Tryd.prog G 24 [.agg [.i 0, .nil, slOf (nmL l 0), slOf (tyL l 0), slOf (fiL l 0)], slOf model] .nil := values_nil_c model
      have hs : Go.Av.Pure Tryd.prog G 23 [.nil, slOf (Go.Fv.outM (nmL l 0) (tyL l 0) (fiL l 0) model (nmL l 0).length)] (.b true) := by
        have hs0 : Go.Av.Pure Tryd.prog G 23 _ _ := hs0
        exact Pure.sub hs0 rfl (sub_cons (.nil _) (sub_cons (.refl _) sub_nil))
      generalize Go.Fv.outM (nmL l 0) (tyL l 0) (fiL l 0) model (nmL l 0).length = out at *
      clear hb1 hb3 hmx hol
      rcases Nat.lt_or_ge 2 l.length with hlt | hge
      · omega
      · (repeat' first | refine s_mv rfl ?_ | refine s_lss rfl rfl ?_ | refine s_add rfl rfl (by omega) ?_ | refine s_len_sl rfl ?_ | refine s_pf rfl rfl ?_ | refine o_nil ?_ | refine o_op rfl ?_ | refine o_gn rfl rfl rfl rfl ?_ | refine o_sp_f rfl rfl (by omega) ?_ | refine r_seq ?_ | refine r_region ?_ | (refine g_draw ?_; first | refine r_draw0 (by rfl) (by kernel_rfl) (by kernel_rfl) ?_ | refine r_drawq (by kernel_rfl) (by kernel_rfl) ?_) | refine r_cond_f rfl ?_ | refine r_exit rfl ?_ | refine r_ret ?_ | refine x_op rfl (by (repeat' first | refine s_mv rfl ?_ | refine s_as rfl ?_ | refine s_load_ep rfl ?_ | refine s_load_epa rfl (by rfl) (by rfl) ?_ | refine s_call_p rfl rfl (hv) (by repeat' first | exact clo_sc | exact clo_slOf _ | exact clo_sl (encs_clo _) | exact encs_clo _ | refine clo_fn ?_ ?_ | refine clo_ep ?_ | refine clo_tup ?_ | refine clo_agg ?_ | exact ac_nil | refine ac_cons ?_ ?_ | refine clo_sl ?_) ?_ | refine s_call_p rfl rfl (hr) (by repeat' first | exact clo_sc | exact clo_slOf _ | exact clo_sl (encs_clo _) | exact encs_clo _ | refine clo_fn ?_ ?_ | refine clo_ep ?_ | refine clo_tup ?_ | refine clo_agg ?_ | exact ac_nil | refine ac_cons ?_ ?_ | refine clo_sl ?_) ?_ | refine s_call_p rfl rfl (hs) (by repeat' first | exact clo_sc | exact clo_slOf _ | exact clo_sl (encs_clo _) | exact encs_clo _ | refine clo_fn ?_ ?_ | refine clo_ep ?_ | refine clo_tup ?_ | refine clo_agg ?_ | exact ac_nil | refine ac_cons ?_ ?_ | refine clo_sl ?_) ?_ | refine s_call_p rfl rfl (hlv) (by repeat' first | exact clo_sc | exact clo_slOf _ | exact clo_sl (encs_clo _) | exact encs_clo _ | refine clo_fn ?_ ?_ | refine clo_ep ?_ | refine clo_tup ?_ | refine clo_agg ?_ | exact ac_nil | refine ac_cons ?_ ?_ | refine clo_sl ?_) ?_ | refine s_pt rfl rfl ?_ | refine s_fld_ep rfl rfl ?_ | exact ⟨rfl, rfl⟩)) ?_ | refine x_gy rfl rfl rfl rfl (by (repeat' first | refine s_mv rfl ?_ | refine s_as rfl ?_ | refine s_load_ep rfl ?_ | refine s_load_epa rfl (by rfl) (by rfl) ?_ | refine s_call_p rfl rfl (hv) (by repeat' first | exact clo_sc | exact clo_slOf _ | exact clo_sl (encs_clo _) | exact encs_clo _ | refine clo_fn ?_ ?_ | refine clo_ep ?_ | refine clo_tup ?_ | refine clo_agg ?_ | exact ac_nil | refine ac_cons ?_ ?_ | refine clo_sl ?_) ?_ | refine s_call_p rfl rfl (hr) (by repeat' first | exact clo_sc | exact clo_slOf _ | exact clo_sl (encs_clo _) | exact encs_clo _ | refine clo_fn ?_ ?_ | refine clo_ep ?_ | refine clo_tup ?_ | refine clo_agg ?_ | exact ac_nil | refine ac_cons ?_ ?_ | refine clo_sl ?_) ?_ | refine s_call_p rfl rfl (hs) (by repeat' first | exact clo_sc | exact clo_slOf _ | exact clo_sl (encs_clo _) | exact encs_clo _ | refine clo_fn ?_ ?_ | refine clo_ep ?_ | refine clo_tup ?_ | refine clo_agg ?_ | exact ac_nil | refine ac_cons ?_ ?_ | refine clo_sl ?_) ?_ | refine s_call_p rfl rfl (hlv) (by repeat' first | exact clo_sc | exact clo_slOf _ | exact clo_sl (encs_clo _) | exact encs_clo _ | refine clo_fn ?_ ?_ | refine clo_ep ?_ | refine clo_tup ?_ | refine clo_agg ?_ | exact ac_nil | refine ac_cons ?_ ?_ | refine clo_sl ?_) ?_ | refine s_pt rfl rfl ?_ | refine s_fld_ep rfl rfl ?_ | exact ⟨rfl, rfl⟩)) ?_ | refine x_nil ?_)
        refine e_1 Tryd.results6 (rv_tmp rfl) (c_pure' ?_)
        rfl
    · have hv := (values_c (G := G) (nmL l i) (tyL l i) (fiL l i) model (by omega) (by omega) (by omega) (by omega) hb1 hb3 hml).read
      generalize Go.Fv.outM (nmL l i) (tyL l i) (fiL l i) model (nmL l i).length = out at *
      have hs := hs0
      clear hb1 hb3 hmx hol
      rcases Nat.lt_or_ge (3 * i + 2) l.length with hlt | hge
      · (repeat' first | refine s_mv rfl ?_ | refine s_lss rfl rfl ?_ | refine s_add rfl rfl (by omega) ?_ | refine s_len_sl rfl ?_ | refine s_pt rfl rfl ?_ | refine o_nil ?_ | refine o_op rfl ?_ | refine o_gy rfl rfl rfl rfl ?_ | refine o_sp_t rfl rfl (by omega) ?_ | refine r_seq ?_ | refine r_region ?_ | (refine g_draw ?_; first | refine r_draw0 (by rfl) (by kernel_rfl) (by kernel_rfl) ?_ | refine r_drawq (by kernel_rfl) (by kernel_rfl) ?_) | refine r_cond_df rfl (by omega) ?_ | refine r_exit rfl ?_ | refine r_ret ?_ | refine x_op rfl (by (repeat' first | refine s_mv rfl ?_ | refine s_as rfl ?_ | refine s_load_ep rfl ?_ | refine s_load_epa rfl (by rfl) (by rfl) ?_ | refine s_call_p rfl rfl (hv) (by repeat' first | exact clo_sc | exact clo_slOf _ | exact clo_sl (encs_clo _) | exact encs_clo _ | refine clo_fn ?_ ?_ | refine clo_ep ?_ | refine clo_tup ?_ | refine clo_agg ?_ | exact ac_nil | refine ac_cons ?_ ?_ | refine clo_sl ?_) ?_ | refine s_call_p rfl rfl (hr) (by repeat' first | exact clo_sc | exact clo_slOf _ | exact clo_sl (encs_clo _) | exact encs_clo _ | refine clo_fn ?_ ?_ | refine clo_ep ?_ | refine clo_tup ?_ | refine clo_agg ?_ | exact ac_nil | refine ac_cons ?_ ?_ | refine clo_sl ?_) ?_ | refine s_call_p rfl rfl (hs) (by repeat' first | exact clo_sc | exact clo_slOf _ | exact clo_sl (encs_clo _) | exact encs_clo _ | refine clo_fn ?_ ?_ | refine clo_ep ?_ | refine clo_tup ?_ | refine clo_agg ?_ | exact ac_nil | refine ac_cons ?_ ?_ | refine clo_sl ?_) ?_ | refine s_call_p rfl rfl (hlv) (by repeat' first | exact clo_sc | exact clo_slOf _ | exact clo_sl (encs_clo _) | exact encs_clo _ | refine clo_fn ?_ ?_ | refine clo_ep ?_ | refine clo_tup ?_ | refine clo_agg ?_ | exact ac_nil | refine ac_cons ?_ ?_ | refine clo_sl ?_) ?_ | refine s_pt rfl rfl ?_ | refine s_fld_ep rfl rfl ?_ | exact ⟨rfl, rfl⟩)) ?_ | refine x_gy rfl rfl rfl rfl (by (repeat' first | refine s_mv rfl ?_ | refine s_as rfl ?_ | refine s_load_ep rfl ?_ | refine s_load_epa rfl (by rfl) (by rfl) ?_ | refine s_call_p rfl rfl (hv) (by repeat' first | exact clo_sc | exact clo_slOf _ | exact clo_sl (encs_clo _) | exact encs_clo _ | refine clo_fn ?_ ?_ | refine clo_ep ?_ | refine clo_tup ?_ | refine clo_agg ?_ | exact ac_nil | refine ac_cons ?_ ?_ | refine clo_sl ?_) ?_ | refine s_call_p rfl rfl (hr) (by repeat' first | exact clo_sc | exact clo_slOf _ | exact clo_sl (encs_clo _) | exact encs_clo _ | refine clo_fn ?_ ?_ | refine clo_ep ?_ | refine clo_tup ?_ | refine clo_agg ?_ | exact ac_nil | refine ac_cons ?_ ?_ | refine clo_sl ?_) ?_ | refine s_call_p rfl rfl (hs) (by repeat' first | exact clo_sc | exact clo_slOf _ | exact clo_sl (encs_clo _) | exact encs_clo _ | refine clo_fn ?_ ?_ | refine clo_ep ?_ | refine clo_tup ?_ | refine clo_agg ?_ | exact ac_nil | refine ac_cons ?_ ?_ | refine clo_sl ?_) ?_ | refine s_call_p rfl rfl (hlv) (by repeat' first | exact clo_sc | exact clo_slOf _ | exact clo_sl (encs_clo _) | exact encs_clo _ | refine clo_fn ?_ ?_ | refine clo_ep ?_ | refine clo_tup ?_ | refine clo_agg ?_ | exact ac_nil | refine ac_cons ?_ ?_ | refine clo_sl ?_) ?_ | refine s_pt rfl rfl ?_ | refine s_fld_ep rfl rfl ?_ | exact ⟨rfl, rfl⟩)) ?_ | refine x_nil ?_)
        refine e_1 Tryd.results6 (rv_tmp rfl) (c_pure' ?_)
        rfl
      · (repeat' first | refine s_mv rfl ?_ | refine s_lss rfl rfl ?_ | refine s_add rfl rfl (by omega) ?_ | refine s_len_sl rfl ?_ | refine s_pf rfl rfl ?_ | refine o_nil ?_ | refine o_op rfl ?_ | refine o_gn rfl rfl rfl rfl ?_ | refine o_sp_f rfl rfl (by omega) ?_ | refine r_seq ?_ | refine r_region ?_ | (refine g_draw ?_; first | refine r_draw0 (by rfl) (by kernel_rfl) (by kernel_rfl) ?_ | refine r_drawq (by kernel_rfl) (by kernel_rfl) ?_) | refine r_cond_f rfl ?_ | refine r_exit rfl ?_ | refine r_ret ?_ | refine x_op rfl (by (repeat' first | refine s_mv rfl ?_ | refine s_as rfl ?_ | refine s_load_ep rfl ?_ | refine s_load_epa rfl (by rfl) (by rfl) ?_ | refine s_call_p rfl rfl (hv) (by repeat' first | exact clo_sc | exact clo_slOf _ | exact clo_sl (encs_clo _) | exact encs_clo _ | refine clo_fn ?_ ?_ | refine clo_ep ?_ | refine clo_tup ?_ | refine clo_agg ?_ | exact ac_nil | refine ac_cons ?_ ?_ | refine clo_sl ?_) ?_ | refine s_call_p rfl rfl (hr) (by repeat' first | exact clo_sc | exact clo_slOf _ | exact clo_sl (encs_clo _) | exact encs_clo _ | refine clo_fn ?_ ?_ | refine clo_ep ?_ | refine clo_tup ?_ | refine clo_agg ?_ | exact ac_nil | refine ac_cons ?_ ?_ | refine clo_sl ?_) ?_ | refine s_call_p rfl rfl (hs) (by repeat' first | exact clo_sc | exact clo_slOf _ | exact clo_sl (encs_clo _) | exact encs_clo _ | refine clo_fn ?_ ?_ | refine clo_ep ?_ | refine clo_tup ?_ | refine clo_agg ?_ | exact ac_nil | refine ac_cons ?_ ?_ | refine clo_sl ?_) ?_ | refine s_call_p rfl rfl (hlv) (by repeat' first | exact clo_sc | exact clo_slOf _ | exact clo_sl (encs_clo _) | exact encs_clo _ | refine clo_fn ?_ ?_ | refine clo_ep ?_ | refine clo_tup ?_ | refine clo_agg ?_ | exact ac_nil | refine ac_cons ?_ ?_ | refine clo_sl ?_) ?_ | refine s_pt rfl rfl ?_ | refine s_fld_ep rfl rfl ?_ | exact ⟨rfl, rfl⟩)) ?_ | refine x_gy rfl rfl rfl rfl (by (repeat' first | refine s_mv rfl ?_ | refine s_as rfl ?_ | refine s_load_ep rfl ?_ | refine s_load_epa rfl (by rfl) (by rfl) ?_ | refine s_call_p rfl rfl (hv) (by repeat' first | exact clo_sc | exact clo_slOf _ | exact clo_sl (encs_clo _) | exact encs_clo _ | refine clo_fn ?_ ?_ | refine clo_ep ?_ | refine clo_tup ?_ | refine clo_agg ?_ | exact ac_nil | refine ac_cons ?_ ?_ | refine clo_sl ?_) ?_ | refine s_call_p rfl rfl (hr) (by repeat' first | exact clo_sc | exact clo_slOf _ | exact clo_sl (encs_clo _) | exact encs_clo _ | refine clo_fn ?_ ?_ | refine clo_ep ?_ | refine clo_tup ?_ | refine clo_agg ?_ | exact ac_nil | refine ac_cons ?_ ?_ | refine clo_sl ?_) ?_ | refine s_call_p rfl rfl (hs) (by repeat' first | exact clo_sc | exact clo_slOf _ | exact clo_sl (encs_clo _) | exact encs_clo _ | refine clo_fn ?_ ?_ | refine clo_ep ?_ | refine clo_tup ?_ | refine clo_agg ?_ | exact ac_nil | refine ac_cons ?_ ?_ | refine clo_sl ?_) ?_ | refine s_call_p rfl rfl (hlv) (by repeat' first | exact clo_sc | exact clo_slOf _ | exact clo_sl (encs_clo _) | exact encs_clo _ | refine clo_fn ?_ ?_ | refine clo_ep ?_ | refine clo_tup ?_ | refine clo_agg ?_ | exact ac_nil | refine ac_cons ?_ ?_ | refine clo_sl ?_) ?_ | refine s_pt rfl rfl ?_ | refine s_fld_ep rfl rfl ?_ | exact ⟨rfl, rfl⟩)) ?_ | refine x_nil ?_)
        refine e_1 Tryd.results6 (rv_tmp rfl) (c_pure' ?_)
        rfl

end Go.Proofs
