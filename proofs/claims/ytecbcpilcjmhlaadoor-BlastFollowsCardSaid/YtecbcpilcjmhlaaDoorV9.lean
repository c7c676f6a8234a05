/-
  What functions of the program hand back: contracts over abstract values.
-/
import Derived.Test.YtecbcpilcjmhlaaDoorAvN
import Derived.Test.YtecbcpilcjmhlaaDoorInst
import Derived.Test.YtecbcpilcjmhlaaDoorAvR
import Derived.Test.YtecbcpilcjmhlaaDoorV3
import Derived.Test.YtecbcpilcjmhlaaDoorV7
import Derived.Test.YtecbcpilcjmhlaaDoorV8
import Derived.Test.YtecbcpilcjmhlaaDoorVL
namespace Go.Proofs
open Go.Av
set_option linter.unusedSimpArgs false
set_option linter.unusedVariables false
set_option maxRecDepth 10000
set_option maxHeartbeats 4000000
variable {G : Nat → DV}
attribute [local irreducible] OpSem ARun AOps ALex ACalls AEnd AClose RV
open Go.Fo

theorem clausesM_len (l : List Int) : (clausesM l).flatten.length ≤ 64 := by
  obtain ⟨h1, h2⟩ := clausesM_ok l
  generalize clausesM l = c at *
  have : ∀ c : List (List Int), (∀ x ∈ c, x.length ≤ 3) → c.flatten.length ≤ 3 * c.length := fun c => by
    induction c with
    | nil => intro _; simp
    | cons a r ih =>
      intro h
      have h1 := h a (by simp)
      have h2 := ih fun x hx => h x (by simp [hx])
      rw [List.flatten_cons, List.length_append, List.length_cons]; omega
  have := this c fun x hx => (h2 x hx).1
  omega

theorem blastFollows_c (hG : G 0 = opsT) (l m : List Int) (n : Int) (hll : l.length ≤ 4611686018427387904) (hl : ∀ x ∈ l, Ord.I64 x) (hml : m.length ≤ 4611686018427387904) (hm : ∀ x ∈ m, Ord.I64 x) (hn : Ord.I64 n) :
    Go.Av.Pure Tryd.prog G 5 [slOf l, slOf m, .i n] (.b true) := fun B => by
  have hlv := lives_c hG
  have hok := clausesM_ok l
  have hfl := clausesM_len l
  refine calls_of_run Tryd.func5 rfl Tryd.ntmps5 rfl (t := [(0, slOf l), (1, slOf m), (2, .i n)]) rfl fun E hE => ?_
  (repeat' first | refine s_mv rfl ?_ | refine s_as rfl ?_ | refine s_call_p rfl rfl ((clauses_c l hll hl).read) (by repeat' first | exact clo_sc | exact clo_slOf _ | exact clo_sl (encs_clo _) | exact encs_clo _ | refine clo_fn ?_ ?_ | refine clo_ep ?_ | refine clo_tup ?_ | refine clo_agg ?_ | exact ac_nil | refine ac_cons ?_ ?_ | refine clo_sl ?_) ?_ | refine s_store rfl rfl rfl rfl (by rfl) (by rfl) (by rfl) ?_ | refine s_build_s rfl rfl ?_ | refine s_alloc (fun _ _ => ?_) | refine o_nil ?_ | refine o_op rfl ?_ | refine o_op0 ?_ | refine r_seq ?_ | refine r_region ?_ | refine r_block ?_)
  generalize clausesM l = cls at *
  refine r_pubptr 7 rfl rfl (by rfl) ?_
  refine r_own 8 1 rfl fun g0 hg0 => ?_
  refine r_loopg (fun (i : Nat) g => ⟨[(0, slOf l), (1, slOf m), (2, .i n), (7, .ep [.i 9, slOf cls, .nil, .nil, .nil]), (9, .i i), (8, .ref 1 g 0 ((m.take i).map litM).length 1)], [.gone, .row g (encs ((m.take i).map litM))]⟩) (fun i => i ≤ m.length ∧ i ≤ 5) (fun i => 5 - i) 0 g0 hg0 ?_ ⟨by omega, by omega⟩ ?_
  · exact ale_drop (by repeat' first | exact mem_nil | refine mem_cons rfl ?_) rfl
  intro i g ⟨hi1, hi2⟩ hg
  by_cases hc : i < m.length ∧ i < 5
  · obtain ⟨him, hi5⟩ := hc
    have hli := literal_c (G := G) m[i] (hm _ (List.getElem_mem him))
    have hle : ((m.take i).map litM).length ≤ 5 := by rw [List.length_map, List.length_take]; omega
    have hsu : (m.take (i + 1)).map litM = (m.take i).map litM ++ [litM m[i]] := by
      rw [List.take_succ_eq_append_getElem him, List.map_append]; rfl
    (repeat' first | refine s_mv rfl ?_ | refine s_as rfl ?_ | refine s_load_ep rfl ?_ | refine s_idx_sln rfl rfl (by first | assumption | omega | (simp; done) | (simp; omega)) ?_ | refine s_lss rfl rfl ?_ | refine s_add rfl rfl (by omega) ?_ | refine s_call_p rfl rfl (hli) (by repeat' first | exact clo_sc | exact clo_slOf _ | exact clo_sl (encs_clo _) | exact encs_clo _ | refine clo_fn ?_ ?_ | refine clo_ep ?_ | refine clo_tup ?_ | refine clo_agg ?_ | exact ac_nil | refine ac_cons ?_ ?_ | refine clo_sl ?_) ?_ | refine s_len_sl rfl ?_ | refine s_app1 rfl rfl rfl rfl rfl rfl rfl (by first | omega | (simp; omega)) (by first | omega | (simp; omega)) (fun _ => rfl) (fun _ _ => ?_) | refine s_pt rfl rfl ?_ | refine s_bslice rfl rfl (by decide) rfl ?_ | refine o_nil ?_ | refine o_op rfl ?_ | refine o_gy rfl rfl rfl rfl ?_ | refine o_sp_t rfl rfl (by omega) ?_ | refine r_seq ?_ | refine r_region ?_ | refine r_block ?_ | refine r_skip ?_ | refine r_cond_dt rfl (by omega) ?_)
    rename_i g5 hg5
    refine ⟨i + 1, g5, ⟨by omega, by omega⟩, by omega, by omega, ?_⟩
    rw [hsu]
    exact ale_drop (by repeat' first | exact mem_nil | refine mem_cons rfl ?_) rfl
  · have hbd : ∀ x ∈ (m.take i).map litM, -9 ≤ x ∧ x ≤ 9 ∧ x ≠ 0 := fun x hx => by
      obtain ⟨y, _, rfl⟩ := List.mem_map.1 hx
      exact litM_bd y
    have hle : ((m.take i).map litM).length ≤ 5 := by rw [List.length_map, List.length_take]; omega
    generalize (m.take i).map litM = lits at *
    have hfit : Fits lits := fun x hx => ⟨(hbd x hx).2.2, by have := hbd x hx; omega, by have := hbd x hx; omega⟩
    have hfc : ∀ c ∈ cls, Fits c := fun c hc x hx => ⟨((hok.2 c hc).2 x hx).2.2, by have := (hok.2 c hc).2 x hx; omega, by have := (hok.2 c hc).2 x hx; omega⟩
    have hcl : cls.length ≤ 1048576 := by have := hok.1; omega
    have hcc : ∀ c ∈ cls, c.length ≤ 1048576 := fun c hc => by have := (hok.2 c hc).1; omega
    have hcb : ∀ c ∈ cls, ∀ x ∈ c, -2000 ≤ x ∧ x ≤ 2000 := fun c hc x hx => (hfc c hc x hx).2
    have hf1 := follow_c (G := G) 9 cls .nil .nil .nil lits hcl hcc (by omega) hcb fun x hx => (hfit x hx).2
    have hr1 := rfollow_c (G := G) cls lits hcl hcc (by omega) hcb
    have hli := literal_c (G := G) n hn
    have hbn := litM_bd n
    have hfn : Fits (lits ++ [litM n]) := fun x hx => by
      rcases List.mem_append.1 hx with h | h
      · exact hfit x h
      · rw [List.mem_singleton.1 h]; exact ⟨hbn.2.2, by omega, by omega⟩
    have hf3 := follow_c (G := G) 9 cls .nil .nil .nil (lits ++ [litM n]) hcl hcc (by rw [List.length_append, List.length_singleton]; omega) hcb fun x hx => (hfn x hx).2
    refine r_pub (es := Enc.es Int) 8 rfl rfl (encs_len _).symm rfl ?_
    cases ho : followM cls lits with
    | none =>
      rw [ho] at hf1 hr1
      change Go.Av.Pure _ _ _ _ (.tup [.nil, .b false]) at hf1
      change Go.Av.Pure _ _ _ _ (.tup [.nil, .b false]) at hr1
      have hs1 : Go.Av.Pure Tryd.prog G 23 [.nil, .nil] (.b true) := by
        have := sameInts_c (G := G) [] [] (by decide) (by decide)
        rw [decide_eq_true rfl] at this
        have this : Go.Av.Pure Tryd.prog G 23 _ _ := this
        exact Pure.sub this rfl (sub_cons (.nil _) (sub_cons (.nil _) sub_nil))
      clear hfl hbd hle hfit hfc hcl hcc hcb hbn hfn hli hf3 hll hl hml hm hG hn hok
      rcases Nat.lt_or_ge i m.length with hlt | hge
      all_goals
        (repeat' first | refine s_mv rfl ?_ | refine s_as rfl ?_ | refine s_load_ep rfl ?_ | refine s_load_epa rfl (by rfl) (by rfl) ?_ | refine s_lss rfl rfl ?_ | refine s_neq_b rfl rfl ?_ | refine s_call_p rfl rfl (hf1) (by repeat' first | exact clo_sc | exact clo_slOf _ | exact clo_sl (encs_clo _) | exact encs_clo _ | refine clo_fn ?_ ?_ | refine clo_ep ?_ | refine clo_tup ?_ | refine clo_agg ?_ | exact ac_nil | refine ac_cons ?_ ?_ | refine clo_sl ?_) ?_ | refine s_call_p rfl rfl (hr1) (by repeat' first | exact clo_sc | exact clo_slOf _ | exact clo_sl (encs_clo _) | exact encs_clo _ | refine clo_fn ?_ ?_ | refine clo_ep ?_ | refine clo_tup ?_ | refine clo_agg ?_ | exact ac_nil | refine ac_cons ?_ ?_ | refine clo_sl ?_) ?_ | refine s_call_p rfl rfl (hs1) (by repeat' first | exact clo_sc | exact clo_slOf _ | exact clo_sl (encs_clo _) | exact encs_clo _ | refine clo_fn ?_ ?_ | refine clo_ep ?_ | refine clo_tup ?_ | refine clo_agg ?_ | exact ac_nil | refine ac_cons ?_ ?_ | refine clo_sl ?_) ?_ | refine s_call_p rfl rfl (hlv) (by repeat' first | exact clo_sc | exact clo_slOf _ | exact clo_sl (encs_clo _) | exact encs_clo _ | refine clo_fn ?_ ?_ | refine clo_ep ?_ | refine clo_tup ?_ | refine clo_agg ?_ | exact ac_nil | refine ac_cons ?_ ?_ | refine clo_sl ?_) ?_ | refine s_len_sl rfl ?_ | refine s_pt rfl rfl ?_ | refine s_pf rfl rfl ?_ | refine s_not rfl ?_ | refine s_fld_ep rfl rfl ?_ | refine s_extract rfl rfl rfl ?_ | refine o_nil ?_ | refine o_op rfl ?_ | refine o_gy rfl rfl rfl rfl ?_ | refine o_gn rfl rfl rfl rfl ?_ | refine o_sp_t rfl rfl (by omega) ?_ | refine o_sp_f rfl rfl (by omega) ?_ | refine r_seq ?_ | refine r_region ?_ | refine r_skip ?_ | refine r_cond_t rfl ?_ | refine r_cond_f rfl ?_ | refine r_cond_df rfl (by omega) ?_ | refine r_exit rfl ?_ | refine r_ret ?_)
        refine e_1 Tryd.results5 (rv_tmp rfl) (c_pure' ?_)
        rfl
    | some o =>
      rw [ho] at hf1 hr1
      change Go.Av.Pure _ _ _ _ (.tup [slOf o, .b true]) at hf1
      change Go.Av.Pure _ _ _ _ (.tup [slOf o, .b true]) at hr1
      obtain ⟨hol, hoo⟩ := follow_out ho
      have hf2 := follow_c (G := G) 9 cls .nil .nil .nil o hcl hcc (by omega) hcb fun x hx => (hoo x hx).2
      rw [follow_again hfc hfit ho] at hf2
      change Go.Av.Pure _ _ _ _ (.tup [slOf o, .b true]) at hf2
      have hs2 := sameInts_c (G := G) o o (by omega) (by omega)
      rw [decide_eq_true rfl] at hs2
      cases hz : followM cls (lits ++ [litM n]) with
      | none =>
        rw [hz] at hf3
        change Go.Av.Pure _ _ _ _ (.tup [.nil, .b false]) at hf3
        clear hfl hbd hfit hfc hcl hcc hcb hbn hfn hll hl hml hm hG hn hok hoo ho hz
        rcases Nat.lt_or_ge i m.length with hlt | hge
        all_goals
          (repeat' first | refine s_mv rfl ?_ | refine s_as rfl ?_ | refine s_load_ep rfl ?_ | refine s_load_epa rfl (by rfl) (by rfl) ?_ | refine s_lss rfl rfl ?_ | refine s_neq_b rfl rfl ?_ | refine s_pub (i := 89) rfl rfl (by first | rfl | exact (encs_len _).symm) rfl ?_ | refine s_call_p rfl rfl (hf1) (by repeat' first | exact clo_sc | exact clo_slOf _ | exact clo_sl (encs_clo _) | exact encs_clo _ | refine clo_fn ?_ ?_ | refine clo_ep ?_ | refine clo_tup ?_ | refine clo_agg ?_ | exact ac_nil | refine ac_cons ?_ ?_ | refine clo_sl ?_) ?_ | refine s_call_p rfl rfl (hf2) (by repeat' first | exact clo_sc | exact clo_slOf _ | exact clo_sl (encs_clo _) | exact encs_clo _ | refine clo_fn ?_ ?_ | refine clo_ep ?_ | refine clo_tup ?_ | refine clo_agg ?_ | exact ac_nil | refine ac_cons ?_ ?_ | refine clo_sl ?_) ?_ | refine s_call_p rfl rfl (hf3) (by repeat' first | exact clo_sc | exact clo_slOf _ | exact clo_sl (encs_clo _) | exact encs_clo _ | refine clo_fn ?_ ?_ | refine clo_ep ?_ | refine clo_tup ?_ | refine clo_agg ?_ | exact ac_nil | refine ac_cons ?_ ?_ | refine clo_sl ?_) ?_ | refine s_call_p rfl rfl (hr1) (by repeat' first | exact clo_sc | exact clo_slOf _ | exact clo_sl (encs_clo _) | exact encs_clo _ | refine clo_fn ?_ ?_ | refine clo_ep ?_ | refine clo_tup ?_ | refine clo_agg ?_ | exact ac_nil | refine ac_cons ?_ ?_ | refine clo_sl ?_) ?_ | refine s_call_p rfl rfl (hs2) (by repeat' first | exact clo_sc | exact clo_slOf _ | exact clo_sl (encs_clo _) | exact encs_clo _ | refine clo_fn ?_ ?_ | refine clo_ep ?_ | refine clo_tup ?_ | refine clo_agg ?_ | exact ac_nil | refine ac_cons ?_ ?_ | refine clo_sl ?_) ?_ | refine s_len_sl rfl ?_ | refine s_app1 rfl rfl rfl rfl rfl rfl rfl (by first | omega | (simp; omega)) (by first | omega | (simp; omega)) (fun _ => rfl) (fun _ _ => ?_) | refine s_app_z rfl rfl rfl rfl rfl (by first | omega | (simp; omega)) (by first | omega | (simp; omega)) (fun _ => rfl) (fun _ _ => ?_) | refine s_pt rfl rfl ?_ | refine s_pf rfl rfl ?_ | refine s_not rfl ?_ | refine s_fld_ep rfl rfl ?_ | refine s_extract rfl rfl rfl ?_ | refine s_bslice_none rfl (fun _ _ => ?_) | refine s_bslice rfl rfl (by decide) rfl ?_ | refine o_nil ?_ | refine o_op rfl ?_ | refine o_gy rfl rfl rfl rfl ?_ | refine o_gn rfl rfl rfl rfl ?_ | refine o_sp_t rfl rfl (by omega) ?_ | refine o_sp_f rfl rfl (by omega) ?_ | refine r_seq ?_ | refine r_region ?_ | refine r_block ?_ | (refine g_draw ?_; first | (refine r_drawo [(0, true), (2, true), (4, true), (1, false), (3, false), (5, true), (6, false), (7, false), (8, false), (9, true), (10, true), (12, true), (11, true), (13, true)] (by rfl) (by rfl) (by kernel_rfl) (by kernel_rfl) ?_) | refine r_draw0 (by rfl) (by kernel_rfl) (by kernel_rfl) ?_ | refine r_drawq (by kernel_rfl) (by kernel_rfl) ?_) | refine r_skip ?_ | refine r_cond_f rfl ?_ | refine r_cond_df rfl (by omega) ?_ | refine r_exit rfl ?_ | refine m_nil ?_ | refine m_st rfl (fun _ => (by (repeat' first | refine s_mv rfl ?_ | refine s_as rfl ?_ | refine s_load_epa rfl (by rfl) (by rfl) ?_ | refine s_call_p rfl rfl (hli) (by repeat' first | exact clo_sc | exact clo_slOf _ | exact clo_sl (encs_clo _) | exact encs_clo _ | refine clo_fn ?_ ?_ | refine clo_ep ?_ | refine clo_tup ?_ | refine clo_agg ?_ | exact ac_nil | refine ac_cons ?_ ?_ | refine clo_sl ?_) ?_ | refine s_extract rfl rfl rfl ?_ | exact ⟨rfl, rfl⟩))) ?_ | refine m_ef rfl ?_)
          rename_i ga hga gb hgb gc hgc gd hgd
          refine r_loop (fun _ : Unit => ⟨[(10, slOf o), (17, .b false), (18, .i 0)], [.gone, .gone, .gone]⟩) (fun _ => True) (fun _ => 0) () ?_ trivial ?_
          · exact ale_drop (by repeat' first | exact mem_nil | refine mem_cons rfl ?_) rfl
          intro u _
          by_cases hlt : 0 < o.length
          · (repeat' first | refine s_mv rfl ?_ | refine s_as rfl ?_ | refine s_lss rfl rfl ?_ | refine s_call_p rfl rfl (hlv) (by repeat' first | exact clo_sc | exact clo_slOf _ | exact clo_sl (encs_clo _) | exact encs_clo _ | refine clo_fn ?_ ?_ | refine clo_ep ?_ | refine clo_tup ?_ | refine clo_agg ?_ | exact ac_nil | refine ac_cons ?_ ?_ | refine clo_sl ?_) ?_ | refine s_len_sl rfl ?_ | refine s_pt rfl rfl ?_ | refine o_nil ?_ | refine o_op rfl ?_ | refine o_gy rfl rfl rfl rfl ?_ | refine o_sp_t rfl rfl (by omega) ?_ | refine r_seq ?_ | refine r_region ?_ | refine r_cond_f rfl ?_ | refine r_exit rfl ?_ | refine r_ret ?_)
            refine e_1 Tryd.results5 (rv_tmp rfl) (c_pure' ?_)
            rfl
          · (repeat' first | refine s_mv rfl ?_ | refine s_as rfl ?_ | refine s_lss rfl rfl ?_ | refine s_call_p rfl rfl (hlv) (by repeat' first | exact clo_sc | exact clo_slOf _ | exact clo_sl (encs_clo _) | exact encs_clo _ | refine clo_fn ?_ ?_ | refine clo_ep ?_ | refine clo_tup ?_ | refine clo_agg ?_ | exact ac_nil | refine ac_cons ?_ ?_ | refine clo_sl ?_) ?_ | refine s_len_sl rfl ?_ | refine s_pf rfl rfl ?_ | refine o_nil ?_ | refine o_op rfl ?_ | refine o_gn rfl rfl rfl rfl ?_ | refine o_sp_f rfl rfl (by omega) ?_ | refine r_seq ?_ | refine r_region ?_ | refine r_cond_f rfl ?_ | refine r_exit rfl ?_ | refine r_ret ?_)
            refine e_1 Tryd.results5 (rv_tmp rfl) (c_pure' ?_)
            rfl
      | some z =>
        rw [hz] at hf3
        change Go.Av.Pure _ _ _ _ (.tup [slOf z, .b true]) at hf3
        have hmore := follow_more ho hz
        obtain ⟨hzl, _⟩ := follow_out hz
        clear hfl hbd hfit hfc hcl hcc hcb hbn hfn hll hl hml hm hG hn hok hoo ho hz
        rcases Nat.lt_or_ge i m.length with hlt | hge
        all_goals
          (repeat' first | refine s_mv rfl ?_ | refine s_as rfl ?_ | refine s_load_ep rfl ?_ | refine s_load_epa rfl (by rfl) (by rfl) ?_ | refine s_lss rfl rfl ?_ | refine s_neq_b rfl rfl ?_ | refine s_pub (i := 89) rfl rfl (by first | rfl | exact (encs_len _).symm) rfl ?_ | refine s_call_p rfl rfl (hf1) (by repeat' first | exact clo_sc | exact clo_slOf _ | exact clo_sl (encs_clo _) | exact encs_clo _ | refine clo_fn ?_ ?_ | refine clo_ep ?_ | refine clo_tup ?_ | refine clo_agg ?_ | exact ac_nil | refine ac_cons ?_ ?_ | refine clo_sl ?_) ?_ | refine s_call_p rfl rfl (hf2) (by repeat' first | exact clo_sc | exact clo_slOf _ | exact clo_sl (encs_clo _) | exact encs_clo _ | refine clo_fn ?_ ?_ | refine clo_ep ?_ | refine clo_tup ?_ | refine clo_agg ?_ | exact ac_nil | refine ac_cons ?_ ?_ | refine clo_sl ?_) ?_ | refine s_call_p rfl rfl (hf3) (by repeat' first | exact clo_sc | exact clo_slOf _ | exact clo_sl (encs_clo _) | exact encs_clo _ | refine clo_fn ?_ ?_ | refine clo_ep ?_ | refine clo_tup ?_ | refine clo_agg ?_ | exact ac_nil | refine ac_cons ?_ ?_ | refine clo_sl ?_) ?_ | refine s_call_p rfl rfl (hr1) (by repeat' first | exact clo_sc | exact clo_slOf _ | exact clo_sl (encs_clo _) | exact encs_clo _ | refine clo_fn ?_ ?_ | refine clo_ep ?_ | refine clo_tup ?_ | refine clo_agg ?_ | exact ac_nil | refine ac_cons ?_ ?_ | refine clo_sl ?_) ?_ | refine s_call_p rfl rfl (hs2) (by repeat' first | exact clo_sc | exact clo_slOf _ | exact clo_sl (encs_clo _) | exact encs_clo _ | refine clo_fn ?_ ?_ | refine clo_ep ?_ | refine clo_tup ?_ | refine clo_agg ?_ | exact ac_nil | refine ac_cons ?_ ?_ | refine clo_sl ?_) ?_ | refine s_len_sl rfl ?_ | refine s_app1 rfl rfl rfl rfl rfl rfl rfl (by first | omega | (simp; omega)) (by first | omega | (simp; omega)) (fun _ => rfl) (fun _ _ => ?_) | refine s_app_z rfl rfl rfl rfl rfl (by first | omega | (simp; omega)) (by first | omega | (simp; omega)) (fun _ => rfl) (fun _ _ => ?_) | refine s_pt rfl rfl ?_ | refine s_pf rfl rfl ?_ | refine s_not rfl ?_ | refine s_fld_ep rfl rfl ?_ | refine s_extract rfl rfl rfl ?_ | refine s_bslice_none rfl (fun _ _ => ?_) | refine s_bslice rfl rfl (by decide) rfl ?_ | refine o_nil ?_ | refine o_op rfl ?_ | refine o_gy rfl rfl rfl rfl ?_ | refine o_gn rfl rfl rfl rfl ?_ | refine o_sp_t rfl rfl (by omega) ?_ | refine o_sp_f rfl rfl (by omega) ?_ | refine r_seq ?_ | refine r_region ?_ | refine r_block ?_ | (refine g_draw ?_; first | (refine r_drawo [(0, true), (2, true), (4, true), (1, false), (3, false), (5, true), (6, false), (7, false), (8, false), (9, true), (10, true), (12, true), (11, true), (13, true)] (by rfl) (by rfl) (by kernel_rfl) (by kernel_rfl) ?_) | refine r_draw0 (by rfl) (by kernel_rfl) (by kernel_rfl) ?_ | refine r_drawq (by kernel_rfl) (by kernel_rfl) ?_) | refine r_skip ?_ | refine r_cond_f rfl ?_ | refine r_cond_df rfl (by omega) ?_ | refine r_exit rfl ?_ | refine m_nil ?_ | refine m_st rfl (fun _ => (by (repeat' first | refine s_mv rfl ?_ | refine s_as rfl ?_ | refine s_load_epa rfl (by rfl) (by rfl) ?_ | refine s_call_p rfl rfl (hli) (by repeat' first | exact clo_sc | exact clo_slOf _ | exact clo_sl (encs_clo _) | exact encs_clo _ | refine clo_fn ?_ ?_ | refine clo_ep ?_ | refine clo_tup ?_ | refine clo_agg ?_ | exact ac_nil | refine ac_cons ?_ ?_ | refine clo_sl ?_) ?_ | refine s_extract rfl rfl rfl ?_ | exact ⟨rfl, rfl⟩))) ?_ | refine m_ef rfl ?_)
          rename_i ga hga gb hgb gc hgc gd hgd
          refine r_loop (fun k : Nat => ⟨[(10, slOf o), (16, slOf z), (17, .b true), (18, .i k)], [.gone, .gone, .gone]⟩) (fun k => k ≤ o.length) (fun k => o.length - k) 0 ?_ (by omega) ?_
          · exact ale_drop (by repeat' first | exact mem_nil | refine mem_cons rfl ?_) rfl
          intro k hk
          clear hf1 hf2 hf3 hr1 hs2 hle
          by_cases hko : k < o.length
          · (repeat' first | refine s_mv rfl ?_ | refine s_as rfl ?_ | refine s_lss rfl rfl ?_ | refine s_len_sl rfl ?_ | refine s_pt rfl rfl ?_ | refine o_nil ?_ | refine o_op rfl ?_ | refine o_gy rfl rfl rfl rfl ?_ | refine o_sp_t rfl rfl (by omega) ?_ | refine r_seq ?_ | refine r_region ?_ | refine r_block ?_ | refine r_skip ?_ | refine r_cond_t rfl ?_)
            refine r_loop (fun q : Nat => ⟨[(10, slOf o), (16, slOf z), (17, .b true), (18, .i k), (19, .b ((z.take q).contains o[k])), (20, .i q)], [.gone, .gone, .gone]⟩) (fun q => q ≤ z.length) (fun q => z.length - q) 0 ?_ (by omega) ?_
            · exact ale_drop (by repeat' first | exact mem_nil | refine mem_cons rfl ?_) rfl
            intro q hq
            by_cases hqz : q < z.length
            · have hsu : (z.take (q + 1)).contains o[k] = ((z.take q).contains o[k] || decide (z[q] = o[k])) := has_succ hqz _
              cases hb : (z.take q).contains o[k] with
              | true =>
                (repeat' first | refine s_mv rfl ?_ | refine s_as rfl ?_ | refine s_lss rfl rfl ?_ | refine s_add rfl rfl (by omega) ?_ | refine s_len_sl rfl ?_ | refine x_gn rfl rfl rfl rfl ?_ | refine o_nil ?_ | refine o_op rfl ?_ | refine r_seq ?_ | refine r_region ?_ | refine r_block ?_ | (refine g_draw ?_; first | (refine r_drawo [(0, true), (2, true), (4, true), (1, false), (3, false), (5, true), (6, false), (7, false), (8, false), (9, true), (10, true), (12, true), (11, true), (13, true)] (by rfl) (by rfl) (by kernel_rfl) (by kernel_rfl) ?_) | refine r_draw0 (by rfl) (by kernel_rfl) (by kernel_rfl) ?_ | refine r_drawq (by kernel_rfl) (by kernel_rfl) ?_) | refine r_skip ?_ | refine r_cond_dt rfl (by omega) ?_ | refine x_op rfl (by (repeat' first | refine s_mv rfl ?_ | refine s_as rfl ?_ | refine s_pt rfl rfl ?_ | exact ⟨rfl, rfl⟩)) ?_ | refine x_nil ?_)
                refine ⟨q + 1, hqz, by omega, ?_⟩
                rw [hsu, hb]
                exact ale_drop (by repeat' first | exact mem_nil | refine mem_cons rfl ?_) rfl
              | false =>
                (repeat' first | refine s_mv rfl ?_ | refine s_as rfl ?_ | refine s_lss rfl rfl ?_ | refine s_add rfl rfl (by omega) ?_ | refine s_len_sl rfl ?_ | refine o_nil ?_ | refine o_op rfl ?_ | refine r_seq ?_ | refine r_region ?_ | refine r_block ?_ | (refine g_draw ?_; first | (refine r_drawo [(0, true), (2, true), (4, true), (1, false), (3, false), (5, true), (6, false), (7, false), (8, false), (9, true), (10, true), (12, true), (11, true), (13, true)] (by rfl) (by rfl) (by kernel_rfl) (by kernel_rfl) ?_) | refine r_draw0 (by rfl) (by kernel_rfl) (by kernel_rfl) ?_ | refine r_drawq (by kernel_rfl) (by kernel_rfl) ?_) | refine r_skip ?_ | refine r_cond_dt rfl (by omega) ?_ | refine x_op rfl (by (repeat' first | refine s_mv rfl ?_ | refine s_as rfl ?_ | refine s_load_ep rfl ?_ | refine s_idx_sln rfl rfl (by first | assumption | omega | (simp; done) | (simp; omega)) ?_ | refine s_eql rfl rfl ?_ | refine s_pf rfl rfl ?_ | exact ⟨rfl, rfl⟩)) ?_ | refine x_gy rfl rfl rfl rfl (by (repeat' first | refine s_mv rfl ?_ | refine s_as rfl ?_ | refine s_load_ep rfl ?_ | refine s_idx_sln rfl rfl (by first | assumption | omega | (simp; done) | (simp; omega)) ?_ | refine s_eql rfl rfl ?_ | refine s_pf rfl rfl ?_ | exact ⟨rfl, rfl⟩)) ?_ | refine x_nil ?_)
                refine ⟨q + 1, hqz, by omega, ?_⟩
                rw [hsu, hb]
                exact ale_drop (by repeat' first | exact mem_nil | refine mem_cons rfl ?_) rfl
            · have hall : (z.take q).contains o[k] = true := by
                rw [List.take_of_length_le (by omega)]
                simpa using hmore _ (List.getElem_mem hko)
              rw [hall]
              (repeat' first | refine s_mv rfl ?_ | refine s_as rfl ?_ | refine s_lss rfl rfl ?_ | refine s_add rfl rfl (by omega) ?_ | refine s_len_sl rfl ?_ | refine s_not rfl ?_ | refine o_nil ?_ | refine o_op rfl ?_ | refine r_seq ?_ | refine r_region ?_ | refine r_skip ?_ | refine r_cond_f rfl ?_ | refine r_cond_df rfl (by omega) ?_ | refine r_exit rfl ?_)
              refine ⟨k + 1, hko, by omega, ?_⟩
              exact ale_drop (by repeat' first | exact mem_nil | refine mem_cons rfl ?_) rfl
          · (repeat' first | refine s_mv rfl ?_ | refine s_as rfl ?_ | refine s_lss rfl rfl ?_ | refine s_call_p rfl rfl (hlv) (by repeat' first | exact clo_sc | exact clo_slOf _ | exact clo_sl (encs_clo _) | exact encs_clo _ | refine clo_fn ?_ ?_ | refine clo_ep ?_ | refine clo_tup ?_ | refine clo_agg ?_ | exact ac_nil | refine ac_cons ?_ ?_ | refine clo_sl ?_) ?_ | refine s_len_sl rfl ?_ | refine s_pf rfl rfl ?_ | refine o_nil ?_ | refine o_op rfl ?_ | refine o_gn rfl rfl rfl rfl ?_ | refine o_sp_f rfl rfl (by omega) ?_ | refine r_seq ?_ | refine r_region ?_ | refine r_cond_f rfl ?_ | refine r_exit rfl ?_ | refine r_ret ?_)
            refine e_1 Tryd.results5 (rv_tmp rfl) (c_pure' ?_)
            rfl

end Go.Proofs
