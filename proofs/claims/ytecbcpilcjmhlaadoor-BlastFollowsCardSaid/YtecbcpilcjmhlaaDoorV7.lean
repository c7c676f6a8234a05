/-
  What functions of the program hand back: contracts over abstract values.
-/
import Derived.Test.YtecbcpilcjmhlaaDoorAvN
import Derived.Test.YtecbcpilcjmhlaaDoorInst
import Derived.Test.YtecbcpilcjmhlaaDoorV4
namespace Go.Proofs
open Go.Av
set_option linter.unusedSimpArgs false
set_option linter.unusedVariables false
set_option maxRecDepth 10000
set_option maxHeartbeats 4000000
variable {G : Nat → DV}
attribute [local irreducible] OpSem ARun AOps ALex ACalls AEnd AClose RV
open Go.Fo

def manyM (x : Int) : Nat := if 0 < Ord.around x 10 then 1 + ((Ord.around x 10 - 1) / 3).toNat else 0
theorem manyM_le (x : Int) : manyM x ≤ 3 := by
  have := Ord.around_bound x (most := 10) (by decide)
  unfold manyM
  split <;> omega
def clauseM (l : List Int) (i : Nat) (q : Nat) : List Int := ((l.drop (i + 1)).take q).map litM
def clM (l : List Int) : Nat → Nat → List (List Int) → List (List Int)
  | 0, _, out => out
  | f + 1, i, out => if i < l.length ∧ out.length < 16 then clM l f (i + manyM (l.getD i 0) + 1) (if (clauseM l i (manyM (l.getD i 0))).length = manyM (l.getD i 0) then out ++ [clauseM l i (manyM (l.getD i 0))] else out) else out
theorem clM_fuel (l : List Int) : ∀ (f f' i : Nat) (out : List (List Int)), l.length ≤ i + f → l.length ≤ i + f' → clM l f i out = clM l f' i out
  | 0, 0, i, out, _, _ => rfl
  | 0, f' + 1, i, out, h, _ => by rw [clM, clM, if_neg (by omega)]
  | f + 1, 0, i, out, _, h => by rw [clM, clM, if_neg (by omega)]
  | f + 1, f' + 1, i, out, h, h' => by
    rw [clM, clM]
    split
    · exact clM_fuel l f f' _ _ (by omega) (by omega)
    · rfl
theorem clauseM_len {l : List Int} {i q : Nat} (h : i + 1 + q ≤ l.length) : (clauseM l i q).length = q := by
  unfold clauseM
  rw [List.length_map, List.length_take, List.length_drop]; omega
theorem clauseM_succ {l : List Int} {i q : Nat} (h : i + 1 + q < l.length) : clauseM l i (q + 1) = clauseM l i q ++ [litM l[i + 1 + q]] := by
  unfold clauseM
  have hq : q < (l.drop (i + 1)).length := by rw [List.length_drop]; omega
  rw [List.take_succ_eq_append_getElem hq, List.map_append, List.getElem_drop]; rfl
theorem clauseM_all {l : List Int} {i q m : Nat} (h : l.length ≤ i + 1 + q) (hq : q ≤ m) : clauseM l i q = clauseM l i m := by
  unfold clauseM
  rw [List.take_of_length_le (by rw [List.length_drop]; omega), List.take_of_length_le (by rw [List.length_drop]; omega)]
def clausesM (l : List Int) : List (List Int) := clM l l.length 0 []
/-- What holds of the clauses. -/
def ClOk (out : List (List Int)) : Prop := out.length ≤ 16 ∧ ∀ c ∈ out, c.length ≤ 3 ∧ ∀ x ∈ c, -9 ≤ x ∧ x ≤ 9 ∧ x ≠ 0
theorem clauseM_ok {l : List Int} {i m : Nat} (hm : m ≤ 3) : (clauseM l i m).length ≤ 3 ∧ ∀ x ∈ clauseM l i m, -9 ≤ x ∧ x ≤ 9 ∧ x ≠ 0 := by
  unfold clauseM
  refine ⟨by rw [List.length_map, List.length_take]; omega, fun x hx => ?_⟩
  obtain ⟨y, _, rfl⟩ := List.mem_map.1 hx
  exact litM_bd y
theorem clM_ok (l : List Int) : ∀ (f i : Nat) (out : List (List Int)), ClOk out → ClOk (clM l f i out)
  | 0, _, _, h => h
  | f + 1, i, out, h => by
    rw [clM]
    split
    · rename_i hh
      refine clM_ok l f _ _ ?_
      split
      · refine ⟨by rw [List.length_append, List.length_singleton]; omega, fun c hc => ?_⟩
        rcases List.mem_append.1 hc with hc | hc
        · exact h.2 c hc
        · rw [List.mem_singleton.1 hc]; exact clauseM_ok (manyM_le _)
      · exact h
    · exact h
theorem clausesM_ok (l : List Int) : ClOk (clausesM l) := clM_ok l _ _ _ ⟨by simp, fun c hc => by simp at hc⟩

theorem clauses_c (l : List Int) (hl : l.length ≤ 4611686018427387904) (hx : ∀ x ∈ l, Ord.I64 x) : Own Tryd.prog G 20 [slOf l] (clausesM l).length (Enc.es (List Int)) (encs (clausesM l)) := fun B => by
  refine calls_of_run Tryd.func20 rfl Tryd.ntmps20 rfl (t := [(0, slOf l)]) rfl fun E hE => ?_
  (repeat' first | refine s_as rfl ?_ | refine o_nil ?_ | refine o_op rfl ?_ | refine r_seq ?_ | refine r_region ?_ | refine r_block ?_)
  refine r_own 3 1 rfl fun g0 hg0 => ?_
  refine r_loop3 (fun (i : Nat) (out : List (List Int)) (g : Nat) => ⟨[(0, slOf l), (4, .i i), (3, .ref 0 g 0 out.length 1)], [.row g (encs out)]⟩) (fun i out g => i ≤ l.length + 4 ∧ ClOk out ∧ clM l (l.length - i) i out = clausesM l ∧ E.N < g) (fun i _ _ => l.length + 5 - i) 0 [] g0 ?_ ⟨by omega, ⟨by simp, fun c hc => by simp at hc⟩, rfl, hg0⟩ ?_
  · exact ale_drop (by repeat' first | exact mem_nil | refine mem_cons rfl ?_) rfl
  intro i out g ⟨h1, h2, h3, hg⟩
  have h4 := h2.1
  by_cases hc : i < l.length ∧ out.length < 16
  · obtain ⟨hil, ho⟩ := hc
    have hfv := around_c (G := G) l[i] 10 (hx _ (List.getElem_mem hil)) (by decide)
    have hbd := Ord.around_bound l[i] (most := 10) (by decide)
    have hmd : manyM (l.getD i 0) = manyM l[i] := by rw [Ord.getD_lt hil]
    have hml := manyM_le l[i]
    rw [show l.length - i = (l.length - i - 1) + 1 by omega, clM, if_pos ⟨hil, ho⟩, hmd] at h3
    rw [clM_fuel l (l.length - i - 1) (l.length - (i + manyM l[i] + 1)) _ _ (by omega) (by omega)] at h3
    have hmv : (manyM l[i] : Int) = if 0 < Ord.around l[i] 10 then 1 + (Ord.around l[i] 10 - 1) / 3 else 0 := by
      unfold manyM
      split <;> omega
    generalize manyM l[i] = m at *
    generalize Ord.around l[i] 10 = a at *
    by_cases ha : 0 < a
    · rw [if_pos ha] at hmv
      (repeat' first | refine s_mv rfl ?_ | refine s_as rfl ?_ | refine s_load_ep rfl ?_ | refine s_idx_sln rfl rfl (by first | assumption | omega | (simp; done) | (simp; omega)) ?_ | refine s_lss rfl rfl ?_ | refine s_gtr rfl rfl ?_ | refine s_add rfl rfl (by omega) ?_ | refine s_sub rfl rfl (by omega) ?_ | refine s_quo rfl rfl (by omega) (by omega) (by omega) ?_ | refine s_len_sl rfl ?_ | refine s_len_ref rfl rfl ?_ | refine s_call_p rfl rfl (hfv) (by repeat' first | exact clo_sc | exact clo_slOf _ | exact clo_sl (encs_clo _) | exact encs_clo _ | refine clo_fn ?_ ?_ | refine clo_ep ?_ | refine clo_tup ?_ | refine clo_agg ?_ | exact ac_nil | refine ac_cons ?_ ?_ | refine clo_sl ?_) ?_ | refine s_pt rfl rfl ?_ | refine o_nil ?_ | refine o_op rfl ?_ | refine o_gy rfl rfl rfl rfl ?_ | refine o_sp_t rfl rfl (by omega) ?_ | refine r_seq ?_ | refine r_region ?_ | refine r_block ?_ | refine r_skip ?_ | refine r_cond_dt rfl (by omega) ?_)
      refine r_own 6 1 rfl fun gl hgl => ?_
      refine r_loopg (fun (q : Nat) gl => ⟨[(0, slOf l), (4, .i i), (5, .i m), (3, .ref 0 g 0 out.length 1), (7, .i ((q : Int) + 1)), (6, .ref 1 gl 0 (clauseM l i q).length 1)], [.row g (encs out), .row gl (encs (clauseM l i q))]⟩) (fun q => q ≤ m ∧ (clauseM l i q).length ≤ 3) (fun q => m - q) 0 gl hgl ?_ ⟨by omega, by simp [clauseM]⟩ ?_
      · rw [hmv]
        exact ale_drop (by repeat' first | exact mem_nil | refine mem_cons rfl ?_) rfl
      intro q gl ⟨hq, hql⟩ hgl
      by_cases hcc : q + 1 ≤ m ∧ i + (q + 1) < l.length
      · obtain ⟨hq1, hq2⟩ := hcc
        have hq3 : i + 1 + q < l.length := by omega
        have e : ((i : Int) + ((q : Int) + 1)).toNat = i + 1 + q := by omega
        have hlt : ((i : Int) + ((q : Int) + 1)).toNat < l.length := by omega
        have hli := literal_c (G := G) (l[((i : Int) + ((q : Int) + 1)).toNat]'hlt) (hx _ (List.getElem_mem hlt))
        have hsu : clauseM l i (q + 1) = clauseM l i q ++ [litM (l[((i : Int) + ((q : Int) + 1)).toNat]'hlt)] := by
          rw [clauseM_succ hq3]
          simp only [e]
        have hle := clauseM_len (l := l) (i := i) (q := q + 1) (by omega)
        (repeat' first | refine s_mv rfl ?_ | refine s_as rfl ?_ | refine s_load_ep rfl ?_ | refine s_idx_sln rfl rfl (by first | assumption | omega | (simp; done) | (simp; omega)) ?_ | refine s_lss rfl rfl ?_ | refine s_leq rfl rfl ?_ | refine s_add rfl rfl (by omega) ?_ | refine s_len_sl rfl ?_ | refine s_app1 rfl rfl rfl rfl rfl rfl rfl (by first | omega | (simp; omega)) (by first | omega | (simp; omega)) (fun _ => rfl) (fun _ _ => ?_) | refine s_call_p rfl rfl (hli) (by repeat' first | exact clo_sc | exact clo_slOf _ | exact clo_sl (encs_clo _) | exact encs_clo _ | refine clo_fn ?_ ?_ | refine clo_ep ?_ | refine clo_tup ?_ | refine clo_agg ?_ | exact ac_nil | refine ac_cons ?_ ?_ | refine clo_sl ?_) ?_ | refine s_pt rfl rfl ?_ | refine s_bslice rfl rfl (by decide) rfl ?_ | refine o_nil ?_ | refine o_op rfl ?_ | refine o_gy rfl rfl rfl rfl ?_ | refine o_sp_t rfl rfl (by omega) ?_ | refine r_seq ?_ | refine r_region ?_ | refine r_block ?_ | refine r_skip ?_ | refine r_cond_dt rfl (by omega) ?_)
        rename_i g5 hg5
        refine ⟨q + 1, g5, ⟨by omega, by omega⟩, by omega, by omega, ?_⟩
        rw [hsu]
        exact ale_drop (by repeat' first | exact mem_nil | refine mem_cons rfl ?_) rfl
      · have hcm : clauseM l i q = clauseM l i m := by
          by_cases hqm : q = m
          · rw [hqm]
          · exact clauseM_all (by omega) hq
        rw [hcm]
        rw [hcm] at hql
        clear hcm
        by_cases hlen : (clauseM l i m).length = m
        · rw [if_pos hlen] at h3
          have hok : ClOk (out ++ [clauseM l i m]) := ⟨by rw [List.length_append, List.length_singleton]; omega, fun c hc => by
            rcases List.mem_append.1 hc with hc | hc
            · exact h2.2 c hc
            · rw [List.mem_singleton.1 hc]; exact clauseM_ok hml⟩
          (repeat' first | refine s_mv rfl ?_ | refine s_as rfl ?_ | refine s_lss rfl rfl ?_ | refine s_leq rfl rfl ?_ | refine s_eql rfl rfl ?_ | refine s_add rfl rfl (by omega) ?_ | refine s_len_sl rfl ?_ | refine s_len_ref rfl rfl ?_ | refine s_app1 rfl rfl rfl rfl rfl rfl rfl (by first | omega | (simp; omega)) (by first | omega | (simp; omega)) (fun _ => rfl) (fun _ _ => ?_) | refine s_pt rfl rfl ?_ | refine s_pf rfl rfl ?_ | refine s_bslice_pub rfl rfl (by first | rfl | exact (encs_len _).symm) rfl ?_ | refine s_bslice rfl rfl (by decide) rfl ?_ | refine o_nil ?_ | refine o_op rfl ?_ | refine o_gy rfl rfl rfl rfl ?_ | refine o_gn rfl rfl rfl rfl ?_ | refine o_sp_d rfl rfl (fun _ => ?_) (fun _ => ?_) | refine r_seq ?_ | refine r_region ?_ | refine r_cond_f rfl ?_ | refine r_cond_dt rfl (by omega) ?_ | refine r_cond_df rfl (by omega) ?_ | refine r_exit rfl ?_)
          all_goals
            rename_i g5 hg5
            refine ⟨i + m + 1, out ++ [clauseM l i m], g5, ⟨by omega, hok, h3, by omega⟩, by omega, ?_⟩
            exact ale_drop (by repeat' first | exact mem_nil | refine mem_cons rfl ?_) rfl
        · rw [if_neg hlen] at h3
          (repeat' first | refine s_mv rfl ?_ | refine s_as rfl ?_ | refine s_lss rfl rfl ?_ | refine s_leq rfl rfl ?_ | refine s_eql rfl rfl ?_ | refine s_add rfl rfl (by omega) ?_ | refine s_len_sl rfl ?_ | refine s_len_ref rfl rfl ?_ | refine s_pt rfl rfl ?_ | refine s_pf rfl rfl ?_ | refine o_nil ?_ | refine o_op rfl ?_ | refine o_gy rfl rfl rfl rfl ?_ | refine o_gn rfl rfl rfl rfl ?_ | refine o_sp_d rfl rfl (fun _ => ?_) (fun _ => ?_) | refine r_seq ?_ | refine r_region ?_ | refine r_skip ?_ | refine r_cond_f rfl ?_ | refine r_cond_df rfl (by omega) ?_ | refine r_exit rfl ?_)
          all_goals
            refine ⟨i + m + 1, out, g, ⟨by omega, h2, h3, hg⟩, by omega, ?_⟩
            exact ale_drop (by repeat' first | exact mem_nil | refine mem_cons rfl ?_) rfl
    · rw [if_neg ha] at hmv
      have ha0 : a = 0 := by omega
      subst ha0
      (repeat' first | refine s_mv rfl ?_ | refine s_as rfl ?_ | refine s_load_ep rfl ?_ | refine s_idx_sln rfl rfl (by first | assumption | omega | (simp; done) | (simp; omega)) ?_ | refine s_lss rfl rfl ?_ | refine s_gtr rfl rfl ?_ | refine s_len_sl rfl ?_ | refine s_len_ref rfl rfl ?_ | refine s_call_p rfl rfl (hfv) (by repeat' first | exact clo_sc | exact clo_slOf _ | exact clo_sl (encs_clo _) | exact encs_clo _ | refine clo_fn ?_ ?_ | refine clo_ep ?_ | refine clo_tup ?_ | refine clo_agg ?_ | exact ac_nil | refine ac_cons ?_ ?_ | refine clo_sl ?_) ?_ | refine s_pt rfl rfl ?_ | refine o_nil ?_ | refine o_op rfl ?_ | refine o_gy rfl rfl rfl rfl ?_ | refine o_sp_t rfl rfl (by omega) ?_ | refine r_seq ?_ | refine r_region ?_ | refine r_block ?_ | refine r_skip ?_ | refine r_cond_f rfl ?_ | refine r_cond_dt rfl (by omega) ?_)
      refine r_own 6 1 rfl fun gl hgl => ?_
      refine r_loopg (fun (q : Nat) gl => ⟨[(0, slOf l), (4, .i i), (5, .i m), (3, .ref 0 g 0 out.length 1), (7, .i ((q : Int) + 1)), (6, .ref 1 gl 0 (clauseM l i q).length 1)], [.row g (encs out), .row gl (encs (clauseM l i q))]⟩) (fun q => q ≤ m ∧ (clauseM l i q).length ≤ 3) (fun q => m - q) 0 gl hgl ?_ ⟨by omega, by simp [clauseM]⟩ ?_
      · rw [hmv]
        exact ale_drop (by repeat' first | exact mem_nil | refine mem_cons rfl ?_) rfl
      intro q gl ⟨hq, hql⟩ hgl
      by_cases hcc : q + 1 ≤ m ∧ i + (q + 1) < l.length
      · obtain ⟨hq1, hq2⟩ := hcc
        have hq3 : i + 1 + q < l.length := by omega
        have e : ((i : Int) + ((q : Int) + 1)).toNat = i + 1 + q := by omega
        have hlt : ((i : Int) + ((q : Int) + 1)).toNat < l.length := by omega
        have hli := literal_c (G := G) (l[((i : Int) + ((q : Int) + 1)).toNat]'hlt) (hx _ (List.getElem_mem hlt))
        have hsu : clauseM l i (q + 1) = clauseM l i q ++ [litM (l[((i : Int) + ((q : Int) + 1)).toNat]'hlt)] := by
          rw [clauseM_succ hq3]
          simp only [e]
        have hle := clauseM_len (l := l) (i := i) (q := q + 1) (by omega)
        (repeat' first | refine s_mv rfl ?_ | refine s_as rfl ?_ | refine s_load_ep rfl ?_ | refine s_idx_sln rfl rfl (by first | assumption | omega | (simp; done) | (simp; omega)) ?_ | refine s_lss rfl rfl ?_ | refine s_leq rfl rfl ?_ | refine s_add rfl rfl (by omega) ?_ | refine s_len_sl rfl ?_ | refine s_app1 rfl rfl rfl rfl rfl rfl rfl (by first | omega | (simp; omega)) (by first | omega | (simp; omega)) (fun _ => rfl) (fun _ _ => ?_) | refine s_call_p rfl rfl (hli) (by repeat' first | exact clo_sc | exact clo_slOf _ | exact clo_sl (encs_clo _) | exact encs_clo _ | refine clo_fn ?_ ?_ | refine clo_ep ?_ | refine clo_tup ?_ | refine clo_agg ?_ | exact ac_nil | refine ac_cons ?_ ?_ | refine clo_sl ?_) ?_ | refine s_pt rfl rfl ?_ | refine s_bslice rfl rfl (by decide) rfl ?_ | refine o_nil ?_ | refine o_op rfl ?_ | refine o_gy rfl rfl rfl rfl ?_ | refine o_sp_t rfl rfl (by omega) ?_ | refine r_seq ?_ | refine r_region ?_ | refine r_block ?_ | refine r_skip ?_ | refine r_cond_dt rfl (by omega) ?_)
        rename_i g5 hg5
        refine ⟨q + 1, g5, ⟨by omega, by omega⟩, by omega, by omega, ?_⟩
        rw [hsu]
        exact ale_drop (by repeat' first | exact mem_nil | refine mem_cons rfl ?_) rfl
      · have hcm : clauseM l i q = clauseM l i m := by
          by_cases hqm : q = m
          · rw [hqm]
          · exact clauseM_all (by omega) hq
        rw [hcm]
        rw [hcm] at hql
        clear hcm
        by_cases hlen : (clauseM l i m).length = m
        · rw [if_pos hlen] at h3
          have hok : ClOk (out ++ [clauseM l i m]) := ⟨by rw [List.length_append, List.length_singleton]; omega, fun c hc => by
            rcases List.mem_append.1 hc with hc | hc
            · exact h2.2 c hc
            · rw [List.mem_singleton.1 hc]; exact clauseM_ok hml⟩
          (repeat' first | refine s_mv rfl ?_ | refine s_as rfl ?_ | refine s_leq rfl rfl ?_ | refine s_eql rfl rfl ?_ | refine s_add rfl rfl (by omega) ?_ | refine s_len_ref rfl rfl ?_ | refine s_app1 rfl rfl rfl rfl rfl rfl rfl (by first | omega | (simp; omega)) (by first | omega | (simp; omega)) (fun _ => rfl) (fun _ _ => ?_) | refine s_pf rfl rfl ?_ | refine s_bslice_pub rfl rfl (by first | rfl | exact (encs_len _).symm) rfl ?_ | refine s_bslice rfl rfl (by decide) rfl ?_ | refine o_nil ?_ | refine o_op rfl ?_ | refine o_gn rfl rfl rfl rfl ?_ | refine o_sp_f rfl rfl (by omega) ?_ | refine r_seq ?_ | refine r_region ?_ | refine r_cond_f rfl ?_ | refine r_cond_dt rfl (by omega) ?_ | refine r_exit rfl ?_)
          all_goals
            rename_i g5 hg5
            refine ⟨i + m + 1, out ++ [clauseM l i m], g5, ⟨by omega, hok, h3, by omega⟩, by omega, ?_⟩
            exact ale_drop (by repeat' first | exact mem_nil | refine mem_cons rfl ?_) rfl
        · rw [if_neg hlen] at h3
          (repeat' first | refine s_mv rfl ?_ | refine s_as rfl ?_ | refine s_leq rfl rfl ?_ | refine s_eql rfl rfl ?_ | refine s_add rfl rfl (by omega) ?_ | refine s_len_ref rfl rfl ?_ | refine s_pf rfl rfl ?_ | refine o_nil ?_ | refine o_op rfl ?_ | refine o_gn rfl rfl rfl rfl ?_ | refine o_sp_f rfl rfl (by omega) ?_ | refine r_seq ?_ | refine r_region ?_ | refine r_skip ?_ | refine r_cond_f rfl ?_ | refine r_cond_df rfl (by omega) ?_ | refine r_exit rfl ?_)
          all_goals
            refine ⟨i + m + 1, out, g, ⟨by omega, h2, h3, hg⟩, by omega, ?_⟩
            exact ale_drop (by repeat' first | exact mem_nil | refine mem_cons rfl ?_) rfl
  · have hst : clM l (l.length - i) i out = out := by
      cases l.length - i with
      | zero => rfl
      | succ f => rw [clM, if_neg hc]
    rw [hst] at h3
    rw [← h3]
    (repeat' first | refine s_mv rfl ?_ | refine s_as rfl ?_ | refine s_lss rfl rfl ?_ | refine s_len_sl rfl ?_ | refine s_len_ref rfl rfl ?_ | refine s_pt rfl rfl ?_ | refine s_pf rfl rfl ?_ | refine o_nil ?_ | refine o_op rfl ?_ | refine o_gy rfl rfl rfl rfl ?_ | refine o_gn rfl rfl rfl rfl ?_ | refine o_sp_d rfl rfl (fun _ => ?_) (fun _ => ?_) | refine r_seq ?_ | refine r_region ?_ | refine r_cond_f rfl ?_ | refine r_cond_df rfl (by omega) ?_ | refine r_exit rfl ?_ | refine r_ret ?_)
    · exact e_1 Tryd.results20 (rv_tmp rfl) (c_ownedB hE rfl rfl rfl rfl)
    · exact e_1 Tryd.results20 (rv_tmp rfl) (c_ownedB hE rfl rfl rfl rfl)

end Go.Proofs
