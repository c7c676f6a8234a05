/-
  What functions of the program hand back: contracts over abstract values.
-/
import Derived.Test.YtdolhcppabcodaaAvK
import Derived.Test.YtdolhcppabcodaaInst
import Derived.Test.YtdolhcppabcodaaO14
namespace Go.Proofs
open Go.Av
set_option linter.unusedSimpArgs false
set_option linter.unusedVariables false
set_option maxRecDepth 10000
set_option maxHeartbeats 4000000
variable {G : Nat → DV}
attribute [local irreducible] OpSem ARun AOps ALex ACalls AEnd AClose RV

theorem deleteFuncI_c (l : List Int) (fid : FuncId) (first cap : List DV) (p : Int → Bool) [FnOk Try.prog fid] (hl : l.length ≤ 4611686018427387904) (hp : ∀ x ∈ l, Go.Av.Pure Try.prog G fid (first ++ [.i x] ++ cap) (.b (p x))) (g : Nat) :
    Mut1 Try.prog G 37 g [.ref 0 g 0 l.length 1, .fn (.func fid) first cap] (encs l) (fun g' => .ref 0 g' 0 (l.filter fun x => !p x).length 1) (encs (l.filter fun x => !p x)) true := fun B hB => by
  refine calls_of_run Try.func37 rfl Try.ntmps37 rfl (t := [(0, .ref 0 g 0 l.length 1), (1, .fn (.func fid) first cap)]) rfl fun E hE => ?_
  (repeat' first | refine s_mv rfl ?_ | refine s_as rfl ?_ | refine o_nil ?_ | refine o_op rfl ?_ | refine r_seq ?_ | refine r_region ?_)
  refine s_call_v rfl rfl (.ref rfl (encs_len l).symm (encs_clo l) (.same .nil)) (indexFuncI_c l fid first cap p hl hp) rfl ?_
  (repeat' first | refine s_mv rfl ?_ | refine s_as rfl ?_ | refine s_eql rfl rfl ?_ | refine o_nil ?_ | refine o_op rfl ?_ | refine r_seq ?_ | refine r_region ?_)
  refine r_cond_d rfl (fun h => ?_) (fun h => ?_)
  · have hno := Ord.findI_neg h
    have hf : l.filter (fun x => !p x) = l := List.filter_eq_self.2 fun x hx => by rw [hno x hx]; rfl
    (repeat' first | refine s_mv rfl ?_ | refine s_as rfl ?_ | refine o_nil ?_ | refine o_op rfl ?_ | refine r_seq ?_ | refine r_region ?_ | refine r_ret ?_)
    rw [hf]
    exact e_1 (Try.results37) (rv_tmp rfl) (c_same ⟨g, .inl rfl, rfl, rfl⟩)
  obtain ⟨i0, hi0, hil, hpi, hno⟩ := Ord.findI_pos h
  have hf0 : (l.take i0).filter (fun x => !p x) = l.take i0 := List.filter_eq_self.2 fun x hx => by rw [hno x hx]; rfl
  have hf1 : (l.take (i0 + 1)).filter (fun x => !p x) = l.take i0 := by rw [Ord.filter_take_succ hil, if_neg (by rw [hpi]; simp), hf0]
  rw [hi0]
  (repeat' first | refine s_mv rfl ?_ | refine s_as rfl ?_ | refine s_add rfl rfl (by omega) ?_ | refine o_nil ?_ | refine o_op rfl ?_ | refine r_seq ?_ | refine r_region ?_ | refine r_block ?_ | refine r_skip ?_)
  refine r_loop2 (fun (j : Nat) (r : List Int) => ⟨[(0, .ref 0 g 0 l.length 1), (1, .fn (.func fid) first cap), (5, .i ((l.take j).filter fun x => !p x).length), (6, .i j)], [.row g (encs r)]⟩) (fun j r => j ≤ l.length ∧ r.length = l.length ∧ ((l.take j).filter fun x => !p x).length < j ∧ r.take ((l.take j).filter fun x => !p x).length = (l.take j).filter (fun x => !p x) ∧ r.drop j = l.drop j) (fun j _ => l.length - j) (i0 + 1) l ?_ ⟨by omega, rfl, by rw [hf1, List.length_take]; omega, by rw [hf1, List.length_take, Nat.min_eq_left (by omega)], rfl⟩ ?_
  · rw [hf1, List.length_take, Nat.min_eq_left (by omega)]
    exact ale_drop (by repeat' first | exact mem_nil | refine mem_cons rfl ?_) rfl
  intro j r ⟨hj, hr, hlt, htk, hdr⟩
  (repeat' first | refine s_mv rfl ?_ | refine s_lss rfl rfl ?_ | refine s_len_ref rfl rfl ?_ | refine o_nil ?_ | refine o_op rfl ?_ | refine r_seq ?_ | refine r_region ?_)
  refine r_cond_d rfl (fun h => ?_) (fun h => ?_)
  · have hjl : j < l.length := by omega
    have hjr : j < r.length := by omega
    have hrj : r[j] = l[j] := by
      have := congrArg (·[0]?) hdr
      simpa [hjl, hjr] using this
    have hpj := hp _ (List.getElem_mem hjl)
    rw [← hrj] at hpj
    have hfs := Ord.filter_take_succ (p := fun x => !p x) hjl
    have hdr' : r.drop (j + 1) = l.drop (j + 1) := by
      have := congrArg (·.drop 1) hdr
      simpa [List.drop_drop, Nat.add_comm] using this
    (repeat' first | refine s_mv rfl ?_ | refine s_as rfl ?_ | refine s_load_e1 rfl rfl rfl (by first | assumption | omega) rfl ?_ | refine s_idx_ref1 rfl rfl rfl (by omega) ?_ | refine s_callv_q rfl (hpj) (by repeat' first | exact clo_sc | exact clo_slOf _ | exact clo_sl (encs_clo _) | exact encs_clo _ | refine clo_fn ?_ ?_ | refine clo_ep ?_ | refine clo_tup ?_ | refine clo_agg ?_ | exact ac_nil | refine ac_cons ?_ ?_) ?_ | refine s_not rfl ?_ | refine o_nil ?_ | refine o_op rfl ?_ | refine r_seq ?_ | refine r_region ?_ | refine r_block ?_ | refine r_skip ?_)
    refine r_cond rfl (fun hb => ?_) (fun hb => ?_)
    · have hfs' := hfs
      rw [if_pos (by rw [← hrj]; exact hb)] at hfs'
      have hlen : ((l.take (j + 1)).filter fun x => !p x).length = ((l.take j).filter fun x => !p x).length + 1 := by rw [hfs', List.length_append]; rfl
      have hfr : ((l.take j).filter fun x => !p x).length < r.length := by omega
      (repeat' first | refine s_mv rfl ?_ | refine s_as rfl ?_ | refine s_idx_ref1 rfl rfl rfl (by omega) ?_ | refine s_add rfl rfl (by omega) ?_ | refine s_store_e1 rfl rfl rfl rfl rfl (by first | assumption | omega) rfl ?_ | refine o_nil ?_ | refine o_op rfl ?_ | refine o_op0 ?_ | refine r_seq ?_ | refine r_region ?_)
      refine ⟨j + 1, r.set ((l.take j).filter fun x => !p x).length r[j], ⟨by omega, by rw [List.length_set, hr], by omega, ?_, ?_⟩, by omega, ?_⟩
      · rw [hlen, Ord.take_set_succ hfr, htk, hfs', hrj]
      · rw [List.drop_set_of_lt (by omega), hdr']
      · rw [hlen]
        exact ale_drop (by repeat' first | exact mem_nil | refine mem_cons rfl ?_) rfl
    · have hfs' := hfs
      rw [if_neg (by rw [← hrj, hb]; exact Bool.noConfusion)] at hfs'
      (repeat' first | refine s_mv rfl ?_ | refine s_as rfl ?_ | refine s_add rfl rfl (by omega) ?_ | refine o_nil ?_ | refine o_op rfl ?_ | refine r_region ?_ | refine r_skip ?_)
      refine ⟨j + 1, r, ⟨by omega, hr, by rw [hfs']; omega, by rw [hfs', htk], hdr'⟩, by omega, ?_⟩
      rw [hfs']
      exact ale_drop (by repeat' first | exact mem_nil | refine mem_cons rfl ?_) rfl
  · have hjl : j = l.length := by omega
    subst hjl
    rw [List.take_length] at htk hlt ⊢
    (repeat' first | refine s_mv rfl ?_ | refine s_as rfl ?_ | refine s_clear_tail rfl rfl rfl rfl rfl (by omega) (by omega) (by rfl) ?_ | refine s_slice_rh rfl rfl rfl (by omega) ?_ | refine s_slice_rl rfl rfl rfl (by omega) ?_ | refine o_nil ?_ | refine o_op rfl ?_ | refine o_op0 ?_ | refine r_seq ?_ | refine r_region ?_ | refine r_exit rfl ?_ | refine r_ret ?_)
    rw [htk]
    exact e_1 (Try.results37) (rv_tmp rfl) (c_same ⟨g, .inl rfl, rfl, rfl⟩)

theorem cloneI_c (l : List Int) (hl : l.length ≤ 1073741824) : Own Try.prog G 38 [slOf l] l.length (Enc.es Int) (encs l) := fun B => by
  refine calls_of_run Try.func38 rfl Try.ntmps38 rfl (t := [(0, slOf l)]) rfl fun E hE => ?_
  (repeat' first | refine s_mv rfl ?_ | refine s_as rfl ?_ | refine s_eq_nil_d rfl rfl (fun _ => ?_) ?_ | refine s_app_z rfl rfl rfl rfl rfl (by first | omega | (simp; omega)) (by first | omega | (simp; omega)) (fun _ => rfl) (fun _ _ => ?_) | refine s_bslice_none rfl (fun _ _ => ?_) | refine o_nil ?_ | refine o_op rfl ?_ | refine r_seq ?_ | refine r_region ?_ | refine r_skip ?_ | refine r_cond_t rfl ?_ | refine r_cond_f rfl ?_ | refine r_ret ?_)
  · rename_i h
    have : l = [] := by
      cases l with
      | nil => rfl
      | cons x l => simp [encs_cons, Enc.enc] at h
    subst this
    exact e_1 (Try.results38) (rv_tmp rfl) (c_own_nil hE)
  · exact e_1 Try.results38 (rv_tmp rfl) (c_ownedB hE rfl rfl rfl rfl)

end Go.Proofs
