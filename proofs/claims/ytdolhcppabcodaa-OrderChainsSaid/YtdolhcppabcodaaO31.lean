/-
  What functions of the program hand back: contracts over abstract values.
-/
import Derived.Test.YtdolhcppabcodaaAvK
import Derived.Test.YtdolhcppabcodaaInst
import Derived.Test.YtdolhcppabcodaaO9
import Derived.Test.YtdolhcppabcodaaL3
namespace Go.Proofs
open Go.Av
set_option linter.unusedSimpArgs false
set_option linter.unusedVariables false
set_option maxRecDepth 10000
set_option maxHeartbeats 4000000
variable {G : Nat → DV}
attribute [local irreducible] OpSem ARun AOps ALex ACalls AEnd AClose RV

theorem reach_c (es : List (Int × Int)) (from_ : Int) (h1 : es.length ≤ 1048576) : OwnM Try.prog G 25 [slOf es, .i from_] (imap (sset (Ord.reach es from_))) := fun B => by
  refine calls_of_run Try.func25 rfl Try.ntmps25 rfl (t := [(0, slOf es), (1, .i from_)]) rfl fun E hE => ?_
  (repeat' first | refine s_mv rfl ?_ | refine s_as rfl ?_ | refine s_mkmap_set (fun _ _ => ?_) | refine s_insert_set rfl rfl rfl rfl rfl ?_ | refine o_nil ?_ | refine o_op rfl ?_ | refine o_op0 ?_ | refine r_seq ?_ | refine r_region ?_ | refine r_block ?_)
  rename_i g hg
  refine r_loop (fun (r : Nat) => ⟨[(0, slOf es), (5, .mp 0 g), (6, .i r)], [.mapb g (imap (sset (Ord.reachTo es from_ r)))]⟩) (fun r => r ≤ es.length) (fun r => es.length - r) 0 ?_ (by omega) ?_
  · exact ale_drop (by repeat' first | exact mem_nil | refine mem_cons rfl ?_) rfl
  intro r hr
  (repeat' first | refine s_mv rfl ?_ | refine s_lss rfl rfl ?_ | refine s_len_sl rfl ?_ | refine o_nil ?_ | refine o_op rfl ?_ | refine r_seq ?_ | refine r_region ?_)
  refine r_cond_d rfl (fun h => ?_) (fun h => ?_)
  · have e0 : Ord.roundTo es (Ord.reachTo es from_ r) 0 = Ord.reachTo es from_ r := rfl
    have en : Ord.reachTo es from_ (r + 1) = Ord.roundTo es (Ord.reachTo es from_ r) es.length := rfl
    generalize Ord.reachTo es from_ r = S0 at *
    (repeat' first | refine s_as rfl ?_ | refine o_nil ?_ | refine o_op rfl ?_ | refine r_seq ?_ | refine r_region ?_ | refine r_block ?_ | refine r_skip ?_)
    refine r_loop (fun (i : Nat) => ⟨[(0, slOf es), (5, .mp 0 g), (6, .i r), (7, .i i)], [.mapb g (imap (sset (Ord.roundTo es S0 i)))]⟩) (fun i => i ≤ es.length) (fun i => es.length - i) 0 ?_ (by omega) ?_
    · rw [e0]
      exact ale_drop (by repeat' first | exact mem_nil | refine mem_cons rfl ?_) rfl
    intro i hi
    (repeat' first | refine s_mv rfl ?_ | refine s_lss rfl rfl ?_ | refine s_len_sl rfl ?_ | refine o_nil ?_ | refine o_op rfl ?_ | refine r_seq ?_ | refine r_region ?_)
    refine r_cond_d rfl (fun h => ?_) (fun h => ?_)
    · have hi' : i < es.length := by omega
      have es1 := Ord.roundTo_succ (S := S0) hi'
      generalize Ord.roundTo es S0 i = S at *
      (repeat' first | refine s_mv rfl ?_ | refine s_load_ep rfl ?_ | refine s_idx_sln rfl rfl (by first | assumption | omega | (simp; done) | (simp; omega)) ?_ | refine s_idx_ep rfl rfl (by omega) (by omega) ?_ | refine s_lookup_set rfl rfl rfl (by kernel_rfl) ?_ | refine o_nil ?_ | refine o_op rfl ?_ | refine r_seq ?_ | refine r_region ?_ | refine r_block ?_ | refine r_skip ?_)
      refine r_cond rfl (fun hb => ?_) (fun hb => ?_)
      · have es1 := es1.trans (if_pos hb)
        (repeat' first | refine s_mv rfl ?_ | refine s_as rfl ?_ | refine s_load_ep rfl ?_ | refine s_idx_sln rfl rfl (by first | assumption | omega | (simp; done) | (simp; omega)) ?_ | refine s_idx_ep rfl rfl (by omega) (by omega) ?_ | refine s_add rfl rfl (by omega) ?_ | refine s_mapupd_set rfl rfl rfl rfl rfl ?_ | refine o_nil ?_ | refine o_op rfl ?_ | refine o_op0 ?_ | refine r_region ?_)
        refine ⟨i + 1, by omega, by omega, ?_⟩
        rw [es1]
        exact ale_drop (by repeat' first | exact mem_nil | refine mem_cons rfl ?_) rfl
      · have es1 := es1.trans (if_neg (by rw [hb]; exact Bool.noConfusion))
        (repeat' first | refine s_mv rfl ?_ | refine s_as rfl ?_ | refine s_add rfl rfl (by omega) ?_ | refine o_nil ?_ | refine o_op rfl ?_ | refine r_region ?_ | refine r_skip ?_)
        refine ⟨i + 1, by omega, by omega, ?_⟩
        rw [es1]
        exact ale_drop (by repeat' first | exact mem_nil | refine mem_cons rfl ?_) rfl
    · have hi' : i = es.length := by omega
      subst hi'
      (repeat' first | refine s_mv rfl ?_ | refine s_as rfl ?_ | refine s_add rfl rfl (by omega) ?_ | refine o_nil ?_ | refine o_op rfl ?_ | refine r_region ?_ | refine r_exit rfl ?_)
      refine ⟨r + 1, by omega, by omega, ?_⟩
      rw [en]
      exact ale_drop (by repeat' first | exact mem_nil | refine mem_cons rfl ?_) rfl
  · have hr' : r = es.length := by omega
    subst hr'
    (repeat' first | refine s_mv rfl ?_ | refine s_as rfl ?_ | refine o_nil ?_ | refine o_op rfl ?_ | refine r_seq ?_ | refine r_region ?_ | refine r_exit rfl ?_ | refine r_ret ?_)
    exact e_1 (Try.results25) (rv_tmp rfl) (c_same ⟨g, Nat.lt_of_le_of_lt hE hg, rfl, rfl⟩)

end Go.Proofs
