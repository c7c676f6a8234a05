/-
  What functions of the program hand back: contracts over abstract values.
-/
import Derived.Test.YtdolhcppabcodaaAvK
import Derived.Test.YtdolhcppabcodaaInst
import Derived.Test.YtdolhcppabcodaaO17
namespace Go.Proofs
open Go.Av
set_option linter.unusedSimpArgs false
set_option linter.unusedVariables false
set_option maxRecDepth 10000
set_option maxHeartbeats 4000000
variable {G : Nat → DV}
attribute [local irreducible] OpSem ARun AOps ALex ACalls AEnd AClose RV
abbrev matD (rows : List (List Int)) : DV := .agg [slOf (rows.map Ord.KRow.mk)]

theorem of_c (rows : List (List Int)) (h1 : rows.length ≤ 1048576) (h2 : rows.flatten.length ≤ 1048576) (h3 : ∀ r ∈ rows, r.length ≤ 1048576) (hA : (Ord.allOf rows).length ≤ 64) : Go.Av.Pure Try.prog G 29 [matD rows] (setsD (Ord.masks rows)) := fun B => by
  have hkl : (rows.map Ord.KRow.mk).length = rows.length := by simp
  refine calls_of_run Try.func29 rfl Try.ntmps29 rfl (t := [(0, matD rows)]) rfl fun E hE => ?_
  (repeat' first | refine s_mv rfl ?_ | refine s_as rfl ?_ | refine s_load_row rfl rfl rfl ?_ | refine s_len_sl rfl ?_ | refine s_fld_ptr rfl rfl ?_ | refine s_box rfl rfl (fun _ _ => ?_) | refine o_nil ?_ | refine o_op rfl ?_ | refine r_seq ?_ | refine r_region ?_ | refine r_block ?_)
  refine r_own 3 1 rfl fun g0 hg0 => ?_
  rename_i gm hgm
  refine r_loopg (fun (i : Nat) g => ⟨[(1, .ptr 0 gm 0), (15, slOf (rows.map Ord.KRow.mk)), (16, .i (rows.map Ord.KRow.mk).length), (17, .i i), (3, .ref 1 g 0 (Ord.catTo rows i).length 1)], [.row gm [slOf (rows.map Ord.KRow.mk)], .row g (encs (Ord.catTo rows i))]⟩) (fun i => i ≤ rows.length) (fun i => rows.length - i) 0 g0 hg0 ?_ (by omega) ?_
  · exact ale_drop (by repeat' first | exact mem_nil | refine mem_cons rfl ?_) rfl
  intro i g hi hg
  have hcl := Ord.catTo_le rows i
  (repeat' first | refine s_lss rfl rfl ?_ | refine o_nil ?_ | refine o_op rfl ?_ | refine r_seq ?_ | refine r_region ?_)
  refine r_cond_d rfl (fun h => ?_) (fun h => ?_)
  · have hi' : i < rows.length := by omega
    have h3' := h3 _ (List.getElem_mem hi')
    (repeat' first | refine s_mv rfl ?_ | refine s_as rfl ?_ | refine s_load_epe rfl ?_ | refine s_load_row rfl rfl rfl ?_ | refine s_idx_sln rfl rfl (by first | assumption | omega | (simp; done) | (simp; omega)) ?_ | refine s_add rfl rfl (by omega) ?_ | refine s_app_r rfl rfl rfl rfl rfl rfl rfl (by first | omega | (simp; omega)) (by first | omega | (simp; omega)) (fun _ => rfl) (fun _ _ => ?_) | refine s_fld_ptr rfl rfl ?_ | refine s_store rfl rfl rfl rfl (by rfl) (by rfl) (by rfl) ?_ | refine s_alloc (fun _ _ => ?_) | refine o_nil ?_ | refine o_op rfl ?_ | refine o_op0 ?_ | refine r_seq ?_ | refine r_region ?_ | refine r_block ?_ | refine r_skip ?_)
    refine ⟨i + 1, _, by omega, by assumption, by omega, ?_⟩
    rw [show Ord.catTo rows (i + 1) = Ord.catTo rows i ++ ((rows.map Ord.KRow.mk)[i]'(by omega)).kills from by rw [Ord.catTo_succ hi']; simp]
    exact ale_drop (by repeat' first | exact mem_nil | refine mem_cons rfl ?_) rfl
  · have hi' : i = rows.length := by omega
    subst hi'
    have hcf : Ord.catTo rows rows.length = rows.flatten := by rw [Ord.catTo, List.take_length]
    rw [hcf]
    have hs1 := sortI_c (G := G) g rows.flatten (by omega)
    have hs2 := compactI_c (G := G) (rows.flatten.mergeSort fun x y => decide (x ≤ y)) (by rw [List.length_mergeSort]; omega) g
    rw [show Ord.dedup (rows.flatten.mergeSort fun x y => decide (x ≤ y)) = Ord.allOf rows from rfl, List.length_mergeSort] at hs2
    have hAl := Ord.allOf_len rows
    (repeat' first | refine s_mv rfl ?_ | refine s_as rfl ?_ | refine s_load_row rfl rfl rfl ?_ | refine s_len_sl rfl ?_ | refine s_call_m rfl rfl (hs1) rfl (by repeat' first | exact .nil | refine .cons .ref ?_ | refine .cons (.clo (by repeat' first | exact clo_sc | exact clo_slOf _ | exact clo_sl (encs_clo _) | exact encs_clo _ | refine clo_fn ?_ ?_ | refine clo_ep ?_ | refine clo_tup ?_ | refine clo_agg ?_ | exact ac_nil | refine ac_cons ?_ ?_)) ?_) (by first | exact .ref | exact .clo (by repeat' first | exact clo_sc | exact clo_slOf _ | exact clo_sl (encs_clo _) | exact encs_clo _ | refine clo_fn ?_ ?_ | refine clo_ep ?_ | refine clo_tup ?_ | refine clo_agg ?_ | exact ac_nil | refine ac_cons ?_ ?_)) (encs_clo _) (encs_clo _) (by rfl) ?_ | refine s_call_m rfl rfl (hs2) rfl (by repeat' first | exact .nil | refine .cons .ref ?_ | refine .cons (.clo (by repeat' first | exact clo_sc | exact clo_slOf _ | exact clo_sl (encs_clo _) | exact encs_clo _ | refine clo_fn ?_ ?_ | refine clo_ep ?_ | refine clo_tup ?_ | refine clo_agg ?_ | exact ac_nil | refine ac_cons ?_ ?_)) ?_) (by first | exact .ref | exact .clo (by repeat' first | exact clo_sc | exact clo_slOf _ | exact clo_sl (encs_clo _) | exact encs_clo _ | refine clo_fn ?_ ?_ | refine clo_ep ?_ | refine clo_tup ?_ | refine clo_agg ?_ | exact ac_nil | refine ac_cons ?_ ?_)) (encs_clo _) (encs_clo _) (by rfl) ?_ | refine s_fld_ptr rfl rfl ?_ | refine o_nil ?_ | refine o_op rfl ?_ | refine r_seq ?_ | refine r_region ?_ | refine r_block ?_ | refine r_exit rfl ?_)
    refine r_pub 3 rfl rfl (encs_len _).symm rfl ?_
    refine r_own 6 1 rfl fun g1 hg1 => ?_
    refine r_loopg (fun (i : Nat) g => ⟨[(3, slOf (Ord.allOf rows)), (31, slOf (rows.map Ord.KRow.mk)), (32, .i (rows.map Ord.KRow.mk).length), (33, .i i), (6, .ref 2 g 0 (Ord.setsOf (Ord.masksTo rows i)).length 1)], [.row gm [slOf (rows.map Ord.KRow.mk)], .gone, .row g (encs (Ord.setsOf (Ord.masksTo rows i)))]⟩) (fun i => i ≤ rows.length) (fun i => rows.length - i) 0 g1 hg1 ?_ (by omega) ?_
    · exact ale_drop (by repeat' first | exact mem_nil | refine mem_cons rfl ?_) rfl
    intro i g hi hg
    have hml : (Ord.setsOf (Ord.masksTo rows i)).length ≤ i := by rw [Ord.setsOf_len]; exact Ord.masksTo_len
    (repeat' first | refine s_lss rfl rfl ?_ | refine o_nil ?_ | refine o_op rfl ?_ | refine r_seq ?_ | refine r_region ?_)
    refine r_cond_d rfl (fun h => ?_) (fun h => ?_)
    · have hi' : i < rows.length := by omega
      have h3' := h3 _ (List.getElem_mem hi')
      (repeat' first | refine s_mv rfl ?_ | refine s_as rfl ?_ | refine s_load_epe rfl ?_ | refine s_load_row rfl rfl rfl ?_ | refine s_idx_sln rfl rfl (by first | assumption | omega | (simp; done) | (simp; omega)) ?_ | refine s_add rfl rfl (by omega) ?_ | refine s_quo rfl rfl (by omega) (by omega) (by omega) ?_ | refine s_len_sl rfl ?_ | refine s_fld_ptr rfl rfl ?_ | refine s_store rfl rfl rfl rfl (by rfl) (by rfl) (by rfl) ?_ | refine s_make rfl rfl rfl (by omega) (by omega) (by omega) (by omega) (fun _ _ => ?_) | refine s_alloc (fun _ _ => ?_) | refine o_nil ?_ | refine o_op rfl ?_ | refine o_op0 ?_ | refine r_seq ?_ | refine r_region ?_ | refine r_block ?_ | refine r_skip ?_)
      rw [show (1 + ((Ord.allOf rows).length : Int) / 256).toNat = 1 by omega]
      simp only [List.getElem_map]
      refine r_pubptr 8 rfl rfl rfl ?_
      rename_i g9 hg9
      refine r_loop (fun (k : Nat) => ⟨[(3, slOf (Ord.allOf rows)), (31, slOf (rows.map Ord.KRow.mk)), (32, .i (rows.map Ord.KRow.mk).length), (33, .i i), (6, .ref 2 g 0 (Ord.setsOf (Ord.masksTo rows i)).length 1), (9, .ref 4 g9 0 1 4), (43, slOf rows[i]), (44, .i rows[i].length), (45, .i k)], [.row gm [slOf (rows.map Ord.KRow.mk)], .gone, .row g (encs (Ord.setsOf (Ord.masksTo rows i))), .gone, .row g9 [.sc (.int .u64 (Ord.maskTo (Ord.allOf rows) rows[i] k)), .sc (.int .u64 0), .sc (.int .u64 0), .sc (.int .u64 0)]]⟩) (fun k => k ≤ rows[i].length) (fun k => rows[i].length - k) 0 ?_ (by omega) ?_
      · exact ale_drop (by repeat' first | exact mem_nil | refine mem_cons rfl ?_) rfl
      intro k hk
      (repeat' first | refine s_lss rfl rfl ?_ | refine o_nil ?_ | refine o_op rfl ?_ | refine r_seq ?_ | refine r_region ?_)
      refine r_cond_d rfl (fun h => ?_) (fun h => ?_)
      · have hk' : k < rows[i].length := by omega
        have hb1 := binarySearchI_c (G := G) (Ord.allOf rows) rows[i][k] (by omega) (Ord.allOf_sorted rows)
        have hlb : Ord.lb (Ord.allOf rows) rows[i][k] < (Ord.allOf rows).length := Ord.lb_lt ((Ord.allOf_mem rows _).2 ⟨_, List.getElem_mem hi', List.getElem_mem hk'⟩)
        have hms : Ord.maskTo (Ord.allOf rows) rows[i] (k + 1) = Ord.maskTo (Ord.allOf rows) rows[i] k ||| 2 ^ Ord.lb (Ord.allOf rows) rows[i][k] := by rw [Ord.maskTo, Ord.getD_lt hk']
        have hor := Ord.or_bit (m := Ord.maskTo (Ord.allOf rows) rows[i] k) (n := Ord.lb (Ord.allOf rows) rows[i][k]) (Ord.maskTo_lt (fun x hx => by
          have := Ord.lb_lt ((Ord.allOf_mem rows x).2 ⟨_, List.getElem_mem hi', hx⟩)
          omega) k (by omega)) (by omega)
        (repeat' first | refine s_mv rfl ?_ | refine s_as rfl ?_ | refine s_load_ep rfl ?_ | refine s_idx_sln rfl rfl (by first | assumption | omega | (simp; done) | (simp; omega)) ?_ | refine s_add rfl rfl (by omega) ?_ | refine s_call_p rfl rfl (hb1) (by repeat' first | exact clo_sc | exact clo_slOf _ | exact clo_sl (encs_clo _) | exact encs_clo _ | refine clo_fn ?_ ?_ | refine clo_ep ?_ | refine clo_tup ?_ | refine clo_agg ?_ | exact ac_nil | refine ac_cons ?_ ?_) ?_ | refine s_extract rfl rfl rfl ?_ | refine s_store rfl rfl rfl rfl (by rfl) (by rfl) (by rfl) ?_ | refine o_nil ?_ | refine o_op rfl ?_ | refine o_op0 ?_ | refine r_seq ?_ | refine r_region ?_ | refine r_block ?_ | (refine g_draw ?_; first | refine r_draw0 (by rfl) (by kernel_rfl) (by kernel_rfl) ?_ | refine r_drawq (by kernel_rfl) (by kernel_rfl) ?_) | refine r_skip ?_ | refine x_op rfl (by (repeat' first | refine s_mv rfl ?_ | refine s_load_row rfl rfl rfl ?_ | refine s_idx_refq 0 rfl rfl rfl (by omega) (by omega) ?_ | refine s_idx_arrq 0 rfl rfl rfl (by omega) (by omega) ?_ | refine s_quo rfl rfl (by omega) (by omega) (by omega) ?_ | refine s_rem rfl rfl (by first | omega | exact nn_shr (by omega)) (by omega) ?_ | refine s_or rfl rfl ?_ | refine s_shl rfl rfl (by omega) ?_ | exact ⟨rfl, rfl⟩)) ?_ | refine x_nil ?_)
        refine ⟨k + 1, by omega, by omega, ?_⟩
        rw [hms, ← hor]
        exact ale_drop (by repeat' first | exact mem_nil | refine mem_cons rfl ?_) rfl
      · have hk' : k = rows[i].length := by omega
        subst hk'
        refine r_pub 9 rfl rfl rfl rfl ?_
        refine r_le (st' := ⟨[(3, slOf (Ord.allOf rows)), (31, slOf (rows.map Ord.KRow.mk)), (32, .i (rows.map Ord.KRow.mk).length), (33, .i i), (6, .ref 2 g 0 (Ord.setsOf (Ord.masksTo rows i)).length 1), (9, slOf [Ord.W4.mk (Ord.mask (Ord.allOf rows) rows[i])]), (46, .b (decide ((rows[i].length : Int) < rows[i].length)))], [.row gm [slOf (rows.map Ord.KRow.mk)], .gone, .row g (encs (Ord.setsOf (Ord.masksTo rows i))), .gone, .gone]⟩) ?_ ?_
        · exact ale_drop (by repeat' first | exact mem_nil | refine mem_cons rfl ?_) rfl
        (repeat' first | refine s_mv rfl ?_ | refine s_as rfl ?_ | refine s_add rfl rfl (by omega) ?_ | refine s_app1 rfl rfl rfl rfl rfl rfl rfl (by first | omega | (simp; omega)) (by first | omega | (simp; omega)) (fun _ => rfl) (fun _ _ => ?_) | refine s_bslice rfl rfl (by decide) rfl ?_ | refine o_nil ?_ | refine o_op rfl ?_ | refine r_region ?_ | refine r_exit rfl ?_)
        refine ⟨i + 1, _, by omega, by assumption, by omega, ?_⟩
        rw [show Ord.setsOf (Ord.masksTo rows (i + 1)) = Ord.setsOf (Ord.masksTo rows i) ++ [[Ord.W4.mk (Ord.mask (Ord.allOf rows) rows[i])]] from by rw [Ord.masksTo_succ hi', Ord.setsOf, List.map_append]; rfl]
        exact ale_drop (by repeat' first | exact mem_nil | refine mem_cons rfl ?_) rfl
    · have hi' : i = rows.length := by omega
      subst hi'
      (repeat' first | refine s_mv rfl ?_ | refine s_as rfl ?_ | refine o_nil ?_ | refine o_op rfl ?_ | refine r_seq ?_ | refine r_region ?_ | refine r_exit rfl ?_ | refine r_ret ?_)
      refine e_1 (Try.results29) (rv_tmp rfl) (c_pub rfl (encs_len _).symm (c_pure' ?_))
      rw [show Ord.masksTo rows rows.length = Ord.masks rows from by rw [Ord.masksTo, List.take_length]; rfl]
      rfl

end Go.Proofs
