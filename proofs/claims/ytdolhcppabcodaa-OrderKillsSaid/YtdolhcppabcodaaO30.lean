/-
  What functions of the program hand back: contracts over abstract values.
-/
import Derived.Test.YtdolhcppabcodaaAvK
import Derived.Test.YtdolhcppabcodaaInst
import Derived.Test.YtdolhcppabcodaaO27
import Derived.Test.YtdolhcppabcodaaL1
namespace Go.Proofs
open Go.Av
set_option linter.unusedSimpArgs false
set_option linter.unusedVariables false
set_option maxRecDepth 10000
set_option maxHeartbeats 4000000
variable {G : Nat → DV}
attribute [local irreducible] OpSem ARun AOps ALex ACalls AEnd AClose RV Ord.rowsOf Ord.roots Ord.score Ord.below Ord.kills

theorem orderKills_c (l : List Int) (bits : Int) (hl : ∀ x ∈ l, Ord.I64 x) (hll : l.length ≤ 9223372036854775807) (hb : Ord.I64 bits) : Go.Av.Pure Try.prog G 6 [slOf l, .i bits] (.b true) := fun B => by
  have hr := Ord.small_rows l
  have hn := hr.n
  have hrw := hr.r
  have hrow : ∀ r ∈ Ord.rowsOf l, r.length ≤ 4611686018427387904 := fun r h => by have := hrw r h; omega
  have hrm : ∀ r ∈ Ord.rowsOf l, ∀ x ∈ r, 0 ≤ x ∧ x < (5 : Nat) := fun r h x hx => (Ord.rowsOf_mem h).2 x hx
  have hgi := given_c (G := G) (Ord.rowsOf l) (by omega)
  have hor := oRoots_c (G := G) _ hr
  rw [Ord.pRoots_eq] at hor
  have hob : ∀ x y, Go.Av.Pure Try.prog G 11 [matD (Ord.rowsOf l), .i x, .i y] (.b (Ord.below (Ord.rowsOf l) x y)) := fun x y => by rw [← Ord.pBelow_eq]; exact oBelow_c _ hr x y
  have har := around_c (G := G) bits 32 hb (by decide)
  have hab := Ord.around_bound bits (most := 32) (by decide)
  have hrl := Ord.roots_len (Ord.rowsOf l)
  refine calls_of_run Try.func6 rfl Try.ntmps6 rfl (t := [(0, slOf l), (1, .i bits)]) rfl fun E hE => ?_
  (repeat' first | refine s_mv rfl ?_ | refine s_as rfl ?_ | refine s_load_rowa rfl rfl (by rfl) (by rfl) ?_ | refine s_call_p rfl rfl ((rows_c l hl (by omega)).read) (by repeat' first | exact clo_sc | exact clo_slOf _ | exact clo_sl (encs_clo _) | exact encs_clo _ | refine clo_fn ?_ ?_ | refine clo_ep ?_ | refine clo_tup ?_ | refine clo_agg ?_ | exact ac_nil | refine ac_cons ?_ ?_) ?_ | refine s_call_p rfl rfl (hgi) (by repeat' first | exact clo_sc | exact clo_slOf _ | exact clo_sl (encs_clo _) | exact encs_clo _ | refine clo_fn ?_ ?_ | refine clo_ep ?_ | refine clo_tup ?_ | refine clo_agg ?_ | exact ac_nil | refine ac_cons ?_ ?_) ?_ | refine s_call_p rfl rfl (hor) (by repeat' first | exact clo_sc | exact clo_slOf _ | exact clo_sl (encs_clo _) | exact encs_clo _ | refine clo_fn ?_ ?_ | refine clo_ep ?_ | refine clo_tup ?_ | refine clo_agg ?_ | exact ac_nil | refine ac_cons ?_ ?_) ?_ | refine s_store rfl rfl rfl rfl (by rfl) (by rfl) (by rfl) ?_ | refine s_alloc (fun _ _ => ?_) | refine o_nil ?_ | refine o_op rfl ?_ | refine o_op0 ?_ | refine r_seq ?_ | refine r_region ?_ | refine r_block ?_)
  refine r_pubptr 6 rfl rfl rfl ?_
  refine r_own 8 1 rfl fun g0 hg0 => ?_
  refine r_loopg (fun (k : Nat) g => ⟨[(1, .i bits), (5, slOf (Ord.rowsOf l)), (6, .ep [slOf ((Ord.rowsOf l).map Ord.KRow.mk)]), (7, slOf (Ord.roots (Ord.rowsOf l))), (8, .ref 1 g 0 (Ord.bitsTo (Ord.around bits 32) k).length 1), (9, .i k)], [.gone, .row g (encs (Ord.bitsTo (Ord.around bits 32) k))]⟩) (fun k => k ≤ 5) (fun k => 5 - k) 0 g0 hg0 ?_ (by omega) ?_
  · exact ale_drop (by repeat' first | exact mem_nil | refine mem_cons rfl ?_) rfl
  intro k g hk hg
  have hbl := Ord.bitsTo_len (Ord.around bits 32) k
  have hbs := Ord.bitsTo_succ (Ord.around bits 32) k
  (repeat' first | refine s_mv rfl ?_ | refine s_lss rfl rfl ?_ | refine o_nil ?_ | refine o_op rfl ?_ | refine r_seq ?_ | refine r_region ?_)
  refine r_cond_d rfl (fun h => ?_) (fun h => ?_)
  · (repeat' first | refine s_mv rfl ?_ | refine s_eql rfl rfl ?_ | refine s_rem rfl rfl (by first | omega | exact nn_shr (by omega)) (by omega) ?_ | refine s_shr rfl rfl (by omega) ?_ | refine s_call_p rfl rfl (har) (by repeat' first | exact clo_sc | exact clo_slOf _ | exact clo_sl (encs_clo _) | exact encs_clo _ | refine clo_fn ?_ ?_ | refine clo_ep ?_ | refine clo_tup ?_ | refine clo_agg ?_ | exact ac_nil | refine ac_cons ?_ ?_) ?_ | refine s_conv_u rfl (by omega) ?_ | refine o_nil ?_ | refine o_op rfl ?_ | refine r_seq ?_ | refine r_region ?_ | refine r_block ?_ | refine r_skip ?_)
    refine r_cond_d rfl (fun hb => ?_) (fun hb => ?_)
    · have hbs := hbs.trans (if_pos hb)
      (repeat' first | refine s_mv rfl ?_ | refine s_as rfl ?_ | refine s_add rfl rfl (by omega) ?_ | refine s_app1 rfl rfl rfl rfl rfl rfl rfl (by first | omega | (simp; omega)) (by first | omega | (simp; omega)) (fun _ => rfl) (fun _ _ => ?_) | refine s_bslice rfl rfl (by decide) rfl ?_ | refine o_nil ?_ | refine o_op rfl ?_ | refine r_region ?_)
      refine ⟨k + 1, _, by omega, by assumption, by omega, ?_⟩
      rw [hbs]
      exact ale_drop (by repeat' first | exact mem_nil | refine mem_cons rfl ?_) rfl
    · have hbs := hbs.trans (if_neg hb)
      (repeat' first | refine s_mv rfl ?_ | refine s_as rfl ?_ | refine s_add rfl rfl (by omega) ?_ | refine o_nil ?_ | refine o_op rfl ?_ | refine r_region ?_ | refine r_skip ?_)
      refine ⟨k + 1, g, by omega, hg, by omega, ?_⟩
      rw [hbs]
      exact ale_drop (by repeat' first | exact mem_nil | refine mem_cons rfl ?_) rfl
  have hk5 : k = 5 := by omega
  subst hk5
  refine r_pub 8 rfl rfl (encs_len _).symm rfl ?_
  generalize hT : Ord.bitsTo (Ord.around bits 32) 5 = T at hbl ⊢
  have hos := oScore_c (G := G) _ T hr (by omega)
  rw [Ord.pScore_eq, Ord.pRoots_eq] at hos
  have hsl := Ord.score_le (rows := Ord.rowsOf l) T
  have hk1 : ∀ (row t : List Int), row ∈ Ord.rowsOf l → t.length ≤ 5 → Go.Av.Pure Try.prog G 27 [slOf row, slOf t] (.b (Ord.kills row t)) := fun row t h1 h2 => kills_c _ _ (hrow _ h1) (by omega)
  have hu : ∀ (a : Nat) (ha : a < (Ord.rowsOf l).length), (Ord.rowsOf l)[a] ≠ [] → ((Ord.roots (Ord.rowsOf l)).any fun r => Ord.below (Ord.rowsOf l) r (a : Int)) = true := fun a ha hne => by
    obtain ⟨r, h1, h2⟩ := Ord.root_under ha hne
    exact List.any_eq_true.2 ⟨r, h1, h2⟩
  have hfull : Ord.score (Ord.rowsOf l) T = (Ord.roots (Ord.rowsOf l)).length → ∀ (a : Nat) (ha : a < (Ord.rowsOf l).length), (Ord.rowsOf l)[a] ≠ [] → Ord.kills (Ord.rowsOf l)[a] T = true := fun h a ha hne => Ord.score_full h ha hne
  have hrm2 : ∀ (i : Nat) (hi : i < (Ord.roots (Ord.rowsOf l)).length), 0 ≤ (Ord.roots (Ord.rowsOf l))[i] ∧ (Ord.roots (Ord.rowsOf l))[i] < (Ord.rowsOf l).length := fun i hi => Ord.roots_mem (List.getElem_mem hi)
  have hok : ∀ (i k : Nat) (hi : i < (Ord.roots (Ord.rowsOf l)).length) (hk : k < (Ord.roots (Ord.rowsOf l)).length), Ord.kills ((Ord.rowsOf l).getD ((Ord.roots (Ord.rowsOf l))[k]).toNat []) (Ord.othersTo (Ord.rowsOf l) (Ord.roots (Ord.rowsOf l))[i] 5) = decide (i ≠ k) := fun i k hi hk => Ord.others_kill hrm hi hk
  clear hbs
  generalize Ord.rowsOf l = L at *
  generalize Ord.roots L = rt at *
  generalize Ord.score L T = sc at *
  (repeat' first | refine s_mv rfl ?_ | refine s_as rfl ?_ | refine s_load_epa rfl (by rfl) (by rfl) ?_ | refine s_lss rfl rfl ?_ | refine s_gtr rfl rfl ?_ | refine s_neq rfl rfl ?_ | refine s_len_sl rfl ?_ | refine s_call_p rfl rfl (hos) (by repeat' first | exact clo_sc | exact clo_slOf _ | exact clo_sl (encs_clo _) | exact encs_clo _ | refine clo_fn ?_ ?_ | refine clo_ep ?_ | refine clo_tup ?_ | refine clo_agg ?_ | exact ac_nil | refine ac_cons ?_ ?_) ?_ | refine s_pf rfl rfl ?_ | refine s_extract rfl rfl rfl ?_ | refine o_nil ?_ | refine o_op rfl ?_ | refine o_gy rfl rfl rfl rfl ?_ | refine o_sp_f rfl rfl (by omega) ?_ | refine r_seq ?_ | refine r_region ?_ | refine r_block ?_ | refine r_skip ?_ | refine r_cond_f rfl ?_ | refine r_exit rfl ?_)
  refine r_loop (fun a : Nat => ⟨[(5, slOf L), (6, .ep [slOf (L.map Ord.KRow.mk)]), (7, slOf rt), (8, slOf T), (10, .i sc), (11, .i rt.length), (12, .i a)], []⟩) (fun a => a ≤ L.length) (fun a => L.length - a) 0 ?_ (by omega) ?_
  · exact ale_drop (by repeat' first | exact mem_nil | refine mem_cons rfl ?_) rfl
  · intro a ha
    (repeat' first | refine s_mv rfl ?_ | refine s_lss rfl rfl ?_ | refine s_len_sl rfl ?_ | refine o_nil ?_ | refine o_op rfl ?_ | refine r_seq ?_ | refine r_region ?_)
    refine r_cond_d rfl (fun h => ?_) (fun h => ?_)
    · have ha' : a < L.length := by omega
      have hla := hrw _ (List.getElem_mem ha')
      have hla := List.getElem_mem ha'
      (repeat' first | refine s_mv rfl ?_ | refine s_load_ep rfl ?_ | refine s_idx_sln rfl rfl (by first | assumption | omega | (simp; done) | (simp; omega)) ?_ | refine s_eql rfl rfl ?_ | refine s_len_sl rfl ?_ | refine o_nil ?_ | refine o_op rfl ?_ | refine r_seq ?_ | refine r_region ?_ | refine r_block ?_ | refine r_skip ?_)
      refine r_cond_d rfl (fun h0 => ?_) (fun h0 => ?_)
      · (repeat' first | refine s_mv rfl ?_ | refine s_as rfl ?_ | refine s_add rfl rfl (by omega) ?_ | refine o_nil ?_ | refine o_op rfl ?_ | refine r_region ?_ | refine r_exit rfl ?_)
        refine ⟨a + 1, by omega, by omega, ?_⟩
        exact ale_drop (by repeat' first | exact mem_nil | refine mem_cons rfl ?_) rfl
      have hne : L[a] ≠ [] := fun e => h0 (by rw [e]; rfl)
      have hu' := hu a ha' hne
      have hk2 : sc = rt.length → Go.Av.Pure Try.prog G 27 [slOf L[a], slOf T] (.b true) := fun e => by
        rw [← hfull e a ha' hne]; exact hk1 _ _ hla hbl
      (repeat' first | refine s_as rfl ?_ | refine o_nil ?_ | refine o_op rfl ?_ | refine r_seq ?_ | refine r_region ?_ | refine r_block ?_ | refine r_skip ?_)
      refine r_loop (fun i : Nat => ⟨[(5, slOf L), (6, .ep [slOf (L.map Ord.KRow.mk)]), (7, slOf rt), (8, slOf T), (10, .i sc), (11, .i rt.length), (12, .i a), (13, .b ((rt.take i).any fun r => Ord.below L r a)), (14, .i i)], []⟩) (fun i => i ≤ rt.length) (fun i => rt.length - i) 0 ?_ (by omega) ?_
      · exact ale_drop (by repeat' first | exact mem_nil | refine mem_cons rfl ?_) rfl
      intro i hi
      (repeat' first | refine s_mv rfl ?_ | refine s_lss rfl rfl ?_ | refine s_len_sl rfl ?_ | refine o_nil ?_ | refine o_op rfl ?_ | refine r_seq ?_ | refine r_region ?_)
      refine r_cond_d rfl (fun h => ?_) (fun h => ?_)
      · have hi' : i < rt.length := by omega
        have et : ((rt.take (i + 1)).any fun r => Ord.below L r a) = (((rt.take i).any fun r => Ord.below L r a) || Ord.below L rt[i] a) := by rw [List.take_succ_eq_append_getElem hi', List.any_append]; simp
        (repeat' first | refine s_mv rfl ?_ | refine s_as rfl ?_ | refine s_add rfl rfl (by omega) ?_ | refine o_nil ?_ | refine o_op rfl ?_ | refine r_seq ?_ | refine r_region ?_ | refine r_block ?_ | (refine g_draw ?_; first | refine r_draw0 (by rfl) (by kernel_rfl) (by kernel_rfl) ?_ | refine r_drawq (by kernel_rfl) (by kernel_rfl) ?_) | refine r_skip ?_ | refine x_op rfl (by (repeat' first | refine s_mv rfl ?_ | refine s_as rfl ?_ | refine s_load_ep rfl ?_ | refine s_load_epa rfl (by rfl) (by rfl) ?_ | refine s_idx_sln rfl rfl (by first | assumption | omega | (simp; done) | (simp; omega)) ?_ | refine s_call_p rfl rfl (hob _ _) (by repeat' first | exact clo_sc | exact clo_slOf _ | exact clo_sl (encs_clo _) | exact encs_clo _ | refine clo_fn ?_ ?_ | refine clo_ep ?_ | refine clo_tup ?_ | refine clo_agg ?_ | exact ac_nil | refine ac_cons ?_ ?_) ?_ | refine s_pt rfl rfl ?_ | refine s_pf rfl rfl ?_ | exact ⟨rfl, rfl⟩)) ?_ | refine x_gy rfl rfl rfl rfl (by (repeat' first | refine s_mv rfl ?_ | refine s_as rfl ?_ | refine s_load_ep rfl ?_ | refine s_load_epa rfl (by rfl) (by rfl) ?_ | refine s_idx_sln rfl rfl (by first | assumption | omega | (simp; done) | (simp; omega)) ?_ | refine s_call_p rfl rfl (hob _ _) (by repeat' first | exact clo_sc | exact clo_slOf _ | exact clo_sl (encs_clo _) | exact encs_clo _ | refine clo_fn ?_ ?_ | refine clo_ep ?_ | refine clo_tup ?_ | refine clo_agg ?_ | exact ac_nil | refine ac_cons ?_ ?_) ?_ | refine s_pt rfl rfl ?_ | refine s_pf rfl rfl ?_ | exact ⟨rfl, rfl⟩)) ?_ | refine x_nil ?_ | refine x_gn rfl rfl rfl rfl ?_ | refine x_sp rfl rfl (fun _ => ?_) (fun _ => ?_))
        · rename_i hx
          refine ⟨i + 1, by omega, by omega, ?_⟩
          rw [et, hx, Bool.true_or]
          exact ale_drop (by repeat' first | exact mem_nil | refine mem_cons rfl ?_) rfl
        · rename_i hx
          refine ⟨i + 1, by omega, by omega, ?_⟩
          rw [et, hx, Bool.false_or]
          exact ale_drop (by repeat' first | exact mem_nil | refine mem_cons rfl ?_) rfl
      · have hi' : i = rt.length := by omega
        subst hi'
        rw [List.take_length, hu']
        (repeat' first | refine s_mv rfl ?_ | refine s_as rfl ?_ | refine s_load_ep rfl ?_ | refine s_idx_sln rfl rfl (by first | assumption | omega | (simp; done) | (simp; omega)) ?_ | refine s_eql rfl rfl ?_ | refine s_add rfl rfl (by omega) ?_ | refine s_call_p rfl rfl (hk2 (by first | trivial | omega)) (by repeat' first | exact clo_sc | exact clo_slOf _ | exact clo_sl (encs_clo _) | exact encs_clo _ | refine clo_fn ?_ ?_ | refine clo_ep ?_ | refine clo_tup ?_ | refine clo_agg ?_ | exact ac_nil | refine ac_cons ?_ ?_) ?_ | refine s_pt rfl rfl ?_ | refine s_pf rfl rfl ?_ | refine s_not rfl ?_ | refine o_nil ?_ | refine o_op rfl ?_ | refine o_gy rfl rfl rfl rfl ?_ | refine o_gn rfl rfl rfl rfl ?_ | refine o_sp_d rfl rfl (fun _ => ?_) (fun _ => ?_) | refine r_seq ?_ | refine r_region ?_ | refine r_skip ?_ | refine r_cond_f rfl ?_ | refine r_exit rfl ?_)
        all_goals
          refine ⟨a + 1, by omega, by omega, ?_⟩
          exact ale_drop (by repeat' first | exact mem_nil | refine mem_cons rfl ?_) rfl
    · (repeat' first | refine s_as rfl ?_ | refine o_nil ?_ | refine o_op rfl ?_ | refine r_seq ?_ | refine r_region ?_ | refine r_block ?_ | refine r_exit rfl ?_)
      refine r_loop (fun i : Nat => ⟨[(5, slOf L), (7, slOf rt), (15, .i i)], []⟩) (fun i => i ≤ rt.length) (fun i => rt.length - i) 0 ?_ (by omega) ?_
      · exact ale_drop (by repeat' first | exact mem_nil | refine mem_cons rfl ?_) rfl
      intro i hi
      (repeat' first | refine s_mv rfl ?_ | refine s_lss rfl rfl ?_ | refine s_len_sl rfl ?_ | refine o_nil ?_ | refine o_op rfl ?_ | refine r_seq ?_ | refine r_region ?_)
      refine r_cond_d rfl (fun h => ?_) (fun h => ?_)
      · have hi' : i < rt.length := by omega
        have hri := hrm2 i hi'
        have hni : rt[i].toNat < L.length := by omega
        have hmi := List.getElem_mem hni
        have ei := Ord.getD_lt hni []
        (repeat' first | refine s_mv rfl ?_ | refine s_as rfl ?_ | refine s_load_ep rfl ?_ | refine s_idx_sln rfl rfl (by first | assumption | omega | (simp; done) | (simp; omega)) ?_ | refine s_lss rfl rfl ?_ | refine s_geq rfl rfl ?_ | refine s_len_sl rfl ?_ | refine s_pf rfl rfl ?_ | refine o_nil ?_ | refine o_op rfl ?_ | refine o_gy rfl rfl rfl rfl ?_ | refine o_sp_f rfl rfl (by omega) ?_ | refine r_seq ?_ | refine r_region ?_ | refine r_block ?_ | refine r_skip ?_ | refine r_cond_df rfl (by omega) ?_)
        refine r_own 16 1 rfl fun g0 hg0 => ?_
        refine r_loopg (fun (t : Nat) g => ⟨[(5, slOf L), (7, slOf rt), (15, .i i), (16, .ref 0 g 0 (Ord.othersTo L rt[i] t).length 1), (17, .i t)], [.row g (encs (Ord.othersTo L rt[i] t))]⟩) (fun t => t ≤ 5) (fun t => 5 - t) 0 g0 hg0 ?_ (by omega) ?_
        · exact ale_drop (by repeat' first | exact mem_nil | refine mem_cons rfl ?_) rfl
        intro t g ht hg
        have hot := Ord.othersTo_len (rows := L) rt[i] t
        have hos := Ord.othersTo_succ (rows := L) rt[i] t
        rw [ei] at hos
        (repeat' first | refine s_mv rfl ?_ | refine s_lss rfl rfl ?_ | refine o_nil ?_ | refine o_op rfl ?_ | refine r_seq ?_ | refine r_region ?_)
        refine r_cond_d rfl (fun h => ?_) (fun h => ?_)
        · have hk3 := hk1 L[rt[i].toNat] [(t : Int)] hmi (by simp)
          (repeat' first | refine s_mv rfl ?_ | refine s_load_ep rfl ?_ | refine s_idx_sln rfl rfl (by first | assumption | omega | (simp; done) | (simp; omega)) ?_ | refine s_idx_sl rfl rfl (by omega) (by first | assumption | omega | (simp; done) | (simp; omega)) ?_ | refine s_call_p rfl rfl (hk3) (by repeat' first | exact clo_sc | exact clo_slOf _ | exact clo_sl (encs_clo _) | exact encs_clo _ | refine clo_fn ?_ ?_ | refine clo_ep ?_ | refine clo_tup ?_ | refine clo_agg ?_ | exact ac_nil | refine ac_cons ?_ ?_) ?_ | refine s_not rfl ?_ | refine s_bslice rfl rfl (by decide) rfl ?_ | refine o_nil ?_ | refine o_op rfl ?_ | refine r_seq ?_ | refine r_region ?_ | refine r_block ?_ | refine r_skip ?_)
          refine r_cond rfl (fun hb => ?_) (fun hb => ?_)
          · have hos := hos.trans (if_neg (by simpa using hb))
            (repeat' first | refine s_mv rfl ?_ | refine s_as rfl ?_ | refine s_add rfl rfl (by omega) ?_ | refine s_app1 rfl rfl rfl rfl rfl rfl rfl (by first | omega | (simp; omega)) (by first | omega | (simp; omega)) (fun _ => rfl) (fun _ _ => ?_) | refine s_bslice rfl rfl (by decide) rfl ?_ | refine o_nil ?_ | refine o_op rfl ?_ | refine r_region ?_)
            refine ⟨t + 1, _, by omega, by assumption, by omega, ?_⟩
            rw [hos]
            exact ale_drop (by repeat' first | exact mem_nil | refine mem_cons rfl ?_) rfl
          · have hos := hos.trans (if_pos (by simpa using hb))
            (repeat' first | refine s_mv rfl ?_ | refine s_as rfl ?_ | refine s_add rfl rfl (by omega) ?_ | refine o_nil ?_ | refine o_op rfl ?_ | refine r_region ?_ | refine r_skip ?_)
            refine ⟨t + 1, g, by omega, hg, by omega, ?_⟩
            rw [hos]
            exact ale_drop (by repeat' first | exact mem_nil | refine mem_cons rfl ?_) rfl
        · have ht5 : t = 5 := by omega
          subst ht5
          refine r_pub 16 rfl rfl (encs_len _).symm rfl ?_
          have hok' := fun k hk => hok i k hi' hk
          generalize Ord.othersTo L rt[i] 5 = O at *
          (repeat' first | refine s_as rfl ?_ | refine o_nil ?_ | refine o_op rfl ?_ | refine r_seq ?_ | refine r_region ?_ | refine r_block ?_ | refine r_exit rfl ?_)
          refine r_loop (fun k : Nat => ⟨[(5, slOf L), (7, slOf rt), (15, .i i), (16, slOf O), (18, .i k)], []⟩) (fun k => k ≤ rt.length) (fun k => rt.length - k) 0 ?_ (by omega) ?_
          · exact ale_drop (by repeat' first | exact mem_nil | refine mem_cons rfl ?_) rfl
          intro k hk
          (repeat' first | refine s_mv rfl ?_ | refine s_lss rfl rfl ?_ | refine s_len_sl rfl ?_ | refine o_nil ?_ | refine o_op rfl ?_ | refine r_seq ?_ | refine r_region ?_)
          refine r_cond_d rfl (fun h => ?_) (fun h => ?_)
          · have hk' : k < rt.length := by omega
            have hrk := hrm2 k hk'
            have hnk : rt[k].toNat < L.length := by omega
            have hmk := List.getElem_mem hnk
            have ek := Ord.getD_lt hnk []
            have hok' := hok' k hk'
            rw [ek] at hok'
            have hk2 : True → Go.Av.Pure Try.prog G 27 [slOf L[rt[k].toNat], slOf O] (.b (decide (i ≠ k))) := fun _ => by
              rw [← hok']; exact hk1 _ _ hmk (by omega)
            (repeat' first | refine s_mv rfl ?_ | refine s_load_ep rfl ?_ | refine s_idx_sln rfl rfl (by first | assumption | omega | (simp; done) | (simp; omega)) ?_ | refine s_idx_sl rfl rfl (by omega) (by first | assumption | omega | (simp; done) | (simp; omega)) ?_ | refine s_neq rfl rfl ?_ | refine s_neq_b rfl rfl ?_ | refine s_call_p rfl rfl (hk2 (by first | trivial | omega)) (by repeat' first | exact clo_sc | exact clo_slOf _ | exact clo_sl (encs_clo _) | exact encs_clo _ | refine clo_fn ?_ ?_ | refine clo_ep ?_ | refine clo_tup ?_ | refine clo_agg ?_ | exact ac_nil | refine ac_cons ?_ ?_) ?_ | refine o_nil ?_ | refine o_op rfl ?_ | refine r_seq ?_ | refine r_region ?_ | refine r_block ?_ | refine r_skip ?_)
            refine r_cond rfl (fun hb => ?_) (fun hb => ?_)
            · have e : decide ((i : Int) ≠ k) = decide (i ≠ k) := decide_eq_decide.2 (by omega)
              rw [e] at hb
              simp at hb
            · (repeat' first | refine s_mv rfl ?_ | refine s_as rfl ?_ | refine s_add rfl rfl (by omega) ?_ | refine o_nil ?_ | refine o_op rfl ?_ | refine r_region ?_ | refine r_skip ?_)
              refine ⟨k + 1, by omega, by omega, ?_⟩
              exact ale_drop (by repeat' first | exact mem_nil | refine mem_cons rfl ?_) rfl
          · (repeat' first | refine s_mv rfl ?_ | refine s_as rfl ?_ | refine s_add rfl rfl (by omega) ?_ | refine o_nil ?_ | refine o_op rfl ?_ | refine r_region ?_ | refine r_exit rfl ?_)
            refine ⟨i + 1, by omega, by omega, ?_⟩
            exact ale_drop (by repeat' first | exact mem_nil | refine mem_cons rfl ?_) rfl
      · (repeat' first | refine s_as rfl ?_ | refine s_call_p rfl rfl (lives_c) (by repeat' first | exact clo_sc | exact clo_slOf _ | exact clo_sl (encs_clo _) | exact encs_clo _ | refine clo_fn ?_ ?_ | refine clo_ep ?_ | refine clo_tup ?_ | refine clo_agg ?_ | exact ac_nil | refine ac_cons ?_ ?_) ?_ | refine o_nil ?_ | refine o_op rfl ?_ | refine r_seq ?_ | refine r_region ?_ | refine r_exit rfl ?_ | refine r_ret ?_)
        refine e_1 Try.results6 (rv_tmp rfl) (c_pure' ?_)
        rfl

end Go.Proofs
