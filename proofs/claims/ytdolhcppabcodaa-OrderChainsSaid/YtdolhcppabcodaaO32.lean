/-
  What functions of the program hand back: contracts over abstract values.
-/
import Derived.Test.YtdolhcppabcodaaAvK
import Derived.Test.YtdolhcppabcodaaInst
import Derived.Test.YtdolhcppabcodaaO26
import Derived.Test.YtdolhcppabcodaaO31
namespace Go.Proofs
open Go.Av
set_option linter.unusedSimpArgs false
set_option linter.unusedVariables false
set_option maxRecDepth 10000
set_option maxHeartbeats 4000000
variable {G : Nat → DV}
attribute [local irreducible] OpSem ARun AOps ALex ACalls AEnd AClose RV Ord.rowsOf Ord.below Ord.classes Ord.edges Ord.reach

section
variable {B : Nat} {f : Operand → DV} {σ : List ABlk} {K : DV → List ABlk → Prop} {dst : Option Tmp} {type : TypeId} {pos : String} {after : Array Edge} {gd : Option (Nat × Bool)}
theorem s_neq_same {t t' : TypeId} {z : Nat} {x y : Operand} {a b : Bool} [ht : TyI Try.prog t .bool false z] (hx : f x = .sc (.bool a)) (hy : f y = .sc (.bool b)) (hab : a = b) (k : K (.sc (.bool false)) σ) : OpSem Try.prog G B ⟨dst, .binOp .neq t x y t', type, pos, after, gd⟩ f σ K := by
  subst hab
  refine s_neq_b hx hy ?_
  rw [show (!(a == a)) = false by simp]
  exact k
end

theorem orderChains_c (l : List Int) (hl : ∀ x ∈ l, Ord.I64 x) (hll : l.length ≤ 9223372036854775807) : Go.Av.Pure Try.prog G 5 [slOf l] (.b true) := fun B => by
  have hr := Ord.small_rows l
  have hn := Ord.rowsOf_len l
  have hrw := hr.r
  have hrc := (rows_c (G := G) l hl (by omega)).read
  have hgi := given_c (G := G) (Ord.rowsOf l) (by omega)
  have hob : ∀ x y, Go.Av.Pure Try.prog G 11 [matD (Ord.rowsOf l), .i x, .i y] (.b (Ord.below (Ord.rowsOf l) x y)) := fun x y => by rw [← Ord.pBelow_eq]; exact oBelow_c _ hr x y
  have hoc := oClasses_c (G := G) _ hr
  have hoe := oEdges_c (G := G) _ hr
  rw [Ord.mClasses_eq] at hoc
  rw [Ord.pEdges_eq] at hoe
  have hel : (Ord.edges (Ord.rowsOf l)).length ≤ 1048576 := by
    rw [Ord.edges]
    have h1 := Ord.firsts_len (Ord.rowsOf l)
    exact Nat.le_trans (Ord.rPairs_len _ _ _) (Nat.le_trans (Nat.mul_le_mul (show _ ≤ 14 by omega) (show _ ≤ 14 by omega)) (by decide))
  have hcl := Ord.classes_len (Ord.rowsOf l)
  have hcg : ∀ (a : Nat) (h : a < (Ord.classes (Ord.rowsOf l)).length), (Ord.classes (Ord.rowsOf l))[a] = Ord.classOf (Ord.rowsOf l) a := fun a h => Ord.classes_get (by omega) h
  generalize Ord.rowsOf l = L at *
  generalize Ord.classes L = C at *
  generalize hE0 : Ord.edges L = Es at *
  refine calls_of_run Try.func5 rfl Try.ntmps5 rfl (t := [(0, slOf l)]) rfl fun E hE => ?_
  (repeat' first | refine s_mv rfl ?_ | refine s_as rfl ?_ | refine s_load_rowa rfl rfl (by rfl) (by rfl) ?_ | refine s_neq rfl rfl ?_ | refine s_call_p rfl rfl (hrc) (by repeat' first | exact clo_sc | exact clo_slOf _ | exact clo_sl (encs_clo _) | exact encs_clo _ | refine clo_fn ?_ ?_ | refine clo_ep ?_ | refine clo_tup ?_ | refine clo_agg ?_ | exact ac_nil | refine ac_cons ?_ ?_) ?_ | refine s_call_p rfl rfl (hgi) (by repeat' first | exact clo_sc | exact clo_slOf _ | exact clo_sl (encs_clo _) | exact encs_clo _ | refine clo_fn ?_ ?_ | refine clo_ep ?_ | refine clo_tup ?_ | refine clo_agg ?_ | exact ac_nil | refine ac_cons ?_ ?_) ?_ | refine s_call_p rfl rfl (hoc) (by repeat' first | exact clo_sc | exact clo_slOf _ | exact clo_sl (encs_clo _) | exact encs_clo _ | refine clo_fn ?_ ?_ | refine clo_ep ?_ | refine clo_tup ?_ | refine clo_agg ?_ | exact ac_nil | refine ac_cons ?_ ?_) ?_ | refine s_call_p rfl rfl (hoe) (by repeat' first | exact clo_sc | exact clo_slOf _ | exact clo_sl (encs_clo _) | exact encs_clo _ | refine clo_fn ?_ ?_ | refine clo_ep ?_ | refine clo_tup ?_ | refine clo_agg ?_ | exact ac_nil | refine ac_cons ?_ ?_) ?_ | refine s_len_sl rfl ?_ | refine s_store rfl rfl rfl rfl (by rfl) (by rfl) (by rfl) ?_ | refine s_alloc (fun _ _ => ?_) | refine o_nil ?_ | refine o_op rfl ?_ | refine o_op0 ?_ | refine r_seq ?_ | refine r_region ?_ | refine r_block ?_ | refine r_skip ?_ | refine r_cond_df rfl (by omega) ?_)
  refine r_pubptr 4 rfl rfl rfl ?_
  refine r_loop (fun (a : Nat) => ⟨[(3, slOf L), (4, .ep [slOf (L.map Ord.KRow.mk)]), (5, slOf C), (6, slOf Es), (7, .i a)], []⟩) (fun a => a ≤ L.length) (fun a => L.length - a) 0 ?_ (by omega) ?_
  · exact ale_drop (by repeat' first | exact mem_nil | refine mem_cons rfl ?_) rfl
  intro a ha
  (repeat' first | refine s_mv rfl ?_ | refine s_lss rfl rfl ?_ | refine s_len_sl rfl ?_ | refine o_nil ?_ | refine o_op rfl ?_ | refine r_seq ?_ | refine r_region ?_)
  refine r_cond_d rfl (fun h => ?_) (fun h => ?_)
  · have ha' : a < L.length := by omega
    have haC : a < C.length := by omega
    have haa : Go.Av.Pure Try.prog G 11 [matD L, .i a, .i a] (.b (decide ((0 : Int) < (L[a].length : Int)))) := by
      have := hob a a
      rw [Ord.below_self ha', show decide (0 < L[a].length) = decide ((0 : Int) < (L[a].length : Int)) from decide_eq_decide.2 (by omega)] at this
      exact this
    have hla := hrw _ (List.getElem_mem ha')
    have hca := hcg a haC
    have hneg : C[a] = -1 ↔ (L[a].length : Int) = 0 := by
      rw [hca]
      constructor
      · intro h
        by_cases hne : L[a] = []
        · rw [hne]; rfl
        · have := (Ord.class_mem ha' hne).2.1; omega
      · intro h
        exact Ord.classOf_neg ha' (List.eq_nil_of_length_eq_zero (by omega))
    have hle : C[a] ≤ a := by
      rw [hca]
      by_cases hne : L[a] = []
      · rw [Ord.classOf_neg ha' hne]; omega
      · exact (Ord.class_mem ha' hne).2.2
    have q3 : decide (C[a] = -1) = decide ((L[a].length : Int) = 0) := decide_eq_decide.2 hneg
    (repeat' first | refine s_mv rfl ?_ | refine s_load_ep rfl ?_ | refine s_idx_sln rfl rfl (by first | assumption | omega | (simp; done) | (simp; omega)) ?_ | refine s_eql rfl rfl ?_ | refine o_nil ?_ | refine o_op rfl ?_ | refine r_seq ?_ | refine r_region ?_ | refine r_block ?_ | (refine g_draw ?_; first | refine r_draw0 (by rfl) (by kernel_rfl) (by kernel_rfl) ?_ | refine r_drawq (by kernel_rfl) (by kernel_rfl) ?_) | refine r_skip ?_ | refine r_cond_df rfl (by omega) ?_ | refine x_op rfl (by (repeat' first | refine s_mv rfl ?_ | refine s_load_ep rfl ?_ | refine s_load_epa rfl (by rfl) (by rfl) ?_ | refine s_idx_sln rfl rfl (by first | assumption | omega | (simp; done) | (simp; omega)) ?_ | refine s_neq_same rfl rfl (by first | rfl | assumption | exact q1 (by omega) | exact q2 (by omega) | exact q3) ?_ | refine s_gtr rfl rfl ?_ | refine s_eql rfl rfl ?_ | refine s_call_p rfl rfl (haa) (by repeat' first | exact clo_sc | exact clo_slOf _ | exact clo_sl (encs_clo _) | exact encs_clo _ | refine clo_fn ?_ ?_ | refine clo_ep ?_ | refine clo_tup ?_ | refine clo_agg ?_ | exact ac_nil | refine ac_cons ?_ ?_) ?_ | refine s_len_sl rfl ?_ | refine s_pf rfl rfl ?_ | exact ⟨rfl, rfl⟩)) ?_ | refine x_gy rfl rfl rfl rfl (by (repeat' first | refine s_mv rfl ?_ | refine s_load_ep rfl ?_ | refine s_load_epa rfl (by rfl) (by rfl) ?_ | refine s_idx_sln rfl rfl (by first | assumption | omega | (simp; done) | (simp; omega)) ?_ | refine s_neq_same rfl rfl (by first | rfl | assumption | exact q1 (by omega) | exact q2 (by omega) | exact q3) ?_ | refine s_gtr rfl rfl ?_ | refine s_eql rfl rfl ?_ | refine s_call_p rfl rfl (haa) (by repeat' first | exact clo_sc | exact clo_slOf _ | exact clo_sl (encs_clo _) | exact encs_clo _ | refine clo_fn ?_ ?_ | refine clo_ep ?_ | refine clo_tup ?_ | refine clo_agg ?_ | exact ac_nil | refine ac_cons ?_ ?_) ?_ | refine s_len_sl rfl ?_ | refine s_pf rfl rfl ?_ | exact ⟨rfl, rfl⟩)) ?_ | refine x_nil ?_)
    refine r_cond_d rfl (fun h0 => ?_) (fun h0 => ?_)
    · (repeat' first | refine s_mv rfl ?_ | refine s_as rfl ?_ | refine s_add rfl rfl (by omega) ?_ | refine o_nil ?_ | refine o_op rfl ?_ | refine r_region ?_ | refine r_exit rfl ?_)
      refine ⟨a + 1, by omega, by omega, ?_⟩
      exact ale_drop (by repeat' first | exact mem_nil | refine mem_cons rfl ?_) rfl
    have hne : L[a] ≠ [] := fun e => h0 (hneg.2 (by rw [e]; rfl))
    have hchain : ∀ (b : Nat) (hb : b < L.length), Ord.below L a b = (decide (0 ≤ C[b]) && (Ord.reach Es C[a]).contains C[b]) := fun b hb => by
      rw [hcg b (by omega), hca, ← hE0]; exact Ord.chain_eq ha' hb hne
    have hboth : ∀ (b : Nat) (hb : b < L.length), (Ord.below L a b && Ord.below L b a) = decide (C[a] = C[b]) := fun b hb => by
      rw [hcg b (by omega), hca]; exact Ord.both_class ha' hb hne
    have htr : ∀ (b k : Nat), b < L.length → k < L.length → Ord.below L a b = true → Ord.below L b k = true → Ord.below L a k = true := fun b k hb hk h1 h2 => Ord.below_trans ha' hb hk h1 h2
    clear q3 hneg hE0 hcg haa
    (repeat' first | refine s_mv rfl ?_ | refine s_as rfl ?_ | refine s_load_ep rfl ?_ | refine s_idx_sln rfl rfl (by first | assumption | omega | (simp; done) | (simp; omega)) ?_ | refine s_call_mp rfl rfl (reach_c _ _ hel) (fun _ _ => ?_) | refine o_nil ?_ | refine o_op rfl ?_ | refine r_seq ?_ | refine r_region ?_ | refine r_block ?_ | refine r_skip ?_)
    rename_i g hg
    refine r_loop (fun (b : Nat) => ⟨[(3, slOf L), (4, .ep [slOf (L.map Ord.KRow.mk)]), (5, slOf C), (6, slOf Es), (7, .i a), (8, .mp 0 g), (9, .i b)], [.mapb g (imap (sset (Ord.reach Es C[a])))]⟩) (fun b => b ≤ L.length) (fun b => L.length - b) 0 ?_ (by omega) ?_
    · exact ale_drop (by repeat' first | exact mem_nil | refine mem_cons rfl ?_) rfl
    intro b hb
    (repeat' first | refine s_mv rfl ?_ | refine s_lss rfl rfl ?_ | refine s_len_sl rfl ?_ | refine o_nil ?_ | refine o_op rfl ?_ | refine r_seq ?_ | refine r_region ?_)
    refine r_cond_d rfl (fun h => ?_) (fun h => ?_)
    · have hb' : b < L.length := by omega
      have hbC : b < C.length := by omega
      have hchain := hchain b hb'
      have hboth := hboth b hb'
      have htr := fun k => htr b k hb'
      have hab := hob a b
      generalize Ord.reach Es C[a] = S at *
      rcases hB : Ord.below L a b with _ | _
      · rw [hB] at hab hchain hboth
        rw [Bool.false_and] at hboth
        have q1 : 0 ≤ C[b] → false = S.contains C[b] := fun h => by rw [decide_eq_true h, Bool.true_and] at hchain; exact hchain
        have q2 : ¬ 0 ≤ C[b] → false = false := fun _ => rfl
        (repeat' first | refine s_mv rfl ?_ | refine s_as rfl ?_ | refine s_load_epa rfl (by rfl) (by rfl) ?_ | refine s_call_p rfl rfl (hab) (by repeat' first | exact clo_sc | exact clo_slOf _ | exact clo_sl (encs_clo _) | exact encs_clo _ | refine clo_fn ?_ ?_ | refine clo_ep ?_ | refine clo_tup ?_ | refine clo_agg ?_ | exact ac_nil | refine ac_cons ?_ ?_) ?_ | refine o_nil ?_ | refine o_op rfl ?_ | refine r_seq ?_ | refine r_region ?_ | refine r_block ?_ | (refine g_draw ?_; first | refine r_draw0 (by rfl) (by kernel_rfl) (by kernel_rfl) ?_ | refine r_drawq (by kernel_rfl) (by kernel_rfl) ?_) | refine r_skip ?_ | refine r_cond_f rfl ?_ | refine x_op rfl (by (repeat' first | refine s_mv rfl ?_ | refine s_load_ep rfl ?_ | refine s_load_epa rfl (by rfl) (by rfl) ?_ | refine s_idx_sln rfl rfl (by first | assumption | omega | (simp; done) | (simp; omega)) ?_ | refine s_neq_same rfl rfl (by first | rfl | assumption | exact q1 (by omega) | exact q2 (by omega) | exact q3) ?_ | refine s_geq rfl rfl ?_ | refine s_eql rfl rfl ?_ | refine s_pt rfl rfl ?_ | refine s_pf rfl rfl ?_ | refine s_lookup_set rfl rfl rfl (by kernel_rfl) ?_ | exact ⟨rfl, rfl⟩)) ?_ | refine x_gy rfl rfl rfl rfl (by (repeat' first | refine s_mv rfl ?_ | refine s_load_ep rfl ?_ | refine s_load_epa rfl (by rfl) (by rfl) ?_ | refine s_idx_sln rfl rfl (by first | assumption | omega | (simp; done) | (simp; omega)) ?_ | refine s_neq_same rfl rfl (by first | rfl | assumption | exact q1 (by omega) | exact q2 (by omega) | exact q3) ?_ | refine s_geq rfl rfl ?_ | refine s_eql rfl rfl ?_ | refine s_pt rfl rfl ?_ | refine s_pf rfl rfl ?_ | refine s_lookup_set rfl rfl rfl (by kernel_rfl) ?_ | exact ⟨rfl, rfl⟩)) ?_ | refine x_nil ?_ | refine x_gn rfl rfl rfl rfl ?_ | refine x_sp_d rfl rfl (fun _ => ?_) (fun _ => ?_))
        all_goals
          refine r_loop (fun (k : Nat) => ⟨[(3, slOf L), (4, .ep [slOf (L.map Ord.KRow.mk)]), (5, slOf C), (6, slOf Es), (7, .i a), (8, .mp 0 g), (9, .i b), (10, .b false), (11, .i k)], [.mapb g (imap (sset S))]⟩) (fun k => k ≤ L.length) (fun k => L.length - k) 0 ?_ (by omega) ?_
          · exact ale_drop (by repeat' first | exact mem_nil | refine mem_cons rfl ?_) rfl
          intro k hk
          (repeat' first | refine s_mv rfl ?_ | refine s_lss rfl rfl ?_ | refine s_len_sl rfl ?_ | refine o_nil ?_ | refine o_op rfl ?_ | refine r_seq ?_ | refine r_region ?_)
          refine r_cond_d rfl (fun h => ?_) (fun h => ?_)
          · have hk' : k < L.length := by omega
            (repeat' first | refine s_mv rfl ?_ | refine s_as rfl ?_ | refine s_add rfl rfl (by omega) ?_ | refine s_pf rfl rfl ?_ | refine o_nil ?_ | refine o_op rfl ?_ | refine o_gn rfl rfl rfl rfl ?_ | refine r_seq ?_ | refine r_region ?_ | refine r_block ?_ | refine r_skip ?_ | refine r_cond_f rfl ?_)
            refine ⟨k + 1, by omega, by omega, ?_⟩
            exact ale_drop (by repeat' first | exact mem_nil | refine mem_cons rfl ?_) rfl
          · (repeat' first | refine s_mv rfl ?_ | refine s_as rfl ?_ | refine s_add rfl rfl (by omega) ?_ | refine o_nil ?_ | refine o_op rfl ?_ | refine r_region ?_ | refine r_exit rfl ?_)
            refine ⟨b + 1, by omega, by omega, ?_⟩
            exact ale_drop (by repeat' first | exact mem_nil | refine mem_cons rfl ?_) rfl
      · rw [hB] at hab hchain hboth
        rw [Bool.true_and] at hboth
        have q1 : 0 ≤ C[b] → true = S.contains C[b] := fun h => by rw [decide_eq_true h, Bool.true_and] at hchain; exact hchain
        have q2 : ¬ 0 ≤ C[b] → true = false := fun h => by rw [decide_eq_false h, Bool.false_and] at hchain; exact hchain
        (repeat' first | refine s_mv rfl ?_ | refine s_as rfl ?_ | refine s_load_epa rfl (by rfl) (by rfl) ?_ | refine s_call_p rfl rfl (hab) (by repeat' first | exact clo_sc | exact clo_slOf _ | exact clo_sl (encs_clo _) | exact encs_clo _ | refine clo_fn ?_ ?_ | refine clo_ep ?_ | refine clo_tup ?_ | refine clo_agg ?_ | exact ac_nil | refine ac_cons ?_ ?_) ?_ | refine o_nil ?_ | refine o_op rfl ?_ | refine r_seq ?_ | refine r_region ?_ | refine r_block ?_ | (refine g_draw ?_; first | refine r_draw0 (by rfl) (by kernel_rfl) (by kernel_rfl) ?_ | refine r_drawq (by kernel_rfl) (by kernel_rfl) ?_) | refine r_skip ?_ | refine r_cond_f rfl ?_ | refine x_op rfl (by (repeat' first | refine s_mv rfl ?_ | refine s_load_ep rfl ?_ | refine s_load_epa rfl (by rfl) (by rfl) ?_ | refine s_idx_sln rfl rfl (by first | assumption | omega | (simp; done) | (simp; omega)) ?_ | refine s_neq_same rfl rfl (by first | rfl | assumption | exact q1 (by omega) | exact q2 (by omega) | exact q3) ?_ | refine s_geq rfl rfl ?_ | refine s_eql rfl rfl ?_ | refine s_call_p rfl rfl (hob _ _) (by repeat' first | exact clo_sc | exact clo_slOf _ | exact clo_sl (encs_clo _) | exact encs_clo _ | refine clo_fn ?_ ?_ | refine clo_ep ?_ | refine clo_tup ?_ | refine clo_agg ?_ | exact ac_nil | refine ac_cons ?_ ?_) ?_ | refine s_pt rfl rfl ?_ | refine s_pf rfl rfl ?_ | refine s_lookup_set rfl rfl rfl (by kernel_rfl) ?_ | exact ⟨rfl, rfl⟩)) ?_ | refine x_gy rfl rfl rfl rfl (by (repeat' first | refine s_mv rfl ?_ | refine s_load_ep rfl ?_ | refine s_load_epa rfl (by rfl) (by rfl) ?_ | refine s_idx_sln rfl rfl (by first | assumption | omega | (simp; done) | (simp; omega)) ?_ | refine s_neq_same rfl rfl (by first | rfl | assumption | exact q1 (by omega) | exact q2 (by omega) | exact q3) ?_ | refine s_geq rfl rfl ?_ | refine s_eql rfl rfl ?_ | refine s_call_p rfl rfl (hob _ _) (by repeat' first | exact clo_sc | exact clo_slOf _ | exact clo_sl (encs_clo _) | exact encs_clo _ | refine clo_fn ?_ ?_ | refine clo_ep ?_ | refine clo_tup ?_ | refine clo_agg ?_ | exact ac_nil | refine ac_cons ?_ ?_) ?_ | refine s_pt rfl rfl ?_ | refine s_pf rfl rfl ?_ | refine s_lookup_set rfl rfl rfl (by kernel_rfl) ?_ | exact ⟨rfl, rfl⟩)) ?_ | refine x_nil ?_ | refine x_gn rfl rfl rfl rfl ?_ | refine x_sp_d rfl rfl (fun _ => ?_) (fun _ => ?_))
        all_goals
          refine r_loop (fun (k : Nat) => ⟨[(3, slOf L), (4, .ep [slOf (L.map Ord.KRow.mk)]), (5, slOf C), (6, slOf Es), (7, .i a), (8, .mp 0 g), (9, .i b), (10, .b true), (11, .i k)], [.mapb g (imap (sset S))]⟩) (fun k => k ≤ L.length) (fun k => L.length - k) 0 ?_ (by omega) ?_
          · exact ale_drop (by repeat' first | exact mem_nil | refine mem_cons rfl ?_) rfl
          intro k hk
          (repeat' first | refine s_mv rfl ?_ | refine s_lss rfl rfl ?_ | refine s_len_sl rfl ?_ | refine o_nil ?_ | refine o_op rfl ?_ | refine r_seq ?_ | refine r_region ?_)
          refine r_cond_d rfl (fun h => ?_) (fun h => ?_)
          · have hk' : k < L.length := by omega
            (repeat' first | refine s_mv rfl ?_ | refine s_as rfl ?_ | refine s_load_epa rfl (by rfl) (by rfl) ?_ | refine s_add rfl rfl (by omega) ?_ | refine s_call_p rfl rfl (hob _ _) (by repeat' first | exact clo_sc | exact clo_slOf _ | exact clo_sl (encs_clo _) | exact encs_clo _ | refine clo_fn ?_ ?_ | refine clo_ep ?_ | refine clo_tup ?_ | refine clo_agg ?_ | exact ac_nil | refine ac_cons ?_ ?_) ?_ | refine s_pt rfl rfl ?_ | refine s_pf rfl rfl ?_ | refine s_not rfl ?_ | refine o_nil ?_ | refine o_op rfl ?_ | refine o_gy rfl rfl rfl rfl ?_ | refine o_gn rfl rfl rfl rfl ?_ | refine o_sp rfl rfl (fun _ => ?_) (fun _ => ?_) | refine r_seq ?_ | refine r_region ?_ | refine r_block ?_ | refine r_skip ?_ | refine r_cond_f rfl ?_)
            · rename_i hbk
              refine r_cond rfl (fun hb => ?_) (fun hb => ?_)
              · rw [htr k hk' hB hbk] at hb; cases hb
              · (repeat' first | refine s_mv rfl ?_ | refine s_as rfl ?_ | refine s_add rfl rfl (by omega) ?_ | refine o_nil ?_ | refine o_op rfl ?_ | refine r_region ?_ | refine r_skip ?_)
                refine ⟨k + 1, by omega, by omega, ?_⟩
                exact ale_drop (by repeat' first | exact mem_nil | refine mem_cons rfl ?_) rfl
            · refine ⟨k + 1, by omega, by omega, ?_⟩
              exact ale_drop (by repeat' first | exact mem_nil | refine mem_cons rfl ?_) rfl
          · (repeat' first | refine s_mv rfl ?_ | refine s_as rfl ?_ | refine s_add rfl rfl (by omega) ?_ | refine o_nil ?_ | refine o_op rfl ?_ | refine r_region ?_ | refine r_exit rfl ?_)
            refine ⟨b + 1, by omega, by omega, ?_⟩
            exact ale_drop (by repeat' first | exact mem_nil | refine mem_cons rfl ?_) rfl
    · (repeat' first | refine s_mv rfl ?_ | refine s_as rfl ?_ | refine s_add rfl rfl (by omega) ?_ | refine o_nil ?_ | refine o_op rfl ?_ | refine r_region ?_ | refine r_exit rfl ?_)
      refine ⟨a + 1, by omega, by omega, ?_⟩
      exact ale_drop (by repeat' first | exact mem_nil | refine mem_cons rfl ?_) rfl
  · (repeat' first | refine s_as rfl ?_ | refine s_call_p rfl rfl (lives_c) (by repeat' first | exact clo_sc | exact clo_slOf _ | exact clo_sl (encs_clo _) | exact encs_clo _ | refine clo_fn ?_ ?_ | refine clo_ep ?_ | refine clo_tup ?_ | refine clo_agg ?_ | exact ac_nil | refine ac_cons ?_ ?_) ?_ | refine o_nil ?_ | refine o_op rfl ?_ | refine r_seq ?_ | refine r_region ?_ | refine r_exit rfl ?_ | refine r_ret ?_)
    refine e_1 Try.results5 (rv_tmp rfl) (c_pure' ?_)
    rfl

end Go.Proofs
