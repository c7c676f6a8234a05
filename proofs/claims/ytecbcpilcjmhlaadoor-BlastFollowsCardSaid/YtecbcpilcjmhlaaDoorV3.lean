/-
  What functions of the program hand back: contracts over abstract values.
-/
import Derived.Test.YtecbcpilcjmhlaaDoorAvN
import Derived.Test.YtecbcpilcjmhlaaDoorInst
import Derived.Test.YtecbcpilcjmhlaaDoorV1
namespace Go.Proofs
open Go.Av
set_option linter.unusedSimpArgs false
set_option linter.unusedVariables false
set_option maxRecDepth 10000
set_option maxHeartbeats 4000000
variable {G : Nat → DV}
attribute [local irreducible] OpSem ARun AOps ALex ACalls AEnd AClose RV
open Go.Fo

theorem hasF_c (l : List Int) (x : Int) (hl : l.length ≤ 4611686018427387904) : Go.Av.Pure Tryd.prog G 55 [slOf l, .i x] (.b (l.contains x)) := fun B => by
  refine calls_of_run Tryd.func55 rfl Tryd.ntmps55 rfl (t := [(0, slOf l), (1, .i x)]) rfl fun E hE => ?_
  (repeat' first | refine s_as rfl ?_ | refine o_nil ?_ | refine o_op rfl ?_ | refine r_seq ?_ | refine r_region ?_ | refine r_block ?_)
  refine r_loop (fun k : Nat => ⟨[(0, slOf l), (1, .i x), (5, .i k)], []⟩) (fun k => k ≤ l.length ∧ (l.take k).contains x = false) (fun k => l.length - k) 0 ?_ ⟨by omega, by simp⟩ ?_
  · exact ale_drop (by repeat' first | exact mem_nil | refine mem_cons rfl ?_) rfl
  intro k ⟨hk, hno⟩
  (repeat' first | refine s_mv rfl ?_ | refine s_lss rfl rfl ?_ | refine s_len_sl rfl ?_ | refine o_nil ?_ | refine o_op rfl ?_ | refine r_seq ?_ | refine r_region ?_)
  refine r_cond_d rfl (fun h => ?_) (fun h => ?_)
  · have hk' : k < l.length := by omega
    have ht : l.take (k + 1) = l.take k ++ [l[k]] := by rw [List.take_succ_eq_append_getElem hk']
    (repeat' first | refine s_mv rfl ?_ | refine s_load_ep rfl ?_ | refine s_idx_sln rfl rfl (by first | assumption | omega | (simp; done) | (simp; omega)) ?_ | refine s_eql rfl rfl ?_ | refine o_nil ?_ | refine o_op rfl ?_ | refine r_seq ?_ | refine r_region ?_ | refine r_block ?_ | refine r_skip ?_)
    refine r_cond_d rfl (fun h => ?_) (fun h => ?_)
    · (repeat' first | refine s_as rfl ?_ | refine o_nil ?_ | refine o_op rfl ?_ | refine r_seq ?_ | refine r_region ?_ | refine r_ret ?_)
      refine e_1 Tryd.results55 (rv_tmp rfl) (c_pure' ?_)
      have : l.contains x = true := by
        rw [List.contains_iff_mem, ← h]; exact List.getElem_mem _
      rw [this]
    · (repeat' first | refine s_mv rfl ?_ | refine s_as rfl ?_ | refine s_add rfl rfl (by omega) ?_ | refine o_nil ?_ | refine o_op rfl ?_ | refine r_region ?_ | refine r_skip ?_)
      refine ⟨k + 1, ⟨hk', ?_⟩, by omega, ?_⟩
      · rw [ht, List.contains_eq_any_beq, List.any_append, ← List.contains_eq_any_beq, hno]
        simp only [List.any_cons, List.any_nil, Bool.or_false, Bool.false_or]
        exact beq_false_of_ne (fun e => h e.symm)
      · exact ale_drop (by repeat' first | exact mem_nil | refine mem_cons rfl ?_) rfl
  · have hk' : k = l.length := by omega
    subst hk'
    rw [List.take_length] at hno
    (repeat' first | refine s_as rfl ?_ | refine o_nil ?_ | refine o_op rfl ?_ | refine r_seq ?_ | refine r_region ?_ | refine r_exit rfl ?_ | refine r_ret ?_)
    refine e_1 Tryd.results55 (rv_tmp rfl) (c_pure' ?_)
    rw [hno]
theorem has_t {S : List Int} {x : Int} (h : x ∈ S) (hl : S.length ≤ 4611686018427387904) : Go.Av.Pure Tryd.prog G 55 [slOf S, .i x] (.b true) := by
  have := hasF_c (G := G) S x hl
  rwa [List.contains_iff_mem.2 h] at this
theorem has_f {S : List Int} {x : Int} (h : x ∉ S) (hl : S.length ≤ 4611686018427387904) : Go.Av.Pure Tryd.prog G 55 [slOf S, .i x] (.b false) := by
  have := hasF_c (G := G) S x hl
  have e : S.contains x = false := Bool.eq_false_iff.2 fun h' => h (List.contains_iff_mem.1 h')
  rwa [e] at this
theorem roundM_none {cls : List (List Int)} {j : Nat} (hj : j < cls.length) {S : List Int} {ch : Bool} (h : stepM S cls[j] = none) : roundM (cls.drop j) S ch = none := by
  rw [List.drop_eq_getElem_cons hj, roundM, h]
theorem roundM_step {cls : List (List Int)} {j : Nat} (hj : j < cls.length) {S S' : List Int} {ch b : Bool} (h : stepM S cls[j] = some (S', b)) : roundM (cls.drop j) S ch = roundM (cls.drop (j + 1)) S' (ch || b) := by
  rw [List.drop_eq_getElem_cons hj, roundM, h]
/-- The open literals of a clause's first part. -/
def leftM (S c : List Int) (q : Nat) : List Int := startM ((c.take q).filter (open' S))
theorem leftM_succ {S c : List Int} {q : Nat} (hq : q < c.length) : leftM S c (q + 1) = if -c[q] ∈ S then leftM S c q else addS (leftM S c q) c[q] := by
  unfold leftM
  rw [List.take_succ_eq_append_getElem hq, List.filter_append]
  have ho : open' S c[q] = !decide (-c[q] ∈ S) := rfl
  by_cases h : -c[q] ∈ S
  · rw [if_pos h, List.filter_cons, ho, decide_eq_true h]; simp
  · rw [if_neg h, List.filter_cons, ho, decide_eq_false h]
    unfold startM
    simp [List.foldl_append]
theorem leftM_len {S c : List Int} {q : Nat} : (leftM S c q).length ≤ q := by
  induction q with
  | zero => simp [leftM, startM]
  | succ q ih =>
    rcases Nat.lt_or_ge q c.length with hq | hq
    · rw [leftM_succ hq]
      split
      · omega
      · unfold addS
        split
        · omega
        · simp; omega
    · have : leftM S c (q + 1) = leftM S c q := by unfold leftM; rw [List.take_of_length_le (by omega), List.take_of_length_le hq]
      rw [this]; omega
theorem startM_len (l : List Int) : (startM l).length ≤ l.length := by
  have : ∀ k, (startM (l.take k)).length ≤ k := fun k => by
    induction k with
    | zero => simp [startM]
    | succ k ih =>
      rcases Nat.lt_or_ge k l.length with hk | hk
      · rw [startM_take hk]
        unfold addS
        split
        · omega
        · simp; omega
      · rw [List.take_of_length_le (by omega)]; rw [List.take_of_length_le hk] at ih; omega
  have := this l.length
  rwa [List.take_length] at this
theorem meas_flat (cls : List (List Int)) (S : List Int) : meas cls S ≤ cls.flatten.length := List.length_filter_le _ _

theorem rfollow_c (cls : List (List Int)) (l : List Int) (hcl : cls.length ≤ 1048576) (hcc : ∀ c ∈ cls, c.length ≤ 1048576) (hM : l.length + cls.flatten.length ≤ 1048576)
    (hcb : ∀ c ∈ cls, ∀ x ∈ c, -2000 ≤ x ∧ x ≤ 2000) : Go.Av.Pure Tryd.prog G 22 [slOf cls, slOf l] (retM (followM cls l)) := fun B => by
  rw [finM_eq]
  refine calls_of_run Tryd.func22 rfl Tryd.ntmps22 rfl (t := [(0, slOf cls), (1, slOf l)]) rfl fun E hE => ?_
  (repeat' first | refine s_as rfl ?_ | refine o_nil ?_ | refine o_op rfl ?_ | refine r_seq ?_ | refine r_region ?_ | refine r_block ?_)
  refine r_own 6 1 rfl fun g0 hg0 => ?_
  refine r_loopg (fun (k : Nat) g => ⟨[(0, slOf cls), (1, slOf l), (7, .i k), (6, .ref 0 g 0 (startM (l.take k)).length 1)], [.row g (encs (startM (l.take k)))]⟩) (fun k => k ≤ l.length) (fun k => l.length - k) 0 g0 hg0 ?_ (by omega) ?_
  · exact ale_drop (by repeat' first | exact mem_nil | refine mem_cons rfl ?_) rfl
  · intro k g hk hg
    have hsl := startM_len (l.take k)
    rw [List.length_take] at hsl
    (repeat' first | refine s_mv rfl ?_ | refine s_lss rfl rfl ?_ | refine s_len_sl rfl ?_ | refine o_nil ?_ | refine o_op rfl ?_ | refine r_seq ?_ | refine r_region ?_)
    refine r_cond_d rfl (fun h => ?_) (fun h => ?_)
    · have hk' : k < l.length := by omega
      have hst := startM_take hk'
      by_cases ha : l[k] ∈ startM (l.take k)
      · rw [show addS (startM (l.take k)) l[k] = startM (l.take k) from if_pos ha] at hst
        (repeat' first | refine s_mv rfl ?_ | refine s_as rfl ?_ | refine s_load_ep rfl ?_ | refine s_idx_sln rfl rfl (by first | assumption | omega | (simp; done) | (simp; omega)) ?_ | refine s_add rfl rfl (by omega) ?_ | (refine s_call_v rfl rfl (.ref rfl (encs_len _).symm (encs_clo _) (.same .nil)) (has_t ?_ ?_) rfl ?_; (first | exact ha | exact hb); (first | omega | assumption)) | refine s_not rfl ?_ | refine o_nil ?_ | refine o_op rfl ?_ | refine r_seq ?_ | refine r_region ?_ | refine r_block ?_ | refine r_skip ?_ | refine r_cond_f rfl ?_)
        refine ⟨k + 1, g, by omega, hg, by omega, ?_⟩
        rw [hst]
        exact ale_drop (by repeat' first | exact mem_nil | refine mem_cons rfl ?_) rfl
      · rw [show addS (startM (l.take k)) l[k] = startM (l.take k) ++ [l[k]] from if_neg ha] at hst
        (repeat' first | refine s_mv rfl ?_ | refine s_as rfl ?_ | refine s_load_ep rfl ?_ | refine s_idx_sln rfl rfl (by first | assumption | omega | (simp; done) | (simp; omega)) ?_ | refine s_add rfl rfl (by omega) ?_ | (refine s_call_v rfl rfl (.ref rfl (encs_len _).symm (encs_clo _) (.same .nil)) (has_f ?_ ?_) rfl ?_; (first | exact ha | exact hb); (first | omega | assumption)) | refine s_app1 rfl rfl rfl rfl rfl rfl rfl (by first | omega | (simp; omega)) (by first | omega | (simp; omega)) (fun _ => rfl) (fun _ _ => ?_) | refine s_not rfl ?_ | refine s_bslice rfl rfl (by decide) rfl ?_ | refine o_nil ?_ | refine o_op rfl ?_ | refine r_seq ?_ | refine r_region ?_ | refine r_block ?_ | refine r_skip ?_ | refine r_cond_t rfl ?_)
        rename_i g' hg'
        refine ⟨k + 1, g', by omega, by omega, by omega, ?_⟩
        rw [hst]
        exact ale_drop (by repeat' first | exact mem_nil | refine mem_cons rfl ?_) rfl
    · have hk' : k = l.length := by omega
      subst hk'
      rw [List.take_length] at hsl ⊢
      have hS0 : (startM l).length + meas cls (startM l) ≤ 1048576 := by
        have := meas_flat cls (startM l)
        omega
      generalize hR : fixM cls (meas cls (startM l) + 1) (startM l) = R
      (repeat' first | refine s_as rfl ?_ | refine o_nil ?_ | refine o_op rfl ?_ | refine r_seq ?_ | refine r_region ?_ | refine r_block ?_ | refine r_exit rfl ?_)
      refine r_loop3 (fun (k : Nat) (S : List Int) (z : Bool × Nat) => ⟨[(0, slOf cls), (8, .b z.1), (6, .ref 0 z.2 0 S.length 1)], [.row z.2 (encs S)]⟩) (fun k S z => S.length + meas cls S ≤ 1048576 ∧ (z.1 = true → fixM cls k S = R ∧ meas cls S < k) ∧ (z.1 = false → R = some S) ∧ E.N < z.2) (fun k S z => if z.1 = true then k + 1 else 0) (meas cls (startM l) + 1) (startM l) (true, g) ?_ ⟨hS0, fun _ => ⟨hR, by omega⟩, fun e => (by cases e), hg⟩ ?_
      · exact ale_drop (by repeat' first | exact mem_nil | refine mem_cons rfl ?_) rfl
      intro k S z ⟨hg1, hct', hcf, hgz⟩
      obtain ⟨ch, gz⟩ := z
      cases ch with
      | false =>
        have hRS := hcf rfl
        subst hRS
        have hgz : E.N < gz := hgz
        (repeat' first | refine s_mv rfl ?_ | refine s_as rfl ?_ | refine o_nil ?_ | refine o_op rfl ?_ | refine r_seq ?_ | refine r_region ?_ | refine r_block ?_ | refine r_cond_f rfl ?_ | refine r_exit rfl ?_)
        refine r_own 13 1 rfl fun g3 hg3 => ?_
        refine r_loopg (fun (p : Nat × List Int) g => ⟨[(14, .i ((p.1 : Int) + 1)), (6, .ref 0 gz 0 S.length 1), (13, .ref 1 g 0 p.2.length 1)], [.row gz (encs S), .row g (encs p.2)]⟩) (fun p => p.1 ≤ 2000 ∧ outM S p.1 = some p.2 ∧ p.2.length ≤ p.1) (fun p => 2000 - p.1) (0, []) g3 hg3 ?_ ⟨by omega, rfl, by simp⟩ ?_
        · exact ale_drop (by repeat' first | exact mem_nil | refine mem_cons rfl ?_) rfl
        intro p g ⟨h1, h2, h3⟩ hgg
        obtain ⟨v, o⟩ := p
        have h1 : v ≤ 2000 := h1
        have h2 : outM S v = some o := h2
        have h3 : o.length ≤ v := h3
        (repeat' first | refine s_mv rfl ?_ | refine s_leq rfl rfl ?_ | refine o_nil ?_ | refine o_op rfl ?_ | refine r_seq ?_ | refine r_region ?_)
        refine r_cond_d rfl (fun h => ?_) (fun h => ?_)
        · have hv : v < 2000 := by omega
          have hout : outM S (v + 1) = if ((v : Int) + 1) ∈ S ∧ -((v : Int) + 1) ∈ S then none else if ((v : Int) + 1) ∈ S then some (o ++ [(v : Int) + 1]) else if -((v : Int) + 1) ∈ S then some (o ++ [-((v : Int) + 1)]) else some o := by rw [outM, h2]
          by_cases ha : ((v : Int) + 1) ∈ S
          · by_cases hb : -((v : Int) + 1) ∈ S
            · rw [if_pos ⟨ha, hb⟩] at hout
              (repeat' first | refine s_mv rfl ?_ | refine s_as rfl ?_ | (refine s_call_v rfl rfl (.ref rfl (encs_len _).symm (encs_clo _) (.same .nil)) (has_t ?_ ?_) rfl ?_; (first | exact ha | exact hb); (first | omega | assumption)) | refine s_pt rfl rfl ?_ | refine s_neg rfl (by omega) ?_ | refine o_nil ?_ | refine o_op rfl ?_ | refine o_gy rfl rfl rfl rfl ?_ | refine r_seq ?_ | refine r_region ?_ | refine r_block ?_ | refine r_skip ?_ | refine r_cond_t rfl ?_ | refine r_ret ?_)
              refine e_2 (Tryd.results22) (rv_tmp rfl) (rv_tmp rfl) (c_pure' ?_)
              show _ = retM (outM S 2000)
              rw [outM_none hout hv]
              rfl
            · rw [if_neg (fun h => hb h.2), if_pos ha] at hout
              (repeat' first | refine s_mv rfl ?_ | refine s_as rfl ?_ | refine s_add rfl rfl (by omega) ?_ | (refine s_call_v rfl rfl (.ref rfl (encs_len _).symm (encs_clo _) (.same .nil)) (has_t ?_ ?_) rfl ?_; (first | exact ha | exact hb); (first | omega | assumption)) | (refine s_call_v rfl rfl (.ref rfl (encs_len _).symm (encs_clo _) (.same .nil)) (has_f ?_ ?_) rfl ?_; (first | exact ha | exact hb); (first | omega | assumption)) | refine s_app1 rfl rfl rfl rfl rfl rfl rfl (by first | omega | (simp; omega)) (by first | omega | (simp; omega)) (fun _ => rfl) (fun _ _ => ?_) | refine s_pt rfl rfl ?_ | refine s_neg rfl (by omega) ?_ | refine s_bslice rfl rfl (by decide) rfl ?_ | refine o_nil ?_ | refine o_op rfl ?_ | refine o_gy rfl rfl rfl rfl ?_ | refine r_seq ?_ | refine r_region ?_ | refine r_block ?_ | refine r_skip ?_ | refine r_cond_t rfl ?_ | refine r_cond_f rfl ?_)
              rename_i g4 hg4
              refine ⟨(v + 1, o ++ [(v : Int) + 1]), g4, ⟨hv, hout, by simp; omega⟩, by omega, Nat.sub_lt_sub_left hv (Nat.lt_succ_self v), ?_⟩
              exact ale_drop (by repeat' first | exact mem_nil | refine mem_cons rfl ?_) rfl
          · by_cases hb : -((v : Int) + 1) ∈ S
            · rw [if_neg (fun h => ha h.1), if_neg ha, if_pos hb] at hout
              (repeat' first | refine s_mv rfl ?_ | refine s_as rfl ?_ | refine s_add rfl rfl (by omega) ?_ | (refine s_call_v rfl rfl (.ref rfl (encs_len _).symm (encs_clo _) (.same .nil)) (has_t ?_ ?_) rfl ?_; (first | exact ha | exact hb); (first | omega | assumption)) | (refine s_call_v rfl rfl (.ref rfl (encs_len _).symm (encs_clo _) (.same .nil)) (has_f ?_ ?_) rfl ?_; (first | exact ha | exact hb); (first | omega | assumption)) | refine s_app1 rfl rfl rfl rfl rfl rfl rfl (by first | omega | (simp; omega)) (by first | omega | (simp; omega)) (fun _ => rfl) (fun _ _ => ?_) | refine s_pf rfl rfl ?_ | refine s_neg rfl (by omega) ?_ | refine s_bslice rfl rfl (by decide) rfl ?_ | refine o_nil ?_ | refine o_op rfl ?_ | refine o_gn rfl rfl rfl rfl ?_ | refine r_seq ?_ | refine r_region ?_ | refine r_block ?_ | refine r_skip ?_ | refine r_cond_t rfl ?_ | refine r_cond_f rfl ?_)
              rename_i g4 hg4
              refine ⟨(v + 1, o ++ [-((v : Int) + 1)]), g4, ⟨hv, hout, by simp; omega⟩, by omega, Nat.sub_lt_sub_left hv (Nat.lt_succ_self v), ?_⟩
              exact ale_drop (by repeat' first | exact mem_nil | refine mem_cons rfl ?_) rfl
            · rw [if_neg (fun h => ha h.1), if_neg ha, if_neg hb] at hout
              (repeat' first | refine s_mv rfl ?_ | refine s_as rfl ?_ | refine s_add rfl rfl (by omega) ?_ | (refine s_call_v rfl rfl (.ref rfl (encs_len _).symm (encs_clo _) (.same .nil)) (has_f ?_ ?_) rfl ?_; (first | exact ha | exact hb); (first | omega | assumption)) | refine s_pf rfl rfl ?_ | refine s_neg rfl (by omega) ?_ | refine o_nil ?_ | refine o_op rfl ?_ | refine o_gn rfl rfl rfl rfl ?_ | refine r_seq ?_ | refine r_region ?_ | refine r_block ?_ | refine r_skip ?_ | refine r_cond_f rfl ?_)
              refine ⟨(v + 1, o), g, ⟨hv, hout, by simp; omega⟩, by omega, Nat.sub_lt_sub_left hv (Nat.lt_succ_self v), ?_⟩
              exact ale_drop (by repeat' first | exact mem_nil | refine mem_cons rfl ?_) rfl
        · have hv : v = 2000 := by omega
          subst hv
          refine r_pub 13 rfl rfl (by rw [encs_len]; rfl) rfl ?_
          (repeat' first | refine s_mv rfl ?_ | refine s_as rfl ?_ | refine o_nil ?_ | refine o_op rfl ?_ | refine r_seq ?_ | refine r_region ?_ | refine r_exit rfl ?_ | refine r_ret ?_)
          refine e_2 (Tryd.results22) (rv_tmp rfl) (rv_tmp rfl) (c_pure' ?_)
          show _ = retM (outM S 2000)
          rw [h2]
          rfl
      | true =>
        obtain ⟨hk1, hk2⟩ := hct' rfl
        obtain ⟨k, rfl⟩ : ∃ k', k = k' + 1 := ⟨k - 1, by omega⟩
        rw [fixM] at hk1
        have hgz : E.N < gz := hgz
        (repeat' first | refine s_mv rfl ?_ | refine s_as rfl ?_ | refine o_nil ?_ | refine o_op rfl ?_ | refine r_seq ?_ | refine r_region ?_ | refine r_block ?_ | refine r_skip ?_ | refine r_cond_t rfl ?_)
        refine r_loop3 (fun (j : Nat) (S' : List Int) (z : Bool × Nat) => ⟨[(0, slOf cls), (8, .b z.1), (9, .i j), (6, .ref 0 z.2 0 S'.length 1)], [.row z.2 (encs S')]⟩) (fun j S' z => j ≤ cls.length ∧ S'.length + meas cls S' ≤ 1048576 ∧ roundM (cls.drop j) S' z.1 = roundM cls S false ∧ (z.1 = true → meas cls S' < meas cls S) ∧ (z.1 = false → S' = S) ∧ E.N < z.2) (fun j _ _ => cls.length - j) 0 S (false, gz) ?_ ⟨by omega, hg1, rfl, fun e => (by cases e), fun _ => rfl, hgz⟩ ?_
        · exact ale_drop (by repeat' first | exact mem_nil | refine mem_cons rfl ?_) rfl
        intro j S' z ⟨hj, hg', hrd, hbt, hbf, hgz'⟩
        obtain ⟨b, g1⟩ := z
        have hgz' : E.N < g1 := hgz'
        have hrd : roundM (cls.drop j) S' b = roundM cls S false := hrd
        have hbt : b = true → meas cls S' < meas cls S := hbt
        have hbf : b = false → S' = S := hbf
        (repeat' first | refine s_mv rfl ?_ | refine s_lss rfl rfl ?_ | refine s_len_sl rfl ?_ | refine o_nil ?_ | refine o_op rfl ?_ | refine r_seq ?_ | refine r_region ?_)
        refine r_cond_d rfl (fun h => ?_) (fun h => ?_)
        · have hj' : j < cls.length := by omega
          have hmc := List.getElem_mem hj'
          have hlc := hcc _ hmc
          have hbc := hcb _ hmc
          (repeat' first | refine s_as rfl ?_ | refine o_nil ?_ | refine o_op rfl ?_ | refine r_seq ?_ | refine r_region ?_ | refine r_block ?_ | refine r_skip ?_)
          refine r_own 10 1 rfl fun gl hgl => ?_
          refine r_loopg (fun (q : Nat) gl => ⟨[(0, slOf cls), (8, .b b), (9, .i j), (11, .i q), (6, .ref 0 g1 0 S'.length 1), (10, .ref 1 gl 0 (leftM S' cls[j] q).length 1)], [.row g1 (encs S'), .row gl (encs (leftM S' cls[j] q))]⟩) (fun q => q ≤ cls[j].length) (fun q => cls[j].length - q) 0 gl hgl ?_ (by omega) ?_
          · exact ale_drop (by repeat' first | exact mem_nil | refine mem_cons rfl ?_) rfl
          intro q gl hq hgl
          have hll := leftM_len (S := S') (c := cls[j]) (q := q)
          (repeat' first | refine s_mv rfl ?_ | refine s_load_ep rfl ?_ | refine s_idx_sln rfl rfl (by first | assumption | omega | (simp; done) | (simp; omega)) ?_ | refine s_lss rfl rfl ?_ | refine s_len_sl rfl ?_ | refine o_nil ?_ | refine o_op rfl ?_ | refine r_seq ?_ | refine r_region ?_)
          refine r_cond_d rfl (fun h => ?_) (fun h => ?_)
          · have hq' : q < cls[j].length := by omega
            have hbx := hbc _ (List.getElem_mem hq')
            have hls := leftM_succ (S := S') hq'
            by_cases ha : -cls[j][q] ∈ S'
            · rw [if_pos ha] at hls
              (repeat' first | refine s_mv rfl ?_ | refine s_as rfl ?_ | refine s_load_ep rfl ?_ | refine s_idx_sln rfl rfl (by first | assumption | omega | (simp; done) | (simp; omega)) ?_ | refine s_add rfl rfl (by omega) ?_ | (refine s_call_v rfl rfl (.ref rfl (encs_len _).symm (encs_clo _) (.same .nil)) (has_t ?_ ?_) rfl ?_; (first | exact ha | exact hb); (first | omega | assumption)) | refine s_pf rfl rfl ?_ | refine s_not rfl ?_ | refine s_neg rfl (by omega) ?_ | refine o_nil ?_ | refine o_op rfl ?_ | refine o_gn rfl rfl rfl rfl ?_ | refine r_seq ?_ | refine r_region ?_ | refine r_block ?_ | refine r_skip ?_ | refine r_cond_f rfl ?_)
              refine ⟨q + 1, gl, by omega, hgl, by omega, ?_⟩
              rw [hls]
              exact ale_drop (by repeat' first | exact mem_nil | refine mem_cons rfl ?_) rfl
            · rw [if_neg ha] at hls
              by_cases hb : cls[j][q] ∈ leftM S' cls[j] q
              · rw [show addS (leftM S' cls[j] q) cls[j][q] = leftM S' cls[j] q from if_pos hb] at hls
                (repeat' first | refine s_mv rfl ?_ | refine s_as rfl ?_ | refine s_load_ep rfl ?_ | refine s_idx_sln rfl rfl (by first | assumption | omega | (simp; done) | (simp; omega)) ?_ | refine s_add rfl rfl (by omega) ?_ | (refine s_call_v rfl rfl (.ref rfl (encs_len _).symm (encs_clo _) (.same .nil)) (has_t ?_ ?_) rfl ?_; (first | exact ha | exact hb); (first | omega | assumption)) | (refine s_call_v rfl rfl (.ref rfl (encs_len _).symm (encs_clo _) (.same .nil)) (has_f ?_ ?_) rfl ?_; (first | exact ha | exact hb); (first | omega | assumption)) | refine s_pt rfl rfl ?_ | refine s_not rfl ?_ | refine s_neg rfl (by omega) ?_ | refine o_nil ?_ | refine o_op rfl ?_ | refine o_gy rfl rfl rfl rfl ?_ | refine r_seq ?_ | refine r_region ?_ | refine r_block ?_ | refine r_skip ?_ | refine r_cond_f rfl ?_)
                refine ⟨q + 1, gl, by omega, hgl, by omega, ?_⟩
                rw [hls]
                exact ale_drop (by repeat' first | exact mem_nil | refine mem_cons rfl ?_) rfl
              · rw [show addS (leftM S' cls[j] q) cls[j][q] = leftM S' cls[j] q ++ [cls[j][q]] from if_neg hb] at hls
                (repeat' first | refine s_mv rfl ?_ | refine s_as rfl ?_ | refine s_load_ep rfl ?_ | refine s_idx_sln rfl rfl (by first | assumption | omega | (simp; done) | (simp; omega)) ?_ | refine s_add rfl rfl (by omega) ?_ | (refine s_call_v rfl rfl (.ref rfl (encs_len _).symm (encs_clo _) (.same .nil)) (has_f ?_ ?_) rfl ?_; (first | exact ha | exact hb); (first | omega | assumption)) | refine s_app1 rfl rfl rfl rfl rfl rfl rfl (by first | omega | (simp; omega)) (by first | omega | (simp; omega)) (fun _ => rfl) (fun _ _ => ?_) | refine s_pt rfl rfl ?_ | refine s_not rfl ?_ | refine s_neg rfl (by omega) ?_ | refine s_bslice rfl rfl (by decide) rfl ?_ | refine o_nil ?_ | refine o_op rfl ?_ | refine o_gy rfl rfl rfl rfl ?_ | refine r_seq ?_ | refine r_region ?_ | refine r_block ?_ | refine r_skip ?_ | refine r_cond_t rfl ?_)
                rename_i g5 hg5
                refine ⟨q + 1, g5, by omega, by omega, by omega, ?_⟩
                rw [hls]
                exact ale_drop (by repeat' first | exact mem_nil | refine mem_cons rfl ?_) rfl
          · have hq' : q = cls[j].length := by omega
            subst hq'
            have hleft : leftM S' cls[j] cls[j].length = startM (cls[j].filter (open' S')) := by unfold leftM; rw [List.take_length]
            obtain ⟨hn, hc⟩ := stepM_left hleft
            clear hleft
            generalize leftM S' cls[j] cls[j].length = left at *
            cases left with
            | nil =>
              have hst := hn rfl
              have hnone := roundM_none hj' (ch := b) hst
              rw [hrd] at hnone
              rw [hnone] at hk1
              subst hk1
              (repeat' first | refine s_mv rfl ?_ | refine s_as rfl ?_ | refine s_eql rfl rfl ?_ | refine s_len_ref rfl rfl ?_ | refine o_nil ?_ | refine o_op rfl ?_ | refine r_seq ?_ | refine r_region ?_ | refine r_cond_t rfl ?_ | refine r_exit rfl ?_ | refine r_ret ?_)
              exact e_2 (Tryd.results22) (rv_tmp rfl) (rv_tmp rfl) (c_pure' rfl)
            | cons x t =>
              have hst := hc x t rfl
              have stay : stepM S' cls[j] = some (S', false) → roundM (cls.drop (j + 1)) S' b = roundM cls S false := fun e => by
                rw [← hrd, roundM_step hj' e, Bool.or_false]
              have hl0 : ¬ ((x :: t).length : Int) = 0 := by simp; omega
              cases t with
              | nil =>
                have hl1 : (([x] : List Int).length : Int) = 1 := by simp
                have hl2 : (0 : Nat) < ([x] : List Int).length := by simp
                by_cases ha : x ∈ S'
                · rw [if_neg (fun h => h.2 ha)] at hst
                  have hst := stay hst
                  (repeat' first | refine s_mv rfl ?_ | refine s_as rfl ?_ | refine s_load_row rfl rfl rfl ?_ | refine s_idx_ref1 rfl rfl rfl (by omega) ?_ | refine s_eql rfl rfl ?_ | refine s_add rfl rfl (by omega) ?_ | (refine s_call_v rfl rfl (.ref rfl (encs_len _).symm (encs_clo _) (.same .nil)) (has_t ?_ ?_) rfl ?_; (first | exact ha | exact hb); (first | omega | assumption)) | refine s_len_ref rfl rfl ?_ | refine s_pt rfl rfl ?_ | refine s_not rfl ?_ | refine o_nil ?_ | refine o_op rfl ?_ | refine o_gy rfl rfl rfl rfl ?_ | refine r_seq ?_ | refine r_region ?_ | refine r_skip ?_ | refine r_cond_f rfl ?_ | refine r_exit rfl ?_)
                  refine ⟨j + 1, S', (b, g1), ⟨hj', hg', hst, hbt, hbf, hgz'⟩, by omega, ?_⟩
                  exact ale_drop (by repeat' first | exact mem_nil | refine mem_cons rfl ?_) rfl
                · rw [if_pos ⟨rfl, ha⟩] at hst
                  have hml : meas cls (S' ++ [x]) < meas cls S' := by
                    rcases stepM_cases hst with ⟨h, _⟩ | ⟨_, x', hx', hn', he⟩
                    · cases h
                    · have : x = x' := by simpa using he
                      subst this
                      exact meas_lt hmc hx' hn'
                  (repeat' first | refine s_mv rfl ?_ | refine s_as rfl ?_ | refine s_load_row rfl rfl rfl ?_ | refine s_idx_ref1 rfl rfl rfl (by omega) ?_ | refine s_eql rfl rfl ?_ | refine s_add rfl rfl (by omega) ?_ | (refine s_call_v rfl rfl (.ref rfl (encs_len _).symm (encs_clo _) (.same .nil)) (has_f ?_ ?_) rfl ?_; (first | exact ha | exact hb); (first | omega | assumption)) | refine s_len_ref rfl rfl ?_ | refine s_app1 rfl rfl rfl rfl rfl rfl rfl (by first | omega | (simp; omega)) (by first | omega | (simp; omega)) (fun _ => rfl) (fun _ _ => ?_) | refine s_pt rfl rfl ?_ | refine s_not rfl ?_ | refine s_bslice rfl rfl (by decide) rfl ?_ | refine o_nil ?_ | refine o_op rfl ?_ | refine o_gy rfl rfl rfl rfl ?_ | refine r_seq ?_ | refine r_region ?_ | refine r_skip ?_ | refine r_cond_t rfl ?_ | refine r_cond_f rfl ?_ | refine r_exit rfl ?_)
                  rename_i g5 hg5
                  refine ⟨j + 1, S' ++ [x], (true, g5), ⟨hj', ?_, ?_, fun _ => ?_, fun e => (by cases e), by first | exact hg5 | (show E.N < g5; omega)⟩, by omega, ?_⟩
                  · rw [List.length_append, List.length_singleton]; omega
                  · show roundM (cls.drop (j + 1)) (S' ++ [x]) true = _
                    rw [← hrd, roundM_step hj' hst, Bool.or_true]
                  · cases b with
                    | true => have := hbt rfl; omega
                    | false => rw [hbf rfl] at hml ⊢; exact hml
                  · exact ale_drop (by repeat' first | exact mem_nil | refine mem_cons rfl ?_) rfl
              | cons y t =>
                have hl1 : ¬ ((x :: y :: t).length : Int) = 1 := by simp; omega
                rw [if_neg (fun h => by cases h.1)] at hst
                have hst := stay hst
                (repeat' first | refine s_mv rfl ?_ | refine s_as rfl ?_ | refine s_eql rfl rfl ?_ | refine s_add rfl rfl (by omega) ?_ | refine s_len_ref rfl rfl ?_ | refine s_pf rfl rfl ?_ | refine o_nil ?_ | refine o_op rfl ?_ | refine o_gn rfl rfl rfl rfl ?_ | refine r_seq ?_ | refine r_region ?_ | refine r_skip ?_ | refine r_cond_f rfl ?_ | refine r_exit rfl ?_)
                refine ⟨j + 1, S', (b, g1), ⟨hj', hg', hst, hbt, hbf, hgz'⟩, by omega, ?_⟩
                exact ale_drop (by repeat' first | exact mem_nil | refine mem_cons rfl ?_) rfl
        · have hj' : j = cls.length := by omega
          subst hj'
          rw [List.drop_length] at hrd
          have hrd : some (S', b) = roundM cls S false := hrd
          rw [← hrd] at hk1
          (repeat' first | refine r_exit rfl ?_)
          refine ⟨k, S', (b, g1), ⟨hg', fun e => ?_, fun e => ?_, hgz'⟩, ?_, ?_⟩
          · have e : b = true := e
            subst e
            exact ⟨hk1, by have := hbt rfl; omega⟩
          · have e : b = false := e
            subst e
            exact hk1.symm
          · cases b <;> simp
          · exact ale_drop (by repeat' first | exact mem_nil | refine mem_cons rfl ?_) rfl

end Go.Proofs
