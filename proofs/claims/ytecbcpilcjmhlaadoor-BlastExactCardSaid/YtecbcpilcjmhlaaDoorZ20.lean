/-
  Part 20 of the proof: S7 S8 F1.
-/
import Derived.Test.YtecbcpilcjmhlaaDoorZ1
import Derived.Test.YtecbcpilcjmhlaaDoorZ11
import Derived.Test.YtecbcpilcjmhlaaDoorZ15
import Derived.Test.YtecbcpilcjmhlaaDoorZ19
set_option linter.unusedSimpArgs false
set_option linter.unusedVariables false
set_option maxRecDepth 10000
set_option maxHeartbeats 4000000
section
namespace Go.Proofs
open Go.Av
variable {G : Nat → DV}
attribute [local irreducible] OpSem ARun AOps ALex ACalls AEnd AClose RV
open Go.Bl
end Go.Proofs
end
section
namespace Go.Proofs
open Go.Av
variable {G : Nat → DV}
attribute [local irreducible] OpSem ARun AOps ALex ACalls AEnd AClose RV
open Go.Bl
theorem true_c {vals : List Int} (hv : Vok vals) {ts : List Nd} (hl : ts.length ≤ 1000) (ht : ∀ t ∈ ts, Tt t 1) : Go.Av.Pure Tryd.prog G 19 [slOf ts, slOf vals] (.b (ts.all fun t => decide (evN vals t = 1))) := fun B => by
  have hi : ∀ t ∈ ts, Go.Av.Pure Tryd.prog G 54 [.agg (Enc.enc t), slOf vals] (.i (evN vals t)) := fun t h => r20Eval_c hv (ht t h)
  refine calls_of_run Tryd.func19 rfl Tryd.ntmps19 rfl (t := [(0, slOf ts), (1, slOf vals)]) rfl fun E hE => ?_
  (repeat' first | refine s_as rfl ?_ | refine o_nil ?_ | refine o_op rfl ?_ | refine r_seq ?_ | refine r_region ?_ | refine r_block ?_ | fail)
  refine r_loop (fun (i : Nat) => ⟨[(0, slOf ts), (1, slOf vals), (5, .i i)], []⟩) (fun i => i ≤ ts.length ∧ (ts.take i).all (fun t => decide (evN vals t = 1)) = true) (fun i => ts.length - i) 0 ?_ ⟨by omega, rfl⟩ ?_
  · exact Go.Av.al rfl
  intro i ⟨hi2, hacc⟩
  by_cases hj : i < ts.length
  · have hit := hi _ (List.getElem_mem hj)
    clear hi ht
    by_cases h1 : evN vals ts[i] = 1
    · have hacc' : (ts.take (i + 1)).all (fun t => decide (evN vals t = 1)) = true := by
        rw [List.take_succ_eq_append_getElem hj, List.all_append, hacc]
        simp [h1]
      rw [h1] at hit
      (repeat' first | refine s_mv rfl ?_ | refine s_as rfl ?_ | refine s_load_epe rfl ?_ | refine s_idx_sln rfl rfl (by first | assumption | omega | (simp; done) | (simp; omega)) ?_ | refine s_lss rfl rfl ?_ | refine s_neq rfl rfl ?_ | refine s_add rfl rfl (by omega) ?_ | refine s_len_sl rfl ?_ | refine s_cp rfl rfl (hit) ?_ | refine o_nil ?_ | refine o_op rfl ?_ | refine r_seq ?_ | refine r_region ?_ | refine r_block ?_ | refine r_skip ?_ | refine r_cond_f rfl ?_ | refine r_cond_dt rfl (by omega) ?_ | fail)
      refine ⟨i + 1, ⟨by omega, hacc'⟩, by omega, ?_⟩
      exact Go.Av.al rfl
    · have hf : (ts.all fun t => decide (evN vals t = 1)) = false := by
        rw [List.all_eq_false]
        exact ⟨_, List.getElem_mem hj, by simp [h1]⟩
      rw [hf]
      generalize evN vals ts[i] = v at *
      (repeat' first | refine s_mv rfl ?_ | refine s_as rfl ?_ | refine s_load_epe rfl ?_ | refine s_idx_sln rfl rfl (by first | assumption | omega | (simp; done) | (simp; omega)) ?_ | refine s_lss rfl rfl ?_ | refine s_neq rfl rfl ?_ | refine s_len_sl rfl ?_ | refine s_cp rfl rfl (hit) ?_ | refine o_nil ?_ | refine o_op rfl ?_ | refine r_seq ?_ | refine r_region ?_ | refine r_block ?_ | refine r_skip ?_ | refine r_cond_dt rfl (by omega) ?_ | refine r_ret ?_ | fail)
      refine e_1 Tryd.results19 (rv_tmp rfl) (c_pure' ?_)
      rfl
  · rw [List.take_of_length_le (by omega)] at hacc
    rw [hacc]
    (repeat' first | refine s_mv rfl ?_ | refine s_as rfl ?_ | refine s_lss rfl rfl ?_ | refine s_len_sl rfl ?_ | refine o_nil ?_ | refine o_op rfl ?_ | refine r_seq ?_ | refine r_region ?_ | refine r_cond_df rfl (by omega) ?_ | refine r_exit rfl ?_ | refine r_ret ?_ | fail)
    refine e_1 Tryd.results19 (rv_tmp rfl) (c_pure' ?_)
    rfl
theorem boolz_eq : ∀ n : Nat, zerosD [.bool false] n = encs (List.replicate n false)
  | 0 => rfl
  | n + 1 => by rw [zerosD, boolz_eq n, List.replicate_succ, encs_cons]; rfl
theorem rep_false (n m : Nat) : (List.replicate n false).getD m false = false := by
  rw [List.getD_eq_getElem?_getD, List.getElem?_replicate]
  split <;> rfl
theorem formed_c {vars : Int} {cl : List (List Int)} {nm ty fi : List Int} {ts : List Nd} (hsz : sizeL ts ≤ 99999) (hnm : allTo (nodesL ts) 64 = nm) (htm : nm.map (kindL ts) = ty) (hfl : fi.length = nm.length)
    (hv0 : 0 ≤ vars) (hv1 : vars ≤ 2000) (hc0 : cl.length ≤ 16384) (hc1 : cl.length ≤ 10 + 1100 * sizeL ts) (hv2 : vars ≤ 10 + 100 * sizeL ts)
    (hty1 : ∀ x ∈ ty, x = 0 ∨ x = 1) (hr : ∀ i (h : i < fi.length) (h' : i < ty.length), 1 ≤ fi[i] ∧ fi[i] + (4 - 3 * ty[i]) ≤ vars + 1) (hmono : ∀ i j (h : j < fi.length) (h' : i < ty.length) (hij : i < j), fi[i]'(by omega) + (4 - 3 * ty[i]) ≤ fi[j])
    (hcl : ∀ c ∈ cl, c.length ≤ 1048576 ∧ ∀ x ∈ c, x ≠ 0 ∧ -vars ≤ x ∧ x ≤ vars) : Go.Av.Pure Tryd.prog G 14 [.agg [.i vars, slOf cl, slOf nm, slOf ty, slOf fi], slOf ts] (.b true) := fun B => by
  have hl := allTo_len (nodesL ts) 64
  have hall := all_c (G := G) ts hsz
  have hty := (types21_c (G := G) ts hsz).read
  rw [hnm] at hl hall hty
  rw [htm] at hty
  have htl : ty.length = nm.length := by rw [← htm, List.length_map]
  have hs1 := sameIntsV_c (G := G) nm nm (by omega) (by omega)
  have hs2 := sameIntsV_c (G := G) ty ty (by omega) (by omega)
  rw [decide_eq_true rfl] at hs1 hs2
  refine calls_of_run Tryd.func14 rfl Tryd.ntmps14 rfl (t := [(0, .agg [.i vars, slOf cl, slOf nm, slOf ty, slOf fi]), (1, slOf ts)]) rfl fun E hE => ?_
  (repeat' first | refine s_mv rfl ?_ | refine s_as rfl ?_ | refine s_load_row rfl rfl rfl ?_ | refine s_add rfl rfl (by omega) ?_ | refine s_cp rfl rfl (hall) ?_ | refine s_fld_ptr rfl rfl ?_ | refine s_make rfl rfl rfl (by omega) (by omega) (by omega) (by omega) (fun _ _ => ?_) | refine s_box rfl rfl (fun _ _ => ?_) | refine o_nil ?_ | refine o_op rfl ?_ | refine r_seq ?_ | refine r_region ?_ | refine r_block ?_ | (refine g_draw ?_; first | refine r_draw0 (by rfl) (by kernel_rfl) (by kernel_rfl) ?_ | refine r_drawq (by kernel_rfl) (by kernel_rfl) ?_) | refine r_skip ?_ | refine r_cond_df rfl (by omega) ?_ | refine x_op rfl (by (repeat' first | refine s_mv rfl ?_ | refine s_load_row rfl rfl rfl ?_ | refine s_lss rfl rfl ?_ | refine s_gtr rfl rfl ?_ | refine s_neq rfl rfl ?_ | refine s_add rfl rfl (by omega) ?_ | refine s_mul rfl rfl (by omega) ?_ | refine s_len_sl rfl ?_ | refine s_cp rfl rfl (hty) ?_ | refine s_cp rfl rfl (nodesCnt_c ts (by omega)) ?_ | refine s_cp rfl rfl (hs1) ?_ | refine s_cp rfl rfl (hs2) ?_ | refine s_pf rfl rfl ?_ | refine s_not rfl ?_ | refine s_fld_ptr rfl rfl ?_ | exact ⟨rfl, rfl⟩)) ?_ | refine x_gy rfl rfl rfl rfl (by (repeat' first | refine s_mv rfl ?_ | refine s_load_row rfl rfl rfl ?_ | refine s_lss rfl rfl ?_ | refine s_gtr rfl rfl ?_ | refine s_neq rfl rfl ?_ | refine s_add rfl rfl (by omega) ?_ | refine s_mul rfl rfl (by omega) ?_ | refine s_len_sl rfl ?_ | refine s_cp rfl rfl (hty) ?_ | refine s_cp rfl rfl (nodesCnt_c ts (by omega)) ?_ | refine s_cp rfl rfl (hs1) ?_ | refine s_cp rfl rfl (hs2) ?_ | refine s_pf rfl rfl ?_ | refine s_not rfl ?_ | refine s_fld_ptr rfl rfl ?_ | exact ⟨rfl, rfl⟩)) ?_ | refine x_nil ?_ | refine x_sp_f rfl rfl (by omega) ?_ | fail)
  rename_i g1 hg1 g2 hg2
  rw [show zerosD [.bool false] (vars + 1).toNat = encs (List.replicate (vars + 1).toNat false) from boolz_eq _]
  refine r_loop (fun (p : Nat × List Bool) => ⟨[(2, .ptr 0 g1 0), (6, .ref 1 g2 0 (vars + 1).toNat 1), (7, .i p.1)], [.row g1 [.i vars, slOf cl, slOf nm, slOf ty, slOf fi], .row g2 (encs p.2)]⟩) (fun p => p.1 ≤ fi.length ∧ p.2.length = (vars + 1).toNat ∧ ∀ j (h : j < fi.length), p.1 ≤ j → ∀ m : Nat, fi[j] ≤ m → p.2.getD m false = false) (fun p => fi.length - p.1) (0, List.replicate (vars + 1).toNat false) ?_ ⟨by omega, by simp, fun j h _ m _ => rep_false _ _⟩ ?_
  · exact Go.Av.al rfl
  rintro ⟨i, U⟩ ⟨hi, hUl, hU⟩
  dsimp only at hi hUl hU ⊢
  by_cases hif : i < fi.length
  · have hit : i < ty.length := by omega
    have hr1 := hr i hif hit
    have ht1 := hty1 _ (List.getElem_mem hit)
    have hm1 := fun j (h : j < fi.length) (hij : i < j) => hmono i j h hit hij
    have hU1 := hU i hif (Nat.le_refl _)
    clear hU hr hmono hty1 hall hty hs1 hs2 hcl hnm htm
    obtain ⟨p0, hp0⟩ : ∃ p0 : Nat, fi[i] = (p0 : Int) := ⟨fi[i].toNat, by omega⟩
    (repeat' first | refine s_mv rfl ?_ | refine s_as rfl ?_ | refine s_load_ep rfl ?_ | refine s_load_row rfl rfl rfl ?_ | refine s_idx_sln rfl rfl (by first | assumption | omega | (simp; done) | (simp; omega)) ?_ | refine s_lss rfl rfl ?_ | refine s_sub rfl rfl (by omega) ?_ | refine s_mul rfl rfl (by omega) ?_ | refine s_len_sl rfl ?_ | refine s_fld_ptr rfl rfl ?_ | refine o_nil ?_ | refine o_op rfl ?_ | refine r_seq ?_ | refine r_region ?_ | refine r_block ?_ | refine r_skip ?_ | refine r_cond_dt rfl (by omega) ?_ | fail)
    refine r_loop (fun (p : Nat × List Bool) => ⟨[(2, .ptr 0 g1 0), (6, .ref 1 g2 0 (vars + 1).toNat 1), (7, .i i), (8, .i (4 - 3 * ty[i])), (9, .i p.1)], [.row g1 [.i vars, slOf cl, slOf nm, slOf ty, slOf fi], .row g2 (encs p.2)]⟩) (fun p => p0 ≤ p.1 ∧ (p.1 : Int) ≤ fi[i] + (4 - 3 * ty[i]) ∧ p.2.length = (vars + 1).toNat ∧ ∀ m : Nat, p.1 ≤ m → p.2.getD m false = false) (fun p => (vars + 2).toNat - p.1) (p0, U) ?_ ⟨Nat.le_refl _, by omega, hUl, fun m hm => hU1 m (by omega)⟩ ?_
    · dsimp only
      rw [← hp0]
      exact Go.Av.al rfl
    rintro ⟨K, V⟩ ⟨hK0, hK, hVl, hV⟩
    dsimp only at hK0 hK hVl hV ⊢
    by_cases hlt : (K : Int) < fi[i] + (4 - 3 * ty[i])
    · have hKV : K < V.length := by omega
      have hVK : V[K] = false := by
        have := hV K (Nat.le_refl _)
        rwa [List.getD_eq_getElem?_getD, List.getElem?_eq_getElem hKV] at this
      have hV' : ∀ m : Nat, K + 1 ≤ m → (V.set K true).getD m false = false := fun m hm => by
        rw [List.getD_eq_getElem?_getD, List.getElem?_set_ne (by omega), ← List.getD_eq_getElem?_getD]
        exact hV m (by omega)
      have hVl' : (V.set K true).length = (vars + 1).toNat := by rw [List.length_set]; exact hVl
      clear hU1 hV hm1
      (repeat' first | refine s_mv rfl ?_ | refine s_load_ep rfl ?_ | refine s_load_row rfl rfl rfl ?_ | refine s_load_e1 rfl rfl rfl (by first | assumption | omega) rfl ?_ | refine s_idx_sln rfl rfl (by first | assumption | omega | (simp; done) | (simp; omega)) ?_ | refine s_idx_ref1 rfl rfl rfl (by omega) ?_ | refine s_lss rfl rfl ?_ | refine s_gtr rfl rfl ?_ | refine s_add rfl rfl (by omega) ?_ | refine s_pf rfl rfl ?_ | refine s_fld_ptr rfl rfl ?_ | refine o_nil ?_ | refine o_op rfl ?_ | refine o_gy rfl rfl rfl rfl ?_ | refine o_sp_f rfl rfl (by omega) ?_ | refine r_seq ?_ | refine r_region ?_ | refine r_block ?_ | refine r_skip ?_ | refine r_cond_dt rfl (by omega) ?_ | refine r_cond_df rfl (by omega) ?_ | fail)
      rw [hVK]
      (repeat' first | refine s_mv rfl ?_ | refine s_as rfl ?_ | refine s_idx_ref1 rfl rfl rfl (by omega) ?_ | refine s_add rfl rfl (by omega) ?_ | refine s_store_e1 rfl rfl rfl rfl rfl (by first | assumption | omega) rfl ?_ | refine o_nil ?_ | refine o_op rfl ?_ | refine o_op0 ?_ | refine r_region ?_ | refine r_skip ?_ | refine r_cond_f rfl ?_ | fail)
      refine ⟨(K + 1, V.set K true), ⟨by show p0 ≤ K + 1; omega, by show ((K + 1 : Nat) : Int) ≤ _; omega, hVl', hV'⟩, by show (vars + 2).toNat - (K + 1) < (vars + 2).toNat - K; omega, ?_⟩
      exact Go.Av.al rfl
    · have hU' : ∀ j (h : j < fi.length), i + 1 ≤ j → ∀ m : Nat, fi[j] ≤ m → V.getD m false = false := fun j h hij m hm => by
        have := hm1 j h hij
        exact hV m (by omega)
      clear hV hU1 hm1
      (repeat' first | refine s_mv rfl ?_ | refine s_as rfl ?_ | refine s_load_ep rfl ?_ | refine s_load_row rfl rfl rfl ?_ | refine s_idx_sln rfl rfl (by first | assumption | omega | (simp; done) | (simp; omega)) ?_ | refine s_lss rfl rfl ?_ | refine s_add rfl rfl (by omega) ?_ | refine s_fld_ptr rfl rfl ?_ | refine o_nil ?_ | refine o_op rfl ?_ | refine r_seq ?_ | refine r_region ?_ | refine r_cond_df rfl (by omega) ?_ | refine r_exit rfl ?_ | fail)
      refine ⟨(i + 1, V), ⟨by show i + 1 ≤ fi.length; omega, hVl, hU'⟩, by show fi.length - (i + 1) < fi.length - i; omega, ?_⟩
      exact Go.Av.al rfl
  · clear hU hr hmono hty1 hall hty hs1 hs2 hnm htm
    (repeat' first | refine s_mv rfl ?_ | refine s_as rfl ?_ | refine s_load_row rfl rfl rfl ?_ | refine s_lss rfl rfl ?_ | refine s_len_sl rfl ?_ | refine s_fld_ptr rfl rfl ?_ | refine o_nil ?_ | refine o_op rfl ?_ | refine r_seq ?_ | refine r_region ?_ | refine r_block ?_ | refine r_cond_df rfl (by omega) ?_ | refine r_exit rfl ?_ | fail)
    refine r_loop (fun (i : Nat) => ⟨[(2, .ptr 0 g1 0), (10, .i i)], [.row g1 [.i vars, slOf cl, slOf nm, slOf ty, slOf fi], .row g2 (encs U)]⟩) (fun i => i ≤ cl.length) (fun i => cl.length - i) 0 ?_ (by omega) ?_
    · exact Go.Av.al rfl
    intro i hi
    by_cases hic : i < cl.length
    · obtain ⟨hcl1, hcl2⟩ := hcl _ (List.getElem_mem hic)
      clear hcl
      (repeat' first | refine s_mv rfl ?_ | refine s_as rfl ?_ | refine s_load_row rfl rfl rfl ?_ | refine s_lss rfl rfl ?_ | refine s_len_sl rfl ?_ | refine s_fld_ptr rfl rfl ?_ | refine o_nil ?_ | refine o_op rfl ?_ | refine r_seq ?_ | refine r_region ?_ | refine r_block ?_ | refine r_skip ?_ | refine r_cond_dt rfl (by omega) ?_ | fail)
      refine r_loop (fun (k : Nat) => ⟨[(2, .ptr 0 g1 0), (10, .i i), (11, .i k)], [.row g1 [.i vars, slOf cl, slOf nm, slOf ty, slOf fi], .row g2 (encs U)]⟩) (fun k => k ≤ cl[i].length) (fun k => cl[i].length - k) 0 ?_ (by omega) ?_
      · exact Go.Av.al rfl
      intro k hk
      by_cases hkc : k < cl[i].length
      · have hx := hcl2 _ (List.getElem_mem hkc)
        clear hcl2
        (repeat' first | refine s_mv rfl ?_ | refine s_as rfl ?_ | refine s_load_ep rfl ?_ | refine s_load_row rfl rfl rfl ?_ | refine s_idx_sln rfl rfl (by first | assumption | omega | (simp; done) | (simp; omega)) ?_ | refine s_lss rfl rfl ?_ | refine s_gtr rfl rfl ?_ | refine s_eql rfl rfl ?_ | refine s_add rfl rfl (by omega) ?_ | refine s_len_sl rfl ?_ | refine s_pf rfl rfl ?_ | refine s_neg rfl (by omega) ?_ | refine s_fld_ptr rfl rfl ?_ | refine o_nil ?_ | refine o_op rfl ?_ | refine o_gy rfl rfl rfl rfl ?_ | refine o_sp_f rfl rfl (by omega) ?_ | refine r_seq ?_ | refine r_region ?_ | refine r_block ?_ | refine r_skip ?_ | refine r_cond_dt rfl (by omega) ?_ | refine r_cond_df rfl (by omega) ?_ | fail)
        refine ⟨k + 1, by omega, by omega, ?_⟩
        exact Go.Av.al rfl
      · clear hcl2
        (repeat' first | refine s_mv rfl ?_ | refine s_as rfl ?_ | refine s_load_ep rfl ?_ | refine s_load_row rfl rfl rfl ?_ | refine s_idx_sln rfl rfl (by first | assumption | omega | (simp; done) | (simp; omega)) ?_ | refine s_lss rfl rfl ?_ | refine s_add rfl rfl (by omega) ?_ | refine s_len_sl rfl ?_ | refine s_fld_ptr rfl rfl ?_ | refine o_nil ?_ | refine o_op rfl ?_ | refine r_seq ?_ | refine r_region ?_ | refine r_cond_df rfl (by omega) ?_ | refine r_exit rfl ?_ | fail)
        refine ⟨i + 1, by omega, by omega, ?_⟩
        exact Go.Av.al rfl
    · clear hcl
      (repeat' first | refine s_mv rfl ?_ | refine s_as rfl ?_ | refine s_load_row rfl rfl rfl ?_ | refine s_lss rfl rfl ?_ | refine s_len_sl rfl ?_ | refine s_fld_ptr rfl rfl ?_ | refine o_nil ?_ | refine o_op rfl ?_ | refine r_seq ?_ | refine r_region ?_ | refine r_cond_df rfl (by omega) ?_ | refine r_exit rfl ?_ | refine r_ret ?_ | fail)
      exact e_1 (Tryd.results14) (rv_tmp rfl) (c_drop (σ := []) (r := [_, _]) ⟨rfl, rfl⟩)
end Go.Proofs
end
section
namespace Go.Proofs
open Go.Av
variable {G : Nat → DV}
attribute [local irreducible] OpSem ARun AOps ALex ACalls AEnd AClose RV
open Go.Bl
def blastR (ts : List Nd) : DV :=
  if full (blastS ts).1 = true then .tup [.agg [.i 0, .nil, .nil, .nil, .nil], .i 4]
  else .tup [.agg [.i (blastS ts).1.vars, slOf (blastS ts).1.cl, slOf (blastV ts).nm, slOf (blastV ts).ty, slOf (blastV ts).fi], .i 0]
theorem fresh_x (v : Int) (hv : 0 ≤ v ∧ v < 1099511627776) : FR Tryd.prog G 38 v (.i (v + 1)) (v + 1) := fun g0 g1 g2 g3 c2 c3 c4 cl m sn h2 h3 h4 hm hsn B b0 b1 b2 b3 => by
  refine calls_of_run Tryd.func38 rfl Tryd.ntmps38 rfl (t := [(0, .ptr 0 g0 0)]) rfl fun E hE => ?_
  (repeat' first | refine s_mv rfl ?_ | refine s_as rfl ?_ | refine s_load_row rfl rfl rfl ?_ | refine s_add rfl rfl (by omega) ?_ | refine s_store rfl rfl rfl rfl (by rfl) (by rfl) (by rfl) ?_ | refine s_fld_ptr rfl rfl ?_ | refine s_nilck_ptr rfl rfl ?_ | refine o_nil ?_ | refine o_op rfl ?_ | refine o_op0 ?_ | refine r_seq ?_ | refine r_region ?_ | refine r_ret ?_)
  exact e_1 (Tryd.results38) (rv_tmp rfl) (c_same ⟨rfl, rfl⟩)
theorem blast_c (hG0 : G 0 = opsD) (hG1 : G 1 = pow10T) {F : Int → Int} {ts : List Nd} (hts : Lot F ts) : Go.Av.Pure Tryd.prog G 12 [slOf ts] (blastR ts) := fun B => by
  have hlen := hts.len
  refine calls_of_run Tryd.func12 rfl Tryd.ntmps12 rfl (t := [(0, slOf ts)]) rfl fun E hE => ?_
  (repeat' first | refine s_mv rfl ?_ | refine s_as rfl ?_ | refine s_len_sl rfl ?_ | refine s_mkmap_i (fun _ _ => ?_) | refine s_alloc (fun _ _ => ?_) | refine o_nil ?_ | refine o_op rfl ?_ | refine r_seq ?_ | refine r_region ?_ | refine r_block ?_)
  rename_i gR hgR gF hgF
  refine r_loop (fun (i : Nat) => ⟨[(0, slOf ts), (2, .ptr 0 gR 0), (3, .i 0), (4, .mp 1 gF), (16, slOf ts), (17, .i ts.length), (18, .i i)], [.row gR [.i 0, .nil, .nil, .nil, .nil], .mapb gF (imap (mapI (typesL (ts.take i) []).2))]⟩) (fun i => i ≤ ts.length) (fun i => ts.length - i) 0 ?_ (by omega) ?_
  · exact Go.Av.al rfl
  intro i hi
  have hf0 := found_ok (F := F) (ts := ts.take i) (M := []) (fun t ht => hts.ty t (List.mem_of_mem_take ht)) (fun t ht => hts.con t (List.mem_of_mem_take ht)) (fun n m h => by cases h)
  (repeat' first | refine s_lss rfl rfl ?_ | refine o_nil ?_ | refine o_op rfl ?_ | refine r_seq ?_ | refine r_region ?_)
  refine r_cond_d rfl (fun h => ?_) (fun h => ?_)
  · have hi2 : i < ts.length := by omega
    have hti := hts.ty _ (List.getElem_mem hi2)
    have hci := hts.con _ (List.getElem_mem hi2)
    have hva := valid_tt (G := G) hG0 hti hci
    have htm := types_c (G := G) ts[i] hti.fit (typesL (ts.take i) []).2
    have ht1 := (types_ok hti hci _ hf0.2.1).1
    have hsu := typesL_take hi2 hf0.1
    rw [ht1] at htm
    rw [← hsu] at htm
    clear hsu ht1 hf0
    (repeat' first | refine s_mv rfl ?_ | refine s_as rfl ?_ | refine s_load_whole rfl rfl (by first | assumption | exact Enc.len _ | rfl) ?_ | refine s_load_epe rfl ?_ | refine s_idx_sln rfl rfl (by first | assumption | omega | (simp; done) | (simp; omega)) ?_ | refine s_neq rfl rfl ?_ | refine s_add rfl rfl (by omega) ?_ | refine s_cp rfl rfl (hva) ?_ | refine s_call_tm (k := 1) (htm) rfl rfl rfl (by repeat' first | exact .nil | refine .cons ?_ ?_ | exact .s (.mp rfl) | exact .s (.ptr rfl) | exact .s (.ref rfl) | exact .fn (by repeat' first | exact .nil | refine .cons ?_ ?_ | exact .ptr rfl | exact .mp rfl | exact .clo clo_sc) (by repeat' first | exact .nil | refine .cons ?_ ?_ | exact .ptr rfl | exact .mp rfl | exact .clo clo_sc) | exact .s (.clo (by (repeat' first | exact Enc.clo _ | exact clo_sc | exact clo_slOf _ | exact clo_sl (encs_clo _) | exact encs_clo _ | refine clo_fn ?_ ?_ | refine clo_ep ?_ | refine clo_tup ?_ | refine clo_agg ?_ | exact ac_nil | refine ac_cons ?_ ?_ | refine clo_sl ?_); done))) (by repeat' first | exact clo_sc | exact clo_slOf _ | exact clo_sl (encs_clo _) | exact encs_clo _ | refine clo_fn ?_ ?_ | refine clo_ep ?_ | refine clo_tup ?_ | refine clo_agg ?_ | exact ac_nil | refine ac_cons ?_ ?_ | refine clo_sl ?_) (by rfl) ?_ | refine s_pf rfl rfl ?_ | refine s_store_whole rfl rfl rfl (by first | assumption | exact Enc.len _ | rfl) (by first | assumption | exact Enc.len _ | rfl) rfl ?_ | refine s_not rfl ?_ | refine s_extract rfl rfl rfl ?_ | refine s_alloc (fun _ _ => ?_) | refine o_nil ?_ | refine o_op rfl ?_ | refine o_op0 ?_ | refine o_gy rfl rfl rfl rfl ?_ | refine r_seq ?_ | refine r_region ?_ | refine r_block ?_ | refine r_skip ?_ | refine r_cond_f rfl ?_)
    refine ⟨i + 1, by omega, by omega, ?_⟩
    exact Go.Av.al rfl
  have hi3 : i = ts.length := by omega
  subst hi3
  rw [List.take_length] at hf0 ⊢
  clear h hi
  have hsF := hf0.2.1
  have hV := varsT_ok hsF
  have hfo : (typesL ts []).2 = foundM ts := rfl
  rw [hfo] at hV hsF ⊢
  clear hf0 hfo
  have hfr := fresh_x (G := G) 0 (by omega)
  (repeat' first | refine s_mv rfl ?_ | refine s_as rfl ?_ | refine s_call_fr5 (cl := []) rfl rfl hfr rfl (by simp [DV.clo]) (by simp [DV.clo]) (by simp [DV.clo]) mapI_clo mapI_clo clo_sc ?_ | refine s_app_z (xs := ([[1]] : List (List Int))) rfl rfl rfl rfl rfl (by simp) (by simp) (fun _ => rfl) (fun _ _ => ?_) | refine s_store rfl rfl rfl rfl (by rfl) (by rfl) (by rfl) ?_ | refine s_mkmap_i (fun _ _ => ?_) | refine s_fld_ptr rfl rfl ?_ | refine s_build_s rfl rfl ?_ | refine s_nilck_ptr rfl rfl ?_ | refine s_box rfl rfl (fun _ _ => ?_) | refine o_nil ?_ | refine o_op rfl ?_ | refine r_seq ?_ | refine r_region ?_ | refine r_block ?_ | (refine g_draw ?_; first | (refine r_drawz (fun p => p.1 :: p.2.1 :: p.2.2.1 :: p.2.2.2.1 :: .row gR [p.2.2.2.2.1] :: p.2.2.2.2.2) [100] [] [(0, true)] (by rfl) (by rfl) (by rfl) (by kernel_rfl) (by decide +kernel) (by decide) (by decide +kernel) ⟨(_, _, _, _, _, _), rfl⟩ ?_) | (refine r_drawz (fun p => p.1 :: p.2.1 :: .mapb gA (imap (mapI (putI q.A (i : Int) (q.v + 1)))) :: p.2.2.1 :: .row g0 [.sc (.int .i64 q.v), .ref 5 gc 0 1 1, .ref 6 gn 0 q.nm.length 1, .ref 7 gt 0 q.ty.length 1, .ref 8 gf 0 q.fi.length 1, .mp 2 gA, .mp 3 gS] :: p.2.2.2) [32, 33, 34, 35, 36, 37, 38, 39, 40, 41, 42, 43, 1, 2] [1, 2] [(0, true), (3, true), (4, true), (5, true), (6, true), (7, true), (8, true), (9, true), (11, true), (12, true), (13, true), (14, true), (15, true), (16, true), (17, true), (19, true), (20, true), (21, true), (22, true), (23, true), (24, true), (25, true), (26, true), (27, true), (28, true), (29, true), (30, true), (10, false), (18, false), (31, false), (32, false), (33, false), (34, false), (35, false), (36, false), (37, false), (38, false), (39, false), (40, false), (41, false), (42, false), (43, false)] (by rfl) (by rfl) (by rfl) (by kernel_rfl) (by decide +kernel) (by decide) (by decide +kernel) ⟨(_, _, _, _), rfl⟩ ?_) | (rename_i gA hgA gS hgS g0 hg0; refine r_ownin 4 1 1 rfl rfl (fun _ => rfl) (fun g1 hg1 => ?_); refine r_drawz (fun p => p.1 :: p.2.1 :: p.2.2.1 :: p.2.2.2.1 :: .row g0 [p.2.2.2.2.1, .ref 5 g1 0 0 1, .nil, .nil, .nil, .mp 2 gA, .mp 3 gS] :: p.2.2.2.2.2) [11, 12, 13, 14] [] [(0, true), (1, true), (2, true), (3, true), (4, true), (5, true), (6, true), (7, false), (8, true), (9, true), (10, false), (11, false), (12, false), (13, false), (14, false)] (by rfl) (by rfl) (by rfl) (by kernel_rfl) (by decide +kernel) (by decide) (by decide +kernel) ⟨(_, _, _, _, _, _), rfl⟩ ?_) | refine r_draw0 (by rfl) (by kernel_rfl) (by kernel_rfl) ?_ | refine r_drawq (by kernel_rfl) (by kernel_rfl) ?_) | refine r_exit rfl ?_ | refine zp_nil ?_ | refine z_nil ?_ | refine z_st rfl rfl (fun _ => (by (repeat' first | refine s_mv rfl ?_ | refine s_load_row rfl rfl rfl ?_ | refine s_bslice rfl rfl (by decide) rfl ?_ | refine s_fld_ptr rfl rfl ?_ | refine s_nilck_ptr rfl rfl ?_ | exact ⟨rfl, rfl⟩))) ?_ | refine z_lf rfl rfl rfl ?_ | refine z_lf0 rfl rfl ?_ | refine z_ef rfl rfl ?_ | refine And.intro (Exists.intro ((_, _, _, _, _, _)) rfl) ?_)
  rename_i gc hgc
  refine r_ownin 4 2 1 rfl rfl (fun _ => rfl) (fun gn hgn => ?_)
  refine r_ownin 4 3 1 rfl rfl (fun _ => rfl) (fun gt hgt => ?_)
  refine r_ownin 4 4 1 rfl rfl (fun _ => rfl) (fun gf hgf => ?_)
  refine r_loop4 (fun (i : Nat) gn gt gf => ⟨[(0, slOf ts), (2, .ptr 0 gR 0), (3, .i 0), (4, .mp 1 gF), (9, .ptr 4 g0 0), (59, .i i)], [.row gR [.i 0, .nil, .nil, .nil, .nil], .mapb gF (imap (mapI (foundM ts))), .mapb gA (imap (mapI (varsT (foundM ts) i).A)), .mapb gS (seenD []), .row g0 [.sc (.int .i64 (varsT (foundM ts) i).v), .ref 5 gc 0 1 1, .ref 6 gn 0 (varsT (foundM ts) i).nm.length 1, .ref 7 gt 0 (varsT (foundM ts) i).ty.length 1, .ref 8 gf 0 (varsT (foundM ts) i).fi.length 1, .mp 2 gA, .mp 3 gS], .row gc (encs ([[1]] : List (List Int))), .row gn (encs (varsT (foundM ts) i).nm), .row gt (encs (varsT (foundM ts) i).ty), .row gf (encs (varsT (foundM ts) i).fi)]⟩) (fun i gn gt gf => i ≤ 64 ∧ E.N < gn ∧ E.N < gt ∧ E.N < gf) (fun i => 64 - i) 0 gn gt gf ?_ ⟨by omega, hgn, hgt, hgf⟩ ?_
  · exact Go.Av.al rfl
  intro i gn gt gf ⟨hi, hgn, hgt, hgf⟩
  have hVi := hV i
  have hs1 : varsT (foundM ts) (i + 1) = stepV (foundM ts) (varsT (foundM ts) i) i := rfl
  (repeat' first | refine s_lss rfl rfl ?_ | refine o_nil ?_ | refine o_op rfl ?_ | refine r_seq ?_ | refine r_region ?_)
  refine r_cond_d rfl (fun h => ?_) (fun h => ?_)
  · cases hget : getI (foundM ts) (i : Int) with
    | none =>
      rw [show stepV (foundM ts) (varsT (foundM ts) i) i = varsT (foundM ts) i by unfold stepV; rw [hget]] at hs1
      generalize varsT (foundM ts) i = q at *
      (repeat' first | refine s_mv rfl ?_ | refine s_as rfl ?_ | refine s_add rfl rfl (by omega) ?_ | refine s_lookup_i0 rfl rfl rfl (by kernel_rfl) hget ?_ | refine s_not rfl ?_ | refine s_extract rfl rfl rfl ?_ | refine o_nil ?_ | refine o_op rfl ?_ | refine r_seq ?_ | refine r_region ?_ | refine r_block ?_ | refine r_skip ?_ | refine r_cond_t rfl ?_ | refine r_exit rfl ?_)
      refine ⟨i + 1, gn, gt, gf, ⟨by omega, by omega, by omega, by omega⟩, by omega, ?_⟩
      rw [hs1]
      exact Go.Av.al rfl
    | some m =>
      have hwi := width_c (G := G) m
      have hw : 1 ≤ width m ∧ width m ≤ 4 := by unfold width; split <;> omega
      rw [show stepV (foundM ts) (varsT (foundM ts) i) i = ⟨putI (varsT (foundM ts) i).A i ((varsT (foundM ts) i).v + 1), (varsT (foundM ts) i).nm ++ [(i : Int)], (varsT (foundM ts) i).ty ++ [m], (varsT (foundM ts) i).fi ++ [(getI (putI (varsT (foundM ts) i).A i ((varsT (foundM ts) i).v + 1)) i).getD 0], (varsT (foundM ts) i).v + width m⟩ by unfold stepV; rw [hget]] at hs1
      generalize varsT (foundM ts) i = q at *
      have v1 := hVi.v1
      have v2 := hVi.v2
      have l1 := hVi.l1
      have l2 := hVi.l2
      have l3 := hVi.l3
      clear hV hVi
      (repeat' first | refine s_mv rfl ?_ | refine s_as rfl ?_ | refine s_add rfl rfl (by omega) ?_ | refine s_app1 rfl rfl rfl rfl rfl rfl rfl (by first | omega | (simp; omega)) (by first | omega | (simp; omega)) (fun _ => rfl) (fun _ _ => ?_) | refine s_store rfl rfl rfl rfl (by rfl) (by rfl) (by rfl) ?_ | refine s_lookup_i1 rfl rfl rfl (by kernel_rfl) hget ?_ | refine s_mapupd_i rfl rfl rfl rfl (by rfl) ?_ | refine s_not rfl ?_ | refine s_fld_ptr rfl rfl ?_ | refine s_extract rfl rfl rfl ?_ | refine s_nilck_ptr rfl rfl ?_ | refine o_nil ?_ | refine o_op rfl ?_ | refine o_op0 ?_ | refine r_seq ?_ | refine r_region ?_ | refine r_block ?_ | (refine g_draw ?_; first | (refine r_drawz (fun p => p.1 :: p.2.1 :: p.2.2.1 :: p.2.2.2.1 :: .row gR [p.2.2.2.2.1] :: p.2.2.2.2.2) [100] [] [(0, true)] (by rfl) (by rfl) (by rfl) (by kernel_rfl) (by decide +kernel) (by decide) (by decide +kernel) ⟨(_, _, _, _, _, _), rfl⟩ ?_) | (refine r_drawz (fun p => p.1 :: p.2.1 :: .mapb gA (imap (mapI (putI q.A (i : Int) (q.v + 1)))) :: p.2.2.1 :: .row g0 [.sc (.int .i64 q.v), .ref 5 gc 0 1 1, .ref 6 gn 0 q.nm.length 1, .ref 7 gt 0 q.ty.length 1, .ref 8 gf 0 q.fi.length 1, .mp 2 gA, .mp 3 gS] :: p.2.2.2) [32, 33, 34, 35, 36, 37, 38, 39, 40, 41, 42, 43, 1, 2] [1, 2] [(0, true), (3, true), (4, true), (5, true), (6, true), (7, true), (8, true), (9, true), (11, true), (12, true), (13, true), (14, true), (15, true), (16, true), (17, true), (19, true), (20, true), (21, true), (22, true), (23, true), (24, true), (25, true), (26, true), (27, true), (28, true), (29, true), (30, true), (10, false), (18, false), (31, false), (32, false), (33, false), (34, false), (35, false), (36, false), (37, false), (38, false), (39, false), (40, false), (41, false), (42, false), (43, false)] (by rfl) (by rfl) (by rfl) (by kernel_rfl) (by decide +kernel) (by decide) (by decide +kernel) ⟨(_, _, _, _), rfl⟩ ?_) | (rename_i gA hgA gS hgS g0 hg0; refine r_ownin 4 1 1 rfl rfl (fun _ => rfl) (fun g1 hg1 => ?_); refine r_drawz (fun p => p.1 :: p.2.1 :: p.2.2.1 :: p.2.2.2.1 :: .row g0 [p.2.2.2.2.1, .ref 5 g1 0 0 1, .nil, .nil, .nil, .mp 2 gA, .mp 3 gS] :: p.2.2.2.2.2) [11, 12, 13, 14] [] [(0, true), (1, true), (2, true), (3, true), (4, true), (5, true), (6, true), (7, false), (8, true), (9, true), (10, false), (11, false), (12, false), (13, false), (14, false)] (by rfl) (by rfl) (by rfl) (by kernel_rfl) (by decide +kernel) (by decide) (by decide +kernel) ⟨(_, _, _, _, _, _), rfl⟩ ?_) | refine r_draw0 (by rfl) (by kernel_rfl) (by kernel_rfl) ?_ | refine r_drawq (by kernel_rfl) (by kernel_rfl) ?_) | refine r_skip ?_ | refine r_cond_f rfl ?_ | refine x_op rfl (by (repeat' first | refine s_mv rfl ?_ | refine s_load_row rfl rfl rfl ?_ | refine s_add rfl rfl (by omega) ?_ | refine s_cp rfl rfl (hwi) ?_ | refine s_lookup_i rfl rfl rfl (by kernel_rfl) ?_ | refine s_bslice rfl rfl (by decide) rfl ?_ | refine s_fld_ptr rfl rfl ?_ | refine s_nilck_ptr rfl rfl ?_ | exact ⟨rfl, rfl⟩)) ?_ | refine x_nil ?_ | refine zp_nil ?_ | refine zp_st rfl (fun _ => (by (repeat' first | refine s_mv rfl ?_ | refine s_load_row rfl rfl rfl ?_ | refine s_add rfl rfl (by omega) ?_ | refine s_cp rfl rfl (hwi) ?_ | refine s_lookup_i rfl rfl rfl (by kernel_rfl) ?_ | refine s_bslice rfl rfl (by decide) rfl ?_ | refine s_fld_ptr rfl rfl ?_ | refine s_nilck_ptr rfl rfl ?_ | exact ⟨rfl, rfl⟩))) ?_ | refine z_nil ?_ | refine z_st rfl rfl (fun _ => (by (repeat' first | refine s_mv rfl ?_ | refine s_load_row rfl rfl rfl ?_ | refine s_add rfl rfl (by omega) ?_ | refine s_cp rfl rfl (hwi) ?_ | refine s_lookup_i rfl rfl rfl (by kernel_rfl) ?_ | refine s_bslice rfl rfl (by decide) rfl ?_ | refine s_fld_ptr rfl rfl ?_ | refine s_nilck_ptr rfl rfl ?_ | exact ⟨rfl, rfl⟩))) ?_ | refine z_lf rfl rfl rfl ?_ | refine z_lf0 rfl rfl ?_ | refine z_ef rfl rfl ?_ | refine And.intro (Exists.intro ((_, _, _, _)) rfl) ?_)
      rename_i gn' hgn' gt' hgt' gf' hgf'
      refine ⟨i + 1, gn', gt', gf', ⟨by omega, by omega, by omega, by omega⟩, by omega, ?_⟩
      rw [hs1]
      exact Go.Av.al rfl
  have hi4 : i = 64 := by omega
  subst hi4
  clear h hs1 hi
  have hbv : varsT (foundM ts) 64 = blastV ts := rfl
  rw [hbv] at hVi ⊢
  have hb0 : blastS ts = termsT (blastV ts).A ⟨(blastV ts).v, [[1]]⟩ ts := rfl
  have hR : blastR ts = if full (blastS ts).1 = true then .tup [.agg [.i 0, .nil, .nil, .nil, .nil], .i 4] else .tup [.agg [.i (blastS ts).1.vars, slOf (blastS ts).1.cl, slOf (blastV ts).nm, slOf (blastV ts).ty, slOf (blastV ts).fi], .i 0] := rfl
  rw [hR]
  have hT := termsT_ok (F := F) (ts := ts) (A := (blastV ts).A) (s0 := ⟨(blastV ts).v, [[1]]⟩) ⟨by have := hVi.v1; show 0 ≤ (blastV ts).v; omega, by have := hVi.v2; show (blastV ts).v ≤ _; omega, Nat.le_of_ble_eq_true rfl⟩ hts (by have := hVi.v2; show (blastV ts).v ≤ 1000; omega) (at_ok hts hVi)
  rw [hb0]
  have c2 := encs_len (blastV ts).nm
  have c3 := encs_len (blastV ts).ty
  have c4 := encs_len (blastV ts).fi
  generalize blastV ts = q at *
  clear hV hbv hb0 hVi hR
  refine r_pubin 4 2 rfl rfl rfl c2.symm rfl rfl ?_
  refine r_pubin 4 3 rfl rfl rfl c3.symm rfl rfl ?_
  refine r_pubin 4 4 rfl rfl rfl c4.symm rfl rfl ?_
  have d2 : (slOf q.nm).clo = true := clo_slOf _
  have d3 : (slOf q.ty).clo = true := clo_slOf _
  have d4 : (slOf q.fi).clo = true := clo_slOf _
  (repeat' first | refine s_mv rfl ?_ | refine s_len_sl rfl ?_ | refine o_nil ?_ | refine o_op rfl ?_ | refine r_seq ?_ | refine r_region ?_ | refine r_block ?_ | refine r_exit rfl ?_)
  refine r_loop2 (fun (i gd : Nat) => ⟨[(0, slOf ts), (2, .ptr 0 gR 0), (3, .i 0), (9, .ptr 4 g0 0), (134, slOf ts), (135, .i ts.length), (136, .i i)], [.row gR [.i 0, .nil, .nil, .nil, .nil], .mapb gF (imap (mapI (foundM ts))), .mapb gA (imap (mapI q.A)), .mapb gS (seenD (termsT q.A ⟨q.v, [[1]]⟩ (ts.take i)).2), .row g0 [.sc (.int .i64 (termsT q.A ⟨q.v, [[1]]⟩ (ts.take i)).1.vars), .ref 5 gd 0 (termsT q.A ⟨q.v, [[1]]⟩ (ts.take i)).1.cl.length 1, slOf q.nm, slOf q.ty, slOf q.fi, .mp 2 gA, .mp 3 gS], .row gd (encs (termsT q.A ⟨q.v, [[1]]⟩ (ts.take i)).1.cl)]⟩) (fun i gd => i ≤ ts.length ∧ E.N < gd) (fun i _ => ts.length - i) 0 gc ?_ ⟨by omega, hgc⟩ ?_
  · exact Go.Av.al rfl
  intro i gd ⟨hi, hgd⟩
  obtain ⟨hTo, hTS, hTa, hTv⟩ := hT i
  (repeat' first | refine s_lss rfl rfl ?_ | refine o_nil ?_ | refine o_op rfl ?_ | refine r_seq ?_ | refine r_region ?_)
  refine r_cond_d rfl (fun h => ?_) (fun h => ?_)
  · have hi2 : i < ts.length := by omega
    have hti := hts.ty _ (List.getElem_mem hi2)
    have hci := hts.con _ (List.getElem_mem hi2)
    have hsz : sizeN ts[i] ≤ 100000 := Nat.le_trans (sizeL_mem (List.getElem_mem hi2)) hts.size
    have hAi := hTa _ (List.getElem_mem hi2)
    have hs1 := termsT_succ q.A ⟨q.v, [[1]]⟩ hi2
    generalize termsT q.A ⟨q.v, [[1]]⟩ (ts.take i) = x at *
    have hbi := bits_c (G := G) hG0 hG1 hti hci hsz x.1 x.2 hTo (by omega) hTS hAi
    have hbo := (bitsM_ok hti hci x.1 x.2 hTo (by omega) hTS hAi).2
    generalize bitsM q.A ts[i] x.1 x.2 = y at *
    have hyl : 0 < y.1.length := by have := hbo.len; omega
    have had := add_c (G := G) y.2.1 hbo.g.ok [y.1.getD 0 0] (by simp)
    clear hT hts hbo hTv hTa hTo hTS
    (repeat' first | refine s_mv rfl ?_ | refine s_load_whole rfl rfl (by first | assumption | exact Enc.len _ | rfl) ?_ | refine s_load_epe rfl ?_ | refine s_idx_sln rfl rfl (by first | assumption | omega | (simp; done) | (simp; omega)) ?_ | refine s_add rfl rfl (by omega) ?_ | refine s_call_bs5 rfl rfl hbi rfl (by assumption) (by assumption) (by assumption) (by repeat' first | exact ac_nil | refine ac_cons ?_ ?_ | exact clo_sc | exact clo_agg (Enc.clo _) | exact clo_agg (encs_clo _)) (clo_agg (encs_clo _)) (fun _ _ => ?_) | refine s_call_ba5 rfl rfl had rfl (by assumption) (by assumption) (by assumption) mapI_clo seenD_clo (by rfl) (by rfl) (by rfl) (by rfl) (by rfl) (by rfl) (fun _ _ => ?_) | refine s_store_whole rfl rfl rfl (by first | assumption | exact Enc.len _ | rfl) (by first | assumption | exact Enc.len _ | rfl) rfl ?_ | refine s_index_e rfl rfl (by decide) (by assumption) ?_ | refine s_bslice_own (cs := [.i (y.1.getD 0 0)]) rfl rfl (by decide) rfl rfl (fun _ _ => ?_) | refine s_alloc (fun _ _ => ?_) | refine o_nil ?_ | refine o_op rfl ?_ | refine o_op0 ?_ | refine r_seq ?_ | refine r_region ?_ | refine r_block ?_ | refine r_skip ?_)
    rename_i ge hge
    refine ⟨i + 1, ge, ⟨by omega, by omega⟩, by omega, ?_⟩
    rw [hs1]
    exact Go.Av.al rfl
  have hi3 : i = ts.length := by omega
  subst hi3
  rw [List.take_length] at *
  generalize termsT q.A ⟨q.v, [[1]]⟩ ts = x at *
  have hfu := full_c (G := G) x.1 hTo
  have c1 := encs_len x.1.cl
  clear h hT hTa hTv hTS hi
  cases hf : full x.1 with
  | true =>
    rw [hf] at hfu
    rw [if_pos rfl]
    (repeat' first | refine s_mv rfl ?_ | refine s_as rfl ?_ | refine s_call_bm5 rfl rfl hfu rfl (by assumption) (by assumption) (by assumption) mapI_clo seenD_clo ac_nil clo_sc (fun _ _ => ?_) | refine s_store_whole rfl rfl rfl (by first | assumption | exact Enc.len _ | rfl) (by first | assumption | exact Enc.len _ | rfl) rfl ?_ | refine s_build_s rfl rfl ?_ | refine o_nil ?_ | refine o_op rfl ?_ | refine o_op0 ?_ | refine r_seq ?_ | refine r_region ?_ | refine r_cond_t rfl ?_ | refine r_exit rfl ?_ | refine r_ret ?_)
    exact e_2 (Tryd.results12) (rv_cella (size := 5) rfl rfl rfl rfl) (rv_tmp rfl) (c_pure' rfl)
  | false =>
    rw [if_neg (by decide)]
    (repeat' first | refine s_mv rfl ?_ | refine s_call_bm5 rfl rfl hfu rfl (by assumption) (by assumption) (by assumption) mapI_clo seenD_clo ac_nil clo_sc (fun _ _ => ?_) | refine o_nil ?_ | refine o_op rfl ?_ | refine r_seq ?_ | refine r_region ?_ | refine r_exit rfl ?_)
    rw [hf]
    refine r_pubin 4 1 rfl rfl rfl c1.symm rfl rfl ?_
    (repeat' first | refine s_mv rfl ?_ | refine s_as rfl ?_ | refine s_load_rowa rfl rfl (by rfl) (by rfl) ?_ | refine s_store_whole rfl rfl rfl (by first | assumption | exact Enc.len _ | rfl) (by first | assumption | exact Enc.len _ | rfl) rfl ?_ | refine s_fld_ptr rfl rfl ?_ | refine s_nilck_ptr rfl rfl ?_ | refine o_nil ?_ | refine o_op rfl ?_ | refine o_op0 ?_ | refine r_seq ?_ | refine r_region ?_ | refine r_skip ?_ | refine r_cond_f rfl ?_ | refine r_ret ?_)
    exact e_2 (Tryd.results12) (rv_cella (size := 5) rfl rfl rfl rfl) (rv_tmp rfl) (c_pure' rfl)
end Go.Proofs
end
