/-
  The operations over abstract values: fourth part (calls, closures, values built, results, ends).
-/
import Derived.Test.YtecbcpilcjmhlaaDoorAv5
namespace Go.Av
open Classical
set_option linter.unusedSimpArgs false
set_option linter.unusedVariables false

/-- A value with its head in sight. -/
def reD : DV → Option DV
  | .any => some .any
  | .sc v => some (.sc v)
  | .sl es cs => some (.sl es cs)
  | .ep cs => some (.ep cs)
  | .ref k g o l e => some (.ref k g o l e)
  | .ptr k g o => some (.ptr k g o)
  | .agg cs => some (.agg cs)
  | .tup cs => some (.tup cs)
  | .fn f a b => some (.fn f a b)
  | .mp k g => some (.mp k g)
theorem reD_eq {d e : DV} (h : reD d = some e) : e = d := by cases d <;> (simp only [reD, Option.some.injEq] at h; exact h.symm)
def reL : List DV → Option (List DV)
  | [] => some []
  | d :: r => match reD d, reL r with | some d', some r' => some (d' :: r') | _, _ => none
theorem reL_eq : ∀ {l m : List DV}, reL l = some m → m = l
  | [], m, h => by simp [reL] at h; exact h
  | d :: r, m, h => by
    simp only [reL] at h
    split at h
    · rename_i d' r' h1 h2; cases h; rw [reD_eq h1, reL_eq h2]
    · cases h

/-- A function with a body. -/
class FnOk (P : Program) (f : FuncId) : Prop where
  h : ((P.funcs[f]?).map fun fn => (fn.name == "runtime.NumGoroutine") || fn.body.isNone) = some false

section
variable {P : Program} {G : Nat → DV} {B : Nat} {f : Operand → DV} {σ : List ABlk} {K : DV → List ABlk → Prop} {dst : Option Tmp} {type : TypeId} {pos : String} {after : Array Edge} {gd : Option (Nat × Bool)}
variable {α : Type} [Enc α]

theorem s_mv {x : Operand} {d : DV} (h : reD (f x) = some d) (k : K d σ) : OpSem P G B ⟨dst, .move x, type, pos, after, gd⟩ f σ K := s_move (by rw [← reD_eq h]; exact k)
theorem s_as {x : Operand} {d : DV} (h : reD (f x) = some d) (k : K d σ) : OpSem P G B ⟨dst, .assign x, type, pos, after, gd⟩ f σ K := s_assign (by rw [← reD_eq h]; exact k)
theorem s_pt {c x y : Operand} {d : DV} (hc : f c = .sc (.bool true)) (h : reD (f x) = some d) (k : K d σ) : OpSem P G B ⟨dst, .pick c x y, type, pos, after, gd⟩ f σ K := s_pick_t hc (reD_eq h).symm k
theorem s_pf {c x y : Operand} {d : DV} (hc : f c = .sc (.bool false)) (h : reD (f y) = some d) (k : K d σ) : OpSem P G B ⟨dst, .pick c x y, type, pos, after, gd⟩ f σ K := s_pick_f hc (reD_eq h).symm k

theorem run_callFunc {fid : FuncId} (h : FnOk P fid) (args : Array Value) (w : World) : (callFunc fid args).run P w = .ok (.enter fid args) w := by
  have h := h.h
  cases hf : P.funcs[fid]? with
  | none => simp [hf] at h
  | some fn =>
    simp [hf] at h
    obtain ⟨h1, h2⟩ := h
    unfold callFunc
    simp only [Sem.run_bind, run_program, Result.andThen_ok, hf]
    have h1' : (fn.name == "runtime.NumGoroutine") = false := by simpa using h1
    have h2' : fn.body.isNone = false := by cases hb : fn.body with | none => simp [hb] at h2 | some _ => rfl
    simp only [h1', h2', Bool.false_eq_true, if_false, Sem.run_pure]

theorem map_reps {L : Lay} {ρ : Operand → Value} (xs : Array Operand) (hf : ∀ x ∈ xs, VRep L (f x) (ρ x)) : VReps L (xs.toList.map f) (xs.map ρ) := by
  refine ⟨by simp, fun j d hj => ?_⟩
  rw [List.getElem?_map] at hj
  cases hx : xs.toList[j]? with
  | none => simp [hx] at hj
  | some x =>
    simp [hx] at hj; subst hj
    have : (xs.map ρ).getD j undef = ρ x := by
      simp only [Array.getElem?_toList] at hx
      simp [Array.getD_eq_getD_getElem?, hx]
    rw [this]; exact hf x (by have := List.mem_of_getElem? hx; simpa using this)

theorem VReps.append {L : Lay} {ds es : List DV} {vs us : Array Value} (h : VReps L ds vs) (k : VReps L es us) : VReps L (ds ++ es) (vs ++ us) := by
  refine ⟨by simp [h.1, k.1], fun j d hj => ?_⟩
  rw [List.getElem?_append] at hj
  have h1 := h.1
  split at hj
  · rename_i hlt
    have := h.2 j d hj
    simpa [Array.getD_eq_getD_getElem?, Array.getElem?_append, h1, hlt] using this
  · rename_i hge
    have := k.2 _ d hj
    simpa [Array.getD_eq_getD_getElem?, Array.getElem?_append, h1, hge] using this

/-- A call of a function value. -/
theorem s_callv {x : Operand} {args : Array Operand} {ts : Array TypeId} {fid : FuncId} {first cap ds : List DV} [hfn : FnOk P fid] (hx : f x = .fn (.func fid) first cap) (hds : reL (first ++ args.toList.map f ++ cap) = some ds)
    (h : ACalls P G B fid ds σ K) : OpSem P G B ⟨dst, .call ⟨.value x, args, ts⟩, type, pos, after, gd⟩ f σ K := fun X ρ hS hσ hB hG hf => by
  have e1 := hf x (by simp [Op.operands, Call.operands]); rw [hx] at e1
  cases hv : ρ x with
  | func fn fs cs =>
    rw [hv] at e1
    cases e1 with | fn _ _ _ _ _ h1 h2 h3 h4 =>
    simp only [execOp, resolve, hv, Deferred.ofValue, Sem.run_bind, Sem.run_pure, Result.andThen_ok, invoke, run_callFunc hfn]
    refine ⟨rfl, h X _ hS hσ hB hG ?_⟩
    rw [reL_eq hds]
    exact VReps.append (VReps.append ⟨h1, h3⟩ (map_reps args fun x hx => hf x (by simp [Op.operands, Call.operands, hx]))) ⟨h2, h4⟩
  | _ => rw [hv] at e1; cases e1

theorem s_call {args : Array Operand} {ts : Array TypeId} {fid : FuncId} {ds : List DV} [hfn : FnOk P fid] (hx : f (.func fid) = .fn (.func fid) [] []) (hds : reL (args.toList.map f) = some ds)
    (h : ACalls P G B fid ds σ K) : OpSem P G B ⟨dst, .call ⟨.value (.func fid), args, ts⟩, type, pos, after, gd⟩ f σ K := s_callv hx (by simpa using hds) h

theorem s_extract {x : Operand} {i : Nat} {vs : List DV} {d e : DV} (hx : f x = .tup vs) (hi : vs[i]? = some e) (hd : reD e = some d) (k : K d σ) : OpSem P G B ⟨dst, .extract x i, type, pos, after, gd⟩ f σ K := fun X ρ hS hσ _ _ hf => by
  subst hσ
  have e1 := hf x (by simp [Op.operands, Call.operands]); rw [hx] at e1
  cases hv : ρ x with
  | tuple us =>
    rw [hv] at e1
    cases e1 with | tup _ _ h1 h2 =>
    have hlt : i < us.size := by rw [h1]; exact (List.getElem?_eq_some_iff.1 hi).1
    have h3 := h2 i e hi
    have h4 : us[i]? = some (us.getD i undef) := by simp [Array.getD_eq_getD_getElem?, hlt]
    simp only [execOp, hv, Instr.extract, h4, Sem.run_bind, Sem.run_pure, Result.andThen_ok]
    rw [reD_eq hd] at k
    exact post_same hS h3 k
  | _ => rw [hv] at e1; cases e1

theorem s_makeFunc {fn : Fn} {first cap : Array Operand} {ds es : List DV} (h1 : reL (first.toList.map f) = some ds) (h2 : reL (cap.toList.map f) = some es) (k : K (.fn fn ds es) σ) : OpSem P G B ⟨dst, .makeFunc fn first cap, type, pos, after, gd⟩ f σ K := fun X ρ hS hσ _ _ hf => by
  subst hσ
  simp only [execOp, Instr.makeFunc, Sem.run_bind, Sem.run_pure, Result.andThen_ok]
  have r1 := map_reps first fun x hx => hf x (by simp [Op.operands, hx])
  have r2 := map_reps cap fun x hx => hf x (by simp [Op.operands, hx])
  rw [← reL_eq h1] at r1
  rw [← reL_eq h2] at r2
  exact post_same hS (.fn _ _ _ _ _ r1.1 r2.1 r1.2 r2.2) k

/-- A check against nil. -/
theorem s_nilck_ptr {x : Operand} {m g off : Nat} {cs : List DV} (hx : f x = .ptr m g off) (hm : σ[m]? = some (.row g cs)) (k : K (.ptr m g off) σ) : OpSem P G B ⟨dst, .nilCheck x, type, pos, after, gd⟩ f σ K := fun X ρ hS hσ _ _ hf => by
  subst hσ
  have e1 := hf x (by simp [Op.operands, Call.operands]); rw [hx] at e1
  obtain ⟨b, n, _, h⟩ := e1.ptr_inv hm
  simp only [execOp, h, Sem.run_pure]
  rw [h] at e1
  exact post_same hS e1 k
theorem s_nilck_ep {x : Operand} {cs : List DV} (hx : f x = .ep cs) (k : K (.ep cs) σ) : OpSem P G B ⟨dst, .nilCheck x, type, pos, after, gd⟩ f σ K := fun X ρ hS hσ _ _ hf => by
  subst hσ
  have e1 := hf x (by simp [Op.operands, Call.operands]); rw [hx] at e1
  obtain ⟨b, o, fv, h, _⟩ := e1.ep_inv
  simp only [execOp, h, Sem.run_pure]
  rw [h] at e1
  exact post_same hS e1 k
theorem s_nilck_fn {x : Operand} {fid : FuncId} {a c : List DV} (hx : f x = .fn (.func fid) a c) (k : K (.fn (.func fid) a c) σ) : OpSem P G B ⟨dst, .nilCheck x, type, pos, after, gd⟩ f σ K := fun X ρ hS hσ _ _ hf => by
  subst hσ
  have e1 := hf x (by simp [Op.operands, Call.operands]); rw [hx] at e1
  cases hv : ρ x with
  | func fn fs cs =>
    rw [hv] at e1
    have e2 := e1
    cases e1
    simp only [execOp, hv, Sem.run_pure]
    exact post_same hS e2 k
  | _ => rw [hv] at e1; cases e1

/-! Results. -/

def rvSem (tmps : Array Value) (r : ResultVar) : Sem Value := match r with | .tmp t => pure (tmps.getD t undef) | .cell a t => do loadVar t (← asAddr (tmps.getD a undef))
theorem results_eq {fn : Func} {tmps : Array Value} : results fn tmps = (do let vs ← fn.results.mapM (rvSem tmps); pure (if h : vs.size = 1 then vs[0] else .tuple vs)) := by
  unfold results
  congr 1

/-- What a result variable holds at the end. -/
def RV (P : Program) (st : ASt) (r : ResultVar) (d : DV) : Prop := ∀ (X : AX) (tmps : Array Value), Sto X → X.σ = st.σ → (∀ i, VRep X.lay (look st.t i) (tmps.getD i undef)) →
  ∃ v, (rvSem tmps r).run P X.w = .ok v X.w ∧ VRep X.lay d v

theorem rv_tmp {st : ASt} {t : Tmp} {d : DV} (h : reD (look st.t t) = some d) : RV P st (.tmp t) d := fun X tmps _ _ hf => ⟨_, rfl, by rw [reD_eq h]; exact hf t⟩
theorem rv_cell {st : ASt} {a : Tmp} {t : TypeId} {td : TypeDesc} {size m g off : Nat} {cs : List DV} {d : DV} [ht : TyI P t td false size] (h : look st.t a = .ptr m g off) (hm : st.σ[m]? = some (.row g cs)) (hd : cs[off]? = some d) : RV P st (.cell a t) d := fun X tmps hS hσ hf => by
  rw [← hσ] at hm
  have e1 := hf a; rw [h] at e1
  obtain ⟨b, n, hρ, e2⟩ := e1.ptr_inv hm
  obtain ⟨v, h1, h2, _⟩ := row_cell hS hm hρ hd
  have hl := run_loadAt_one ht h1
  simp only [Instr.loadAt, Instr.sureAddr, Sem.run_bind, Sem.run_pure, Result.andThen_ok] at hl
  exact ⟨v, by simp only [rvSem, e2, asAddr, Sem.run_bind, Sem.run_pure, Result.andThen_ok, hl], h2⟩
theorem rv_cella {st : ASt} {a : Tmp} {t : TypeId} {td : TypeDesc} {size m g off : Nat} {cs ds : List DV} [ht : TyI P t td true size] (h : look st.t a = .ptr m g off) (hm : st.σ[m]? = some (.row g cs)) (hd : partD cs off size = some ds) (hl : ds.length = size) : RV P st (.cell a t) (.agg ds) := fun X tmps hS hσ hf => by
  rw [← hσ] at hm
  have e1 := hf a; rw [h] at e1
  obtain ⟨b, n, hρ, e2⟩ := e1.ptr_inv hm
  obtain ⟨arr, T, fr, h1, h2, h3, _, h4⟩ := hS.row hm hρ
  have hd := partD_spec hd
  have hle : size = 0 ∨ off + size ≤ cs.length := by rw [hd, List.length_take, List.length_drop] at hl; omega
  have hc : ∀ j, j < size → X.w.cell? ⟨b, off + j, none⟩ = some (arr.getD (off + j) undef) := fun j hj => by
    have : off + j < arr.size := by omega
    simp [World.cell?, h1, Array.getD_eq_getD_getElem?, this]
  have hll := run_loadAt_agg ht hc
  simp only [Instr.loadAt, Instr.sureAddr, Sem.run_bind, Sem.run_pure, Result.andThen_ok] at hll
  have hds : ∀ j d, ds[j]? = some d → cs[off + j]? = some d := fun j d hj => by
    rw [hd, List.getElem?_take] at hj
    split at hj
    · rwa [List.getElem?_drop] at hj
    · cases hj
  refine ⟨_, by simp only [rvSem, e2, asAddr, Sem.run_bind, Sem.run_pure, Result.andThen_ok, hll], agg_range hl (fun d hdm => ?_) fun j d hj => (h4 _ _ (hds j d hj)).2⟩
  obtain ⟨j, hj⟩ := List.mem_iff_getElem?.1 hdm
  exact (h4 _ _ (hds j d hj)).1

/-- What is handed back, and the store that is left. -/
def AClose (E : AX) (R : DV → List ABlk → Prop) (d : DV) (σ : List ABlk) : Prop := ∀ (X : AX) (v : Value), X.σ = σ → Sto X → WExt E X → VRep X.lay d v → APost E R v X.w

variable {E : AX} {n : Nat} {R : DV → List ABlk → Prop} {st : ASt} {fn : Func}

theorem e_0 (hr : fn.results = #[]) (k : AClose E R (.tup []) st.σ) : AEnd P fn G E n R st := fun a w hrel => by
  obtain ⟨X, h1, h2, h3, h4, h5, h6, h7, h8⟩ := hrel
  subst h1
  exact ⟨.tuple #[], by simp [results_eq, hr], k X _ h2 h3 h4 (.tup _ _ rfl fun j d hj => by simp at hj)⟩
theorem e_1 {r : ResultVar} {d : DV} (hr : fn.results = #[r]) (h : RV P st r d) (k : AClose E R d st.σ) : AEnd P fn G E n R st := fun a w hrel => by
  obtain ⟨X, h1, h2, h3, h4, h5, h6, h7, h8⟩ := hrel
  subst h1
  obtain ⟨v, g1, g2⟩ := h X a.tmps h3 h2 h8
  refine ⟨v, ?_, k X v h2 h3 h4 g2⟩
  simp [results_eq, hr, g1]
theorem e_2 {r1 r2 : ResultVar} {d1 d2 : DV} (hr : fn.results = #[r1, r2]) (h1 : RV P st r1 d1) (h2 : RV P st r2 d2) (k : AClose E R (.tup [d1, d2]) st.σ) : AEnd P fn G E n R st := fun a w hrel => by
  obtain ⟨X, e1, e2, e3, e4, e5, e6, e7, e8⟩ := hrel
  subst e1
  obtain ⟨v1, g1, g1'⟩ := h1 X a.tmps e3 e2 e8
  obtain ⟨v2, g2, g2'⟩ := h2 X a.tmps e3 e2 e8
  refine ⟨.tuple #[v1, v2], ?_, k X _ e2 e3 e4 (.tup _ _ rfl fun j d hj => ?_)⟩
  · simp [results_eq, hr, g1, g2]
  · match j, hj with
    | 0, hj => simp at hj; subst hj; exact g1'
    | 1, hj => simp at hj; subst hj; exact g2'
theorem e_3 {r1 r2 r3 : ResultVar} {d1 d2 d3 : DV} (hr : fn.results = #[r1, r2, r3]) (h1 : RV P st r1 d1) (h2 : RV P st r2 d2) (h3 : RV P st r3 d3) (k : AClose E R (.tup [d1, d2, d3]) st.σ) : AEnd P fn G E n R st := fun a w hrel => by
  obtain ⟨X, e1, e2, e3, e4, e5, e6, e7, e8⟩ := hrel
  subst e1
  obtain ⟨v1, g1, g1'⟩ := h1 X a.tmps e3 e2 e8
  obtain ⟨v2, g2, g2'⟩ := h2 X a.tmps e3 e2 e8
  obtain ⟨v3, g3, g3'⟩ := h3 X a.tmps e3 e2 e8
  refine ⟨.tuple #[v1, v2, v3], ?_, k X _ e2 e3 e4 (.tup _ _ rfl fun j d hj => ?_)⟩
  · simp [results_eq, hr, g1, g2, g3]
  · match j, hj with
    | 0, hj => simp at hj; subst hj; exact g1'
    | 1, hj => simp at hj; subst hj; exact g2'
    | 2, hj => simp at hj; subst hj; exact g3'

/-- As it is; what lies behind the store's first part is let go. -/
theorem c_drop {d : DV} {σ r : List ABlk} (h : R d σ) : AClose E R d (σ ++ r) := fun X v hσ hS hE hv => by
  have hget : ∀ (k : Nat) (B : ABlk), σ[k]? = some B → X.σ[k]? = some B := fun k B hB => by
    rw [hσ, List.getElem?_append_left]
    · exact hB
    · exact (List.getElem?_eq_some_iff.1 hB).1
  have hW : WExt X { X with σ := σ } := WExt.shrink fun k g hg => by
    cases hB : σ[k]? with
    | none => simp [hB] at hg
    | some B => simpa [AX.live, hget k B hB, hB] using hg
  exact ⟨{ X with σ := σ }, rfl, hS.shrink fun k B hB => .inr (hget k B hB), hE.trans hW, d, hv.ext hW, h⟩
theorem c_same {d : DV} {σ : List ABlk} (h : R d σ) : AClose E R d σ := by simpa using c_drop (r := []) (E := E) h
theorem c_nil {d : DV} {σ : List ABlk} (h : R d []) : AClose E R d σ := c_drop (σ := []) (r := σ) h

/-- A row of the store is handed back as a list that nobody writes any more. -/
theorem pub_rep {X : AX} (hS : Sto X) {k g len es : Nat} {cs : List DV} {v : Value} (hσ : X.σ[k]? = some (.row g cs)) (hl : len * es = cs.length) (h : VRep X.lay (.ref k g 0 len es) v) : VRep { X with σ := X.σ.set k .gone }.lay (.sl es cs) v := by
  have hW : WExt X { X with σ := X.σ.set k .gone } := WExt.shrink fun i g' hg => by
    rw [List.getElem?_set] at hg
    split at hg
    · split at hg <;> simp [ABlk.gen?] at hg
    · exact hg
  obtain ⟨a, cap, rfl, h1, h2⟩ := h.ref_slice hσ
  by_cases h0 : len = 0
  · subst h0
    have : cs = [] := List.eq_nil_of_length_eq_zero (by omega)
    subst this
    exact .sl _ _ _ _ _ (fun _ => undef) (by simp) h1 (fun d hd => by simp at hd) (.inl rfl) (fun j d hj => by simp at hj)
  · obtain ⟨b, n, hρ, rfl, h3⟩ := h2 (by omega)
    obtain ⟨arr, T, fr, g1, g2, g3, g4, g5⟩ := hS.row hσ hρ
    refine .sl _ _ _ _ _ (fun j => arr.getD j undef) hl h1 (fun d hd => ?_) (.inr ⟨b, 0, rfl, fun j hj => ?_⟩) (fun j d hj => (g5 j d hj).2.ext hW)
    · obtain ⟨j, hj⟩ := List.mem_iff_getElem?.1 hd
      exact (g5 j d hj).1
    · refine AX.imm_mk (fun ⟨i, g', n', hl', hr'⟩ => ?_) (fun hh => hS.hid b ⟨k, g, n, live_row hσ, hρ⟩ hh) ?_
      · have hli : X.live i g' ∧ i ≠ k := by
          have hl' : ((X.σ.set k .gone)[i]?).bind ABlk.gen? = some g' := hl'
          rw [List.getElem?_set] at hl'
          split at hl'
          · split at hl' <;> simp [ABlk.gen?] at hl'
          · rename_i hne; exact ⟨hl', Ne.symm hne⟩
        exact hli.2 (hS.inj i k g' g b n' n hli.1 (live_row hσ) hr' hρ)
      · have : 0 + j < arr.size := by omega
        simp only [Nat.zero_add] at this ⊢
        simp [World.cell?, g1, Array.getD_eq_getD_getElem?, this]

theorem shrink_gone {X : AX} (k : Nat) : WExt X { X with σ := X.σ.set k .gone } := WExt.shrink fun i g' hg => by
  rw [List.getElem?_set] at hg
  split at hg
  · split at hg <;> simp [ABlk.gen?] at hg
  · exact hg
theorem sto_gone {X : AX} (hS : Sto X) (k : Nat) : Sto { X with σ := X.σ.set k .gone } := hS.shrink fun i B hB => by
  rw [List.getElem?_set] at hB
  split at hB
  · split at hB
    · exact .inl (Option.some.inj hB).symm
    · cases hB
  · exact .inr hB

theorem c_pub {σ : List ABlk} {k g len es : Nat} {cs : List DV} (hk : σ[k]? = some (.row g cs)) (hl : len * es = cs.length) (h : AClose E R (.sl es cs) (σ.set k .gone)) : AClose E R (.ref k g 0 len es) σ := fun X v hσ hS hE hv => by
  subst hσ
  exact h { X with σ := X.σ.set k .gone } v rfl (sto_gone hS k) (hE.trans (shrink_gone k)) (pub_rep hS hk hl hv)

/-- A row of the store is handed back to be written further: in the place behind what was there at the start. -/
theorem c_own {σ : List ABlk} {m k g off len es : Nat} {cs : List DV} (hm : m ≤ k) (hk : σ[k]? = some (.row g cs)) (h : ∀ g', E.N < g' → R (.ref m g' off len es) (σ.take m ++ [.row g' cs])) : AClose E R (.ref k g off len es) σ := fun X v hσ hS hE hv => by
  subst hσ
  have hmk : m < X.σ.length := Nat.lt_of_le_of_lt hm (List.getElem?_eq_some_iff.1 hk).1
  have hlen : (X.σ.take m).length = m := by rw [List.length_take]; omega
  let X' : AX := { w := X.w, ρ := fun i => if i = m then X.ρ k else X.ρ i, σ := X.σ.take m ++ [.row (X.N + 1) cs], N := X.N + 1, hid := X.hid }
  have hlive : ∀ i g', X'.live i g' ↔ (i < m ∧ X.live i g') ∨ (i = m ∧ g' = X.N + 1) := fun i g' => by
    simp only [AX.live, X', List.getElem?_append, hlen]
    by_cases h1 : i < m
    · rw [if_pos h1, List.getElem?_take, if_pos h1]; simp [h1]; omega
    · rw [if_neg h1]
      by_cases h2 : i = m
      · subst h2; simp [ABlk.gen?]; exact eq_comm
      · rw [List.getElem?_eq_none (by simp; omega)]; simp [h1, h2]
  have hρ' : ∀ i, i < m → X'.ρ i = X.ρ i := fun i hi => by simp only [X']; rw [if_neg (by omega)]
  have hρm : X'.ρ m = X.ρ k := by simp only [X', if_true]
  have hmut : ∀ b, X'.mut b → X.mut b := fun b ⟨i, g', n', hl, hr⟩ => by
    rcases (hlive i g').1 hl with ⟨h1, h2⟩ | ⟨h1, _⟩
    · rw [hρ' i h1] at hr; exact ⟨i, g', n', h2, hr⟩
    · rw [h1, hρm] at hr; exact ⟨k, g, n', live_row hk, hr⟩
  have hle : X.lay.le X'.lay := {
    imm := fun b o u hu => by
      obtain ⟨_, h2, h3, h4⟩ := AX.imm_lt hu
      exact AX.imm_mk (fun hh => h2 (hmut b hh)) h3 h4
    top := Nat.le_succ _
    row := fun i g' ob hg hr => by
      obtain ⟨h1, h2⟩ := AX.row_of hr
      rcases (hlive i g').1 h1 with ⟨h3, h4⟩ | ⟨_, h4⟩
      · rw [AX.row_mk h4, ← hρ' i h3, h2]
      · have hg : g' ≤ X.N := hg
        omega }
  have hS' : Sto X' := {
    inj := fun i i' g1 g1' b n n' hl hl' hr hr' => by
      rcases (hlive i g1).1 hl with ⟨h1, h2⟩ | ⟨h1, h2⟩ <;> rcases (hlive i' g1').1 hl' with ⟨h1', h2'⟩ | ⟨h1', h2'⟩
      · rw [hρ' i h1] at hr; rw [hρ' i' h1'] at hr'; exact hS.inj i i' g1 g1' b n n' h2 h2' hr hr'
      · rw [hρ' i h1] at hr; rw [h1', hρm] at hr'; have := hS.inj i k g1 g b n n' h2 (live_row hk) hr hr'; omega
      · rw [hρ' i' h1'] at hr'; rw [h1, hρm] at hr; have := hS.inj i' k g1' g b n' n h2' (live_row hk) hr' hr; omega
      · rw [h1, h1']
    gen := fun i g' hl => by
      rcases (hlive i g').1 hl with ⟨h1, h2⟩ | ⟨h1, h2⟩
      · exact Nat.le_trans (hS.gen i g' h2) (Nat.le_succ _)
      · rw [h2]; exact Nat.le_refl _
    hid := fun b hb => hS.hid b (hmut b hb)
    hidlt := hS.hidlt
    holds := fun i B hB => by
      simp only [X', List.getElem?_append, hlen] at hB
      split at hB
      · rename_i h1
        rw [hρ' i h1]
        rw [List.getElem?_take, if_pos h1] at hB
        exact (hS.holds i B hB).mono hle fun _ _ _ => rfl
      · rename_i h1
        have h2 : i = m := by
          rcases Nat.lt_or_ge (i - m) 1 with h' | h'
          · omega
          · rw [List.getElem?_eq_none (by simpa using h')] at hB; cases hB
        subst h2
        simp at hB; subst hB
        rw [hρm]
        have := (hS.holds k _ hk).mono hle (w' := X.w) fun _ _ _ => rfl
        exact this }
  have hE' : WExt E X' := {
    hid := hE.hid
    top := Nat.le_trans hE.top (Nat.le_succ _)
    os := hE.os
    tape := hE.tape
    output := hE.output
    size := hE.size
    old := fun b hb hnm => ⟨(hE.old b hb hnm).1, fun hh => (hE.old b hb hnm).2 (hmut b hh)⟩
    rows := fun i g' hg hl => by
      rcases (hlive i g').1 hl with ⟨h1, h2⟩ | ⟨h1, h2⟩
      · rw [hρ' i h1]; exact hE.rows i g' hg h2
      · have := hE.top; omega }
  refine ⟨X', rfl, hS', hE', _, ?_, h (X.N + 1) (by have := hE.top; omega)⟩
  have hinv := hv.ref_inv hk
  cases hv with | ref _ _ _ _ _ a l c _ _ =>
  refine .ref _ _ _ _ _ _ _ _ (Nat.le_refl _) fun ob hob => ?_
  have hl : X'.live m (X.N + 1) := (hlive _ _).2 (.inr ⟨rfl, rfl⟩)
  rw [AX.row_mk hl, hρm] at hob
  rw [← Option.some.inj hob]
  exact hinv

end
end Go.Av
