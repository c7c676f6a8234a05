/-
  The evaluator is right: operations that leave the store alone.
-/
import Derived.Test.YtecbcpilcjmhlaaDoorEv1
namespace Go.Av
open Classical
set_option linter.unusedSimpArgs false
set_option linter.unusedVariables false

theorem nth_eq : ∀ (l : List DV) (i : Nat), nth l i = l[i]?
  | [], i => rfl
  | d :: r, 0 => rfl
  | d :: r, i + 1 => by rw [nth, nth_eq r i]; rfl
theorem ikEq_eq {a b : IntKind} (h : ikEq a b = true) : a = b := by cases a <;> cases b <;> first | rfl | cases h
theorem ltI_eq (a b : Int) : ltI a b = decide (a < b) := by
  cases a <;> cases b <;> simp only [ltI] <;> apply Bool.eq_iff_iff.2 <;> simp [Nat.blt_eq] <;> omega
theorem eqI_eq (a b : Int) : eqI a b = decide (a = b) := by
  cases a <;> cases b <;> simp only [eqI] <;> apply Bool.eq_iff_iff.2 <;> simp <;> omega
theorem toN_eq {a : Int} {n : Nat} (h : toN a = some n) : a = (n : Int) := by cases a <;> simp [toN] at h; subst h; rfl
theorem wrapF_eq (k : IntKind) (n : Int) : wrapF k n = k.wrap n := by
  unfold wrapF
  split
  · rename_i a
    split
    · rename_i h
      have := Nat.blt_eq ▸ h
      rw [wrap_i64]; exact ⟨by simp only [Int.ofNat_eq_natCast]; omega, by simp only [Int.ofNat_eq_natCast]; omega⟩
    · rfl
  · rename_i a
    split
    · rename_i h
      have := Nat.blt_eq ▸ h
      rw [wrap_i64]; exact ⟨by omega, by omega⟩
    · rfl
  · rfl
theorem evInt_ok {P : Program} {op : BinOp} {k : IntKind} {x y : Int} {z : Value} {t : TypeId} (h : evInt op k x y = some z) (h1 : op ≠ .shl) (h2 : op ≠ .shr) (w : World) : (binOp op t (.int k x) (.int k y)).run P w = .ok z w := by
  cases op <;> simp only [evInt, Option.some.injEq, reduceCtorEq] at h
  case add => subst h; simp [binOp, Op.intArith, wrapF_eq]
  case sub => subst h; simp [binOp, Op.intArith, wrapF_eq]
  case mul => subst h; simp [binOp, Op.intArith, wrapF_eq]
  case quo =>
    split at h
    · cases h
    · rename_i h0
      rw [eqI_eq] at h0
      cases h
      simp [binOp, Op.intDiv, of_decide_eq_false h0, wrapF_eq]
  case rem =>
    split at h
    · cases h
    · rename_i h0
      rw [eqI_eq] at h0
      cases h
      simp [binOp, Op.intDiv, of_decide_eq_false h0]
  case and => subst h; simp [binOp, Op.intBits, bitsOf]
  case or => subst h; simp [binOp, Op.intBits, bitsOf]
  case xor => subst h; simp [binOp, Op.intBits, bitsOf]
  case eql => subst h; simp [binOp, Op.intCmp, eqI_eq]; rfl
  case neq => subst h; simp [binOp, Op.intCmp, eqI_eq]; rfl
  case lss => subst h; simp [binOp, Op.intCmp, ltI_eq]
  case leq => subst h; simp only [binOp, Op.intCmp, ltI_eq, ne_eq, not_true_eq_false, if_false, Sem.run_pure]; congr 2; rw [← decide_not]; apply decide_eq_decide.2; omega
  case gtr => subst h; simp [binOp, Op.intCmp, ltI_eq]
  case geq => subst h; simp only [binOp, Op.intCmp, ltI_eq, ne_eq, not_true_eq_false, if_false, Sem.run_pure]; congr 2; rw [← decide_not]; apply decide_eq_decide.2; omega

theorem reD_self (d : DV) : reD d = some d := by cases d <;> rfl
theorem reL_self : ∀ l : List DV, reL l = some l
  | [] => rfl
  | d :: r => by simp only [reL, reD_self, reL_self r]
theorem forceD_self : ∀ l : List DV, forceD l = some l
  | [] => rfl
  | d :: r => by simp only [forceD, forceD_self r]
theorem partsD_self (f : Operand → DV) : ∀ l : List (Nat × Operand), partsD f l = some (l.map fun p => (p.1, f p.2))
  | [] => rfl
  | (i, x) :: r => by simp only [partsD, reD_self, partsD_self f r, List.map_cons]
section
variable {Γ : List Nat}
theorem dcells_ev {d d' : DV} {ds : List DV} (h : EV Γ d d') (k : dcells d = some ds) : ∃ ds', dcells d' = some ds' ∧ EVs Γ ds ds' := by
  cases d with
  | any => cases k
  | tup _ => cases k
  | sc v =>
    rw [h.sc_inv]
    refine ⟨ds, k, ?_⟩
    simp only [dcells] at k
    split at k
    · cases k; exact .cons (.sc' _) .nil
    · cases k
  | agg cs => obtain ⟨cs', rfl, h1⟩ := h.agg_inv; cases k; exact ⟨cs', rfl, h1⟩
  | sl es cs => obtain ⟨cs', rfl, h1⟩ := h.sl_inv; cases k; exact ⟨_, rfl, .cons h .nil⟩
  | ep cs => obtain ⟨cs', rfl, h1⟩ := h.ep_inv; cases k; exact ⟨_, rfl, .cons h .nil⟩
  | ref _ _ _ _ _ => obtain ⟨g, _, rfl⟩ := h.ref_inv; cases k; exact ⟨_, rfl, .cons h .nil⟩
  | ptr _ _ _ => obtain ⟨g, _, rfl⟩ := h.ptr_inv; cases k; exact ⟨_, rfl, .cons h .nil⟩
  | mp _ _ => obtain ⟨g, _, rfl⟩ := h.mp_inv; cases k; exact ⟨_, rfl, .cons h .nil⟩
  | fn f a b => obtain ⟨a', b', rfl, _, _⟩ := h.fn_inv; cases k; exact ⟨_, rfl, .cons h .nil⟩
theorem splice_ev : ∀ {cs cs' : List DV} {o : Nat} {ds ds' m : List DV}, EVs Γ cs cs' → EVs Γ ds ds' → spliceD cs o ds = some m → ∃ m', spliceD cs' o ds' = some m' ∧ EVs Γ m m'
  | cs, cs', o, [], ds', m, h, k, hm => by
    rw [k.nil_inv]
    have h1 : forceD cs = some m := by cases cs <;> cases o <;> simpa only [spliceD] using hm
    rw [forceD_self] at h1; cases h1
    refine ⟨cs', ?_, h⟩
    have := forceD_self cs'
    cases cs' <;> cases o <;> simpa only [spliceD] using this
  | [], cs', o, d :: ds, ds', m, h, k, hm => by simp [spliceD] at hm
  | c :: r, cs', 0, d :: ds, ds', m, h, k, hm => by
    obtain ⟨c', r', rfl, h1, h2⟩ := h.cons_inv
    obtain ⟨d', s', rfl, k1, k2⟩ := k.cons_inv
    simp only [spliceD] at hm ⊢
    split at hm
    · rename_i m1 hm1
      cases hm
      obtain ⟨m', e1, e2⟩ := splice_ev h2 k2 hm1
      rw [e1]
      exact ⟨_, rfl, .cons k1 e2⟩
    · cases hm
  | c :: r, cs', o + 1, d :: ds, ds', m, h, k, hm => by
    obtain ⟨c', r', rfl, h1, h2⟩ := h.cons_inv
    have k' := k
    obtain ⟨d', s', rfl, k1, k2⟩ := k.cons_inv
    simp only [spliceD] at hm ⊢
    split at hm
    · rename_i m1 hm1
      cases hm
      obtain ⟨m', e1, e2⟩ := splice_ev h2 k' hm1
      rw [e1]
      exact ⟨_, rfl, .cons h1 e2⟩
    · cases hm
theorem fill_ev {place : Nat → Option (Nat × Nat)} : ∀ {ps ps' : List (Nat × DV)} {cs cs' m : List DV}, ps.map (·.1) = ps'.map (·.1) → EVs Γ (ps.map (·.2)) (ps'.map (·.2)) → EVs Γ cs cs' → fillD place cs ps = some m → ∃ m', fillD place cs' ps' = some m' ∧ EVs Γ m m'
  | [], ps', cs, cs', m, h1, h2, h3, hm => by
    cases ps' with
    | cons _ _ => simp at h1
    | nil =>
      simp only [fillD, forceD_self, Option.some.injEq] at hm ⊢
      subst hm
      exact ⟨cs', rfl, h3⟩
  | (i, d) :: rest, ps', cs, cs', m, h1, h2, h3, hm => by
    cases ps' with
    | nil => simp at h1
    | cons p rest' =>
      obtain ⟨i', d'⟩ := p
      simp only [List.map_cons, List.cons.injEq] at h1
      obtain ⟨rfl, h1⟩ := h1
      have hd : EV Γ d d' := h2.get 0 d d' rfl rfl
      have h2' : EVs Γ (rest.map (·.2)) (rest'.map (·.2)) := ⟨by simpa using h2.len, fun j a b ha hb => h2.get (j + 1) a b (by simpa using ha) (by simpa using hb)⟩
      simp only [fillD] at hm ⊢
      split at hm
      · cases hm
      · rename_i off size hp
        split at hm
        · cases hm
        · rename_i ds hds
          obtain ⟨ds', hds', hdd⟩ := dcells_ev hd hds
          rw [hds']
          split at hm
          · cases hm
          · rename_i hb
            simp only [← hdd.len, hb]
            split at hm
            · cases hm
            · rename_i e r
              obtain ⟨e', r', rfl, he, hr⟩ := hdd.cons_inv
              split at hm
              · cases hm
              · rename_i cs1 hsp
                obtain ⟨cs1', g1, g2⟩ := splice_ev h3 (.cons he hr) hsp
                simp only [g1]
                exact fill_ev h1 h2' g2 hm
theorem cell_ev {ti : TI} {cs cs' : List DV} {off : Nat} {d : DV} (h : EVs Γ cs cs') (k : rCell ti cs off = some d) :
    (ti.agg = true ∧ ((cs'.drop off).take ti.sz).length = ti.sz ∧ EV Γ d (.agg ((cs'.drop off).take ti.sz))) ∨ (ti.agg = false ∧ ∃ d', cs'[off]? = some d' ∧ EV Γ d d') := by
  unfold rCell at k
  split at k
  · rename_i ha
    refine .inl ⟨ha, ?_⟩
    unfold subD at k
    split at k
    · rename_i hb
      cases k
      have := (h.drop off).take ti.sz
      exact ⟨by rw [← this.len]; exact Nat.eq_of_beq_eq_true hb, .agg' this⟩
    · cases k
  · rename_i ha
    rw [nth_eq] at k
    exact .inr ⟨ha, h.at k⟩
end

section
variable {P : Program} {G : Nat → DV} {B : Nat} {f fe : Operand → DV} {σ : List ABlk} {K : DV → List ABlk → Prop} {dst : Option Tmp} {type : TypeId} {pos : String} {after : Array Edge} {gd : Option (Nat × Bool)}

/-- An element of a list that is read alone. -/
theorem s_idx_slg {t e es : Nat} {d : TypeDesc} {g1 g2 : Bool} {z1 : Nat} {x y : Operand} {cs : List DV} {kd : IntKind} {i : Nat} [ht : TyI P t (.slice e) g1 z1] [he : TyI P e d g2 es]
    (hx : f x = .sl es cs) (hy : f y = .sc (.int kd (i : Nat))) (h1 : (i + 1) * es ≤ cs.length) (hes : 0 < es) (k : K (.ep ((cs.drop (i * es)).take es)) σ) : OpSem P G B ⟨dst, .indexAddr t x y, type, pos, after, gd⟩ f σ K := fun X ρ hS hσ _ _ hf => by
  subst hσ
  have e1 := hf x (by simp [Op.operands, Call.operands]); rw [hx] at e1
  have e2 := hf y (by simp [Op.operands, Call.operands]); rw [hy] at e2
  obtain ⟨a, len, cap, fv, e3, h2, h3, h4, h5, h6⟩ := e1.sl_inv
  have hpos : 0 < (i + 1) * es := Nat.mul_pos (by omega) hes
  have hl : i < len := by
    rcases Nat.lt_or_ge i len with h | h
    · exact h
    · exfalso
      have h7 : (len + 1) * es ≤ (i + 1) * es := Nat.mul_le_mul_right _ (by omega)
      have h8 : (len + 1) * es = len * es + es := Nat.add_one_mul _ _
      generalize (i + 1) * es = q at *
      generalize (len + 1) * es = r at *
      omega
  rcases h5 with h5 | ⟨b, o, rfl, h5⟩
  · subst h5; simp at h1; omega
  · simp only [execOp, e3, VRep.sc_eq e2, run_indexAt_sl ht he (show (0 : Int) ≤ (i : Int) by omega) (show (i : Int) < (len : Int) by omega), Sem.run_bind, Sem.run_pure, Result.andThen_ok]
    exact post_same hS (ep_take (ep_sub h4 h5 h6 _) es) k
/-- An element of an array. -/
theorem s_index_a {t e n sz : Nat} {d : TypeDesc} {g1 : Bool} {z1 : Nat} {x y : Operand} {cs : List DV} {kd : IntKind} {i : Nat} {e' : DV} [ht : TyI P t (.array n e) g1 z1] [he : TyI P e d false sz]
    (hx : f x = .agg cs) (hy : f y = .sc (.int kd (i : Nat))) (h1 : i < n) (hc : cs[i * sz]? = some e') (k : K e' σ) : OpSem P G B ⟨dst, .index t x y, type, pos, after, gd⟩ f σ K := fun X ρ hS hσ _ _ hf => by
  subst hσ
  have e1 := hf x (by simp [Op.operands, Call.operands]); rw [hx] at e1
  have e2 := hf y (by simp [Op.operands, Call.operands]); rw [hy] at e2
  obtain ⟨vs, e3, h2, h3, h4⟩ := e1.agg_inv
  have hlt : i * sz < vs.size := by rw [h2]; exact (List.getElem?_eq_some_iff.1 hc).1
  have hrun : (Instr.index t (.agg vs) (.int kd (i : Nat))).run P X.w = .ok (vs.getD (i * sz) undef) X.w := by
    simp [Instr.index, asIntOf, run_underlying ht.u, run_sizeOf he, h1, run_part he hlt]
  simp only [execOp, e3, VRep.sc_eq e2, hrun, Sem.run_bind, Sem.run_pure, Result.andThen_ok]
  exact post_same hS (h4 _ _ hc) k
theorem s_index_s {t : TypeId} {g1 : Bool} {z1 : Nat} {x y : Operand} {l : List UInt8} {kd : IntKind} {i : Nat} {b : UInt8} [ht : TyI P t .string g1 z1]
    (hx : f x = .sc (.string ⟨⟨l⟩⟩)) (hy : f y = .sc (.int kd (i : Nat))) (hc : l[i]? = some b) (k : K (.sc (.int .u8 b.toNat)) σ) : OpSem P G B ⟨dst, .index t x y, type, pos, after, gd⟩ f σ K := fun X ρ hS hσ _ _ hf => by
  subst hσ
  have e1 := hf x (by simp [Op.operands, Call.operands]); rw [hx] at e1
  have e2 := hf y (by simp [Op.operands, Call.operands]); rw [hy] at e2
  have hg : (⟨⟨l⟩⟩ : ByteArray)[i]? = some b := by
    have hlt := (List.getElem?_eq_some_iff.1 hc).1
    have hlt' : i < (⟨⟨l⟩⟩ : ByteArray).size := hlt
    rw [getElem?_pos (⟨⟨l⟩⟩ : ByteArray) i hlt']
    exact congrArg some (List.getElem?_eq_some_iff.1 hc).2
  have hrun : (Instr.index t (.string ⟨⟨l⟩⟩) (.int kd (i : Nat))).run P X.w = .ok (.int .u8 b.toNat) X.w := by
    simp [Instr.index, asIntOf, run_underlying ht.u, hg]
  simp only [execOp, VRep.sc_eq e1, VRep.sc_eq e2, hrun, Sem.run_bind, Sem.run_pure, Result.andThen_ok]
  exact post_same hS (.sc _) k
theorem s_max {ts : Array TypeId} {x y : Operand} {k1 : IntKind} {a b : Int} (hx : f x = .sc (.int k1 a)) (hy : f y = .sc (.int k1 b)) (k : K (.sc (.int k1 (if a < b then b else a))) σ) : OpSem P G B ⟨dst, .call ⟨.builtin .max, #[x, y], ts⟩, type, pos, after, gd⟩ f σ K := fun X ρ hS hσ _ _ hf => by
  subst hσ
  have e1 := hf x (by simp [Op.operands, Call.operands]); rw [hx] at e1
  have e2 := hf y (by simp [Op.operands, Call.operands]); rw [hy] at e2
  have : (Builtin.max_ ts type #[.int k1 a, .int k1 b]).run P X.w = .ok (.int k1 (if a < b then b else a)) X.w := by
    simp only [Builtin.max_, Builtin.max2, List.foldlM_cons, List.foldlM_nil, Sem.run_bind, Sem.run_pure, Result.andThen_ok]
  simp only [execOp, resolve, invoke, builtin, List.map_toArray, List.map_cons, List.map_nil, Sem.run_bind, Sem.run_pure, Result.andThen_ok, VRep.sc_eq e1, VRep.sc_eq e2, this]
  exact post_same hS (.sc _) k
/-- A part of a text. -/
theorem s_slice_s {t : TypeId} {g1 : Bool} {z1 : Nat} {x : Operand} {lo hi : Option Operand} {vlo vhi : Option Value} {s : List UInt8} {l h : Nat} [ht : TyI P t .string g1 z1] (hx : f x = .sc (.string ⟨⟨s⟩⟩))
    (hlo : optV f lo vlo) (hhi : optV f hi vhi) (hb : Bnd vlo vhi s.length l h) (hlh : l ≤ h) (hh : h ≤ s.length) (k : K (.sc (.string ⟨⟨(s.drop l).take (h - l)⟩⟩)) σ) : OpSem P G B ⟨dst, .slice t x lo hi none, type, pos, after, gd⟩ f σ K := fun X ρ hS hσ _ _ hf => by
  subst hσ
  have e1 := hf x (by simp [Op.operands]); rw [hx] at e1
  have e2 := optV_eq (fun y hy => hf y (by simp [Op.operands]; simp at hy; simp [hy])) hlo
  have e3 := optV_eq (fun y hy => hf y (by simp [Op.operands]; simp at hy; simp [hy])) hhi
  have hsz : (⟨⟨s⟩⟩ : ByteArray).size = s.length := rfl
  have hex : (⟨⟨s⟩⟩ : ByteArray).extract l h = ⟨⟨(s.drop l).take (h - l)⟩⟩ := by
    apply ByteArray.ext
    simp [ByteArray.data_extract]
  have hrun : (Instr.sliceAt t (.string ⟨⟨s⟩⟩) vlo vhi none).run P X.w = .ok (.string ⟨⟨(s.drop l).take (h - l)⟩⟩) X.w := by
    have h0 : (Instr.sliceAt t (.string ⟨⟨s⟩⟩) vlo vhi none).run P X.w = (Instr.slice t (.string ⟨⟨s⟩⟩) vlo vhi none).run P X.w := by simp [Instr.sliceAt, run_underlying ht.u]
    rw [h0, ← hex]
    cases hb with
    | lh h1 h2 h3 =>
      subst h1; subst h2
      simp [Instr.slice, run_underlying ht.u, Instr.sliceBounds, Instr.sliceBound, asIntOf, hsz, hh, h3, Int.ofNat_le]
    | h h1 =>
      subst h1
      simp [Instr.slice, run_underlying ht.u, Instr.sliceBounds, Instr.sliceBound, asIntOf, hsz, hh, Int.ofNat_le]
    | l h1 h2 =>
      subst h1
      simp [Instr.slice, run_underlying ht.u, Instr.sliceBounds, Instr.sliceBound, asIntOf, hsz, h2, Int.ofNat_le]
    | all =>
      rw [hex]
      simp [Instr.slice, run_underlying ht.u, Instr.sliceBounds, Instr.sliceBound, asIntOf, hsz]
  simp only [execOp, VRep.sc_eq e1, e2, e3, Option.map_none, hrun, Sem.run_bind, Sem.run_pure, Result.andThen_ok]
  exact post_same hS (.sc _) k
end
end Go.Av
