/-
  The evaluator is right: all operations that leave the store alone, joined.
-/
import Derived.Test.YtecbcpilcjmhlaaDoorEv4
namespace Go.Av
open Classical
set_option linter.unusedSimpArgs false
set_option linter.unusedVariables false
section
variable {P : Program} {G : Nat → DV} {B : Nat} {f fe : Operand → DV} {σ : List ABlk} {K : DV → List ABlk → Prop} {dst : Option Tmp} {type : TypeId} {pos : String} {after : Array Edge} {gd : Option (Nat × Bool)} {Γ : List Nat} {T : Tab} {S : SS} {d : DV}

theorem rBin_ok (hT : TOk P T) {op : BinOp} {t t' : TypeId} {x y : Operand} (hx : EV Γ (fe x) (f x)) (hy : EV Γ (fe y) (f y)) (h : rBin T op t (fe x) (fe y) = some d) (hK : ∀ d', EV Γ d d' → K d' σ) : OpSem P G B ⟨dst, .binOp op t x y t', type, pos, after, gd⟩ f σ K := by
  unfold rBin at h
  split at h
  · rename_i ti hti
    obtain ⟨td, hty, hk⟩ := (hT.ty t ti hti).d
    have hg := hty.g
    split at h
    · rename_i hke
      rw [hke] at hk
      cases hk
      rw [← hg] at hty
      exact evBin_ok (fun _ => ⟨_, hty⟩) (fun e => by cases e) hx hy h hK
    · rename_i hke
      rw [hke] at hk
      cases hk
      rw [← hg] at hty
      exact evBin_ok (fun e => by cases e) (fun _ => ⟨_, hty⟩) hx hy h hK
    · rename_i e hke
      rw [hke] at hk
      cases hk
      exact evNil_ok hty hx hy h hK
    · exact evBin_ok (fun e => by cases e) (fun e => by cases e) hx hy h hK
  · cases h
theorem rUn_ok {op : UnOp} {t : TypeId} {x : Operand} (hx : EV Γ (fe x) (f x)) (h : rUn op (fe x) = some d) (hK : ∀ d', EV Γ d d' → K d' σ) : OpSem P G B ⟨dst, .unOp op t x, type, pos, after, gd⟩ f σ K := by
  unfold rUn at h
  split at h
  · rename_i b e
    split at h
    · cases h
      exact s_not (of_sc hx e) (hK _ (.sc' _))
    · cases h
  · rename_i k a e
    split at h
    · cases h
      rw [wrapF_eq] at hK
      exact s_negw (of_sc hx e) (hK _ (.sc' _))
    · cases h
  · cases h
theorem rConv_ok (hT : TOk P T) {s dt : TypeId} {x : Operand} (hx : EV Γ (fe x) (f x)) (h : rConv T s dt (fe x) = some d) (hK : ∀ d', EV Γ d d' → K d' σ) : OpSem P G B ⟨dst, .convert s dt x, type, pos, after, gd⟩ f σ K := by
  unfold rConv at h
  split at h
  · rename_i ts td hts htd
    obtain ⟨d1, hty1, _⟩ := (hT.ty _ _ hts).d
    obtain ⟨d2, hty2, hk⟩ := (hT.ty _ _ htd).d
    split at h
    · rename_i k a e
      split at h
      · rename_i k' hke
        rw [hke] at hk
        cases hk
        cases h
        rw [wrapF_eq] at hK
        exact s_conv (hs := hty1) (hd := hty2) (of_sc hx e) (hK _ (.sc' _))
      · cases h
    · cases h
  · cases h
theorem rExt_ok {x : Operand} {i : Nat} (hx : EV Γ (fe x) (f x)) (h : rExt (fe x) i = some d) (hK : ∀ d', EV Γ d d' → K d' σ) : OpSem P G B ⟨dst, .extract x i, type, pos, after, gd⟩ f σ K := by
  unfold rExt at h
  split at h
  · rename_i vs e
    rw [e] at hx
    obtain ⟨vs', hfx, hvs⟩ := hx.tup_inv
    rw [nth_eq] at h
    obtain ⟨d', h1, h2⟩ := hvs.at h
    exact s_extract hfx h1 (reD_self d') (hK _ h2)
  · cases h
theorem evs_map {xs : List Operand} (h : ∀ x ∈ xs, EV Γ (fe x) (f x)) : EVs Γ (xs.map fe) (xs.map f) := ⟨by simp, fun j a b h1 h2 => by
  rw [List.getElem?_map] at h1 h2
  cases hx : xs[j]? with
  | none => simp [hx] at h1
  | some x =>
    simp [hx] at h1 h2
    subst h1; subst h2
    exact h x (List.mem_of_getElem? hx)⟩
theorem rNil_ok (hS : ES Γ S σ) {x : Operand} (hx : EV Γ (fe x) (f x)) (h : rNil S.s (fe x) = some d) (hK : ∀ d', EV Γ d d' → K d' σ) : OpSem P G B ⟨dst, .nilCheck x, type, pos, after, gd⟩ f σ K := by
  unfold rNil at h
  split at h
  · rename_i k γ off e
    rw [e] at hx
    obtain ⟨g, hg, hfx⟩ := hx.ptr_inv
    obtain ⟨cs, hm, he⟩ := live_ev hS hg h
    exact s_nilck_ptr hfx hm (hK _ he)
  · rename_i cs e
    rw [e] at hx
    cases h
    obtain ⟨cs', hfx, hcs⟩ := hx.ep_inv
    exact s_nilck_ep hfx (hK _ (.ep' hcs))
  · rename_i fid a c e
    rw [e] at hx
    cases h
    have hx' := hx
    obtain ⟨a', c', hfx, h1, h2⟩ := hx.fn_inv
    rw [hfx] at hx'
    exact s_nilck_fn hfx (hK _ hx')
  · cases h
theorem rBuild_ok (hT : TOk P T) {t : TypeId} {ps : Array (Nat × Operand)} (hp : ∀ p ∈ ps.toList, EV Γ (fe p.2) (f p.2)) (h : rBuild T t (ps.toList.map fun p => (p.1, fe p.2)) = some d) (hK : ∀ d', EV Γ d d' → K d' σ) : OpSem P G B ⟨dst, .build t ps, type, pos, after, gd⟩ f σ K := by
  obtain ⟨ps⟩ := ps
  have hp1 : (ps.map fun p => (p.1, fe p.2)).map (·.1) = (ps.map fun p => (p.1, f p.2)).map (·.1) := by simp
  have hp2 : EVs Γ ((ps.map fun p => (p.1, fe p.2)).map (·.2)) ((ps.map fun p => (p.1, f p.2)).map (·.2)) := by
    have := evs_map (Γ := Γ) (fe := fe) (f := f) (xs := ps.map (·.2)) fun x hx => by
      obtain ⟨p, hp', rfl⟩ := List.mem_map.1 hx
      exact hp p hp'
    simpa [Function.comp_def] using this
  unfold rBuild at h
  split at h
  · rename_i ti hti
    obtain ⟨td, hty, hk⟩ := (hT.ty t ti hti).d
    have hz := (hT.ty t ti hti).z
    split at h
    · rename_i fl hke
      rw [hke] at hk
      split at h
      · rename_i cs hcs
        cases h
        obtain ⟨cs', h1, h2⟩ := fill_ev hp1 hp2 (.sc ti.zs) hcs
        have hpl : (fun i => (fl[i]?).map fun (p : Nat × Nat × Bool) => (p.1, p.2.1)) = (fun (i : Nat) => (fl.map fun p => (p.1, p.2.1))[i]?) := by
          funext i; rw [List.getElem?_map]
        rw [hpl] at h1
        exact s_build_s (ht := hk.1) (hz := hz) (partsD_self f ps) h1 (hK _ (.agg' h2))
      · cases h
    · rename_i n e hke
      rw [hke] at hk
      cases hk
      split at h
      · rename_i te hte
        obtain ⟨te', hte', _⟩ := (hT.ty e te hte).d
        split at h
        · rename_i cs hcs
          cases h
          obtain ⟨cs', h1, h2⟩ := fill_ev hp1 hp2 (.sc ti.zs) hcs
          exact s_build_a (ht := hty) (he := hte') (hz := hz) (partsD_self f ps) h1 (hK _ (.agg' h2))
        · cases h
      · cases h
    · cases h
  · cases h
theorem rLook_ok (hT : TOk P T) (hS : ES Γ S σ) {t : TypeId} {m ix : Operand} {ok : Bool} (hm : EV Γ (fe m) (f m)) (hi : EV Γ (fe ix) (f ix)) (h : rLook T S.s t (fe m) (fe ix) ok = some d) (hK : ∀ d', EV Γ d d' → K d' σ) : OpSem P G B ⟨dst, .lookup t m ix ok, type, pos, after, gd⟩ f σ K := by
  unfold rLook at h
  split at h
  · rename_i ti hti
    obtain ⟨td, hty, hk⟩ := (hT.ty t ti hti).d
    split at h
    · rename_i kt et hke
      rw [hke] at hk
      cases hk
      split at h
      · rename_i k γ x e1 e2
        rw [e1] at hm
        obtain ⟨g, hg, hfm⟩ := hm.mp_inv
        split at h
        · rename_i l te hl hko hte
          obtain ⟨l', hσk, h1, h2⟩ := hS.mapOf hl hg
          split at h
          · rename_i r z hr hz
            cases h
            exact s_lookup_g hT (ht := hty) hko hfm hσk (of_sc hi e2) h1 h2 hr hte hz hK
          · cases h
        · cases h
      · cases h
    · cases h
  · cases h
theorem bndOf_ok {x : Option Operand} {n : Option Nat} (hx : ∀ y, x = some y → EV Γ (fe y) (f y)) (h : bndOf (x.map fe) = some n) : ∃ v, optV f x v ∧ ((n = none ∧ v = none) ∨ ∃ k i, n = some i ∧ v = some (.int k (i : Nat))) := by
  cases x with
  | none => cases h; exact ⟨none, trivial, .inl ⟨rfl, rfl⟩⟩
  | some y =>
    simp only [Option.map_some, bndOf] at h
    split at h
    · rename_i i hi
      cases h
      obtain ⟨k, hk⟩ := idxOf_ok (hx y rfl) hi
      exact ⟨some (.int k (i : Nat)), hk, .inr ⟨k, i, rfl, rfl⟩⟩
    · cases h
theorem bnd_mk {l h : Option Nat} {vl vh : Option Value} {len : Nat} (hl : (l = none ∧ vl = none) ∨ ∃ k i, l = some i ∧ vl = some (.int k (i : Nat))) (hh : (h = none ∧ vh = none) ∨ ∃ k i, h = some i ∧ vh = some (.int k (i : Nat)))
    (h1 : l.getD 0 ≤ h.getD len) (h2 : h.getD len ≤ len) : Bnd vl vh len (l.getD 0) (h.getD len) := by
  rcases hl with ⟨rfl, rfl⟩ | ⟨k, i, rfl, rfl⟩ <;> rcases hh with ⟨rfl, rfl⟩ | ⟨k', j, rfl, rfl⟩
  · exact .all
  · exact .h rfl
  · exact .l rfl (by simpa using h1)
  · exact .lh rfl rfl (by simpa using h1)
theorem rSlice_ok (hT : TOk P T) (hS : ES Γ S σ) {t : TypeId} {x : Operand} {lo hi : Option Operand} (hx : EV Γ (fe x) (f x)) (hlo : ∀ y, lo = some y → EV Γ (fe y) (f y)) (hhi : ∀ y, hi = some y → EV Γ (fe y) (f y)) (h : rSlice T S.s t (fe x) (lo.map fe) (hi.map fe) = some d) (hK : ∀ d', EV Γ d d' → K d' σ) : OpSem P G B ⟨dst, .slice t x lo hi none, type, pos, after, gd⟩ f σ K := by
  unfold rSlice at h
  split at h
  · rename_i ti l hh hti hl hhh
    obtain ⟨td, hty, hk⟩ := (hT.ty t ti hti).d
    obtain ⟨vl, hvl, hl'⟩ := bndOf_ok hlo hl
    obtain ⟨vh, hvh, hh'⟩ := bndOf_ok hhi hhh
    unfold rSlice' at h
    split at h
    · rename_i e hke
      rw [hke] at hk
      cases hk
      split at h
      · rename_i te hte
        obtain ⟨te', hte', _⟩ := (hT.ty e te hte).d
        split at h
        · rename_i k γ off len es hex
          rw [hex] at hx
          obtain ⟨g, hg, hfx⟩ := hx.ref_inv
          split at h
          · rename_i cs hr hb1 hb2 hb3
            cases h
            obtain ⟨cs', hm, _⟩ := hS.rowOf hr hg
            have := Nat.eq_of_beq_eq_true hb3
            subst this
            have h1 := Nat.ble_eq.mp hb1
            have h2 := Nat.ble_eq.mp hb2
            exact s_slice_r (ht := hty) (he := hte') hfx hm hvl hvh (bnd_mk hl' hh' h1 h2) h1 h2 (hK _ (.ref _ _ _ _ _ _ hg))
          · cases h
        · rename_i es cs hex
          rw [hex] at hx
          obtain ⟨cs', hfx, hcs⟩ := hx.sl_inv
          split at h
          · rename_i hb1 hb2 hb3 hb4 hb5
            cases h
            have := Nat.eq_of_beq_eq_true hb3
            subst this
            have h1 := Nat.ble_eq.mp hb1
            have h2 := Nat.ble_eq.mp hb2
            exact s_slice_d (ht := hty) (he := hte') hfx (by rw [← hcs.len]; exact div_len hb5) (Nat.ble_eq.mp hb4) hvl hvh (bnd_mk hl' hh' h1 h2) h1 h2 (hK _ (.sl' ((hcs.drop _).take _)))
          · cases h
        · cases h
      · cases h
    · rename_i hke
      rw [hke] at hk
      cases hk
      split at h
      · rename_i b hex
        split at h
        · rename_i hb1 hb2
          cases h
          have h1 := Nat.ble_eq.mp hb1
          have h2 := Nat.ble_eq.mp hb2
          exact s_slice_s (ht := hty) (of_sc hx hex) hvl hvh (bnd_mk hl' hh' h1 h2) h1 h2 (hK _ (.sc' _))
        · cases h
      · cases h
    · cases h
  · cases h

theorem s_len_slg {t e es n : Nat} {g1 : Bool} {z1 : Nat} {x : Operand} {cs : List DV} [ht : TyI P t (.slice e) g1 z1] (hx : f x = .sl es cs) (h0 : 0 < es) (hl : cs.length = n * es) (k : K (.sc (.int .i64 (n : Nat))) σ) :
    OpSem P G B ⟨dst, .call ⟨.builtin .len, #[x], #[t]⟩, type, pos, after, gd⟩ f σ K :=
  s_len0 t x (fun X v hσ hv _ => by
    rw [hx] at hv
    obtain ⟨a, len, cap, f, rfl, h1, _⟩ := hv.sl_inv
    rw [run_len_sl ht.u]
    have : len = n := Nat.eq_of_mul_eq_mul_right h0 (by omega)
    rw [this]) k
theorem rBuiltin_ok (hT : TOk P T) (hS : ES Γ S σ) {b : Builtin} {xs : Array Operand} {ts : Array TypeId} (hx : ∀ x ∈ xs.toList, EV Γ (fe x) (f x)) (h : rBuiltin T S.s b (xs.toList.map fe) ts.toList = some d) (hK : ∀ d', EV Γ d d' → K d' σ) : OpSem P G B ⟨dst, .call ⟨.builtin b, xs, ts⟩, type, pos, after, gd⟩ f σ K := by
  obtain ⟨xs⟩ := xs
  obtain ⟨ts⟩ := ts
  unfold rBuiltin at h
  split at h
  · split at h
    · rename_i x' t hxs hts
      match xs, hxs with
      | [x], hxs =>
      match ts, hts with
      | [t'], hts =>
      cases hts
      cases hxs
      have hxx := hx x (by simp)
      split at h
      · rename_i ti hti
        obtain ⟨td, hty, hk⟩ := (hT.ty t ti hti).d
        unfold rLen' at h
        split at h
        · rename_i e hke
          rw [hke] at hk
          cases hk
          split at h
          · rename_i k γ off len es hex
            rw [hex] at hxx
            obtain ⟨g, hg, hfx⟩ := hxx.ref_inv
            split at h
            · rename_i cs hr
              cases h
              obtain ⟨cs', hm, _⟩ := hS.rowOf hr hg
              exact s_len_ref (ht := hty) hfx hm (hK _ (.sc' _))
            · cases h
          · rename_i n c hex
            cases h
            exact s_len_nil (ht := hty) (of_sc hxx hex) (hK _ (.sc' _))
          · rename_i es cs hex
            rw [hex] at hxx
            obtain ⟨cs', hfx, hcs⟩ := hxx.sl_inv
            split at h
            · rename_i hb1 hb2
              cases h
              exact s_len_slg (ht := hty) hfx (Nat.ble_eq.mp hb1) (by rw [← hcs.len]; exact div_len hb2) (hK _ (.sc' _))
            · cases h
          · cases h
        · rename_i hke
          rw [hke] at hk
          cases hk
          split at h
          · rename_i l hex
            cases h
            exact s_len_s (ht := hty) (of_sc hxx hex) (hK _ (.sc' _))
          · cases h
        · cases h
      · cases h
    · cases h
  · split at h
    · rename_i k a k' b hxs
      obtain ⟨x, y, rfl⟩ : ∃ x y, xs = [x, y] := by
        cases xs with
        | nil => simp at hxs
        | cons x r =>
          cases r with
          | nil => simp at hxs
          | cons y r =>
            cases r with
            | nil => exact ⟨x, y, rfl⟩
            | cons z r => simp at hxs
      simp only [List.map_cons, List.map_nil, List.cons.injEq, and_true] at hxs
      obtain ⟨e1, e2⟩ := hxs
      have h1 := of_sc (hx x (by simp)) e1
      have h2 := of_sc (hx y (by simp)) e2
      split at h
      · rename_i hk hlt
        have := ikEq_eq hk
        subst this
        cases h
        rw [ltI_eq] at hlt
        have hlt := of_decide_eq_true hlt
        exact s_max h1 h2 (by rw [if_pos hlt]; exact hK _ (.sc' _))
      · rename_i hk hlt
        have := ikEq_eq hk
        subst this
        cases h
        rw [ltI_eq] at hlt
        have hlt := of_decide_eq_false hlt
        exact s_max h1 h2 (by rw [if_neg hlt]; exact hK _ (.sc' _))
      · cases h
    · cases h
  · cases h

/-- All operations that leave the store alone. -/
theorem evr_ok (hT : TOk P T) (hS : ES Γ S σ) {op : Op} (hf : ∀ x ∈ op.operands, EV Γ (fe x) (f x)) (h : evr T op fe S.s = some d) (hK : ∀ d', EV Γ d d' → K d' σ) : OpSem P G B ⟨dst, op, type, pos, after, gd⟩ f σ K := by
  cases op with
  | move x => cases h; exact s_move (hK _ (hf x (by simp [Op.operands])))
  | assign x => cases h; exact s_assign (hK _ (hf x (by simp [Op.operands])))
  | pick c a b => exact rPick_ok (hf c (by simp [Op.operands])) (hf a (by simp [Op.operands])) (hf b (by simp [Op.operands])) h hK
  | load t a => exact rLoad_ok hT hS (hf a (by simp [Op.operands])) h hK
  | fieldAddr st x fi => exact rFldA_ok hT hS (hf x (by simp [Op.operands])) h hK
  | field st x fi => exact rFld_ok hT (hf x (by simp [Op.operands])) h hK
  | indexAddr t x y => exact rIdxA_ok hT hS (hf x (by simp [Op.operands])) (hf y (by simp [Op.operands])) h hK
  | index t x y => exact rIdx_ok hT (hf x (by simp [Op.operands])) (hf y (by simp [Op.operands])) h hK
  | binOp op t x y t' => exact rBin_ok hT (hf x (by simp [Op.operands])) (hf y (by simp [Op.operands])) h hK
  | unOp op t x => exact rUn_ok (hf x (by simp [Op.operands])) h hK
  | convert s dt x => exact rConv_ok hT (hf x (by simp [Op.operands])) h hK
  | extract x i => exact rExt_ok (hf x (by simp [Op.operands])) h hK
  | makeFunc fn a c =>
    cases h
    have h1 := evs_map (Γ := Γ) (fe := fe) (f := f) (xs := a.toList) fun x hx => hf x (by simp [Op.operands]; left; simpa using hx)
    have h2 := evs_map (Γ := Γ) (fe := fe) (f := f) (xs := c.toList) fun x hx => hf x (by simp [Op.operands]; right; simpa using hx)
    exact s_makeFunc (reL_self _) (reL_self _) (hK _ (.fn _ _ _ _ _ h1.len h1.get h2.len h2.get))
  | nilCheck x => exact rNil_ok hS (hf x (by simp [Op.operands])) h hK
  | build t ps => exact rBuild_ok hT (fun p hp => hf p.2 (by simp only [Op.operands]; simpa using ⟨p.1, by simpa using hp⟩)) h hK
  | lookup t m ix ok => exact rLook_ok hT hS (hf m (by simp [Op.operands])) (hf ix (by simp [Op.operands])) h hK
  | slice t x lo hi mx =>
    cases mx with
    | some _ => cases h
    | none => exact rSlice_ok hT hS (hf x (by simp [Op.operands])) (fun y hy => hf y (by simp [Op.operands, hy])) (fun y hy => hf y (by simp [Op.operands, hy])) h hK
  | call c =>
    obtain ⟨callee, args, ts⟩ := c
    cases callee with
    | builtin b => exact rBuiltin_ok hT hS (fun x hx => hf x (by simp [Op.operands, Call.operands]; simpa using hx)) h hK
    | _ => cases h
  | _ => cases h
end
end Go.Av
