/-
  The evaluator is right: operations that turn the store.
-/
import Derived.Test.YtecbcpilcjmhlaaDoorEv5
namespace Go.Av
open Classical
set_option linter.unusedSimpArgs false
set_option linter.unusedVariables false

/-- Calls are evaluated rightly. -/
def CallOk (P : Program) (G : Nat → DV) (call : FuncId → List DV → SS → RW) : Prop := ∀ fid args S d S', call fid args S = some (d, S') → FnOk P fid ∧ ∀ (Γ : List Nat) (args' : List DV) (σ : List ABlk) (K : DV → List ABlk → Prop) (B : Nat), EVs Γ args args' → ES Γ S σ →
  (∀ Γ' d' σ', Gle Γ Γ' → EV Γ' d d' → ES Γ' S' σ' → K d' σ') → ACalls P G B fid args' σ K

theorem run_mapUpdate_new_g {P : Program} {m kt et : TypeId} {kd : TypeDesc} {w : World} {b clock : Nat} {es : Array MapEntry} {x v : Value} (hm : P.underlying m = some (.map kt et)) (hk : P.underlying kt = some kd) (hkf : KeyFor kd x) (hb : w.heap[b]? = some (.map es clock)) (hf : Instr.findNow kd x es.toList 0 = some none) :
    (Instr.mapUpdate m (.map (some b)) x v).run P w = .ok () { w with heap := w.heap.setIfInBounds b (.map (es.push { key := x, val := v, born := clock }) (clock + 1)) } := by
  simp [Instr.mapUpdate, run_underlying hm, MapKept.run_getObj_map hb, MapKept.run_checkKey hk (isKey_for hkf), MapKept.run_findKey hk hf, MapKept.run_setObj_map _ hb, Result.andThen]
theorem run_mapUpdate_old_g {P : Program} {m kt et : TypeId} {kd : TypeDesc} {w : World} {b clock j : Nat} {es : Array MapEntry} {x v u : Value} (hm : P.underlying m = some (.map kt et)) (hk : P.underlying kt = some kd) (hkf : KeyFor kd x) (hb : w.heap[b]? = some (.map es clock)) (hf : Instr.findNow kd x es.toList 0 = some (some (j, u))) (hj : j < es.size) (hkey : es[j].key = x) :
    (Instr.mapUpdate m (.map (some b)) x v).run P w = .ok () { w with heap := w.heap.setIfInBounds b (.map (es.modify j fun e => { e with key := x, val := v }) clock) } := by
  have e : ((es[j]?.map (·.key)).getD x) = x := by simp [hj, hkey]
  have hks : (Instr.keyThatStays x x).run P w = .ok x w := by
    cases hkf with
    | int a => simp [Instr.keyThatStays, Instr.sameBits]
    | str s =>
      have hb : ((⟨⟨s⟩⟩ : ByteArray) == ⟨⟨s⟩⟩) = true := by rw [bytes_beq]; simp
      simp [Instr.keyThatStays, Instr.sameBits, hb]
  simp [Instr.mapUpdate, run_underlying hm, MapKept.run_getObj_map hb, MapKept.run_checkKey hk (isKey_for hkf), MapKept.run_findKey hk hf, MapKept.run_setObj_map _ hb, Result.andThen, e, hks, hj, hkey]

section
variable {P : Program} {G : Nat → DV} {B : Nat} {f fe : Operand → DV} {σ : List ABlk} {K : DV → List ABlk → Prop} {dst : Option Tmp} {type : TypeId} {pos : String} {after : Array Edge} {gd : Option (Nat × Bool)} {Γ : List Nat} {T : Tab} {S S' : SS} {d : DV}

/-- A map is written. -/
theorem s_mapupd_g {t kt et : TypeId} {agg : Bool} {size : Nat} {m ix y : Operand} {k g : Nat} {l l0 l0' : List (Value × DV)} {x : Value} {d0 : DV} (hT : TOk P T) [ht : TyI P t (.map kt et) agg size] (hkx : keyOk T kt x = true) (hm : f m = .mp k g) (hσk : σ[k]? = some (.mapb g l)) (hx : f ix = .sc x) (hd : EV Γ d0 (f y))
    (h1 : l0.map (·.1) = l.map (·.1)) (h2 : EVs Γ (l0.map (·.2)) (l.map (·.2))) (hr : putM x d0 l0 = some l0')
    (hK : ∀ l', l0'.map (·.1) = l'.map (·.1) → EVs Γ (l0'.map (·.2)) (l'.map (·.2)) → K (.sc undef) (σ.set k (.mapb g l'))) : OpSem P G B ⟨dst, .mapUpdate t m ix y, type, pos, after, gd⟩ f σ K := fun X ρ hS hσ hB _ hf => by
  subst hσ
  have e1 := hf m (by simp [Op.operands]); rw [hm] at e1
  have e2 := hf ix (by simp [Op.operands]); rw [hx] at e2
  have e3 := hf y (by simp [Op.operands])
  have e2 := VRep.sc_eq e2
  obtain ⟨kd, a1, s1, hkt, hkf⟩ := keyOk_ok hT hkx
  obtain ⟨b, n, es, clock, hρ, hb, hc, hl, hkeys, hvals⟩ := map_cells hS hσk
  have e1 := VRep.mp_inv hσk e1 hρ
  have hbl := lt_of_heap hb
  have hget : ∀ j (kv : Value) (dd : DV), l[j]? = some (kv, dd) → (es.getD j default).key = kv ∧ VRep X.lay dd (es.getD j default).val := by
    obtain ⟨b', n', es', clock', q1, q2, q3, q4, q5⟩ := hS.map hσk
    rw [hρ] at q1
    cases q1
    rw [hb] at q2
    cases q2
    exact q5
  simp only [execOp, e1, e2, Sem.run_bind]
  rcases putM_ok hkf l0 es.toList 0 l0' (by rw [h1, hkeys]) hr with ⟨rfl, h4⟩ | ⟨j0, e, hj0, rfl, h5, h6, h7⟩
  · rw [run_mapUpdate_new_g ht.u hkt.u hkf hb h4]
    simp only [Result.andThen_ok, Sem.run_pure]
    refine post_map (m' := l ++ [(x, f y)]) hS hσk hρ hbl (by simp [hl]) (fun e he => ?_) (fun j kv dd hj => ?_) (hK (l ++ [(x, f y)]) (by simp [h1]) ?_)
    · rcases Array.mem_push.1 he with he | rfl
      · exact Nat.lt_succ_of_lt (hc e he)
      · exact Nat.lt_succ_self _
    · by_cases h : j < l.length
      · rw [List.getElem?_append_left h] at hj
        have e : (es.push { key := x, val := ρ y, born := clock }).getD j default = es.getD j default := by
          simp [Array.getD_eq_getD_getElem?, Array.getElem?_push, show j ≠ es.size by omega]
        rw [e]; exact hget j kv dd hj
      · have hjj : j = l.length := by
          have := (List.getElem?_eq_some_iff.1 hj).1
          simp at this; omega
        subst hjj
        simp at hj
        obtain ⟨rfl, rfl⟩ := hj
        have e : (es.push { key := x, val := ρ y, born := clock }).getD l.length default = { key := x, val := ρ y, born := clock } := by
          rw [← hl]; simp [Array.getD_eq_getD_getElem?]
        rw [e]; exact ⟨rfl, e3⟩
    · simp only [List.map_append, List.map_cons, List.map_nil]
      exact h2.append (.cons hd .nil)
  · have hj' : j0 < es.size := by
      have := congrArg List.length h1
      simp at this
      omega
    have hkey : es[j0].key = x := by
      rw [Array.getElem?_toList, Array.getElem?_eq_getElem hj'] at h5
      cases h5; exact h6
    rw [run_mapUpdate_old_g ht.u hkt.u hkf hb (by simpa using h7) hj' hkey]
    simp only [Result.andThen_ok, Sem.run_pure]
    refine post_map (m' := l.set j0 (x, f y)) hS hσk hρ hbl (by simp [hl]) (fun e he => ?_) (fun j kv dd hj => ?_) (hK (l.set j0 (x, f y)) ?_ ?_)
    · obtain ⟨i, hi, rfl⟩ := Array.getElem_of_mem he
      rw [Array.getElem_modify]
      have hi' : i < es.size := by simpa using hi
      split
      · exact hc es[i] (Array.getElem_mem hi')
      · exact hc _ (Array.getElem_mem hi')
    · by_cases h : j = j0
      · subst h
        rw [List.getElem?_set_self (by omega)] at hj
        cases hj
        have e : ((es.modify j fun e => { e with key := x, val := ρ y }).getD j default).key = x ∧ ((es.modify j fun e => { e with key := x, val := ρ y }).getD j default).val = ρ y := by
          rw [Array.getD_eq_getD_getElem?, Array.getElem?_modify, if_pos rfl, Array.getElem?_eq_getElem hj']
          exact ⟨rfl, rfl⟩
        rw [e.1, e.2]; exact ⟨rfl, e3⟩
      · rw [List.getElem?_set_ne (Ne.symm h)] at hj
        have e : (es.modify j0 fun e => { e with key := x, val := ρ y }).getD j default = es.getD j default := by
          simp [Array.getD_eq_getD_getElem?, Array.getElem?_modify, show ¬ j0 = j from fun e => h e.symm]
        rw [e]; exact hget j kv dd hj
    · rw [List.map_set, List.map_set, h1]
    · rw [List.map_set, List.map_set]
      refine ⟨by simp only [List.length_set]; exact h2.len, fun j a b ha hb' => ?_⟩
      rw [List.getElem?_set] at ha hb'
      have hlen := h2.len
      split at ha
      · rename_i hjj
        subst hjj
        rw [if_pos rfl] at hb'
        split at ha
        · rw [if_pos (by omega)] at hb'
          cases ha; cases hb'; exact hd
        · cases ha
      · rename_i hjj
        rw [if_neg hjj] at hb'
        exact h2.get j a b ha hb'

theorem wStore_ok (hT : TOk P T) (hS : ES Γ S σ) {t : TypeId} {a x : Operand} (ha : EV Γ (fe a) (f a)) (hx : EV Γ (fe x) (f x)) (h : wStore T S t (fe a) (fe x) = some (d, S')) (hK : ∀ Γ' d' σ', Gle Γ Γ' → EV Γ' d d' → ES Γ' S' σ' → K d' σ') : OpSem P G B ⟨dst, .store t a x, type, pos, after, gd⟩ f σ K := by
  unfold wStore at h
  split at h
  · rename_i k γ off e
    rw [e] at ha
    obtain ⟨g, hg, hfa⟩ := ha.ptr_inv
    split at h
    · rename_i cs ti ds hr hti hds
      obtain ⟨cs', hm, hcs⟩ := hS.rowOf hr hg
      obtain ⟨td, hty, _⟩ := (hT.ty t ti hti).d
      obtain ⟨ds', hds', hdd⟩ := dcells_ev hx hds
      split at h
      · rename_i cs1 hb1 hb2 hsp
        cases h
        obtain ⟨cs1', hsp', hc1⟩ := splice_ev hcs hdd hsp
        have hlen := Nat.eq_of_beq_eq_true hb1
        have hpos := Nat.ble_eq.mp hb2
        obtain ⟨h1, h2, h3⟩ := spliceD_eq hsp'
        have hl' : ds'.length = ti.sz := by rw [← hdd.len]; exact hlen
        refine s_store' (ht := hty) hfa hm rfl hds' hl' ?_ h1 h3 (hK Γ _ _ (Gle.refl _) (.sc' _) ?_)
        · rcases h2 with h2 | h2
          · subst h2; simp at hl'; omega
          · exact h2
        · exact hS.setRow (Gle.refl _) (List.getElem?_eq_some_iff.1 hm).1 hg hS.c hc1
      · cases h
    · cases h
  · cases h

theorem new_ev (hS : ES Γ S σ) (g : Nat) : (Γ ++ [g])[S.c]? = some g := by rw [hS.c]; simp

theorem wBuildS_ok (hT : TOk P T) (hS : ES Γ S σ) {alone : Bool} {t : TypeId} {n : Nat} {ps : Array (Nat × Operand)} (hp : ∀ p ∈ ps.toList, EV Γ (fe p.2) (f p.2)) (h : wBuildS T S alone t n (ps.toList.map fun p => (p.1, fe p.2)) = some (d, S')) (hK : ∀ Γ' d' σ', Gle Γ Γ' → EV Γ' d d' → ES Γ' S' σ' → K d' σ') : OpSem P G B ⟨dst, .buildSlice t n ps, type, pos, after, gd⟩ f σ K := by
  obtain ⟨ps⟩ := ps
  have hp1 : (ps.map fun p => (p.1, fe p.2)).map (·.1) = (ps.map fun p => (p.1, f p.2)).map (·.1) := by simp
  have hp2 : EVs Γ ((ps.map fun p => (p.1, fe p.2)).map (·.2)) ((ps.map fun p => (p.1, f p.2)).map (·.2)) := by
    have := evs_map (Γ := Γ) (fe := fe) (f := f) (xs := ps.map (·.2)) fun x hx => by
      obtain ⟨p, hp', rfl⟩ := List.mem_map.1 hx
      exact hp p hp'
    simpa [Function.comp_def] using this
  have hzero : ∀ (zs : List Value) (n : Nat), EVs Γ (zerosD zs n) (zerosD zs n) := fun zs n => by
    induction n with
    | zero => exact .nil
    | succ n ih => exact (EVs.sc zs).append ih
  unfold wBuildS at h
  split at h
  · rename_i ti hti
    obtain ⟨td, hty, hk⟩ := (hT.ty t ti hti).d
    split at h
    · rename_i e hke
      rw [hke] at hk
      cases hk
      split at h
      · rename_i te hte
        obtain ⟨te', hte', _⟩ := (hT.ty e te hte).d
        have hz := (hT.ty e te hte).z
        split at h
        · rename_i cs hb1 hb2 hcs
          obtain ⟨cs', h1, h2⟩ := fill_ev hp1 hp2 (hzero te.zs n) hcs
          have hzl := Nat.eq_of_beq_eq_true hb1
          have hn := Nat.ble_eq.mp hb2
          split at h
          · cases h
            exact s_bslice (ht := hty) (he := hte') (hz := hz) hzl (partsD_self f ps) hn h1 (hK Γ _ _ (Gle.refl _) (.sl' h2) hS)
          · split at h
            case h_2 => cases h
            rename_i hbl
            cases h
            refine s_bslice_own (ht := hty) (he := hte') (hz := hz) hzl (partsD_self f ps) hn h1 (by rw [← h2.len]; exact Nat.eq_of_beq_eq_true hbl) fun g _ => hK (Γ ++ [g]) _ _ (Gle.snoc _ _) ?_ (hS.newRow h2)
            rw [← hS.m]
            exact .ref _ _ _ _ _ _ (new_ev hS g)
        · cases h
      · cases h
    · cases h
  · cases h

theorem wMakeS_ok (hT : TOk P T) (hS : ES Γ S σ) {t : TypeId} {x y : Operand} (hx : EV Γ (fe x) (f x)) (hy : EV Γ (fe y) (f y)) (h : wMakeS T S t (fe x) (fe y) = some (d, S')) (hK : ∀ Γ' d' σ', Gle Γ Γ' → EV Γ' d d' → ES Γ' S' σ' → K d' σ') : OpSem P G B ⟨dst, .makeSlice t x y, type, pos, after, gd⟩ f σ K := by
  have hzero : ∀ (zs : List Value) (n : Nat), EVs Γ (zerosD zs n) (zerosD zs n) := fun zs n => by
    induction n with
    | zero => exact .nil
    | succ n ih => exact (EVs.sc zs).append ih
  unfold wMakeS at h
  split at h
  · rename_i n c ti hn hc hti
    obtain ⟨k1, hfx⟩ := idxOf_ok hx hn
    obtain ⟨k2, hfy⟩ := idxOf_ok hy hc
    obtain ⟨td, hty, hk⟩ := (hT.ty t ti hti).d
    split at h
    · rename_i e hke
      rw [hke] at hk
      cases hk
      split at h
      · rename_i te hte
        obtain ⟨te', hte', _⟩ := (hT.ty e te hte).d
        have hz := (hT.ty e te hte).z
        have hb := (hT.ty e te hte).b
        split at h
        · rename_i hb1 hb2 hb3 hb4
          cases h
          have hzl := Nat.eq_of_beq_eq_true hb1
          have h2 := Nat.ble_eq.mp hb2
          have h3 : c ≤ 1000000 := Nat.ble_eq.mp hb3
          have h4 : te.by' ≤ 1000000 := Nat.ble_eq.mp hb4
          have h5 : te.by' * c ≤ 1000000 * 1000000 := Nat.mul_le_mul h4 h3
          refine s_make (ht := hty) (he := hte') (hb := hb) (hz := hz) hzl hfx hfy (by omega) (by omega) (by rw [← Int.natCast_mul]; omega) (by omega) fun g _ => ?_
          simp only [Int.toNat_natCast]
          refine hK (Γ ++ [g]) _ _ (Gle.snoc _ _) ?_ (hS.newRow (hzero _ _))
          rw [← hS.m]
          exact .ref _ _ _ _ _ _ (new_ev hS g)
        · cases h
      · cases h
    · cases h
  · cases h

theorem wUpd_ok (hT : TOk P T) (hS : ES Γ S σ) {t : TypeId} {m ix y : Operand} (hm : EV Γ (fe m) (f m)) (hi : EV Γ (fe ix) (f ix)) (hy : EV Γ (fe y) (f y)) (h : wUpd T S t (fe m) (fe ix) (fe y) = some (d, S')) (hK : ∀ Γ' d' σ', Gle Γ Γ' → EV Γ' d d' → ES Γ' S' σ' → K d' σ') : OpSem P G B ⟨dst, .mapUpdate t m ix y, type, pos, after, gd⟩ f σ K := by
  unfold wUpd at h
  split at h
  · rename_i ti hti
    obtain ⟨td, hty, hk⟩ := (hT.ty t ti hti).d
    split at h
    · rename_i kt et hke
      rw [hke] at hk
      cases hk
      split at h
      · rename_i k γ x e1 e2
        rw [e1] at hm
        obtain ⟨g, hg, hfm⟩ := hm.mp_inv
        split at h
        · rename_i l hl hko
          obtain ⟨l', hσk, h1, h2⟩ := hS.mapOf hl hg
          split at h
          · rename_i l1 hl1
            cases h
            exact s_mapupd_g hT (ht := hty) hko hfm hσk (of_sc hi e2) hy h1 h2 hl1 fun l1' h3 h4 => hK Γ _ _ (Gle.refl _) (.sc' _) (hS.setMap (List.getElem?_eq_some_iff.1 hσk).1 hg h3 h4)
          · cases h
        · cases h
      · cases h
    · cases h
  · cases h

theorem srcD_ok (hS : ES Γ S σ) {es : Nat} {dy dy' : DV} {ms : List DV} (h0 : 0 < es) (hd : EV Γ dy dy') (h : srcD S.s es dy = some ms) : ∃ ms', EVs Γ ms ms' ∧ SrcOf P σ dy' es (ms.length / es) ms' := by
  unfold srcD at h
  split at h
  · rename_i es' cs
    split at h
    · rename_i hb1 hb2 hb3
      cases h
      have := Nat.eq_of_beq_eq_true hb1
      subst this
      obtain ⟨cs', rfl, hcs⟩ := hd.sl_inv
      exact ⟨cs', hcs, srcOf_sl (by rw [← hcs.len]; exact (div_len hb3).symm) h0⟩
    · cases h
  · cases h
    rw [hd.sc_inv]
    refine ⟨[], .nil, ?_⟩
    simp only [List.length_nil, Nat.zero_div]
    exact srcOf_nil
  · rename_i k γ off n es'
    split at h
    · rename_i cs hr hb1
      have := Nat.eq_of_beq_eq_true hb1
      subst this
      split at h
      · rename_i hb2
        cases h
        obtain ⟨g, hg, rfl⟩ := hd.ref_inv
        obtain ⟨cs', hm, hcs⟩ := hS.rowOf hr hg
        have h2 := Nat.ble_eq.mp hb2
        refine ⟨_, (hcs.drop off).take (n * es), ?_⟩
        have hl : ((cs.drop off).take (n * es)).length / es = n := by
          rw [List.length_take, List.length_drop, Nat.min_eq_left (by omega), Nat.mul_div_cancel _ h0]
        rw [hl]
        exact srcOf_ref hm (by rw [← hcs.len]; exact h2)
      · cases h
    · cases h
  · cases h

theorem wApp_ok (hT : TOk P T) (hS : ES Γ S σ) {t t' : TypeId} {x y : Operand} (hx : EV Γ (fe x) (f x)) (hy : EV Γ (fe y) (f y)) (h : wApp T S t t' (fe x) (fe y) = some (d, S')) (hK : ∀ Γ' d' σ', Gle Γ Γ' → EV Γ' d d' → ES Γ' S' σ' → K d' σ') : OpSem P G B ⟨dst, .call ⟨.builtin .append, #[x, y], #[t, t']⟩, type, pos, after, gd⟩ f σ K := by
  unfold wApp at h
  split at h
  · rename_i ti ti' hti hti'
    obtain ⟨td, hty, hk⟩ := (hT.ty t ti hti).d
    obtain ⟨td', hty', hk'⟩ := (hT.ty t' ti' hti').d
    split at h
    · rename_i e e' hke hke'
      rw [hke] at hk
      cases hk
      rw [hke'] at hk'
      cases hk'
      have hsrc : SrcTy P t' := ⟨.inl ⟨_, hty'.u⟩⟩
      split at h
      · rename_i te hte
        obtain ⟨te', hte', _⟩ := (hT.ty e te hte).d
        have hz := (hT.ty e te hte).z
        have hb := (hT.ty e te hte).b
        split at h
        · rename_i ms hms hb1 hb2 hb3
          have hzl := Nat.eq_of_beq_eq_true hb1
          have h0 : 0 < te.sz := Nat.ble_eq.mp hb2
          have hby : te.by' ≤ 1000000 := Nat.ble_eq.mp hb3
          obtain ⟨ms', hmm, hso⟩ := srcD_ok (P := P) hS h0 hy hms
          have hdl : ms.length / te.sz ≤ ms.length := Nat.div_le_self _ _
          unfold wApp' at h
          split at h
          · rename_i k γ off len es hex
            rw [hex] at hx
            obtain ⟨g, hg, hfx⟩ := hx.ref_inv
            split at h
            · rename_i cs hr hc1 hc2
              have := Nat.eq_of_beq_eq_true hc1
              subst this
              have := Nat.eq_of_beq_eq_true hc2
              subst this
              obtain ⟨cs', hm, hcs⟩ := hS.rowOf hr hg
              split at h
              · rename_i hd1 hd2
                cases h
                have h1 := Nat.ble_eq.mp hd1
                have h2 : len + ms.length ≤ 1000000 := Nat.ble_eq.mp hd2
                have h3 : (len + ms.length / te.sz) * te.by' ≤ 1000000 * 1000000 := Nat.mul_le_mul (by omega) hby
                refine s_append (ht := hty) (ht' := hsrc) (he := hte') (hb := hb) (hz := hz) hzl hfx hm (by rw [← hcs.len]; exact h1) rfl hso (by omega) (by omega) fun g' _ => hK (Γ ++ [g']) _ _ (Gle.snoc _ _) (.ref _ _ _ _ _ _ (new_ev hS g')) ?_
                exact hS.setRow (Gle.snoc _ _) (List.getElem?_eq_some_iff.1 hm).1 (new_ev hS g') (by simp [hS.c]) (((hcs.take _).append hmm).mono (Gle.snoc _ _))
              · cases h
            · cases h
          · rename_i hex
            split at h
            · rename_i hd1
              cases h
              have h2 : ms.length ≤ 1000000 := Nat.ble_eq.mp hd1
              have h3 : (ms.length / te.sz) * te.by' ≤ 1000000 * 1000000 := Nat.mul_le_mul (by omega) hby
              refine s_append_nil (ht := hty) (ht' := hsrc) (he := hte') (hb := hb) (hz := hz) hzl (of_sc hx hex) rfl hso (by omega) (by omega) fun g' _ => hK (Γ ++ [g']) _ _ (Gle.snoc _ _) ?_ (hS.newRow hmm)
              rw [← hS.m]
              exact .ref _ _ _ _ _ _ (new_ev hS g')
            · cases h
          · cases h
        · cases h
      · cases h
    · cases h
  · cases h

/-- Values of one cell. -/
abbrev CellV := { v : Value // v.oneCell' = true }
instance : Enc CellV := encOne (fun v => .sc v.1) (fun v => v.2) (fun _ => clo_sc)
theorem allSc_ok : ∀ {cs : List DV}, allSc cs = true → ∃ l : List CellV, cs = encs l
  | [], _ => ⟨[], rfl⟩
  | .sc v :: r, h => by
    simp only [allSc] at h
    split at h
    · rename_i hv
      obtain ⟨l, rfl⟩ := allSc_ok h
      exact ⟨⟨v, hv⟩ :: l, rfl⟩
    · cases h
  | .any :: _, h => by simp [allSc] at h
  | .sl _ _ :: _, h => by simp [allSc] at h
  | .ep _ :: _, h => by simp [allSc] at h
  | .ref _ _ _ _ _ :: _, h => by simp [allSc] at h
  | .ptr _ _ _ :: _, h => by simp [allSc] at h
  | .agg _ :: _, h => by simp [allSc] at h
  | .tup _ :: _, h => by simp [allSc] at h
  | .fn _ _ _ :: _, h => by simp [allSc] at h
  | .mp _ _ :: _, h => by simp [allSc] at h
theorem EVs.encs_inv {α : Type} [Enc α] {l : List α} (h1 : ∀ x : α, ∃ v, (Enc.enc x : List DV) = [.sc v]) {cs : List DV} (h : EVs Γ (encs l) cs) : cs = encs l := by
  induction l generalizing cs with
  | nil => exact h.nil_inv
  | cons x l ih =>
    obtain ⟨v, hv⟩ := h1 x
    rw [encs_cons, hv] at h ⊢
    obtain ⟨d', r', rfl, hd, hr⟩ := h.cons_inv
    rw [hd.sc_inv, ih hr]; rfl
theorem setA_ok : ∀ {σ : List ABlk} {k : Nat} (b : ABlk), k < σ.length → setA σ k b = some (σ.set k b)
  | [], _, _, h => by simp at h
  | _ :: _, 0, _, _ => rfl
  | a :: r, n + 1, b, h => by simp only [setA, setA_ok (σ := r) (k := n) b (by simpa using h)]; rfl
theorem wClear_ok (hT : TOk P T) (hS : ES Γ S σ) {t : TypeId} {x : Operand} (hx : EV Γ (fe x) (f x)) (h : wClear T S t (fe x) = some (d, S')) (hK : ∀ Γ' d' σ', Gle Γ Γ' → EV Γ' d d' → ES Γ' S' σ' → K d' σ') : OpSem P G B ⟨dst, .call ⟨.builtin .clear, #[x], #[t]⟩, type, pos, after, gd⟩ f σ K := by
  unfold wClear at h
  split at h
  · rename_i ti hti
    obtain ⟨td, hty, hk⟩ := (hT.ty t ti hti).d
    split at h
    · rename_i e hke
      rw [hke] at hk
      cases hk
      split at h
      · rename_i te hte
        obtain ⟨te', hte', _⟩ := (hT.ty e te hte).d
        have hz := (hT.ty e te hte).z
        split at h
        · rename_i k γ off len es hex
          rw [hex] at hx
          obtain ⟨g, hg, hfx⟩ := hx.ref_inv
          split at h
          · rename_i cs hr hb1 hb2 hb3
            have := Nat.eq_of_beq_eq_true hb1
            subst this
            have hsz := Nat.eq_of_beq_eq_true hb2
            have hzl := Nat.eq_of_beq_eq_true hb3
            obtain ⟨cs', hm, hcs⟩ := hS.rowOf hr hg
            split at h
            · rename_i hb4 hb5
              cases h
              obtain ⟨l, rfl⟩ := allSc_ok hb5
              have := hcs.encs_inv fun x => ⟨x.1, rfl⟩
              subst this
              have hlen : off + len = l.length := by
                have := Nat.eq_of_beq_eq_true hb4
                rw [encs_len, show Enc.es CellV = 1 from rfl, Nat.mul_one] at this
                exact this
              rw [hsz] at hte'
              have htake : (encs l).take off = encs (l.take off) := by
                have := encs_take l off
                rwa [show Enc.es CellV = 1 from rfl, Nat.mul_one] at this
              have hlt := (List.getElem?_eq_some_iff.1 hm).1
              refine s_clear_tail (i := off) (l := l) (ht := hty) (he := hte') (hz := hz) hzl (by rw [Nat.zero_add, Nat.mul_one]; exact hfx) hm rfl rfl (by omega) (by omega) (setA_ok _ hlt) (hK Γ _ _ (Gle.refl _) (.tup' .nil) ?_)
              rw [htake]
              exact hS.setRow (Gle.refl _) hlt hg hS.c (.same (encs_clo _))
            · cases h
          · cases h
        · cases h
      · cases h
    · cases h
  · cases h

theorem wBuiltin_ok (hT : TOk P T) (hS : ES Γ S σ) {b : Builtin} {xs : Array Operand} {ts : Array TypeId} (hx : ∀ x ∈ xs.toList, EV Γ (fe x) (f x)) (h : wBuiltin T S b (xs.toList.map fe) ts.toList = some (d, S')) (hK : ∀ Γ' d' σ', Gle Γ Γ' → EV Γ' d d' → ES Γ' S' σ' → K d' σ') : OpSem P G B ⟨dst, .call ⟨.builtin b, xs, ts⟩, type, pos, after, gd⟩ f σ K := by
  obtain ⟨xs⟩ := xs
  obtain ⟨ts⟩ := ts
  unfold wBuiltin at h
  split at h
  · split at h
    · rename_i a b t t' hxs hts
      obtain ⟨x, y, rfl⟩ : ∃ x y, xs = [x, y] := by
        cases xs with
        | nil => simp at hxs
        | cons x r =>
          cases r with
          | nil => simp at hxs
          | cons y r =>
            cases r with
            | nil => exact ⟨x, y, rfl⟩
            | cons z r => simp at hxs
      simp only [List.map_cons, List.map_nil, List.cons.injEq, and_true] at hxs
      obtain ⟨rfl, rfl⟩ := hxs
      have hts : ts = [t, t'] := hts
      subst hts
      exact wApp_ok hT hS (hx x (by simp)) (hx y (by simp)) h hK
    · cases h
  · split at h
    · rename_i a t hxs hts
      obtain ⟨x, rfl⟩ : ∃ x, xs = [x] := by
        cases xs with
        | nil => simp at hxs
        | cons x r =>
          cases r with
          | nil => exact ⟨x, rfl⟩
          | cons y r => simp at hxs
      simp only [List.map_cons, List.map_nil, List.cons.injEq, and_true] at hxs
      subst hxs
      have hts : ts = [t] := hts
      subst hts
      exact wClear_ok hT hS (hx x (by simp)) h hK
    · cases h
  · cases h

/-- All operations that turn the store. -/
theorem evw_ok (hT : TOk P T) (hS : ES Γ S σ) {call : FuncId → List DV → SS → RW} (hC : CallOk P G call) {alone : Bool} {op : Op} (hf : ∀ x ∈ op.operands, EV Γ (fe x) (f x)) (h : evw T call alone op fe S = some (d, S')) (hK : ∀ Γ' d' σ', Gle Γ Γ' → EV Γ' d d' → ES Γ' S' σ' → K d' σ') : OpSem P G B ⟨dst, op, type, pos, after, gd⟩ f σ K := by
  cases op with
  | alloc t =>
    simp only [evw] at h
    split at h
    · rename_i ti hti
      cases h
      have hz := (hT.ty t ti hti).z
      refine s_alloc (hz := hz) fun g _ => hK (Γ ++ [g]) _ _ (Gle.snoc _ _) ?_ (hS.newRow (.sc _))
      rw [← hS.m]
      exact .ptr _ _ _ _ (new_ev hS g)
    · cases h
  | box t x =>
    simp only [evw] at h
    split at h
    · rename_i ds hds
      cases h
      obtain ⟨ds', hds', hdd⟩ := dcells_ev (hf x (by simp [Op.operands])) hds
      refine s_box rfl hds' fun g _ => hK (Γ ++ [g]) _ _ (Gle.snoc _ _) ?_ (hS.newRow hdd)
      rw [← hS.m]
      exact .ptr _ _ _ _ (new_ev hS g)
    · cases h
  | store t a x => exact wStore_ok hT hS (hf a (by simp [Op.operands])) (hf x (by simp [Op.operands])) h hK
  | buildSlice t n ps => exact wBuildS_ok hT hS (fun p hp => hf p.2 (by simp only [Op.operands]; simpa using ⟨p.1, by simpa using hp⟩)) h hK
  | makeSlice t x y => exact wMakeS_ok hT hS (hf x (by simp [Op.operands])) (hf y (by simp [Op.operands])) h hK
  | makeMap t r =>
    cases r with
    | some _ => cases h
    | none =>
      cases h
      refine s_mkmap fun g _ => hK (Γ ++ [g]) _ _ (Gle.snoc _ _) ?_ hS.newMap
      rw [← hS.m]
      exact .mp _ _ _ (new_ev hS g)
  | mapUpdate t m ix y => exact wUpd_ok hT hS (hf m (by simp [Op.operands])) (hf ix (by simp [Op.operands])) (hf y (by simp [Op.operands])) h hK
  | call c =>
    obtain ⟨callee, args, ts⟩ := c
    cases callee with
    | builtin b => exact wBuiltin_ok hT hS (fun x hx => hf x (by simp [Op.operands, Call.operands]; simpa using hx)) h hK
    | value x =>
      simp only [evw] at h
      have hx := hf x (by simp [Op.operands, Call.operands])
      have ha := evs_map (Γ := Γ) (fe := fe) (f := f) (xs := args.toList) fun y hy => hf y (by simp [Op.operands, Call.operands]; right; simpa using hy)
      unfold wCall at h
      split at h
      · rename_i fid a c e
        rw [e] at hx
        obtain ⟨a', c', hfx, h1, h2⟩ := hx.fn_inv
        obtain ⟨hfo, hc⟩ := hC _ _ _ _ _ h
        exact s_callv (hfn := hfo) hfx (reL_self _) (hc Γ _ σ K B ((h1.append ha).append h2) hS hK)
      · cases h
    | _ => cases h
  | _ => cases h
end
end Go.Av
