/-
  The evaluator is right: maps; all operations that leave the store alone.
-/
import Derived.Test.YtecbcpilcjmhlaaDoorEv2
namespace Go.Av
open Classical
set_option linter.unusedSimpArgs false
set_option linter.unusedVariables false

/-- A key of a kind that the evaluator knows. -/
inductive KeyFor : TypeDesc → Value → Prop
  | int (a : Int) : KeyFor (.int .i64) (.int .i64 a)
  | str (s : List UInt8) : KeyFor .string (.string ⟨⟨s⟩⟩)
theorem bytes_beq (a b : List UInt8) : ((⟨⟨a⟩⟩ : ByteArray) == ⟨⟨b⟩⟩) = decide (a = b) := by
  have h : ((⟨⟨a⟩⟩ : ByteArray) == ⟨⟨b⟩⟩) = ((⟨a⟩ : Array UInt8) == ⟨b⟩) := rfl
  rw [h]
  apply Bool.eq_iff_iff.2
  simp
theorem keyEq_ok {kd : TypeDesc} {k x : Value} {b : Bool} (hx : KeyFor kd x) (h : keyEq k x = some b) : Instr.sameNow kd x k = some b ∧ (b = true → k = x) := by
  cases hx with
  | int a =>
    unfold keyEq at h
    split at h
    · rename_i a' a'' heq
      cases heq
      cases h
      rw [eqI_eq]
      refine ⟨?_, fun e => by rw [of_decide_eq_true e]⟩
      simp only [Instr.sameNow, if_true]
      congr 1
      apply Bool.eq_iff_iff.2
      rw [beq_iff_eq, decide_eq_true_iff]
      exact eq_comm
    · rename_i heq; cases heq
    · cases h
  | str s =>
    unfold keyEq at h
    split at h
    · rename_i heq; cases heq
    · rename_i a a' heq
      cases heq
      cases h
      refine ⟨?_, fun e => by rw [eq_of_beq e]⟩
      simp only [Instr.sameNow, bytes_beq]
      congr 1
      apply Bool.eq_iff_iff.2
      rw [beq_iff_eq, decide_eq_true_iff]
      exact eq_comm
    · cases h
theorem findM_ok {kd : TypeDesc} {x : Value} (hx : KeyFor kd x) : ∀ (l : List (Value × DV)) (es : List MapEntry) (i0 : Nat) (r : Option DV), l.map (·.1) = es.map (·.key) → findM x l = some r →
    (r = none ∧ Instr.findNow kd x es i0 = some none) ∨ (∃ j d e, r = some d ∧ (l.map (·.2))[j]? = some d ∧ es[j]? = some e ∧ e.key = x ∧ Instr.findNow kd x es i0 = some (some (i0 + j, e.val)))
  | [], es, i0, r, he, h => by
    have : es = [] := by cases es with | nil => rfl | cons _ _ => simp at he
    subst this
    cases h
    exact .inl ⟨rfl, rfl⟩
  | (k, d) :: l, [], i0, r, he, h => by simp at he
  | (k, d) :: l, e :: es, i0, r, he, h => by
    simp only [List.map_cons, List.cons.injEq] at he
    obtain ⟨rfl, he⟩ := he
    simp only [findM] at h
    simp only [Instr.findNow]
    split at h
    · cases h
    · rename_i hk
      obtain ⟨h1, h2⟩ := keyEq_ok hx hk
      cases h
      rw [h1]
      exact .inr ⟨0, d, e, rfl, rfl, rfl, h2 rfl, rfl⟩
    · rename_i hk
      obtain ⟨h1, _⟩ := keyEq_ok hx hk
      rw [h1]
      rcases findM_ok hx l es (i0 + 1) r he h with ⟨h2, h3⟩ | ⟨j, d', e', h2, h3, h4, h5, h6⟩
      · exact .inl ⟨h2, h3⟩
      · refine .inr ⟨j + 1, d', e', h2, by simpa using h3, by simpa using h4, h5, ?_⟩
        simp only [h6]
        congr 3
        omega
theorem putM_ok {kd : TypeDesc} {x : Value} {d : DV} (hx : KeyFor kd x) : ∀ (l : List (Value × DV)) (es : List MapEntry) (i0 : Nat) (l' : List (Value × DV)), l.map (·.1) = es.map (·.key) → putM x d l = some l' →
    (l' = l ++ [(x, d)] ∧ Instr.findNow kd x es i0 = some none) ∨ (∃ (j : Nat) (e : MapEntry), j < l.length ∧ l' = l.set j (x, d) ∧ es[j]? = some e ∧ e.key = x ∧ Instr.findNow kd x es i0 = some (some (i0 + j, e.val)))
  | [], es, i0, r, he, h => by
    have : es = [] := by cases es with | nil => rfl | cons _ _ => simp at he
    subst this
    cases h
    exact .inl ⟨rfl, rfl⟩
  | (k, d') :: l, [], i0, r, he, h => by simp at he
  | (k, d') :: l, e :: es, i0, r, he, h => by
    simp only [List.map_cons, List.cons.injEq] at he
    obtain ⟨rfl, he⟩ := he
    simp only [putM] at h
    simp only [Instr.findNow]
    split at h
    · cases h
    · rename_i hk
      obtain ⟨h1, h2⟩ := keyEq_ok hx hk
      cases h
      rw [h1]
      exact .inr ⟨0, e, by simp, rfl, rfl, h2 rfl, rfl⟩
    · rename_i hk
      obtain ⟨h1, _⟩ := keyEq_ok hx hk
      rw [h1]
      split at h
      · cases h
      · rename_i l1 hl1
        cases h
        rcases putM_ok hx l es (i0 + 1) l1 he hl1 with ⟨h2, h3⟩ | ⟨j, e', h2, h3, h4, h5, h6⟩
        · exact .inl ⟨by rw [h2]; rfl, h3⟩
        · refine .inr ⟨j + 1, e', by simpa using h2, by rw [h3]; rfl, by simpa using h4, h5, ?_⟩
          simp only [h6]
          congr 3
          omega
theorem keyOk_ok {P : Program} {T : Tab} (hT : TOk P T) {kt : Nat} {x : Value} (h : keyOk T kt x = true) : ∃ kd a s, TyI P kt kd a s ∧ KeyFor kd x := by
  unfold keyOk at h
  split at h
  · rename_i ti n hti
    obtain ⟨td, h1, h2⟩ := (hT.ty kt ti hti).d
    split at h
    · rename_i hk
      rw [hk] at h2
      cases h2
      exact ⟨_, _, _, h1, .int n⟩
    · cases h
  · rename_i ti s hti
    obtain ⟨td, h1, h2⟩ := (hT.ty kt ti hti).d
    split at h
    · rename_i hk
      rw [hk] at h2
      cases h2
      obtain ⟨⟨l⟩⟩ := s
      exact ⟨_, _, _, h1, .str l⟩
    · cases h
  · cases h
theorem isKey_for {kd : TypeDesc} {x : Value} (h : KeyFor kd x) : MapKept.IsKey kd x := by cases h <;> first | trivial | rfl
theorem map_cells {X : AX} {k g : Nat} {l : List (Value × DV)} (hS : Sto X) (h : X.σ[k]? = some (.mapb g l)) : ∃ b n es clock, X.ρ k = some (b, n) ∧ X.w.heap[b]? = some (.map es clock) ∧ (∀ e ∈ es, e.born < clock) ∧ es.size = l.length ∧ l.map (·.1) = es.toList.map (·.key) ∧
    ∀ (j : Nat) (e : MapEntry) (d : DV), es.toList[j]? = some e → (l.map (·.2))[j]? = some d → VRep X.lay d e.val := by
  obtain ⟨b, n, es, clock, h1, h2, h3, h4, h5⟩ := hS.map h
  have hget : ∀ j (e : MapEntry), es.toList[j]? = some e → es.getD j default = e := fun j e he => by
    simp only [Array.getElem?_toList] at he
    simp [Array.getD_eq_getD_getElem?, he]
  refine ⟨b, n, es, clock, h1, h2, h4, h3, ?_, fun j e d he hd => ?_⟩
  · apply List.ext_getElem?
    intro j
    rw [List.getElem?_map, List.getElem?_map]
    rcases Nat.lt_or_ge j l.length with hj | hj
    · have hj' : j < es.toList.length := by simpa using (by omega : j < es.size)
      rw [List.getElem?_eq_getElem hj, List.getElem?_eq_getElem hj']
      have := (h5 j l[j].1 l[j].2 (by rw [List.getElem?_eq_getElem hj])).1
      rw [hget j _ (List.getElem?_eq_getElem hj')] at this
      show some l[j].1 = some es.toList[j].key
      rw [this]
    · rw [List.getElem?_eq_none hj, List.getElem?_eq_none (by simpa using (by omega : es.size ≤ j))]; rfl
  · rw [List.getElem?_map] at hd
    cases hl : l[j]? with
    | none => simp [hl] at hd
    | some p =>
      simp [hl] at hd
      subst hd
      have := (h5 j p.1 p.2 hl).2
      rwa [hget j e he] at this

section
variable {P : Program} {G : Nat → DV} {B : Nat} {f fe : Operand → DV} {σ : List ABlk} {K : DV → List ABlk → Prop} {dst : Option Tmp} {type : TypeId} {pos : String} {after : Array Edge} {gd : Option (Nat × Bool)} {Γ : List Nat}

theorem zero_run {et : Nat} {z : Value} (h : (P.info? et).bind (·.zero) = some z) (w : World) : (zeroValue et).run P w = .ok z w := by
  cases hi : P.info? et with
  | none => simp [hi] at h
  | some i =>
    simp [hi] at h
    simp [zeroValue, typeInfo, hi, h, Result.andThen]
theorem zero_rep {X : AX} {et : Nat} {ti : TI} {zd : DV} (hti : TIok P et ti) (h : zeroD ti = some zd) : ∃ z, (∀ w, (zeroValue et).run P w = .ok z w) ∧ VRep X.lay zd z := by
  have hv := hti.v
  have hone := hti.z.one
  unfold zeroD at h
  split at h
  · rename_i ha
    rw [ha] at hv
    cases h
    refine ⟨_, zero_run hv, .agg _ _ (by simp) (fun d hd => ?_) fun j d hj => ?_⟩
    · obtain ⟨u, hu, rfl⟩ := List.mem_map.1 hd
      exact List.all_eq_true.1 hone u hu
    · rw [List.getElem?_map] at hj
      cases hu : ti.zs[j]? with
      | none => simp [hu] at hj
      | some u =>
        simp [hu] at hj
        subst hj
        have : ti.zs.toArray.getD j undef = u := by simp [Array.getD_eq_getD_getElem?, hu]
        rw [this]; exact .sc u
  · rename_i ha
    rw [ha] at hv
    split at h
    · rename_i z hz
      cases h
      exact ⟨z, zero_run (hv z hz), .sc z⟩
    · cases h

/-- A map is asked. -/
theorem s_lookup_g {t kt et : TypeId} {agg : Bool} {size : Nat} {m ix : Operand} {k g : Nat} {l l0 : List (Value × DV)} {x : Value} {r : Option DV} {zd : DV} {tie : TI} {ok : Bool} {T : Tab} (hT : TOk P T) [ht : TyI P t (.map kt et) agg size] (hkx : keyOk T kt x = true) (hm : f m = .mp k g) (hσk : σ[k]? = some (.mapb g l)) (hx : f ix = .sc x)
    (h1 : l0.map (·.1) = l.map (·.1)) (h2 : EVs Γ (l0.map (·.2)) (l.map (·.2))) (hr : findM x l0 = some r) (hte : tyOf T et = some tie) (hz : zeroD tie = some zd)
    (hK : ∀ d', EV Γ (okD ok (r.getD zd) r.isSome) d' → K d' σ) : OpSem P G B ⟨dst, .lookup t m ix ok, type, pos, after, gd⟩ f σ K := fun X ρ hS hσ hB _ hf => by
  subst hσ
  have e1 := hf m (by simp [Op.operands]); rw [hm] at e1
  have e2 := hf ix (by simp [Op.operands]); rw [hx] at e2
  have e2 := VRep.sc_eq e2
  obtain ⟨kd, a1, s1, hkt, hkf⟩ := keyOk_ok hT hkx
  obtain ⟨b, n, es, clock, hρ, hb, _, hl, hkeys, hvals⟩ := map_cells hS hσk
  have e1 := VRep.mp_inv hσk e1 hρ
  obtain ⟨z, hz1, hz2⟩ := zero_rep (X := X) (hT.ty et tie hte) hz
  have hzc : EV Γ zd zd := by
    unfold zeroD at hz
    split at hz
    · cases hz; exact .agg' (.sc _)
    · split at hz
      · cases hz; exact .sc' _
      · cases hz
  have fin : ∀ (v : Value) (d d' : DV) (bb : Bool), VRep X.lay d' v → EV Γ d d' → okD ok d bb = (okD ok (r.getD zd) r.isSome) → APost X K (if ok then .tuple #[v, .bool bb] else v) X.w := by
    intro v d d' bb hv hd he
    rw [← he] at hK
    cases ok with
    | false => exact post_same hS hv (hK d' hd)
    | true =>
      refine post_same hS (d := .tup [d', .sc (.bool bb)]) (.tup _ _ rfl fun j e hj => ?_) (hK _ (.tup' (.cons hd (.cons (.sc' _) .nil))))
      match j, hj with
      | 0, hj => cases hj; exact hv
      | 1, hj => cases hj; exact .sc _
      | j + 2, hj => simp at hj
  simp only [execOp, e1, e2, Sem.run_bind]
  rcases findM_ok hkf l0 es.toList 0 r (by rw [h1, hkeys]) hr with ⟨rfl, h4⟩ | ⟨j, d, e, rfl, h4, h5, _, h6⟩
  · have hrun : (Instr.lookup t (.map (some b)) x ok).run P X.w = .ok (if ok then .tuple #[z, .bool false] else z) X.w := by
      cases ok <;> simp [Instr.lookup, run_underlying ht.u, MapKept.run_getObj_map hb, MapKept.run_checkKey hkt.u (isKey_for hkf), MapKept.run_findKey hkt.u h4, Result.andThen, hz1]
    rw [hrun]
    simp only [Result.andThen_ok, Sem.run_pure]
    exact fin z zd zd false hz2 hzc rfl
  · have hrun : (Instr.lookup t (.map (some b)) x ok).run P X.w = .ok (if ok then .tuple #[e.val, .bool true] else e.val) X.w := by
      cases ok <;> simp [Instr.lookup, run_underlying ht.u, MapKept.run_getObj_map hb, MapKept.run_checkKey hkt.u (isKey_for hkf), MapKept.run_findKey hkt.u h6, Result.andThen]
    rw [hrun]
    simp only [Result.andThen_ok, Sem.run_pure]
    obtain ⟨d', hd1, hd2⟩ := h2.at h4
    exact fin e.val d d' true (hvals j e d' h5 hd1) hd2 rfl
end
end Go.Av
