/-
  Regions that draw their order, where operations float around ones that turn the store: the floating ones first.
-/
import Derived.Test.YtecbcpilcjmhlaaDoorAvJ
namespace Go.Av
open Classical
set_option linter.unusedSimpArgs false
set_option linter.unusedVariables false
section
variable {P : Program} {G : Nat → DV} {E : AX} {n : Nat} {ops : Array Oper} {md : Region.Mode} {Fin : (Nat → DV) → List ABlk → Prop}

theorem OPost.mono {X : AX} {K K' : DV → List ABlk → Prop} {r : Result Next} (hk : ∀ d σ, K d σ → K' d σ) (h : OPost P X K r) : OPost P X K' r := by
  have am : ∀ {v w'}, APost X K v w' → APost X K' v w' := fun ⟨Y, h1, h2, h3, d, h4, h5⟩ => ⟨Y, h1, h2, h3, d, h4, hk _ _ h5⟩
  cases r with
  | ok nx w' =>
    cases nx <;> simp only [OPost] at h ⊢
    case value v => exact am h
    case skip => exact am h
    case enter f args => exact ⟨h.1, h.2.mono fun e w'' ⟨v, he, hp⟩ => ⟨v, he, am hp⟩⟩
  | halt hh w' => simp only [OPost] at h
theorem OpSem.mono {B : Nat} {o : Oper} {f : Operand → DV} {σ : List ABlk} {K K' : DV → List ABlk → Prop} (h : OpSem P G B o f σ K) (hk : ∀ d σ, K d σ → K' d σ) : OpSem P G B o f σ K' := fun X ρ h1 h2 h3 h4 h5 =>
  (h X ρ h1 h2 h3 h4 h5).mono hk

/-- All orders. -/
def anyA (P : Program) (G : Nat → DV) (B n : Nat) (md : Region.Mode) (ops : Array Oper) (Fin : (Nat → DV) → List ABlk → Prop) : Nat → Array Bool → (Nat → DV) → List ABlk → Prop
  | 0, listed, φ, σ => Region.ready md ops listed = [] ∧ Fin φ σ
  | f + 1, listed, φ, σ => (Region.ready md ops listed = [] → Fin φ σ) ∧ ∀ i ∈ Region.ready md ops listed, ∃ o, ops[i]? = some o ∧ (∀ s, o.dst = some s → s < n) ∧
      ((Wd n ops o φ true ∧ OpSem P G B o (aevF G φ) σ (fun d σ' => anyA P G B n md ops Fin f (listed.setIfInBounds i true) (updF o.dst d φ) σ')) ∨
       (Wd n ops o φ false ∧ anyA P G B n md ops Fin f (listed.setIfInBounds i true) (updF o.dst (.sc undef) φ) σ))

/-- An operation that may be carried out at once. -/
theorem anyA_first {B : Nat} {i : Nat} {oi : Oper} {d : DV} (hi : ops[i]? = some oi) : ∀ (f : Nat) (listed : Array Bool) (φ : Nat → DV) (σ : List ABlk), Closed md ops listed →
      (∀ j oj, ops[j]? = some oj → j ≠ i → listed.getD j true = false → (∀ e ∈ oj.after, Region.binds md e = true → e.on ≠ i) → oi.apart ops oj = true) →
      i ∈ Region.ready md ops listed → (∀ σ, YA P G B n ops σ oi d φ) →
      anyA P G B n md ops Fin f (listed.setIfInBounds i true) (updF oi.dst d φ) σ → anyA P G B n md ops Fin (f + 1) listed φ σ := by
  intro f
  have now : ∀ (f : Nat) (listed : Array Bool) (φ : Nat → DV) (σ : List ABlk), (∀ σ, YA P G B n ops σ oi d φ) → anyA P G B n md ops Fin f (listed.setIfInBounds i true) (updF oi.dst d φ) σ →
      ∃ o, ops[i]? = some o ∧ (∀ s, o.dst = some s → s < n) ∧ ((Wd n ops o φ true ∧ OpSem P G B o (aevF G φ) σ (fun d σ' => anyA P G B n md ops Fin f (listed.setIfInBounds i true) (updF o.dst d φ) σ')) ∨
       (Wd n ops o φ false ∧ anyA P G B n md ops Fin f (listed.setIfInBounds i true) (updF o.dst (.sc undef) φ) σ)) := fun f listed φ σ hy H => by
    obtain ⟨h0, h⟩ := hy σ
    refine ⟨oi, hi, h0, ?_⟩
    rcases h with ⟨h1, h2⟩ | ⟨h1, h2⟩
    · exact .inl ⟨h1, h2.mono fun d' σ' ⟨e1, e2⟩ => by rw [e1, e2]; exact H⟩
    · exact .inr ⟨h1, by rw [← h2]; exact H⟩
  induction f with
  | zero =>
    intro listed φ σ hc hfree hr hy H
    refine ⟨fun h => (by rw [h] at hr; cases hr), fun j hj => ?_⟩
    by_cases hji : j = i
    · subst hji; exact now 0 listed φ σ hy H
    · have := ready_mono hj hji
      rw [H.1] at this; cases this
  | succ f ih =>
    intro listed φ σ hc hfree hr hy H
    refine ⟨fun h => (by rw [h] at hr; cases hr), fun j hj => ?_⟩
    by_cases hji : j = i
    · subst hji; exact now (f + 1) listed φ σ hy H
    · obtain ⟨oj, hoj, hdst, Hj⟩ := H.2 j (ready_mono hj hji)
      obtain ⟨hjun, oj', hoj', hall⟩ := mem_ready.1 hj
      rw [hoj] at hoj'; cases hoj'
      have hnot : ∀ e ∈ oj.after, Region.binds md e = true → e.on ≠ i := fun e he hb heq => by
        have h1 := hall e he hb
        have h0 := (mem_ready.1 hr).1
        rw [heq] at h1
        rcases Nat.lt_or_ge i listed.size with h' | h'
        · simp [h'] at h0 h1; rw [h0] at h1; cases h1
        · simp [Array.getElem?_eq_none h'] at h1
      obtain ⟨a1, a2, a3⟩ := Oper.apart_spec (hfree j oj hoj hji hjun hnot)
      have next : ∀ d' σ', anyA P G B n md ops Fin f ((listed.setIfInBounds i true).setIfInBounds j true) (updF oj.dst d' (updF oi.dst d φ)) σ' → anyA P G B n md ops Fin (f + 1) (listed.setIfInBounds j true) (updF oj.dst d' φ) σ' := fun d' σ' h => by
        refine ih _ _ _ (hc.step hj) ?_ (ready_mono hr (Ne.symm hji)) (fun σ => (hy σ).same (upd_looks a3)) ?_
        · intro k ok hk hki hun hno
          refine hfree k ok hk hki ?_ hno
          by_cases hjk : j = k
          · subst hjk; exact hjun
          · rw [getD_set_ne true hjk] at hun; exact hun
        · rw [Array.setIfInBounds_comm _ _ hji, ← updF_comm d d' φ a2]
          exact h
      refine ⟨oj, hoj, hdst, ?_⟩
      have looks : ∀ t ∈ oj.looksAt ops, φ t = updF oi.dst d φ t := fun t ht => (upd_looks (d := d) (φ := φ) a1 t ht).symm
      rcases Hj with ⟨h1, h2⟩ | ⟨h1, h2⟩
      · refine .inl ⟨h1.same looks, (h2.same fun x hx => ?_).mono fun d' σ' h => next d' σ' h⟩
        cases x with
        | tmp t => exact looks t (List.mem_append_left _ (List.mem_filterMap.2 ⟨.tmp t, by simpa using hx, rfl⟩))
        | _ => rfl
      · exact .inr ⟨h1.same looks, next _ _ h2⟩

/-- Soundness. -/
theorem anyA_run : ∀ (f : Nat) (listed : Array Bool) (φ : Nat → DV) (σ : List ABlk), anyA P G E.N n md ops Fin f listed φ σ → ∀ a w, RelF G E n φ σ a w → wpAny P md ops (fun e a w => e = .normal ∧ ∃ φ σ, RelF G E n φ σ a w ∧ Fin φ σ) f listed a w
  | 0, listed, φ, σ, h, a, w, hr => ⟨h.1, rfl, φ, σ, hr, h.2⟩
  | f + 1, listed, φ, σ, h, a, w, hr => by
    refine ⟨fun h0 => ⟨rfl, φ, σ, hr, h.1 h0⟩, fun i hi => ?_⟩
    obtain ⟨o, ho, hdst, hn⟩ := h.2 i hi
    unfold wpOp
    simp only [ho]
    obtain ⟨X, h1, h2, h3, h4, h5, h6, h7, h8⟩ := hr
    have hput : ∀ {X' : AX} {v : Value} {d' : DV} {σ' : List ABlk}, X'.σ = σ' → Sto X' → WExt X X' → VRep X'.lay d' v → RelF G E n (updF o.dst d' φ) σ' (a.put o.dst v) X'.w := by
      intro X' v d' σ' g1 g2 g3 g4
      refine ⟨X', rfl, g1, g2, h4.trans g3, h5.ext g3, ?_, ?_, fun j => ?_⟩
      · cases ho : o.dst <;> exact h6
      · cases ho : o.dst <;> simp [Act.put, h7]
      · cases ho : o.dst with
        | none => exact (h8 j).ext g3
        | some s =>
          have hs := hdst s ho
          simp only [updF, Act.put]
          by_cases hsj : s = j
          · subst hsj
            rw [if_pos rfl]
            simpa [Array.getD_eq_getD_getElem?, Array.getElem?_setIfInBounds, h7, hs] using g4
          · rw [if_neg hsj]
            have := (h8 j).ext g3
            simpa [Array.getD_eq_getD_getElem?, Array.getElem?_setIfInBounds_ne hsj] using this
    have hwd : ∀ b, Wd n ops o φ b → Region.wanted o (yielded ops a.tmps) = b := by
      intro b hb
      unfold Wd at hb
      cases hg : o.guard with
      | none => rw [hg] at hb; simp [Region.wanted, hg, hb]
      | some gw =>
        obtain ⟨j, want⟩ := gw
        rw [hg] at hb
        obtain ⟨s, c, e1, e2, e3, e4⟩ := hb
        have hv := h8 s
        rw [e3] at hv
        have hv := VRep.sc_eq hv
        have hget : a.tmps[s]? = some c := by
          have hlt : s < a.tmps.size := by rw [h7]; exact e2
          simp only [Array.getD_eq_getD_getElem?] at hv
          rw [Array.getElem?_eq_getElem hlt] at hv ⊢
          simpa using hv
        have : yielded ops a.tmps j = yv c := by rw [yielded, e1, Option.bind_some, hget]; cases c <;> rfl
        simp only [Region.wanted, hg, this, e4]
    rcases hn with ⟨hw, hs⟩ | ⟨hw, hK⟩
    · rw [hwd true hw]
      simp only [if_true]
      refine .inl ?_
      have hx : ∀ x ∈ o.op.operands, VRep X.lay (aevF G φ x) (a.eval x) := fun x _ => by
        cases x with
        | tmp i => exact h8 i
        | const v => exact .sc v
        | global g => exact (h5 g).2
        | func f => exact .fn _ [] [] #[] #[] rfl rfl (fun j d h => by simp at h) (fun j d h => by simp at h)
      have hs := hs X a.eval h3 h2 h4.top h5 hx
      rw [h1] at hs
      unfold Oper.wp
      generalize (execOp a.eval o).run P w = x at *
      cases x with
      | ok nx w' =>
        cases nx <;> simp only [OPost] at hs <;> simp only [Oper.upon]
        case value v =>
          obtain ⟨X', e1, e2, e3, d', hv, hσ'⟩ := hs
          subst e1
          exact anyA_run f _ _ _ hσ' _ _ (hput rfl e2 e3 hv)
        case skip =>
          obtain ⟨X', e1, e2, e3, d', hv, hσ'⟩ := hs
          subst e1
          exact anyA_run f _ _ _ hσ' _ _ (hput rfl e2 e3 hv)
        case enter g args =>
          refine hs.2.mono fun e w'' ⟨v, he, X', e1, e2, e3, d', hv, hσ'⟩ => ?_
          subst he
          subst e1
          exact anyA_run f _ _ _ hσ' _ _ (hput rfl e2 e3 hv)
      | halt hh w' => simp only [OPost] at hs
    · rw [hwd false hw]
      simp only [Bool.false_eq_true, if_false]
      have := hput (X' := X) (v := undef) h2 h3 (.refl X) (VRep.sc undef)
      rw [h1] at this
      exact anyA_run f _ _ _ hK _ _ this

/-- An order, each with whether it floats. -/
def mixB (md : Region.Mode) (ops : Array Oper) : List (Nat × Bool) → Array Bool → Bool
  | [], listed => (Region.ready md ops listed).isEmpty
  | (j, true) :: r, listed => (Region.ready md ops listed).contains j && Region.free md ops listed j && mixB md ops r (listed.setIfInBounds j true)
  | (j, false) :: r, listed => (Region.ready md ops listed) == [j] && mixB md ops r (listed.setIfInBounds j true)
/-- What has to hold along it. -/
def AMix (P : Program) (G : Nat → DV) (B n : Nat) (ops : Array Oper) (Fin : (Nat → DV) → List ABlk → Prop) : List (Oper × Bool) → (Nat → DV) → List ABlk → Prop
  | [], φ, σ => Fin φ σ
  | (o, true) :: l, φ, σ => ∃ d, (∀ σ, YA P G B n ops σ o d φ) ∧ AMix P G B n ops Fin l (updF o.dst d φ) σ
  | (o, false) :: l, φ, σ => (∀ s, o.dst = some s → s < n) ∧ ((Wd n ops o φ true ∧ OpSem P G B o (aevF G φ) σ (fun d σ' => AMix P G B n ops Fin l (updF o.dst d φ) σ')) ∨ (Wd n ops o φ false ∧ AMix P G B n ops Fin l (updF o.dst (.sc undef) φ) σ))
theorem anyA_mix {B : Nat} : ∀ (js : List (Nat × Bool)) (l : List (Oper × Bool)) (listed : Array Bool) (φ : Nat → DV) (σ : List ABlk), js.map (fun p => (ops[p.1]?, p.2)) = l.map (fun p => (some p.1, p.2)) → Closed md ops listed → mixB md ops js listed = true →
    AMix P G B n ops Fin l φ σ → anyA P G B n md ops Fin js.length listed φ σ
  | [], [], listed, φ, σ, _, _, hB, h => ⟨by simpa [mixB] using hB, h⟩
  | [], _ :: _, _, _, _, he, _, _, _ => by simp at he
  | _ :: _, [], _, _, _, he, _, _, _ => by simp at he
  | (j, b) :: js, (o, b') :: l, listed, φ, σ, he, hc, hB, h => by
    simp only [List.map_cons, List.cons.injEq, Prod.mk.injEq] at he
    obtain ⟨⟨ho, rfl⟩, he⟩ := he
    cases b with
    | true =>
      simp only [mixB, Bool.and_eq_true] at hB
      obtain ⟨⟨h1, h2⟩, h3⟩ := hB
      obtain ⟨d, hy, hK⟩ := h
      have hr : j ∈ Region.ready md ops listed := by simpa using h1
      exact anyA_first ho js.length listed φ σ hc (Region.free_spec ho h2) hr hy (anyA_mix js l _ _ _ he (hc.step hr) h3 hK)
    | false =>
      simp only [mixB, Bool.and_eq_true, beq_iff_eq] at hB
      obtain ⟨h1, h3⟩ := hB
      have hr : j ∈ Region.ready md ops listed := by rw [h1]; simp
      refine ⟨fun h0 => (by rw [h1] at h0; cases h0), fun i hi => ?_⟩
      rw [h1, List.mem_singleton] at hi
      subst hi
      refine ⟨o, ho, h.1, ?_⟩
      rcases h.2 with ⟨h4, h5⟩ | ⟨h4, h5⟩
      · exact .inl ⟨h4, h5.mono fun d σ' hK => anyA_mix js l _ _ _ he (hc.step hr) h3 hK⟩
      · exact .inr ⟨h4, anyA_mix js l _ _ _ he (hc.step hr) h3 h5⟩

def pickOps (l : List Oper) : List (Nat × Bool) → Option (List (Oper × Bool))
  | [] => some []
  | (j, b) :: r => match l[j]? with
    | none => none
    | some o => match pickOps l r with | none => none | some m => some ((o, b) :: m)
theorem pickOps_eq {l : List Oper} : ∀ {js : List (Nat × Bool)} {m : List (Oper × Bool)}, pickOps l js = some m → js.map (fun p => (l.toArray[p.1]?, p.2)) = m.map (fun p => (some p.1, p.2))
  | [], m, h => by simp only [pickOps, Option.some.injEq] at h; subst h; rfl
  | (j, b) :: r, m, h => by
    unfold pickOps at h
    split at h
    · cases h
    · rename_i o ho
      split at h
      · cases h
      · rename_i m' hm'
        cases h
        rw [List.map_cons, List.map_cons, pickOps_eq hm', List.getElem?_toArray, ho]

variable {N : ASt → Prop} {xs : List (Nat × (ASt → Prop))} {R : ASt → Prop} {σ : List ABlk} {t : Fr}
/-- A region that draws its order, walked in an order of our own: operations that float are carried out early. -/
theorem r_drawo (js : List (Nat × Bool)) {id : Nat} {l : List Oper} {m : List (Oper × Bool)} (hp : pickOps l js = some m) (hl : Nat.beq js.length l.length = true) (hm : P.follows .mixedOrders = true) (hB : mixB .any l.toArray js (Array.replicate l.toArray.size false) = true)
    (h : AMix P G E.N n l.toArray (fun φ σ => ∃ t', (∀ i, look t' i = .any ∨ look t' i = φ i) ∧ N ⟨t', σ⟩) m (look t) σ) : ARun P G E n (.region id l.toArray true) N xs R ⟨t, σ⟩ := fun a w hr => by
  have hr' : RelF G E n (look t) σ a { w with drawn := w.drawn + 1 } := by
    obtain ⟨X, e1, e2, e3, e4, e5, e6, e7, e8⟩ := hr
    have hk := Keep.drew X.w
    subst e1
    exact ⟨X.inW X.w.drew, rfl, e2, e3.inW hk, e4.trans (WExt.inW hk), e5.ext (WExt.inW hk), e6, e7, fun i => (e8 i).ext (WExt.inW hk)⟩
  have hany := anyA_mix (md := .any) js m (Array.replicate l.toArray.size false) (look t) σ (pickOps_eq hp) (fun j o _ hl => by simp [Array.getElem?_replicate] at hl; split at hl <;> simp at hl) hB h
  rw [Nat.eq_of_beq_eq_true hl, show l.length = l.toArray.size from by simp] at hany
  refine wp_mono (wp_region_any hm (anyA_run _ _ _ _ hany a _ hr')) fun e a' w' ⟨he, φ, σ', ⟨X, e1, e2, e3, e4, e5, e6, e7, e8⟩, t', ht', hN⟩ => ?_
  subst he
  refine ⟨⟨t', σ'⟩, ⟨X, e1, e2, e3, e4, e5, e6, e7, fun i => ?_⟩, hN⟩
  rcases ht' i with h' | h'
  · rw [h']; exact .any _
  · rw [h']; exact e8 i

variable {B : Nat} {l : List (Oper × Bool)}
theorem g_mix {φ : Nat → DV} (h : AMix P G B n ops Fin l φ σ) : AMix P G B n ops Fin l φ σ := h
theorem m_nil (h : N ⟨t, σ⟩) : AMix P G B n ops (fun φ σ => ∃ t', (∀ i, look t' i = .any ∨ look t' i = φ i) ∧ N ⟨t', σ⟩) [] (look t) σ := ⟨t, fun _ => .inr rfl, h⟩
theorem m_st {i : Tmp} {op : Op} {type : TypeId} {pos : String} {after : Array Edge} {d : DV} (hd : Nat.blt i n = true) (h : ∀ σ', OpSem P G B ⟨some i, op, type, pos, after, none⟩ (aev G t) σ' (fun d' s => d' = d ∧ s = σ')) (k : AMix P G B n ops Fin l (look ((i, d) :: t)) σ) :
    AMix P G B n ops Fin ((⟨some i, op, type, pos, after, none⟩, true) :: l) (look t) σ := by
  refine ⟨d, fun σ' => ⟨fun j hj => by cases hj; exact Nat.ble_eq.mp hd, .inl ⟨rfl, by rw [aevF_look]; exact h σ'⟩⟩, ?_⟩
  rw [look_put] at k; exact k
theorem m_ef {i : Tmp} {op : Op} {type : TypeId} {pos : String} {after : Array Edge} (hd : Nat.blt i n = true) (h : OpSem P G B ⟨some i, op, type, pos, after, none⟩ (aev G t) σ (fun d σ' => AMix P G B n ops Fin l (look ((i, d) :: t)) σ')) :
    AMix P G B n ops Fin ((⟨some i, op, type, pos, after, none⟩, false) :: l) (look t) σ := by
  refine ⟨fun j hj => by cases hj; exact Nat.ble_eq.mp hd, .inl ⟨rfl, ?_⟩⟩
  rw [aevF_look]
  exact h.mono fun d σ' k => by rw [look_put] at k; exact k
theorem m_ef0 {op : Op} {type : TypeId} {pos : String} {after : Array Edge} (h : OpSem P G B ⟨none, op, type, pos, after, none⟩ (aev G t) σ (fun _ σ' => AMix P G B n ops Fin l (look t) σ')) :
    AMix P G B n ops Fin ((⟨none, op, type, pos, after, none⟩, false) :: l) (look t) σ := by
  refine ⟨fun j hj => (by cases hj), .inl ⟨rfl, ?_⟩⟩
  rw [aevF_look]
  exact h.mono fun d σ' k => k
end
end Go.Av
