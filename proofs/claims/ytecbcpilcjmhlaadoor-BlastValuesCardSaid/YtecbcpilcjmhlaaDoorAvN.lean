/-
  Regions that draw their order, where operations that read the store float around ones that turn other parts of it.
-/
import Derived.Test.YtecbcpilcjmhlaaDoorAvM
namespace Go.Av
open Classical
set_option linter.unusedSimpArgs false
set_option linter.unusedVariables false
section
variable {P : Program} {G : Nat → DV} {E : AX} {n : Nat} {ops : Array Oper} {md : Region.Mode} {Fin : (Nat → DV) → List ABlk → Prop} {Inv : List ABlk → Prop} {z : Nat}

/-- What an operation comes after, at one step and at some. -/
def deps (md : Region.Mode) (ops : Array Oper) (k : Nat) : List Nat := match ops[k]? with
  | none => []
  | some o => (o.after.toList.filter fun e => Region.binds md e).map fun e => e.on
def clos (md : Region.Mode) (ops : Array Oper) : Nat → List Nat → List Nat
  | 0, l => l
  | f + 1, l => clos md ops f (l ++ l.flatMap (deps md ops)).eraseDups
/-- Every other operation comes before the one with the number z, if there is one. -/
def lastB (md : Region.Mode) (ops : Array Oper) (z : Nat) : Bool := match ops[z]? with
  | none => true
  | some _ => (List.range ops.size).all fun k => Nat.beq k z || (clos md ops 4 (deps md ops z)).contains k
theorem mem_deps {k j : Nat} (h : j ∈ deps md ops k) : ∃ o, ops[k]? = some o ∧ ∃ e ∈ o.after, Region.binds md e = true ∧ e.on = j := by
  unfold deps at h
  split at h
  · simp at h
  · rename_i o ho
    obtain ⟨e, he, rfl⟩ := List.mem_map.1 h
    obtain ⟨h1, h2⟩ := List.mem_filter.1 he
    exact ⟨o, ho, e, by simpa using h1, h2, rfl⟩
theorem clos_listed {listed : Array Bool} (hc : Closed md ops listed) : ∀ (f : Nat) (l : List Nat), (∀ k ∈ l, listed.getD k false = true) → ∀ k ∈ clos md ops f l, listed.getD k false = true
  | 0, l, h => h
  | f + 1, l, h => clos_listed hc f _ fun k hk => by
    rw [List.mem_eraseDups, List.mem_append] at hk
    rcases hk with hk | hk
    · exact h k hk
    · obtain ⟨m, hm, hk⟩ := List.mem_flatMap.1 hk
      obtain ⟨o, ho, e, he, hb, rfl⟩ := mem_deps hk
      exact hc m o ho (h m hm) e he hb
theorem lastB_spec {z k : Nat} {oz : Oper} {listed : Array Bool} (h : lastB md ops z = true) (hz : ops[z]? = some oz) (hc : Closed md ops listed) (hall : ∀ e ∈ oz.after, Region.binds md e = true → listed.getD e.on false = true) (hk : k < ops.size) (hne : k ≠ z) : listed.getD k false = true := by
  unfold lastB at h
  rw [hz] at h
  have := List.all_eq_true.1 h k (List.mem_range.2 hk)
  rw [Bool.or_eq_true] at this
  rcases this with h1 | h1
  · exact absurd (Nat.eq_of_beq_eq_true h1) hne
  · refine clos_listed hc 4 _ (fun m hm => ?_) k (List.contains_iff_mem.1 h1)
    obtain ⟨o, ho, e, he, hb, rfl⟩ := mem_deps hm
    rw [hz] at ho; cases ho
    exact hall e he hb

/-- All orders. -/
def anyI (P : Program) (G : Nat → DV) (B n : Nat) (md : Region.Mode) (ops : Array Oper) (Fin : (Nat → DV) → List ABlk → Prop) (Inv : List ABlk → Prop) (z : Nat) : Nat → Array Bool → (Nat → DV) → List ABlk → Prop
  | 0, listed, φ, σ => Region.ready md ops listed = [] ∧ Fin φ σ
  | f + 1, listed, φ, σ => (Region.ready md ops listed = [] → Fin φ σ) ∧ ∀ i ∈ Region.ready md ops listed, ∃ o, ops[i]? = some o ∧ (∀ s, o.dst = some s → s < n) ∧
      ((Wd n ops o φ true ∧ OpSem P G B o (aevF G φ) σ (fun d σ' => (i ≠ z → Inv σ') ∧ anyI P G B n md ops Fin Inv z f (listed.setIfInBounds i true) (updF o.dst d φ) σ')) ∨
       (Wd n ops o φ false ∧ anyI P G B n md ops Fin Inv z f (listed.setIfInBounds i true) (updF o.dst (.sc undef) φ) σ))

/-- An operation that may be carried out at once. -/
theorem anyI_first {B : Nat} {i : Nat} {oi : Oper} {d : DV} (hi : ops[i]? = some oi) (hz : lastB md ops z = true) (hiz : i ≠ z) : ∀ (f : Nat) (listed : Array Bool) (φ : Nat → DV) (σ : List ABlk), Closed md ops listed →
      (∀ j oj, ops[j]? = some oj → j ≠ i → listed.getD j true = false → (∀ e ∈ oj.after, Region.binds md e = true → e.on ≠ i) → oi.apart ops oj = true) →
      i ∈ Region.ready md ops listed → (∀ σ, Inv σ → YA P G B n ops σ oi d φ) → Inv σ →
      anyI P G B n md ops Fin Inv z f (listed.setIfInBounds i true) (updF oi.dst d φ) σ → anyI P G B n md ops Fin Inv z (f + 1) listed φ σ := by
  intro f
  have now : ∀ (f : Nat) (listed : Array Bool) (φ : Nat → DV) (σ : List ABlk), (∀ σ, Inv σ → YA P G B n ops σ oi d φ) → Inv σ → anyI P G B n md ops Fin Inv z f (listed.setIfInBounds i true) (updF oi.dst d φ) σ →
      ∃ o, ops[i]? = some o ∧ (∀ s, o.dst = some s → s < n) ∧ ((Wd n ops o φ true ∧ OpSem P G B o (aevF G φ) σ (fun d σ' => (i ≠ z → Inv σ') ∧ anyI P G B n md ops Fin Inv z f (listed.setIfInBounds i true) (updF o.dst d φ) σ')) ∨
       (Wd n ops o φ false ∧ anyI P G B n md ops Fin Inv z f (listed.setIfInBounds i true) (updF o.dst (.sc undef) φ) σ)) := fun f listed φ σ hy hI H => by
    obtain ⟨h0, h⟩ := hy σ hI
    refine ⟨oi, hi, h0, ?_⟩
    rcases h with ⟨h1, h2⟩ | ⟨h1, h2⟩
    · exact .inl ⟨h1, h2.mono fun d' σ' ⟨e1, e2⟩ => by rw [e1, e2]; exact ⟨fun _ => hI, H⟩⟩
    · exact .inr ⟨h1, by rw [← h2]; exact H⟩
  induction f with
  | zero =>
    intro listed φ σ hc hfree hr hy hI H
    refine ⟨fun h => (by rw [h] at hr; cases hr), fun j hj => ?_⟩
    by_cases hji : j = i
    · subst hji; exact now 0 listed φ σ hy hI H
    · have := ready_mono hj hji
      rw [H.1] at this; cases this
  | succ f ih =>
    intro listed φ σ hc hfree hr hy hI H
    refine ⟨fun h => (by rw [h] at hr; cases hr), fun j hj => ?_⟩
    by_cases hji : j = i
    · subst hji; exact now (f + 1) listed φ σ hy hI H
    · obtain ⟨oj, hoj, hdst, Hj⟩ := H.2 j (ready_mono hj hji)
      obtain ⟨hjun, oj', hoj', hall⟩ := mem_ready.1 hj
      rw [hoj] at hoj'; cases hoj'
      have hnot : ∀ e ∈ oj.after, Region.binds md e = true → e.on ≠ i := fun e he hb heq => by
        have h1 := hall e he hb
        have h0 := (mem_ready.1 hr).1
        rw [heq] at h1
        rcases Nat.lt_or_ge i listed.size with h' | h'
        · simp [h'] at h0 h1; rw [h0] at h1; cases h1
        · simp [Array.getElem?_eq_none h'] at h1
      obtain ⟨a1, a2, a3⟩ := Oper.apart_spec (hfree j oj hoj hji hjun hnot)
      have hjz : j ≠ z := fun e => by
        subst e
        have hl := lastB_spec hz hoj hc (fun e he hb => by simpa using hall e he hb) (show i < ops.size from (Array.getElem?_eq_some_iff.1 hi).1) (fun e => hji e.symm)
        have h0 := (mem_ready.1 hr).1
        rcases Nat.lt_or_ge i listed.size with h' | h'
        · simp [h'] at h0 hl; rw [h0] at hl; cases hl
        · simp [Array.getElem?_eq_none h'] at hl
      have next : ∀ d' σ', Inv σ' → anyI P G B n md ops Fin Inv z f ((listed.setIfInBounds i true).setIfInBounds j true) (updF oj.dst d' (updF oi.dst d φ)) σ' → anyI P G B n md ops Fin Inv z (f + 1) (listed.setIfInBounds j true) (updF oj.dst d' φ) σ' := fun d' σ' hI' h => by
        refine ih _ _ _ (hc.step hj) ?_ (ready_mono hr (Ne.symm hji)) (fun σ hs => (hy σ hs).same (upd_looks a3)) hI' ?_
        · intro k ok hk hki hun hno
          refine hfree k ok hk hki ?_ hno
          by_cases hjk : j = k
          · subst hjk; exact hjun
          · rw [getD_set_ne true hjk] at hun; exact hun
        · rw [Array.setIfInBounds_comm _ _ hji, ← updF_comm d d' φ a2]
          exact h
      refine ⟨oj, hoj, hdst, ?_⟩
      have looks : ∀ t ∈ oj.looksAt ops, φ t = updF oi.dst d φ t := fun t ht => (upd_looks (d := d) (φ := φ) a1 t ht).symm
      rcases Hj with ⟨h1, h2⟩ | ⟨h1, h2⟩
      · refine .inl ⟨h1.same looks, (h2.same fun x hx => ?_).mono fun d' σ' h => ⟨h.1, next d' σ' (h.1 hjz) h.2⟩⟩
        cases x with
        | tmp t => exact looks t (List.mem_append_left _ (List.mem_filterMap.2 ⟨.tmp t, by simpa using hx, rfl⟩))
        | _ => rfl
      · exact .inr ⟨h1.same looks, next _ _ hI h2⟩

/-- Soundness. -/
theorem anyI_run : ∀ (f : Nat) (listed : Array Bool) (φ : Nat → DV) (σ : List ABlk), anyI P G E.N n md ops Fin Inv z f listed φ σ → ∀ a w, RelF G E n φ σ a w → wpAny P md ops (fun e a w => e = .normal ∧ ∃ φ σ, RelF G E n φ σ a w ∧ Fin φ σ) f listed a w
  | 0, listed, φ, σ, h, a, w, hr => ⟨h.1, rfl, φ, σ, hr, h.2⟩
  | f + 1, listed, φ, σ, h, a, w, hr => by
    refine ⟨fun h0 => ⟨rfl, φ, σ, hr, h.1 h0⟩, fun i hi => ?_⟩
    obtain ⟨o, ho, hdst, hn⟩ := h.2 i hi
    unfold wpOp
    simp only [ho]
    obtain ⟨X, h1, h2, h3, h4, h5, h6, h7, h8⟩ := hr
    have hput : ∀ {X' : AX} {v : Value} {d' : DV} {σ' : List ABlk}, X'.σ = σ' → Sto X' → WExt X X' → VRep X'.lay d' v → RelF G E n (updF o.dst d' φ) σ' (a.put o.dst v) X'.w := by
      intro X' v d' σ' g1 g2 g3 g4
      refine ⟨X', rfl, g1, g2, h4.trans g3, h5.ext g3, ?_, ?_, fun j => ?_⟩
      · cases ho : o.dst <;> exact h6
      · cases ho : o.dst <;> simp [Act.put, h7]
      · cases ho : o.dst with
        | none => exact (h8 j).ext g3
        | some s =>
          have hs := hdst s ho
          simp only [updF, Act.put]
          by_cases hsj : s = j
          · subst hsj
            rw [if_pos rfl]
            simpa [Array.getD_eq_getD_getElem?, Array.getElem?_setIfInBounds, h7, hs] using g4
          · rw [if_neg hsj]
            have := (h8 j).ext g3
            simpa [Array.getD_eq_getD_getElem?, Array.getElem?_setIfInBounds_ne hsj] using this
    have hwd : ∀ b, Wd n ops o φ b → Region.wanted o (yielded ops a.tmps) = b := by
      intro b hb
      unfold Wd at hb
      cases hg : o.guard with
      | none => rw [hg] at hb; simp [Region.wanted, hg, hb]
      | some gw =>
        obtain ⟨j, want⟩ := gw
        rw [hg] at hb
        obtain ⟨s, c, e1, e2, e3, e4⟩ := hb
        have hv := h8 s
        rw [e3] at hv
        have hv := VRep.sc_eq hv
        have hget : a.tmps[s]? = some c := by
          have hlt : s < a.tmps.size := by rw [h7]; exact e2
          simp only [Array.getD_eq_getD_getElem?] at hv
          rw [Array.getElem?_eq_getElem hlt] at hv ⊢
          simpa using hv
        have : yielded ops a.tmps j = yv c := by rw [yielded, e1, Option.bind_some, hget]; cases c <;> rfl
        simp only [Region.wanted, hg, this, e4]
    rcases hn with ⟨hw, hs⟩ | ⟨hw, hK⟩
    · rw [hwd true hw]
      simp only [if_true]
      refine .inl ?_
      have hx : ∀ x ∈ o.op.operands, VRep X.lay (aevF G φ x) (a.eval x) := fun x _ => by
        cases x with
        | tmp i => exact h8 i
        | const v => exact .sc v
        | global g => exact (h5 g).2
        | func f => exact .fn _ [] [] #[] #[] rfl rfl (fun j d h => by simp at h) (fun j d h => by simp at h)
      have hs := hs X a.eval h3 h2 h4.top h5 hx
      rw [h1] at hs
      unfold Oper.wp
      generalize (execOp a.eval o).run P w = x at *
      cases x with
      | ok nx w' =>
        cases nx <;> simp only [OPost] at hs <;> simp only [Oper.upon]
        case value v =>
          obtain ⟨X', e1, e2, e3, d', hv, _, hσ'⟩ := hs
          subst e1
          exact anyI_run f _ _ _ hσ' _ _ (hput rfl e2 e3 hv)
        case skip =>
          obtain ⟨X', e1, e2, e3, d', hv, _, hσ'⟩ := hs
          subst e1
          exact anyI_run f _ _ _ hσ' _ _ (hput rfl e2 e3 hv)
        case enter g args =>
          refine hs.2.mono fun e w'' ⟨v, he, X', e1, e2, e3, d', hv, _, hσ'⟩ => ?_
          subst he
          subst e1
          exact anyI_run f _ _ _ hσ' _ _ (hput rfl e2 e3 hv)
      | halt hh w' => simp only [OPost] at hs
    · rw [hwd false hw]
      simp only [Bool.false_eq_true, if_false]
      have := hput (X' := X) (v := undef) h2 h3 (.refl X) (VRep.sc undef)
      rw [h1] at this
      exact anyI_run f _ _ _ hK _ _ this

/-- What has to hold along an order. -/
def IMix (P : Program) (G : Nat → DV) (B n : Nat) (ops : Array Oper) (Fin : (Nat → DV) → List ABlk → Prop) (Inv : List ABlk → Prop) (z : Nat) : List (Nat × Oper × Bool) → (Nat → DV) → List ABlk → Prop
  | [], φ, σ => Fin φ σ
  | (j, o, true) :: l, φ, σ => j ≠ z ∧ ∃ d, (∀ σ, Inv σ → YA P G B n ops σ o d φ) ∧ IMix P G B n ops Fin Inv z l (updF o.dst d φ) σ
  | (j, o, false) :: l, φ, σ => (∀ s, o.dst = some s → s < n) ∧ ((Wd n ops o φ true ∧ OpSem P G B o (aevF G φ) σ (fun d σ' => (j ≠ z → Inv σ') ∧ (l ≠ [] → Inv σ') ∧ IMix P G B n ops Fin Inv z l (updF o.dst d φ) σ')) ∨ (Wd n ops o φ false ∧ IMix P G B n ops Fin Inv z l (updF o.dst (.sc undef) φ) σ))
theorem anyI_mix {B : Nat} (hz : lastB md ops z = true) : ∀ (js : List (Nat × Bool)) (l : List (Nat × Oper × Bool)) (listed : Array Bool) (φ : Nat → DV) (σ : List ABlk), js.map (fun p => (p.1, ops[p.1]?, p.2)) = l.map (fun p => (p.1, some p.2.1, p.2.2)) → Closed md ops listed → mixB md ops js listed = true → (l ≠ [] → Inv σ) →
    IMix P G B n ops Fin Inv z l φ σ → anyI P G B n md ops Fin Inv z js.length listed φ σ
  | [], [], listed, φ, σ, _, _, hB, _, h => ⟨by simpa [mixB] using hB, h⟩
  | [], _ :: _, _, _, _, he, _, _, _, _ => by simp at he
  | _ :: _, [], _, _, _, he, _, _, _, _ => by simp at he
  | (j, b) :: js, (j', o, b') :: l, listed, φ, σ, he, hc, hB, hI, h => by
    simp only [List.map_cons, List.cons.injEq, Prod.mk.injEq] at he
    obtain ⟨⟨rfl, ho, rfl⟩, he⟩ := he
    have hI' : Inv σ := hI (by simp)
    clear hI
    cases b with
    | true =>
      simp only [mixB, Bool.and_eq_true] at hB
      obtain ⟨⟨h1, h2⟩, h3⟩ := hB
      obtain ⟨hjz, d, hy, hK⟩ := h
      have hr : j ∈ Region.ready md ops listed := by simpa using h1
      exact anyI_first ho hz hjz js.length listed φ σ hc (Region.free_spec ho h2) hr hy hI' (anyI_mix hz js l _ _ _ he (hc.step hr) h3 (fun _ => hI') hK)
    | false =>
      simp only [mixB, Bool.and_eq_true, beq_iff_eq] at hB
      obtain ⟨h1, h3⟩ := hB
      have hr : j ∈ Region.ready md ops listed := by rw [h1]; simp
      refine ⟨fun h0 => (by rw [h1] at h0; cases h0), fun i hi => ?_⟩
      rw [h1, List.mem_singleton] at hi
      subst hi
      refine ⟨o, ho, h.1, ?_⟩
      rcases h.2 with ⟨h4, h5⟩ | ⟨h4, h5⟩
      · exact .inl ⟨h4, h5.mono fun d σ' hK => ⟨hK.1, anyI_mix hz js l _ _ _ he (hc.step hr) h3 hK.2.1 hK.2.2⟩⟩
      · exact .inr ⟨h4, anyI_mix hz js l _ _ _ he (hc.step hr) h3 (fun _ => hI') h5⟩

def pickI (l : List Oper) : List (Nat × Bool) → Option (List (Nat × Oper × Bool))
  | [] => some []
  | (j, b) :: r => match l[j]? with
    | none => none
    | some o => match pickI l r with | none => none | some m => some ((j, o, b) :: m)
theorem pickI_eq {l : List Oper} : ∀ {js : List (Nat × Bool)} {m : List (Nat × Oper × Bool)}, pickI l js = some m → js.map (fun p => (p.1, l.toArray[p.1]?, p.2)) = m.map (fun p => (p.1, some p.2.1, p.2.2))
  | [], m, h => by simp only [pickI, Option.some.injEq] at h; subst h; rfl
  | (j, b) :: r, m, h => by
    unfold pickI at h
    split at h
    · cases h
    · rename_i o ho
      split at h
      · cases h
      · rename_i m' hm'
        cases h
        rw [List.map_cons, List.map_cons, pickI_eq hm', List.getElem?_toArray, ho]

variable {N : ASt → Prop} {xs : List (Nat × (ASt → Prop))} {R : ASt → Prop} {σ : List ABlk} {t : Fr}
/-- A region that draws its order, walked in an order of our own: operations that float are carried out early; the store keeps the form I on the way, but for the last operation z. -/
theorem r_drawi {ι : Type} (I : ι → List ABlk) (z : Nat) (js : List (Nat × Bool)) {id : Nat} {l : List Oper} {m : List (Nat × Oper × Bool)} (hp : pickI l js = some m) (hl : Nat.beq js.length l.length = true) (hm : P.follows .mixedOrders = true) (hB : mixB .any l.toArray js (Array.replicate l.toArray.size false) = true)
    (hz : lastB .any l.toArray z = true) (hI : ∃ p, σ = I p) (h : IMix P G E.N n l.toArray (fun φ σ => ∃ t', (∀ i, look t' i = .any ∨ look t' i = φ i) ∧ N ⟨t', σ⟩) (fun σ => ∃ p, σ = I p) z m (look t) σ) : ARun P G E n (.region id l.toArray true) N xs R ⟨t, σ⟩ := fun a w hr => by
  have hr' : RelF G E n (look t) σ a { w with drawn := w.drawn + 1 } := by
    obtain ⟨X, e1, e2, e3, e4, e5, e6, e7, e8⟩ := hr
    have hk := Keep.drew X.w
    subst e1
    exact ⟨X.inW X.w.drew, rfl, e2, e3.inW hk, e4.trans (WExt.inW hk), e5.ext (WExt.inW hk), e6, e7, fun i => (e8 i).ext (WExt.inW hk)⟩
  have hany := anyI_mix (md := .any) hz js m (Array.replicate l.toArray.size false) (look t) σ (pickI_eq hp) (fun j o _ hl => by simp [Array.getElem?_replicate] at hl; split at hl <;> simp at hl) hB (fun _ => hI) h
  rw [Nat.eq_of_beq_eq_true hl, show l.length = l.toArray.size from by simp] at hany
  refine wp_mono (wp_region_any hm (anyI_run _ _ _ _ hany a _ hr')) fun e a' w' ⟨he, φ, σ', ⟨X, e1, e2, e3, e4, e5, e6, e7, e8⟩, t', ht', hN⟩ => ?_
  subst he
  refine ⟨⟨t', σ'⟩, ⟨X, e1, e2, e3, e4, e5, e6, e7, fun i => ?_⟩, hN⟩
  rcases ht' i with h' | h'
  · rw [h']; exact .any _
  · rw [h']; exact e8 i

variable {B : Nat} {l : List (Nat × Oper × Bool)} {ι : Type} {I : ι → List ABlk} {j : Nat}
theorem i_nil {I : List ABlk → Prop} (h : N ⟨t, σ⟩) : IMix P G B n ops (fun φ σ => ∃ t', (∀ i, look t' i = .any ∨ look t' i = φ i) ∧ N ⟨t', σ⟩) I z [] (look t) σ := ⟨t, fun _ => .inr rfl, h⟩
theorem i_st {i : Tmp} {op : Op} {type : TypeId} {pos : String} {after : Array Edge} {d : DV} (hj : Nat.beq j z = false) (hd : Nat.blt i n = true) (h : ∀ p, OpSem P G B ⟨some i, op, type, pos, after, none⟩ (aev G t) (I p) (fun d' s => d' = d ∧ s = I p)) (k : IMix P G B n ops Fin (fun σ => ∃ p, σ = I p) z l (look ((i, d) :: t)) σ) :
    IMix P G B n ops Fin (fun σ => ∃ p, σ = I p) z ((j, ⟨some i, op, type, pos, after, none⟩, true) :: l) (look t) σ := by
  refine ⟨fun e => (by rw [e, Nat.beq_refl] at hj; cases hj), d, fun σ' ⟨p, hp⟩ => ⟨fun j hj => (by cases hj; exact Nat.ble_eq.mp hd), .inl ⟨rfl, by rw [aevF_look, hp]; exact h p⟩⟩, ?_⟩
  rw [look_put] at k; exact k
theorem i_ef {i : Tmp} {op : Op} {type : TypeId} {pos : String} {after : Array Edge} (hd : Nat.blt i n = true) (h : OpSem P G B ⟨some i, op, type, pos, after, none⟩ (aev G t) σ (fun d σ' => (∃ p, σ' = I p) ∧ IMix P G B n ops Fin (fun σ => ∃ p, σ = I p) z l (look ((i, d) :: t)) σ')) :
    IMix P G B n ops Fin (fun σ => ∃ p, σ = I p) z ((j, ⟨some i, op, type, pos, after, none⟩, false) :: l) (look t) σ := by
  refine ⟨fun j hj => by cases hj; exact Nat.ble_eq.mp hd, .inl ⟨rfl, ?_⟩⟩
  rw [aevF_look]
  exact h.mono fun d σ' k => by obtain ⟨k1, k⟩ := k; rw [look_put] at k; exact ⟨fun _ => k1, fun _ => k1, k⟩
theorem i_ef0 {op : Op} {type : TypeId} {pos : String} {after : Array Edge} (h : OpSem P G B ⟨none, op, type, pos, after, none⟩ (aev G t) σ (fun _ σ' => (∃ p, σ' = I p) ∧ IMix P G B n ops Fin (fun σ => ∃ p, σ = I p) z l (look t) σ')) :
    IMix P G B n ops Fin (fun σ => ∃ p, σ = I p) z ((j, ⟨none, op, type, pos, after, none⟩, false) :: l) (look t) σ := by
  refine ⟨fun j hj => (by cases hj), .inl ⟨rfl, ?_⟩⟩
  rw [aevF_look]
  exact h.mono fun d σ' ⟨k1, k⟩ => ⟨fun _ => k1, fun _ => k1, k⟩
/-- The last operation: the store may take any form. -/
theorem i_z0 {I : List ABlk → Prop} {op : Op} {type : TypeId} {pos : String} {after : Array Edge} (h : OpSem P G B ⟨none, op, type, pos, after, none⟩ (aev G t) σ (fun _ σ' => IMix P G B n ops Fin I j [] (look t) σ')) :
    IMix P G B n ops Fin I j [(j, ⟨none, op, type, pos, after, none⟩, false)] (look t) σ := by
  refine ⟨fun j hj => (by cases hj), .inl ⟨rfl, ?_⟩⟩
  rw [aevF_look]
  exact h.mono fun d σ' k => ⟨fun h => absurd rfl h, fun h => absurd rfl h, k⟩
theorem i_z {i : Tmp} {I : List ABlk → Prop} {op : Op} {type : TypeId} {pos : String} {after : Array Edge} (hd : Nat.blt i n = true) (h : OpSem P G B ⟨some i, op, type, pos, after, none⟩ (aev G t) σ (fun d σ' => IMix P G B n ops Fin I j [] (look ((i, d) :: t)) σ')) :
    IMix P G B n ops Fin I j [(j, ⟨some i, op, type, pos, after, none⟩, false)] (look t) σ := by
  refine ⟨fun j hj => by cases hj; exact Nat.ble_eq.mp hd, .inl ⟨rfl, ?_⟩⟩
  rw [aevF_look]
  exact h.mono fun d σ' k => by rw [look_put] at k; exact ⟨fun h => absurd rfl h, fun h => absurd rfl h, k⟩
/-- A loop whose rounds are walked one by one. -/
def ARounds (P : Program) (G : Nat → DV) (E : AX) (n : Nat) (c : Code) (N : ASt → Prop) (xs : List (Nat × (ASt → Prop))) (R : ASt → Prop) : Nat → ASt → Prop
  | 0, _ => False
  | k + 1, st => ARun P G E n c (ARounds P G E n c N xs R k) xs R st
theorem r_round {c : Code} {k : Nat} {st : ASt} (h : ARun P G E n c (ARounds P G E n c N xs R k) xs R st) : ARounds P G E n c N xs R (k + 1) st := h
theorem r_unroll {c : Code} (k : Nat) {st : ASt} (h : ARounds P G E n c N xs R (k + 1) st) : ARun P G E n (.loop c) N xs R st := fun a w hr => by
  refine wp_loop_rounds (k + 1) ?_
  generalize k + 1 = m at h
  clear k
  induction m generalizing st a w with
  | zero => exact h.elim
  | succ m ih =>
    refine wp_mono (h a w hr) fun e a' w' ⟨st', hr', hq⟩ => ?_
    cases e with
    | normal => exact ih a' w' hr' hq
    | exit id => exact ⟨st', hr', hq⟩
    | ret => exact ⟨st', hr', hq⟩
    | goto l => exact hq.elim
    | panic ch => exact hq.elim
    | outgrown => exact hq.elim
theorem g_imix {I : List ABlk → Prop} {φ : Nat → DV} (h : IMix P G B n ops Fin I z l φ σ) : IMix P G B n ops Fin I z l φ σ := h
end
/-- A frame cut down to some slots. -/
def keepF : List Nat → Fr → Option Fr
  | [], _ => some []
  | i :: r, t => match reD (look t i), keepF r t with
    | some d, some t' => some ((i, d) :: t')
    | _, _ => none
theorem keepF_spec {t : Fr} : ∀ {l : List Nat} {t' : Fr}, keepF l t = some t' → ∀ p ∈ t', look t p.1 = p.2
  | [], t', h, p, hp => by cases h; simp at hp
  | i :: r, t', h, p, hp => by
    simp only [keepF] at h
    split at h
    · rename_i d t'' h1 h2
      cases h
      rcases List.mem_cons.1 hp with rfl | hp
      · exact (reD_eq h1).symm
      · exact keepF_spec h2 p hp
    · cases h
theorem r_keep {P : Program} {G : Nat → DV} {E : AX} {n : Nat} {N : ASt → Prop} {xs : List (Nat × (ASt → Prop))} {R : ASt → Prop} {t t' : Fr} {σ : List ABlk} (l : List Nat) {id : Nat} {ops : Array Oper} {d : Bool} (h : keepF l t = some t') (k : ARun P G E n (.region id ops d) N xs R ⟨t', σ⟩) : ARun P G E n (.region id ops d) N xs R ⟨t, σ⟩ := fun a w hr =>
  k a w (hr.le (ale_drop (σ := σ) (r := []) (keepF_spec h) (by simp)))
/-- Operations without what they come after: a drawn region's goals stay small. -/
def bareO (o : Oper) : Oper := { o with after := #[] }
def bareA : List Oper → Option (List Oper)
  | [] => some []
  | ⟨dst, op, type, pos, _, gd⟩ :: r => match bareA r with
    | some r' => some (⟨dst, op, type, pos, #[], gd⟩ :: r')
    | none => none
theorem bareA_eq : ∀ {l lb : List Oper}, bareA l = some lb → lb = l.map bareO
  | [], lb, h => by cases h; rfl
  | o :: r, lb, h => by
    simp only [bareA] at h
    split at h
    · rename_i r' hr
      cases h
      rw [bareA_eq hr]; rfl
    · cases h
theorem exec_bare (ρ : Operand → Value) (o : Oper) : execOp ρ (bareO o) = execOp ρ o := rfl
theorem alex_bare {P : Program} {G : Nat → DV} {B n : Nat} {l0 : List Oper} {σ : List ABlk} {Q : (Nat → DV) → Prop} : ∀ {l : List Oper} {φ : Nat → DV}, ALex P G B n (l0.map bareO).toArray σ Q (l.map bareO) φ → ALex P G B n l0.toArray σ Q l φ
  | [], _, h => h
  | o :: r, φ, ⟨d, h, k⟩ => by
    have hwd : ∀ b, Wd n (l0.map bareO).toArray (bareO o) φ b → Wd n l0.toArray o φ b := fun b hb => by
      unfold Wd at *
      show (match o.guard with | none => b = true | some (j, want) => _)
      have hb : (match o.guard with | none => b = true | some (j, want) => ∃ s c, (((l0.map bareO).toArray)[j]?).bind (·.dst) = some s ∧ s < n ∧ φ s = .sc c ∧ b = (yv c == some want)) := hb
      cases hg : o.guard with
      | none => rw [hg] at hb; exact hb
      | some jw =>
        rw [hg] at hb
        obtain ⟨s, c, h1, h2⟩ := hb
        refine ⟨s, c, ?_, h2⟩
        rw [← h1]
        simp only [List.getElem?_toArray, List.getElem?_map]
        cases l0[jw.1]? <;> rfl
    obtain ⟨h0, h⟩ := h
    refine ⟨d, ⟨h0, ?_⟩, alex_bare k⟩
    rcases h with ⟨h1, h2⟩ | ⟨h1, h2⟩
    · exact .inl ⟨hwd _ h1, h2⟩
    · exact .inr ⟨hwd _ h1, h2⟩
section
variable {P : Program} {G : Nat → DV} {E : AX} {n : Nat} {N : ASt → Prop} {xs : List (Nat × (ASt → Prop))} {R : ASt → Prop}
theorem r_draw0b {σ : List ABlk} {id : Nat} {l lb : List Oper} {t : Fr} (hN : Nat.beq (nEff l) l.length = true) (hm : P.follows .mixedOrders = true) (hB : drawB l.toArray l.length = true) (hb : bareA l = some lb)
    (h : ALex P G E.N n lb.toArray σ (fun φ => ∃ t', (∀ i, look t' i = .any ∨ look t' i = φ i) ∧ N ⟨t', σ⟩) lb (look t)) : ARun P G E n (.region id l.toArray true) N xs R ⟨t, σ⟩ := by
  refine r_draw0 hN hm hB (alex_bare ?_)
  rw [← bareA_eq hb]
  have mono : ∀ {Q Q' : (Nat → DV) → Prop} (hq : ∀ φ, Q φ → Q' φ) {ops : Array Oper} {l : List Oper} {φ : Nat → DV}, ALex P G E.N n ops σ Q l φ → ALex P G E.N n ops σ Q' l φ := fun {Q Q'} hq {ops} l => by
    induction l with
    | nil => exact fun {φ} h => hq φ h
    | cons o r ih => exact fun {φ} ⟨d, h, k⟩ => ⟨d, h, ih k⟩
  exact mono (fun φ ⟨t', h1, h2⟩ => ⟨t', h1, o_nil h2⟩) h
theorem x_nilb {ops : Array Oper} {σ : List ABlk} {t : Fr} (h : N ⟨t, σ⟩) : ALex P G E.N n ops σ (fun φ => ∃ t', (∀ i, look t' i = .any ∨ look t' i = φ i) ∧ N ⟨t', σ⟩) [] (look t) := ⟨t, fun _ => .inr rfl, h⟩
end
section
variable {P : Program} {G : Nat → DV} {B : Nat} {f : Operand → DV} {σ : List ABlk} {K : DV → List ABlk → Prop} {dst : Option Tmp} {type : TypeId} {pos : String} {after : Array Edge} {gd : Option (Nat × Bool)}
theorem s_idx_arr1 {t e : TypeId} {d : TypeDesc} {n : Nat} {g1 g2 : Bool} {z1 : Nat} {x y : Operand} {m g : Nat} {cs : List DV} {kd : IntKind} {i : Nat} [ht : TyI P t (.array n e) g1 z1] [he : TyI P e d g2 1]
    (hx : f x = .ptr m g 0) (hm : σ[m]? = some (.row g cs)) (hy : f y = .sc (.int kd (i : Nat))) (h1 : i < n) (k : K (.ptr m g i) σ) : OpSem P G B ⟨dst, .indexAddr t x y, type, pos, after, gd⟩ f σ K :=
  s_idx_arr hx hm hy (by omega) (by omega) (by simpa using k)
/-- A whole block is written, or read, at once. -/
theorem s_store_whole {t : TypeId} {td : TypeDesc} {agg : Bool} {size : Nat} {x y : Operand} {m g : Nat} {cs ds : List DV} {σ' : List ABlk} [ht : TyI P t td agg size] (hx : f x = .ptr m g 0) (hm : σ[m]? = some (.row g cs)) (hy : f y = .agg ds)
    (hl : ds.length = size) (hc : cs.length = size) (hσ' : setA σ m (.row g ds) = some σ') (k : K (.sc undef) σ') : OpSem P G B ⟨dst, .store t x y, type, pos, after, gd⟩ f σ K :=
  s_store' (cs' := ds) hx hm hy rfl hl (by omega) (by omega) (fun j => by
    by_cases h : j < ds.length
    · rw [if_pos (by omega)]; simp
    · rw [if_neg (by omega), List.getElem?_eq_none (by omega), List.getElem?_eq_none (by omega)]) (by rw [← setA_eq hσ']; exact k)
theorem s_load_whole {t : TypeId} {td : TypeDesc} {size : Nat} {x : Operand} {m g : Nat} {cs : List DV} [ht : TyI P t td true size] (hx : f x = .ptr m g 0) (hm : σ[m]? = some (.row g cs)) (hl : cs.length = size) (k : K (.agg cs) σ) :
    OpSem P G B ⟨dst, .load t x, type, pos, after, gd⟩ f σ K := s_load_rowa' hx hm (by simp [← hl]) hl k
end
end Go.Av
