/-
  The evaluator is right: one operation in a frame, and operations one after the other.
-/
import Derived.Test.YtecbcpilcjmhlaaDoorEv6
namespace Go.Av
open Classical
set_option linter.unusedSimpArgs false
set_option linter.unusedVariables false

/-- Tries, exactly. -/
theorem Tr.get_set_eq {α : Type} : ∀ (f : Nat) (t : Tr α) (i j : Nat) (d : α), i + 1 < 2 ^ f → (t.set f i d).get j = if i = j then some d else t.get j := by
  intro f
  induction f with
  | zero => intro t i j d h; simp at h
  | succ f ih =>
    intro t i j d h
    have hp : 2 ^ (f + 1) = 2 * 2 ^ f := by rw [Nat.pow_succ]; omega
    rw [hp] at h
    have key : ∀ (v : Option α) (l r : Tr α), ((Tr.n v l r).set (f + 1) i d).get j = if i = j then some d else (Tr.n v l r).get j := by
      intro v l r
      simp only [Tr.set]
      cases hi : Nat.beq i 0 with
      | true =>
        have := Nat.eq_of_beq_eq_true hi
        subst this
        simp only [hi, Tr.get]
        cases hj : Nat.beq j 0 with
        | true =>
          have := Nat.eq_of_beq_eq_true hj
          subst this
          simp only [hj, if_true]
        | false =>
          simp only [hj]
          rw [if_neg (fun e => by subst e; simp at hj)]
      | false =>
        have hi0 : ¬ i = 0 := fun e => by subst e; simp at hi
        simp only [hi]
        cases hm : Nat.beq (Nat.mod i 2) 1 with
        | true =>
          have hm' : i % 2 = 1 := Nat.eq_of_beq_eq_true hm
          simp only [hm, Tr.get]
          cases hj : Nat.beq j 0 with
          | true =>
            have := Nat.eq_of_beq_eq_true hj
            subst this
            simp only [hj]
            rw [if_neg hi0]
          | false =>
            have hj0 : ¬ j = 0 := fun e => by subst e; simp at hj
            simp only [hj]
            cases hmj : Nat.beq (Nat.mod j 2) 1 with
            | true =>
              have hmj' : j % 2 = 1 := Nat.eq_of_beq_eq_true hmj
              simp only [hmj]
              rw [ih l (Nat.div i 2) (Nat.div j 2) d (show i / 2 + 1 < 2 ^ f by omega)]
              by_cases he : i = j
              · rw [if_pos he, if_pos (by rw [he])]
              · rw [if_neg he, if_neg (show ¬ Nat.div i 2 = Nat.div j 2 from fun e => he (half hi0 hj0 (by omega) e))]
            | false =>
              have hmj' : ¬ j % 2 = 1 := fun e => by rw [show Nat.mod j 2 = 1 from e] at hmj; simp at hmj
              simp only [hmj]
              rw [if_neg (fun e => by subst e; exact hmj' hm')]
        | false =>
          have hm' : ¬ i % 2 = 1 := fun e => by rw [show Nat.mod i 2 = 1 from e] at hm; simp at hm
          simp only [hm, Tr.get]
          cases hj : Nat.beq j 0 with
          | true =>
            have := Nat.eq_of_beq_eq_true hj
            subst this
            simp only [hj]
            rw [if_neg hi0]
          | false =>
            have hj0 : ¬ j = 0 := fun e => by subst e; simp at hj
            simp only [hj]
            cases hmj : Nat.beq (Nat.mod j 2) 1 with
            | true =>
              have hmj' : j % 2 = 1 := Nat.eq_of_beq_eq_true hmj
              simp only [hmj]
              rw [if_neg (fun e => by subst e; exact hm' hmj')]
            | false =>
              have hmj' : ¬ j % 2 = 1 := fun e => by rw [show Nat.mod j 2 = 1 from e] at hmj; simp at hmj
              simp only [hmj]
              rw [ih r (Nat.pred (Nat.div i 2)) (Nat.pred (Nat.div j 2)) d (show i / 2 - 1 + 1 < 2 ^ f by omega)]
              by_cases he : i = j
              · rw [if_pos he, if_pos (by rw [he])]
              · rw [if_neg he, if_neg (show ¬ Nat.pred (Nat.div i 2) = Nat.pred (Nat.div j 2) from fun e => he (half hi0 hj0 (by omega) (by
                  have e : i / 2 - 1 = j / 2 - 1 := e
                  omega)))]
    cases t with
    | n v l r => exact key v l r
    | e =>
      have := key none .e .e
      simp only [Tr.set] at this ⊢
      rw [this]
      by_cases he : i = j
      · rw [if_pos he, if_pos he]
      · rw [if_neg he, if_neg he]
        simp only [Tr.get]
        split
        · rfl
        · split <;> rfl

/-- Frames as functions. -/
abbrev FrF := Nat → Option DV
def updO (dst : Option Tmp) (d : DV) (τ : FrF) : FrF := match dst with | some i => fun j => if i = j then some d else τ j | none => τ
def aeF (G : Nat → DV) (τ : FrF) : Operand → DV
  | .tmp i => (τ i).getD .any
  | .const v => .sc v
  | .global g => G g
  | .func f => .fn (.func f) [] []
theorem aeE_eq (G : Nat → DV) (t : Tr DV) : aeE G t = aeF G t.get := by funext x; cases x <;> rfl
def wantF (ops : List Oper) (τ : FrF) (o : Oper) : Option Bool := match o.guard with
  | none => some true
  | some (j, want) => match ops[j]? with
    | some oj => match oj.dst with
      | some s => match τ s with
        | some (.sc (.bool b)) => some (b == want)
        | some (.sc _) => some false
        | _ => none
      | none => none
    | none => none
theorem wantE_eq (ops : List Oper) (t : Tr DV) (o : Oper) : wantE ops t o = wantF ops t.get o := rfl
theorem putE_eq {n : Nat} {dst : Option Tmp} {d : DV} {t t' : Tr DV} (h : putE n dst d t = some t') : t'.get = updO dst d t.get ∧ ∀ i, dst = some i → i < n := by
  unfold putE at h
  cases dst with
  | none => cases h; exact ⟨rfl, fun i hi => by cases hi⟩
  | some i =>
    simp only at h
    split at h
    · rename_i h1 h2
      cases h
      have h2 : i < 16000 := Nat.ble_eq.mp h2
      refine ⟨funext fun j => Tr.get_set_eq deep t i j d ?_, fun j hj => by cases hj; exact Nat.ble_eq.mp h1⟩
      exact Nat.lt_of_lt_of_le (Nat.succ_lt_succ h2) (by decide)
    · cases h

section
variable {P : Program} {G : Nat → DV} {E : AX} {n : Nat} {Γ0 : List Nat}

/-- The evaluator's frame and store, and the world's. -/
def ERel (G : Nat → DV) (E : AX) (n : Nat) (Γ0 : List Nat) (τ : FrF) (S : SS) (a : Act) (w : World) : Prop := ∃ (Γ : List Nat) (φ : Nat → DV) (σ : List ABlk), Gle Γ0 Γ ∧ ES Γ S σ ∧ (∀ i d, τ i = some d → EV Γ d (φ i)) ∧ RelF G E n φ σ a w

theorem wp_of_opsem {o : Oper} {φ : Nat → DV} {σ : List ABlk} {K : Act → World → Prop} {Q : Exit → Act → World → Prop} {a : Act} {w : World} (hd : ∀ i, o.dst = some i → i < n) (hr : RelF G E n φ σ a w)
    (h : OpSem P G E.N o (aevF G φ) σ (fun d σ' => ∀ a' w', RelF G E n (updF o.dst d φ) σ' a' w' → K a' w')) : o.wp P a w K Q := by
  obtain ⟨X, h1, h2, h3, h4, h5, h6, h7, h8⟩ := hr
  have hput : ∀ {X' : AX} {v : Value} {d' : DV} {σ' : List ABlk}, X'.σ = σ' → Sto X' → WExt X X' → VRep X'.lay d' v → RelF G E n (updF o.dst d' φ) σ' (a.put o.dst v) X'.w := by
    intro X' v d' σ' g1 g2 g3 g4
    refine ⟨X', rfl, g1, g2, h4.trans g3, h5.ext g3, ?_, ?_, fun j => ?_⟩
    · cases ho : o.dst <;> exact h6
    · cases ho : o.dst <;> simp [Act.put, h7]
    · cases ho : o.dst with
      | none => exact (h8 j).ext g3
      | some s =>
        have hs := hd s ho
        simp only [updF, Act.put]
        by_cases hsj : s = j
        · subst hsj
          rw [if_pos rfl]
          simpa [Array.getD_eq_getD_getElem?, Array.getElem?_setIfInBounds, h7, hs] using g4
        · rw [if_neg hsj]
          have := (h8 j).ext g3
          simpa [Array.getD_eq_getD_getElem?, Array.getElem?_setIfInBounds_ne hsj] using this
  have hx : ∀ x ∈ o.op.operands, VRep X.lay (aevF G φ x) (a.eval x) := fun x _ => by
    cases x with
    | tmp i => exact h8 i
    | const v => exact .sc v
    | global g => exact (h5 g).2
    | func f => exact .fn _ [] [] #[] #[] rfl rfl (fun j d h => by simp at h) (fun j d h => by simp at h)
  have hs := h X a.eval h3 h2 h4.top h5 hx
  rw [h1] at hs
  unfold Oper.wp
  generalize (execOp a.eval o).run P w = x at *
  cases x with
  | ok nx w' =>
    cases nx <;> simp only [OPost] at hs <;> simp only [Oper.upon]
    case value v =>
      obtain ⟨X', e1, e2, e3, d', hv, hσ'⟩ := hs
      subst e1
      exact hσ' _ _ (hput rfl e2 e3 hv)
    case skip =>
      obtain ⟨X', e1, e2, e3, d', hv, hσ'⟩ := hs
      subst e1
      exact hσ' _ _ (hput rfl e2 e3 hv)
    case enter g args =>
      refine hs.2.mono fun e w'' ⟨v, he, X', e1, e2, e3, d', hv, hσ'⟩ => ?_
      subst he
      subst e1
      exact hσ' _ _ (hput rfl e2 e3 hv)
  | halt hh w' => simp only [OPost] at hs

theorem ae_ev {Γ : List Nat} {φ : Nat → DV} {σ : List ABlk} {τ : FrF} {a : Act} {w : World} (hr : RelF G E n φ σ a w) (h : ∀ i d, τ i = some d → EV Γ d (φ i)) (x : Operand) : EV Γ (aeF G τ x) (aevF G φ x) := by
  obtain ⟨X, h1, h2, h3, h4, h5, h6, h7, h8⟩ := hr
  cases x with
  | tmp i =>
    simp only [aeF, aevF]
    cases hi : τ i with
    | none => exact .any _
    | some d => exact h i d hi
  | const v => exact .sc' v
  | global g => exact .same _ (h5 g).1
  | func f => exact .same (.fn (.func f) [] []) (by simp [DV.clo])

theorem upd_ev {Γ Γ' : List Nat} {φ : Nat → DV} {τ : FrF} (hG : Gle Γ Γ') (h : ∀ i d, τ i = some d → EV Γ d (φ i)) {dst : Option Tmp} {d d' : DV} (hd : EV Γ' d d') : ∀ i e, updO dst d τ i = some e → EV Γ' e (updF dst d' φ i) := by
  intro i e he
  cases dst with
  | none => exact (h i e he).mono hG
  | some s =>
    simp only [updO, updF] at he ⊢
    by_cases hs : s = i
    · rw [if_pos hs] at he ⊢
      cases he; exact hd
    · rw [if_neg hs] at he ⊢
      exact (h i e he).mono hG

theorem want_ok {ops : List Oper} {τ : FrF} {S : SS} {o : Oper} {b : Bool} {a : Act} {w : World} (hr : ERel G E n Γ0 τ S a w) (h : wantF ops τ o = some b) : Region.wanted o (yielded ops.toArray a.tmps) = b := by
  unfold wantF at h
  unfold Region.wanted
  split at h
  · rename_i hg
    cases h
    rw [hg]
  · rename_i j want hg
    rw [hg]
    simp only
    split at h
    · rename_i oj hj
      split at h
      · rename_i s hs
        obtain ⟨Γ, φ, σ, _, _, hτ, X, _, _, _, _, _, _, h7, h8⟩ := hr
        have hdst : ((ops.toArray[j]?).bind (·.dst)) = some s := by
          rw [List.getElem?_toArray, hj]; exact hs
        have val : ∀ v, τ s = some (.sc v) → a.tmps.getD s undef = v := fun v hv => by
          have h1 := (hτ s _ hv).sc_inv
          have h2 := h8 s
          rw [h1] at h2
          exact VRep.sc_eq h2
        split at h
        · rename_i b' hb
          cases h
          have hv := val _ hb
          have hget : a.tmps[s]? = some (.bool b') := by
            rw [Array.getD_eq_getD_getElem?] at hv
            cases hq : a.tmps[s]? with
            | none =>
              rw [hq] at hv
              have hv : undef = Value.bool b' := hv
              unfold undef at hv
              cases hv
            | some u =>
              rw [hq] at hv
              have hv : u = Value.bool b' := hv
              rw [hv]
          have : yielded ops.toArray a.tmps j = some b' := by
            unfold yielded
            rw [hdst, Option.bind_some, hget]
          rw [this]
          cases b' <;> cases want <;> rfl
        · rename_i v hnb hb
          cases h
          have hv := val _ hb
          have : yielded ops.toArray a.tmps j = none := by
            unfold yielded
            rw [hdst, Option.bind_some]
            cases hq : a.tmps[s]? with
            | none => rfl
            | some u =>
              rw [Array.getD_eq_getD_getElem?, hq] at hv
              have hv : u = v := hv
              subst hv
              cases u <;> first | rfl | (exact absurd rfl (hnb _))
          rw [this]
          rfl
        · cases h
      · cases h
    · cases h

/-- The value of an operation, and the store behind it. -/
def valF (V : Env) (ops : List Oper) (alone : Bool) (o : Oper) (τ : FrF) (S : SS) : Option (DV × SS) := match wantF ops τ o with
  | none => none
  | some false => some (.sc undef, S)
  | some true => match flo o.op with
    | true => match evr V.T o.op (aeF V.G τ) S.s with
      | some d => some (d, S)
      | none => none
    | false => evw V.T V.call alone o.op (aeF V.G τ) S

structure VOk (P : Program) (V : Env) : Prop where
  T : TOk P V.T
  C : CallOk P V.G V.call

theorem val_wp {V : Env} (hV : VOk P V) {ops : List Oper} {alone : Bool} {o : Oper} {τ : FrF} {S S' : SS} {d : DV} (h : valF V ops alone o τ S = some (d, S')) (hw : wantF ops τ o = some true) (hd : ∀ i, o.dst = some i → i < n) {a : Act} {w : World} (hr : ERel V.G E n Γ0 τ S a w) {K : Act → World → Prop} {Q : Exit → Act → World → Prop}
    (hK : ∀ a' w', ERel V.G E n Γ0 (updO o.dst d τ) S' a' w' → K a' w') : o.wp P a w K Q := by
  obtain ⟨Γ, φ, σ, hG0, hS, hτ, hrel⟩ := hr
  unfold valF at h
  rw [hw] at h
  simp only at h
  refine wp_of_opsem hd hrel ?_
  have hf : ∀ x ∈ o.op.operands, EV Γ (aeF V.G τ x) (aevF V.G φ x) := fun x _ => ae_ev hrel hτ x
  split at h
  · split at h
    · rename_i d0 hev
      cases h
      exact evr_ok hV.T hS hf hev fun d' hd' a' w' hr' => hK a' w' ⟨Γ, _, σ, hG0, hS, upd_ev (Gle.refl _) hτ hd', hr'⟩
    · cases h
  · exact evw_ok hV.T hS hV.C hf h fun Γ' d' σ' hG hd' hS' a' w' hr' => hK a' w' ⟨Γ', _, σ', hG0.trans hG, hS', upd_ev hG hτ hd', hr'⟩
theorem skip_rel {dst : Option Tmp} (hd : ∀ i, dst = some i → i < n) {τ : FrF} {S : SS} {a : Act} {w : World} (hr : ERel G E n Γ0 τ S a w) : ERel G E n Γ0 (updO dst (.sc undef) τ) S (a.put dst undef) w := by
  obtain ⟨Γ, φ, σ, hG0, hS, hτ, X, h1, h2, h3, h4, h5, h6, h7, h8⟩ := hr
  refine ⟨Γ, updF dst (.sc undef) φ, σ, hG0, hS, upd_ev (Gle.refl _) hτ (.sc' _), X, h1, h2, h3, h4, h5, ?_, ?_, fun j => ?_⟩
  · cases dst <;> exact h6
  · cases dst <;> simp [Act.put, h7]
  · cases dst with
    | none => exact h8 j
    | some s =>
      have hs := hd s rfl
      simp only [updF, Act.put]
      by_cases hsj : s = j
      · subst hsj
        rw [if_pos rfl]
        have : (a.tmps.setIfInBounds s undef).getD s undef = undef := by
          simp [Array.getD_eq_getD_getElem?, Array.getElem?_setIfInBounds, h7, hs]
        rw [this]
        exact .sc _
      · rw [if_neg hsj]
        have := h8 j
        simpa [Array.getD_eq_getD_getElem?, Array.getElem?_setIfInBounds_ne hsj] using this

theorem ev1_ok {V : Env} {ops : List Oper} {alone : Bool} {o : Oper} {t t' : Tr DV} {S S' : SS} (h : ev1 V n ops alone o t S = some (t', S')) : ∃ d b, wantF ops t.get o = some b ∧ valF V ops alone o t.get S = some (d, S') ∧ t'.get = updO o.dst d t.get ∧ (∀ i, o.dst = some i → i < n) ∧ (b = false → d = .sc undef ∧ S' = S) := by
  unfold ev1 at h
  rw [wantE_eq] at h
  split at h
  · cases h
  · rename_i hw
    split at h
    · rename_i t1 hp
      cases h
      obtain ⟨h1, h2⟩ := putE_eq hp
      exact ⟨.sc undef, false, hw, by simp only [valF, hw], h1, h2, fun _ => ⟨rfl, rfl⟩⟩
    · cases h
  · rename_i hw
    rw [aeE_eq] at h
    split at h
    · rename_i hfl
      split at h
      · rename_i d hev
        split at h
        · rename_i t1 hp
          cases h
          obtain ⟨h1, h2⟩ := putE_eq hp
          exact ⟨d, true, hw, by simp only [valF, hw, hfl, hev], h1, h2, fun e => by cases e⟩
        · cases h
      · cases h
    · rename_i hfl
      split at h
      · rename_i d S1 hev
        split at h
        · rename_i t1 hp
          cases h
          obtain ⟨h1, h2⟩ := putE_eq hp
          exact ⟨d, true, hw, by simp only [valF, hw, hfl, hev], h1, h2, fun e => by cases e⟩
        · cases h
      · cases h

/-- Operations one after the other. -/
theorem evl_ok {V : Env} (hV : VOk P V) {ops : List Oper} : ∀ (l : List Oper) (t t' : Tr DV) (S S' : SS), evl V n ops l t S = some (t', S') → ∀ a w, ERel V.G E n Γ0 t.get S a w → wpList P ops.toArray (fun e a w => e = .normal ∧ ERel V.G E n Γ0 t'.get S' a w) l a w
  | [], t, t', S, S', h, a, w, hr => by
    cases h
    exact ⟨rfl, hr⟩
  | o :: r, t, t', S, S', h, a, w, hr => by
    simp only [evl] at h
    split at h
    · rename_i t1 S1 h1
      obtain ⟨d, b, hw, hv, ht, hd, hb⟩ := ev1_ok h1
      unfold wpList
      rw [want_ok hr hw]
      cases b with
      | true =>
        rw [if_pos rfl]
        refine .inl (val_wp hV hv hw hd hr fun a' w' hr' => evl_ok hV r t1 t' S1 S' h a' w' ?_)
        rw [ht]; exact hr'
      | false =>
        rw [if_neg (by simp)]
        obtain ⟨rfl, rfl⟩ := hb rfl
        refine evl_ok hV r t1 t' _ S' h _ w ?_
        rw [ht]; exact skip_rel hd hr
    · cases h
end
end Go.Av
