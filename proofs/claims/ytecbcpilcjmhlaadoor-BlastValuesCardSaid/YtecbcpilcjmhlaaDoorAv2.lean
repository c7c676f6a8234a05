/-
  Frames of abstract values, what an operation, a piece of code and a call come to over them, and the rules of control.
-/
import Derived.Test.YtecbcpilcjmhlaaDoorAv1
namespace Go.Av
open Classical
set_option linter.unusedSimpArgs false
set_option linter.unusedVariables false

/-- A frame: the newest entry of a slot counts. -/
abbrev Fr := List (Nat × DV)
def look : Fr → Nat → DV
  | [], _ => .any
  | (i, d) :: r, j => match Nat.beq i j with | true => d | false => look r j
def putF (dst : Option Tmp) (d : DV) (t : Fr) : Fr := match dst with | some i => (i, d) :: t | none => t
def aev (G : Nat → DV) (t : Fr) : Operand → DV
  | .tmp i => look t i
  | .const v => .sc v
  | .global g => G g
  | .func f => .fn (.func f) [] []
structure ASt where
  t : Fr
  σ : List ABlk

def GOk (G : Nat → DV) (X : AX) : Prop := ∀ g, (G g).clo = true ∧ VRep X.lay (G g) (.pointer (some ⟨g, 0, none⟩))
theorem GOk.ext {G : Nat → DV} {X X' : AX} (h : GOk G X) (hE : WExt X X') : GOk G X' := fun g => ⟨(h g).1, (h g).2.ext hE⟩

def VReps (L : Lay) (ds : List DV) (vs : Array Value) : Prop := vs.size = ds.length ∧ ∀ (j : Nat) (d : DV), ds[j]? = some d → VRep L d (vs.getD j undef)
theorem VReps.ext {X X' : AX} (h : WExt X X') {ds : List DV} {vs : Array Value} (r : VReps X.lay ds vs) : VReps X'.lay ds vs := ⟨r.1, fun j d hj => (r.2 j d hj).ext h⟩

/-- What an operation's outcome has to be. -/
def APost (X : AX) (R : DV → List ABlk → Prop) (v : Value) (w' : World) : Prop := ∃ X', X'.w = w' ∧ Sto X' ∧ WExt X X' ∧ ∃ d, VRep X'.lay d v ∧ R d X'.σ
def CPost (X : AX) (R : DV → List ABlk → Prop) (e : Ending) (w' : World) : Prop := ∃ v, e = .returned v ∧ APost X R v w'
def OPost (P : Program) (X : AX) (K : DV → List ABlk → Prop) : Result Next → Prop
  | .ok (.value v) w' => APost X K v w'
  | .ok .skip w' => APost X K undef w'
  | .ok (.enter f args) w' => w' = X.w ∧ Calls P f args w' (CPost X K)
  | _ => False

def OpSem (P : Program) (G : Nat → DV) (B : Nat) (o : Oper) (f : Operand → DV) (σ : List ABlk) (K : DV → List ABlk → Prop) : Prop :=
  ∀ (X : AX) (ρ : Operand → Value), Sto X → X.σ = σ → B ≤ X.N → GOk G X → (∀ x ∈ o.op.operands, VRep X.lay (f x) (ρ x)) → OPost P X K ((execOp ρ o).run P X.w)

/-- A call of function f. -/
def ACalls (P : Program) (G : Nat → DV) (B : Nat) (f : FuncId) (args : List DV) (σ : List ABlk) (R : DV → List ABlk → Prop) : Prop :=
  ∀ (X : AX) (vs : Array Value), Sto X → X.σ = σ → B ≤ X.N → GOk G X → VReps X.lay args vs → Calls P f vs X.w (CPost X R)

/-- A frame and a world are as said; E: where the call began. -/
def Rel (G : Nat → DV) (E : AX) (n : Nat) (st : ASt) (a : Act) (w : World) : Prop :=
  ∃ X : AX, X.w = w ∧ X.σ = st.σ ∧ Sto X ∧ WExt E X ∧ GOk G X ∧ a.defers = [] ∧ a.tmps.size = n ∧ ∀ i, VRep X.lay (look st.t i) (a.tmps.getD i undef)

def xlook : List (Nat × (ASt → Prop)) → Nat → Option (ASt → Prop)
  | [], _ => none
  | (i, q) :: r, j => match Nat.beq i j with | true => some q | false => xlook r j

def QOf (G : Nat → DV) (E : AX) (n : Nat) (N : ASt → Prop) (xs : List (Nat × (ASt → Prop))) (R : ASt → Prop) : Exit → Act → World → Prop := fun e a w =>
  ∃ st, Rel G E n st a w ∧ match e with
    | .normal => N st
    | .exit id => ∃ q, xlook xs id = some q ∧ q st
    | .ret => R st
    | _ => False

def ARun (P : Program) (G : Nat → DV) (E : AX) (n : Nat) (c : Code) (N : ASt → Prop) (xs : List (Nat × (ASt → Prop))) (R : ASt → Prop) (st : ASt) : Prop :=
  ∀ a w, Rel G E n st a w → c.wp P (QOf G E n N xs R) a w

section
variable {P : Program} {G : Nat → DV} {E : AX} {n : Nat} {N : ASt → Prop} {xs : List (Nat × (ASt → Prop))} {R : ASt → Prop} {st : ASt}

theorem r_seq {c d : Code} (h : ARun P G E n c (fun st' => ARun P G E n d N xs R st') xs R st) : ARun P G E n (.seq c d) N xs R st := fun a w hr =>
  wp_seq (wp_mono (h a w hr) fun e a' w' ⟨st', hr', hq⟩ => by
    cases e with
    | normal => exact hq a' w' hr'
    | exit id => exact ⟨st', hr', hq⟩
    | ret => exact ⟨st', hr', hq⟩
    | goto l => exact hq.elim
    | panic ch => exact hq.elim
    | outgrown => exact hq.elim)

theorem r_skip (h : N st) : ARun P G E n .skip N xs R st := fun _ _ hr => wp_skip ⟨st, hr, h⟩
theorem r_ret (h : R st) : ARun P G E n .ret N xs R st := fun _ _ hr => wp_ret ⟨st, hr, h⟩
theorem r_exit {id : Nat} {q : ASt → Prop} (hx : xlook xs id = some q) (h : q st) : ARun P G E n (.exit id) N xs R st := fun _ _ hr => wp_exit ⟨st, hr, q, hx, h⟩

theorem r_block {id : Nat} {c : Code} (h : ARun P G E n c N ((id, N) :: xs) R st) : ARun P G E n (.block id c) N xs R st := fun a w hr =>
  wp_block (wp_mono (h a w hr) fun e a' w' ⟨st', hr', hq⟩ => by
    cases e with
    | normal => exact ⟨st', hr', hq⟩
    | exit id' =>
      obtain ⟨q, hx, hq⟩ := hq
      simp only [Exit.inBlock]
      simp only [xlook] at hx
      by_cases hid : id' = id
      · rw [if_pos hid]
        rw [hid, Nat.beq_refl] at hx
        cases hx
        exact ⟨st', hr', hq⟩
      · rw [if_neg hid]
        have hb : Nat.beq id id' = false := by
          cases hb : Nat.beq id id' with
          | false => rfl
          | true => exact absurd (Nat.eq_of_beq_eq_true hb).symm hid
        rw [hb] at hx
        exact ⟨st', hr', q, hx, hq⟩
    | ret => exact ⟨st', hr', hq⟩
    | goto l => exact hq.elim
    | panic ch => exact hq.elim
    | outgrown => exact hq.elim)

theorem Rel.eval {a : Act} {w : World} (hr : Rel G E n st a w) : ∃ X : AX, X.w = w ∧ X.σ = st.σ ∧ Sto X ∧ WExt E X ∧ GOk G X ∧ ∀ x, VRep X.lay (aev G st.t x) (a.eval x) := by
  obtain ⟨X, h1, h2, h3, h4, h5, _, _, h8⟩ := hr
  refine ⟨X, h1, h2, h3, h4, h5, fun x => ?_⟩
  cases x with
  | tmp i => exact h8 i
  | const v => exact .sc v
  | global g => exact (h5 g).2
  | func f => exact .fn _ [] [] #[] #[] rfl rfl (fun j d h => by simp at h) (fun j d h => by simp at h)

theorem VRep.sc_eq {L : Lay} {v u : Value} (h : VRep L (.sc v) u) : u = v := by cases h; rfl

/-- A test: two ways. -/
theorem r_cond {t : Fr} {σ : List ABlk} {x : Operand} {c d : Code} {b : Bool} (hb : aev G t x = .sc (.bool b)) (ht : b = true → ARun P G E n c N xs R ⟨t, σ⟩) (hf : b = false → ARun P G E n d N xs R ⟨t, σ⟩) :
    ARun P G E n (.cond x c d) N xs R ⟨t, σ⟩ := fun a w hr => by
  obtain ⟨X, _, _, _, _, _, h⟩ := hr.eval
  have h1 := h x
  rw [hb] at h1
  exact wp_cond_split (VRep.sc_eq h1) (fun e => ht e a w hr) (fun e => hf e a w hr)

theorem r_cond_t {t : Fr} {σ : List ABlk} {x : Operand} {c d : Code} (hb : aev G t x = .sc (.bool true)) (ht : ARun P G E n c N xs R ⟨t, σ⟩) : ARun P G E n (.cond x c d) N xs R ⟨t, σ⟩ :=
  r_cond hb (fun _ => ht) (fun e => by cases e)
theorem r_cond_f {t : Fr} {σ : List ABlk} {x : Operand} {c d : Code} (hb : aev G t x = .sc (.bool false)) (hf : ARun P G E n d N xs R ⟨t, σ⟩) : ARun P G E n (.cond x c d) N xs R ⟨t, σ⟩ :=
  r_cond hb (fun e => by cases e) (fun _ => hf)

theorem r_cond_d {t : Fr} {σ : List ABlk} {x : Operand} {c d : Code} {p : Prop} [Decidable p] (hb : aev G t x = .sc (.bool (decide p))) (ht : p → ARun P G E n c N xs R ⟨t, σ⟩) (hf : ¬ p → ARun P G E n d N xs R ⟨t, σ⟩) : ARun P G E n (.cond x c d) N xs R ⟨t, σ⟩ :=
  r_cond hb (fun h => ht (of_decide_eq_true h)) (fun h => hf (of_decide_eq_false h))
theorem r_cond_dt {t : Fr} {σ : List ABlk} {x : Operand} {c d : Code} {p : Prop} [Decidable p] (hb : aev G t x = .sc (.bool (decide p))) (hp : p) (ht : ARun P G E n c N xs R ⟨t, σ⟩) : ARun P G E n (.cond x c d) N xs R ⟨t, σ⟩ :=
  r_cond_d hb (fun _ => ht) (fun h => absurd hp h)
theorem r_cond_df {t : Fr} {σ : List ABlk} {x : Operand} {c d : Code} {p : Prop} [Decidable p] (hb : aev G t x = .sc (.bool (decide p))) (hp : ¬ p) (hf : ARun P G E n d N xs R ⟨t, σ⟩) : ARun P G E n (.cond x c d) N xs R ⟨t, σ⟩ :=
  r_cond_d hb (fun h => absurd h hp) (fun _ => hf)

/-- One state says no more than another: fewer slots are known, and blocks at the store's end are let go. -/
structure ALe (st st' : ASt) : Prop where
  t : ∀ p ∈ st'.t, look st.t p.1 = p.2
  σ : ∃ r, st.σ = st'.σ ++ r

theorem ale_mk {st : ASt} {t : Fr} {σ : List ABlk} (h : ∀ p ∈ t, look st.t p.1 = p.2) (hσ : st.σ = σ) : ALe st ⟨t, σ⟩ := ⟨h, [], by simp [hσ]⟩
theorem ale_drop {st : ASt} {t : Fr} {σ r : List ABlk} (h : ∀ p ∈ t, look st.t p.1 = p.2) (hσ : st.σ = σ ++ r) : ALe st ⟨t, σ⟩ := ⟨h, r, hσ⟩
theorem mem_nil {st : ASt} : ∀ p ∈ ([] : Fr), look st.t p.1 = p.2 := fun p hp => by simp at hp
theorem mem_cons {st : ASt} {i : Nat} {d : DV} {t : Fr} (h : look st.t i = d) (r : ∀ p ∈ t, look st.t p.1 = p.2) : ∀ p ∈ ((i, d) :: t : Fr), look st.t p.1 = p.2 := fun p hp => by
  rcases List.mem_cons.1 hp with rfl | hp
  · exact h
  · exact r p hp

theorem look_mem {t t' : Fr} (h : ∀ p ∈ t', look t p.1 = p.2) (i : Nat) : look t' i = .any ∨ look t' i = look t i := by
  induction t' with
  | nil => exact .inl rfl
  | cons p r ih =>
    obtain ⟨j, d⟩ := p
    simp only [look]
    cases hb : Nat.beq j i with
    | true =>
      have := Nat.eq_of_beq_eq_true hb
      subst this
      exact .inr (h (j, d) (by simp)).symm
    | false => exact ih fun p hp => h p (by simp [hp])

theorem Rel.le {st st' : ASt} {a : Act} {w : World} (hr : Rel G E n st a w) (h : ALe st st') : Rel G E n st' a w := by
  obtain ⟨X, h1, h2, h3, h4, h5, h6, h7, h8⟩ := hr
  obtain ⟨r, hσ⟩ := h.σ
  have hget : ∀ (k : Nat) (B : ABlk), st'.σ[k]? = some B → X.σ[k]? = some B := fun k B hB => by
    rw [h2, hσ, List.getElem?_append_left]
    · exact hB
    · exact (List.getElem?_eq_some_iff.1 hB).1
  have hE : WExt X { X with σ := st'.σ } := WExt.shrink fun k g hg => by
    cases hB : st'.σ[k]? with
    | none => simp [hB] at hg
    | some B => simpa [AX.live, hget k B hB, hB] using hg
  refine ⟨{ X with σ := st'.σ }, h1, rfl, h3.shrink fun k B hB => .inr (hget k B hB), h4.trans hE, h5.ext hE, h6, h7, fun i => ?_⟩
  rcases look_mem h.t i with h' | h'
  · rw [h']; exact .any _
  · rw [h']; exact (h8 i).ext hE

theorem r_le {c : Code} {st' : ASt} (h : ALe st st') (k : ARun P G E n c N xs R st') : ARun P G E n c N xs R st := fun a w hr => k a w (hr.le h)

/-- A loop over a family of states, each with its number. -/
theorem wp_loop_ix {P : Program} {c : Code} {Q : Exit → Act → World → Prop} {ι : Type} (J : ι → Act → World → Prop) (μ : ι → Nat) (x0 : ι) {a : Act} {w : World} (h0 : J x0 a w)
    (round : ∀ x a w, J x a w → c.wp P (Exit.then (fun a' w' => ∃ y, μ y < μ x ∧ J y a' w') Q) a w) : (Code.loop c).wp P Q a w := by
  intro b k cs
  have key : ∀ n x a w, μ x = n → J x a w → ∃ e a' w', Q e a' w' ∧ Arrives P (lone (b.at a (.code c :: .inLoop c :: k)) cs w) b k cs e a' w' := by
    intro n
    induction n using Nat.strongRecOn with
    | _ n ih =>
      intro x a w hn hJ
      obtain ⟨e, a₁, w₁, hq, harr⟩ := round x a w hJ b (.inLoop c :: k) cs
      cases e with
      | normal =>
        obtain ⟨y, hlt, hJ₁⟩ := hq
        obtain ⟨e₂, a₂, w₂, hq₂, harr₂⟩ := ih (μ y) (hn ▸ hlt) y a₁ w₁ rfl hJ₁
        exact ⟨e₂, a₂, w₂, hq₂, .of_steps (Steps.trans harr (.one step_inLoop)) harr₂⟩
      | exit id => exact ⟨_, a₁, w₁, hq, .pass (x := .inLoop c) rfl (fun _ _ => .inl (by simp)) harr⟩
      | goto l => exact ⟨_, a₁, w₁, hq, .pass (x := .inLoop c) rfl (fun _ _ => .inl (by simp)) harr⟩
      | ret => exact ⟨_, a₁, w₁, hq, .pass (x := .inLoop c) rfl (fun _ _ => .inl (by simp)) harr⟩
      | panic ch => exact ⟨_, a₁, w₁, hq, .pass (x := .inLoop c) rfl (fun _ _ => .inl (by simp)) harr⟩
      | outgrown => exact ⟨_, a₁, w₁, hq, .pass (x := .inLoop c) rfl (fun _ _ => .inl (by simp)) harr⟩
  obtain ⟨e, a', w', hq, harr⟩ := key _ x0 a w rfl h0
  exact ⟨e, a', w', hq, .of_steps (.one step_loop) harr⟩

/-- A loop: what holds at every round's head, and what every round lowers. -/
theorem r_loop {c : Code} {ι : Type} (I : ι → ASt) (pre : ι → Prop) (μ : ι → Nat) (x0 : ι) (h0 : ALe st (I x0)) (hp0 : pre x0)
    (round : ∀ x, pre x → ARun P G E n c (fun st' => ∃ y, pre y ∧ μ y < μ x ∧ ALe st' (I y)) xs R (I x)) : ARun P G E n (.loop c) N xs R st := fun a w hr =>
  wp_loop_ix (fun x a w => pre x ∧ Rel G E n (I x) a w) μ x0 ⟨hp0, hr.le h0⟩ fun x a w ⟨hp, hrx⟩ =>
    wp_mono (round x hp a w hrx) fun e a' w' ⟨st', hr', hq⟩ => by
      cases e with
      | normal =>
        obtain ⟨y, hpy, hlt, hle⟩ := hq
        exact ⟨y, hlt, hpy, hr'.le hle⟩
      | exit id => exact ⟨st', hr', hq⟩
      | ret => exact ⟨st', hr', hq⟩
      | goto l => exact hq.elim
      | panic ch => exact hq.elim
      | outgrown => exact hq.elim

theorem wp_mono_list {P : Program} {ops : Array Oper} {l : List Oper} {Q Q' : Exit → Act → World → Prop} {a : Act} {w : World} (h : wpList P ops Q l a w) (hq : ∀ e a w, Q e a w → Q' e a w) : wpList P ops Q' l a w := by
  induction l generalizing a w with
  | nil => exact hq _ _ _ h
  | cons o r ih =>
    unfold wpList at h ⊢
    split
    · rename_i hw
      rw [if_pos hw] at h
      rcases h with h | ⟨h1, a0, w0, h2⟩
      · refine .inl ?_
        unfold Oper.wp at *
        generalize (execOp a.eval o).run P w = x at *
        cases x with
        | ok nx w' =>
          cases nx <;> simp only [Oper.upon] at h ⊢ <;> first
            | exact ih h
            | exact Calls.mono h (fun e w'' he => by cases e <;> first | exact ih he | exact hq _ _ _ he | exact (let ⟨a1, w1, h1⟩ := he; ⟨a1, w1, hq _ _ _ h1⟩))
            | exact Rows.mono h (fun _ _ he => ih he)
        | halt hh w' => cases hh <;> simp only [Oper.upon] at h ⊢ <;> first | exact hq _ _ _ h | exact h
      · exact .inr ⟨h1, a0, w0, hq _ _ _ h2⟩
    · rename_i hw
      rw [if_neg hw] at h
      exact ih h

/-- The operations of a region, one after the other. -/
def AOps (P : Program) (G : Nat → DV) (E : AX) (n : Nat) (ops : Array Oper) (l : List Oper) (N : ASt → Prop) (st : ASt) : Prop :=
  ∀ a w, Rel G E n st a w → wpList P ops (fun e a w => e = .normal ∧ ∃ st', Rel G E n st' a w ∧ N st') l a w

theorem r_region {id : Nat} {l : List Oper} (h : AOps P G E n l.toArray l N st) : ARun P G E n (.region id l.toArray false) N xs R st := fun a w hr =>
  wp_region_lit (wp_mono_list (h a w hr) fun e a' w' ⟨he, st', hr', hq⟩ => by subst he; exact ⟨st', hr', hq⟩)

theorem o_nil {ops : Array Oper} (h : N st) : AOps P G E n ops [] N st := fun _ _ hr => wpList_nil ⟨rfl, st, hr, h⟩

theorem Rel.put {X : AX} {t : Fr} {a : Act} (h3 : Sto X) (h4 : WExt E X) (h5 : GOk G X) (h6 : a.defers = []) (h7 : a.tmps.size = n) (h8 : ∀ i, VRep X.lay (look t i) (a.tmps.getD i undef))
    {dst : Option Tmp} (hd : ∀ i, dst = some i → i < n) {d : DV} {v : Value} (hv : VRep X.lay d v) : Rel G E n ⟨putF dst d t, X.σ⟩ (a.put dst v) X.w := by
  cases dst with
  | none => exact ⟨X, rfl, rfl, h3, h4, h5, h6, h7, h8⟩
  | some i =>
    have hi := hd i rfl
    refine ⟨X, rfl, rfl, h3, h4, h5, h6, by simpa [Act.put] using h7, fun j => ?_⟩
    simp only [putF, look, Act.put]
    cases hb : Nat.beq i j with
    | true =>
      have := Nat.eq_of_beq_eq_true hb
      subst this
      simpa [Array.getD_eq_getD_getElem?, Array.getElem?_setIfInBounds, h7, hi] using hv
    | false =>
      have hne : i ≠ j := fun e => by subst e; simp at hb
      have := h8 j
      simpa [Array.getD_eq_getD_getElem?, Array.getElem?_setIfInBounds_ne hne] using this

/-- The next operation is carried out. -/
theorem o_go {ops : Array Oper} {o : Oper} {r : List Oper} (hw : ∀ a w, Rel G E n st a w → Region.wanted o (yielded ops a.tmps) = true) (hd : ∀ i, o.dst = some i → i < n)
    (h : OpSem P G E.N o (aev G st.t) st.σ (fun d σ => AOps P G E n ops r N ⟨putF o.dst d st.t, σ⟩)) : AOps P G E n ops (o :: r) N st := fun a w hr => by
  unfold wpList
  rw [if_pos (hw a w hr)]
  refine .inl ?_
  obtain ⟨X, h1, h2, h3, h4, h5, h6, h7, h8⟩ := hr
  have hx : ∀ x, VRep X.lay (aev G st.t x) (a.eval x) := fun x => by
    cases x with
    | tmp i => exact h8 i
    | const v => exact .sc v
    | global g => exact (h5 g).2
    | func f => exact .fn _ [] [] #[] #[] rfl rfl (fun j d h => by simp at h) (fun j d h => by simp at h)
  have hs := h X a.eval h3 h2 h4.top h5 fun x _ => hx x
  rw [h1] at hs
  have fin : ∀ {v : Value} {w' : World}, APost X (fun d σ => AOps P G E n ops r N ⟨putF o.dst d st.t, σ⟩) v w' → wpList P ops (fun e a w => e = .normal ∧ ∃ st', Rel G E n st' a w ∧ N st') r (a.put o.dst v) w' := by
    rintro v w' ⟨X', e1, e2, e3, d, hv, hk⟩
    subst e1
    exact hk _ _ (Rel.put e2 (h4.trans e3) (h5.ext e3) h6 h7 (fun i => (h8 i).ext e3) hd hv)
  unfold Oper.wp
  generalize (execOp a.eval o).run P w = x at *
  cases x with
  | ok nx w' =>
    cases nx <;> simp only [OPost] at hs <;> simp only [Oper.upon]
    case value v => exact fin hs
    case skip => exact fin hs
    case enter f args =>
      refine hs.2.mono fun e w'' ⟨v, he, hp⟩ => ?_
      subst he
      exact fin hp
  | halt hh w' => simp only [OPost] at hs

theorem o_op {t : Fr} {σ : List ABlk} {ops : Array Oper} {i : Tmp} {op : Op} {type : TypeId} {pos : String} {after : Array Edge} {r : List Oper} (hd : Nat.blt i n = true)
    (h : OpSem P G E.N ⟨some i, op, type, pos, after, none⟩ (aev G t) σ (fun d σ => AOps P G E n ops r N ⟨(i, d) :: t, σ⟩)) : AOps P G E n ops (⟨some i, op, type, pos, after, none⟩ :: r) N ⟨t, σ⟩ :=
  o_go (fun _ _ _ => rfl) (fun j hj => by cases hj; exact Nat.ble_eq.mp hd) h
theorem o_op0 {t : Fr} {σ : List ABlk} {ops : Array Oper} {op : Op} {type : TypeId} {pos : String} {after : Array Edge} {r : List Oper}
    (h : OpSem P G E.N ⟨none, op, type, pos, after, none⟩ (aev G t) σ (fun _ σ => AOps P G E n ops r N ⟨t, σ⟩)) : AOps P G E n ops (⟨none, op, type, pos, after, none⟩ :: r) N ⟨t, σ⟩ :=
  o_go (fun _ _ _ => rfl) (fun j hj => by cases hj) h

/-- An operation that is not wanted. -/
theorem o_pass {ops : Array Oper} {o : Oper} {r : List Oper} (hw : ∀ a w, Rel G E n st a w → Region.wanted o (yielded ops a.tmps) = false) (hd : ∀ i, o.dst = some i → i < n)
    (h : AOps P G E n ops r N ⟨putF o.dst (.sc undef) st.t, st.σ⟩) : AOps P G E n ops (o :: r) N st := fun a w hr => by
  unfold wpList
  rw [if_neg (by rw [hw a w hr]; simp)]
  obtain ⟨X, h1, h2, h3, h4, h5, h6, h7, h8⟩ := hr
  have := Rel.put h3 h4 h5 h6 h7 h8 hd (VRep.sc (L := X.lay) undef)
  rw [h2, h1] at this
  exact h _ _ this

theorem yielded_of {ops : Array Oper} {a : Act} {w : World} {j s : Nat} {b : Bool} (hj : (ops[j]?).bind (·.dst) = some s) (hl : look st.t s = .sc (.bool b)) (hr : Rel G E n st a w) (hs : s < n) :
    yielded ops a.tmps j = some b := by
  obtain ⟨X, _, _, _, _, _, _, h7, h8⟩ := hr
  have h := h8 s
  rw [hl] at h
  have hv := VRep.sc_eq h
  have hget : a.tmps[s]? = some (.bool b) := by
    have hlt : s < a.tmps.size := by omega
    simp only [Array.getD_eq_getD_getElem?] at hv
    rw [Array.getElem?_eq_getElem hlt] at hv ⊢
    simpa using hv
  simp [yielded, hj, hget]

theorem Rel.same {a : Act} {w : World} (hr : Rel G E n st a w) {s : Nat} {d : DV} (h : look st.t s = d) : Rel G E n ⟨(s, d) :: st.t, st.σ⟩ a w := by
  obtain ⟨X, h1, h2, h3, h4, h5, h6, h7, h8⟩ := hr
  refine ⟨X, h1, h2, h3, h4, h5, h6, h7, fun i => ?_⟩
  simp only [look]
  cases hb : Nat.beq s i with
  | true =>
    have := Nat.eq_of_beq_eq_true hb
    subst this
    rw [← h]; exact h8 s
  | false => exact h8 i

/-- The guard is known. -/
theorem o_gy {t : Fr} {σ : List ABlk} {ops : Array Oper} {i : Tmp} {op : Op} {type : TypeId} {pos : String} {after : Array Edge} {j s : Nat} {want : Bool} {r : List Oper}
    (hj : (ops[j]?).bind (·.dst) = some s) (hl : look t s = .sc (.bool want)) (hs : Nat.blt s n = true) (hd : Nat.blt i n = true)
    (yes : OpSem P G E.N ⟨some i, op, type, pos, after, some (j, want)⟩ (aev G t) σ (fun d σ => AOps P G E n ops r N ⟨(i, d) :: t, σ⟩)) : AOps P G E n ops (⟨some i, op, type, pos, after, some (j, want)⟩ :: r) N ⟨t, σ⟩ := fun a w hr => by
  refine o_go (fun a w hr => ?_) (fun k hk => by cases hk; exact Nat.ble_eq.mp hd) yes a w hr
  have : yielded ops a.tmps j = some want := yielded_of hj hl hr (Nat.ble_eq.mp hs)
  simp [Region.wanted, this]
theorem o_gn {t : Fr} {σ : List ABlk} {ops : Array Oper} {i : Tmp} {op : Op} {type : TypeId} {pos : String} {after : Array Edge} {j s : Nat} {want : Bool} {r : List Oper}
    (hj : (ops[j]?).bind (·.dst) = some s) (hl : look t s = .sc (.bool !want)) (hs : Nat.blt s n = true) (hd : Nat.blt i n = true)
    (no : AOps P G E n ops r N ⟨(i, .sc undef) :: t, σ⟩) : AOps P G E n ops (⟨some i, op, type, pos, after, some (j, want)⟩ :: r) N ⟨t, σ⟩ := fun a w hr => by
  refine o_pass (fun a w hr => ?_) (fun k hk => by cases hk; exact Nat.ble_eq.mp hd) no a w hr
  have : yielded ops a.tmps j = some (!want) := yielded_of hj hl hr (Nat.ble_eq.mp hs)
  cases want <;> simp [Region.wanted, this]

/-- What a guard's slot says. -/
def yv : Value → Option Bool
  | .bool b => some b
  | _ => none
/-- The guard itself was not carried out. -/
theorem o_gu {t : Fr} {σ : List ABlk} {ops : Array Oper} {i : Tmp} {op : Op} {type : TypeId} {pos : String} {after : Array Edge} {j s : Nat} {want : Bool} {r : List Oper} {v : Value}
    (hj : (ops[j]?).bind (·.dst) = some s) (hl : look t s = .sc v) (hv : yv v = none) (hs : Nat.blt s n = true) (hd : Nat.blt i n = true)
    (no : AOps P G E n ops r N ⟨(i, .sc undef) :: t, σ⟩) : AOps P G E n ops (⟨some i, op, type, pos, after, some (j, want)⟩ :: r) N ⟨t, σ⟩ := fun a w hr => by
  refine o_pass (fun a w hr => ?_) (fun k hk => by cases hk; exact Nat.ble_eq.mp hd) no a w hr
  obtain ⟨X, _, _, _, _, _, _, h7, h8⟩ := hr
  have h := h8 s
  rw [show look (ASt.t ⟨t, σ⟩) s = .sc v from hl] at h
  have hw := VRep.sc_eq h
  have hget : a.tmps[s]? = some v := by
    have hlt : s < a.tmps.size := by have := Nat.ble_eq.mp hs; omega
    simp only [Array.getD_eq_getD_getElem?] at hw
    rw [Array.getElem?_eq_getElem hlt] at hw ⊢
    simpa using hw
  have : yielded ops a.tmps j = none := by
    simp only [yielded, hj, Option.bind_some, hget]
    cases v <;> first | rfl | (simp [yv] at hv)
  simp [Region.wanted, this]

/-- A guard that is not known parts the ways; its slot is known from there on. -/
theorem o_sp {t : Fr} {σ : List ABlk} {ops : Array Oper} {dst : Option Tmp} {op : Op} {type : TypeId} {pos : String} {after : Array Edge} {j s : Nat} {want b : Bool} {r : List Oper}
    (hj : (ops[j]?).bind (·.dst) = some s) (hl : look t s = .sc (.bool b)) (yes : b = true → AOps P G E n ops (⟨dst, op, type, pos, after, some (j, want)⟩ :: r) N ⟨(s, .sc (.bool true)) :: t, σ⟩)
    (no : b = false → AOps P G E n ops (⟨dst, op, type, pos, after, some (j, want)⟩ :: r) N ⟨(s, .sc (.bool false)) :: t, σ⟩) : AOps P G E n ops (⟨dst, op, type, pos, after, some (j, want)⟩ :: r) N ⟨t, σ⟩ := fun a w hr => by
  cases b with
  | true => exact yes rfl a w (hr.same hl)
  | false => exact no rfl a w (hr.same hl)
theorem o_sp_d {t : Fr} {σ : List ABlk} {ops : Array Oper} {dst : Option Tmp} {op : Op} {type : TypeId} {pos : String} {after : Array Edge} {j s : Nat} {want : Bool} {p : Prop} [Decidable p] {r : List Oper}
    (hj : (ops[j]?).bind (·.dst) = some s) (hl : look t s = .sc (.bool (decide p))) (yes : p → AOps P G E n ops (⟨dst, op, type, pos, after, some (j, want)⟩ :: r) N ⟨(s, .sc (.bool true)) :: t, σ⟩)
    (no : ¬ p → AOps P G E n ops (⟨dst, op, type, pos, after, some (j, want)⟩ :: r) N ⟨(s, .sc (.bool false)) :: t, σ⟩) : AOps P G E n ops (⟨dst, op, type, pos, after, some (j, want)⟩ :: r) N ⟨t, σ⟩ :=
  o_sp hj hl (fun h => yes (of_decide_eq_true h)) (fun h => no (of_decide_eq_false h))
theorem o_sp_t {t : Fr} {σ : List ABlk} {ops : Array Oper} {dst : Option Tmp} {op : Op} {type : TypeId} {pos : String} {after : Array Edge} {j s : Nat} {want : Bool} {p : Prop} [Decidable p] {r : List Oper}
    (hj : (ops[j]?).bind (·.dst) = some s) (hl : look t s = .sc (.bool (decide p))) (hp : p) (yes : AOps P G E n ops (⟨dst, op, type, pos, after, some (j, want)⟩ :: r) N ⟨(s, .sc (.bool true)) :: t, σ⟩) : AOps P G E n ops (⟨dst, op, type, pos, after, some (j, want)⟩ :: r) N ⟨t, σ⟩ :=
  o_sp_d hj hl (fun _ => yes) (fun h => absurd hp h)
theorem o_sp_f {t : Fr} {σ : List ABlk} {ops : Array Oper} {dst : Option Tmp} {op : Op} {type : TypeId} {pos : String} {after : Array Edge} {j s : Nat} {want : Bool} {p : Prop} [Decidable p] {r : List Oper}
    (hj : (ops[j]?).bind (·.dst) = some s) (hl : look t s = .sc (.bool (decide p))) (hp : ¬ p) (no : AOps P G E n ops (⟨dst, op, type, pos, after, some (j, want)⟩ :: r) N ⟨(s, .sc (.bool false)) :: t, σ⟩) : AOps P G E n ops (⟨dst, op, type, pos, after, some (j, want)⟩ :: r) N ⟨t, σ⟩ :=
  o_sp_d hj hl (fun h => absurd h hp) (fun _ => no)

end

/-- The frame at a function's entry. -/
def argFr : Nat → List DV → Fr
  | _, [] => []
  | i, d :: r => (i, d) :: argFr (i + 1) r

theorem look_argFr {L : Lay} {vs : Array Value} : ∀ (ds : List DV) (i0 : Nat), (∀ j d, ds[j]? = some d → VRep L d (vs.getD (i0 + j) undef)) → ∀ i, VRep L (look (argFr i0 ds) i) (vs.getD i undef)
  | [], _, _, _ => .any _
  | d :: r, i0, h, i => by
    simp only [argFr, look]
    cases hb : Nat.beq i0 i with
    | true =>
      have := Nat.eq_of_beq_eq_true hb
      subst this
      exact h 0 d rfl
    | false => exact look_argFr r (i0 + 1) (fun j d' hj => by have := h (j + 1) d' (by simpa using hj); rwa [Nat.add_assoc, Nat.add_comm 1 j]) i

/-- What has to hold where a function ends. -/
def AEnd (P : Program) (fn : Func) (G : Nat → DV) (E : AX) (n : Nat) (R : DV → List ABlk → Prop) (st : ASt) : Prop :=
  ∀ a w, Rel G E n st a w → ∃ v, (results fn a.tmps).run P w = .ok v w ∧ APost E R v w

theorem calls_of_run {P : Program} {G : Nat → DV} {B : Nat} {f : FuncId} {fn : Func} {c : Code} {args : List DV} {σ : List ABlk} {R : DV → List ABlk → Prop} {n : Nat} {t : Fr}
    (hf : P.funcs[f]? = some fn) (hb : fn.body = some c) (hn : fn.ntmps = n) (ha : Nat.ble args.length n = true) (ht : argFr 0 args = t)
    (h : ∀ E, B ≤ E.N → ARun P G E n c (AEnd P fn G E n R) [] (AEnd P fn G E n R) ⟨t, σ⟩) : ACalls P G B f args σ R := by
  intro X vs hS hσ hB hG hv
  subst ht
  have ha : args.length ≤ n := Nat.ble_eq.mp ha
  refine calls_of_wp hf hb (wp_mono (h X hB _ _ ⟨X, rfl, hσ, hS, WExt.refl X, hG, rfl, ?_, ?_⟩) ?_)
  · have := hv.1; simp [hn]; omega
  · intro i
    refine look_argFr args 0 (fun j d hj => ?_) i
    have hlt : j < args.length := (List.getElem?_eq_some_iff.1 hj).1
    have := hv.2 j d hj
    rw [Nat.zero_add]
    have hlt' : j < vs.size := by rw [hv.1]; exact hlt
    simpa [Array.getD_eq_getD_getElem?, Array.getElem?_append, hlt'] using this
  · rintro e a w ⟨st', hr, hq⟩
    cases e with
    | normal =>
      obtain ⟨v, h1, h2⟩ := hq a w hr
      obtain ⟨_, _, _, _, _, _, hd, _⟩ := hr
      exact ⟨hd, v, h1, v, rfl, h2⟩
    | ret =>
      obtain ⟨v, h1, h2⟩ := hq a w hr
      obtain ⟨_, _, _, _, _, _, hd, _⟩ := hr
      exact ⟨hd, v, h1, v, rfl, h2⟩
    | exit id => obtain ⟨q, hx, _⟩ := hq; cases hx
    | goto l => exact hq.elim
    | panic ch => exact hq.elim
    | outgrown => exact hq.elim

end Go.Av
