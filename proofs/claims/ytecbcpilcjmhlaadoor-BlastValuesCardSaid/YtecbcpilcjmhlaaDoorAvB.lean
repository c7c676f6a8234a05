/-
  Regions that draw their order: operations that leave the store alone may be walked in the text's order; behind them operations whose order is forced.
-/
import Derived.Test.YtecbcpilcjmhlaaDoorAvA
import Derived.Still
namespace Go.Av
open Classical
set_option linter.unusedSimpArgs false
set_option linter.unusedVariables false

def updF (dst : Option Tmp) (d : DV) (φ : Nat → DV) : Nat → DV := match dst with | some i => fun j => if i = j then d else φ j | none => φ
theorem look_putF (dst : Option Tmp) (d : DV) (t : Fr) : look (putF dst d t) = updF dst d (look t) := by
  cases dst with
  | none => rfl
  | some i =>
    funext j
    simp only [putF, look, updF]
    cases hb : Nat.beq i j with
    | true => rw [if_pos (Nat.eq_of_beq_eq_true hb)]
    | false => rw [if_neg (fun e => by subst e; simp at hb)]
def aevF (G : Nat → DV) (φ : Nat → DV) : Operand → DV
  | .tmp i => φ i
  | .const v => .sc v
  | .global g => G g
  | .func f => .fn (.func f) [] []
theorem aevF_look (G : Nat → DV) (t : Fr) : aevF G (look t) = aev G t := by funext x; cases x <;> rfl

theorem updF_comm {x y : Option Tmp} (d e : DV) (φ : Nat → DV) (h : ∀ i, x = some i → y ≠ some i) : updF y e (updF x d φ) = updF x d (updF y e φ) := by
  cases x with
  | none => rfl
  | some i =>
    cases y with
    | none => rfl
    | some j =>
      have hne : i ≠ j := fun he => h i rfl (he ▸ rfl)
      funext k
      simp only [updF]
      by_cases h1 : j = k <;> by_cases h2 : i = k
      · exact absurd (h2.trans h1.symm) hne
      all_goals simp [h1, h2]

section
variable {P : Program} {G : Nat → DV} {E : AX} {n : Nat} {σ : List ABlk} {ops : Array Oper} {md : Region.Mode}

def RelF (G : Nat → DV) (E : AX) (n : Nat) (φ : Nat → DV) (σ : List ABlk) (a : Act) (w : World) : Prop :=
  ∃ X : AX, X.w = w ∧ X.σ = σ ∧ Sto X ∧ WExt E X ∧ GOk G X ∧ a.defers = [] ∧ a.tmps.size = n ∧ ∀ i, VRep X.lay (φ i) (a.tmps.getD i undef)
theorem relF_look {t : Fr} {a : Act} {w : World} : RelF G E n (look t) σ a w ↔ Rel G E n ⟨t, σ⟩ a w := Iff.rfl

/-- Whether an operation is wanted, by what is known. -/
def Wd (n : Nat) (ops : Array Oper) (o : Oper) (φ : Nat → DV) (b : Bool) : Prop := match o.guard with
  | none => b = true
  | some (j, want) => ∃ s c, (ops[j]?).bind (·.dst) = some s ∧ s < n ∧ φ s = .sc c ∧ b = (yv c == some want)
/-- The operation leaves the store alone, and 'd' in its temporary. -/
def YA (P : Program) (G : Nat → DV) (B n : Nat) (ops : Array Oper) (σ : List ABlk) (o : Oper) (d : DV) (φ : Nat → DV) : Prop :=
  (∀ i, o.dst = some i → i < n) ∧ ((Wd n ops o φ true ∧ OpSem P G B o (aevF G φ) σ (fun d' σ' => d' = d ∧ σ' = σ)) ∨ (Wd n ops o φ false ∧ d = .sc undef))

theorem Wd.same {o : Oper} {φ φ' : Nat → DV} {b : Bool} (h : Wd n ops o φ b) (he : ∀ t ∈ o.looksAt ops, φ' t = φ t) : Wd n ops o φ' b := by
  unfold Wd at *
  cases hg : o.guard with
  | none => rw [hg] at h; exact h
  | some gw =>
    obtain ⟨j, want⟩ := gw
    rw [hg] at h
    obtain ⟨s, c, h1, h2, h3, h4⟩ := h
    refine ⟨s, c, h1, h2, ?_, h4⟩
    rw [he s (by simp [Oper.looksAt, hg, h1])]
    exact h3
theorem OpSem.same {B : Nat} {o : Oper} {f f' : Operand → DV} {K : DV → List ABlk → Prop} (h : OpSem P G B o f σ K) (he : ∀ x ∈ o.op.operands, f' x = f x) : OpSem P G B o f' σ K := fun X ρ h1 h2 h3 h4 h5 =>
  h X ρ h1 h2 h3 h4 fun x hx => by rw [← he x hx]; exact h5 x hx
theorem YA.same {B : Nat} {o : Oper} {d : DV} {φ φ' : Nat → DV} (h : YA P G B n ops σ o d φ) (he : ∀ t ∈ o.looksAt ops, φ' t = φ t) : YA P G B n ops σ o d φ' := by
  obtain ⟨h0, h⟩ := h
  refine ⟨h0, ?_⟩
  rcases h with ⟨h1, h2⟩ | ⟨h1, h2⟩
  · refine .inl ⟨h1.same he, h2.same fun x hx => ?_⟩
    cases x with
    | tmp t => exact he t (List.mem_append_left _ (List.mem_filterMap.2 ⟨.tmp t, by simpa using hx, rfl⟩))
    | _ => rfl
  · exact .inr ⟨h1.same he, h2⟩
theorem upd_looks {o : Oper} {dst : Option Tmp} {d : DV} {φ : Nat → DV} (h : ∀ i, dst = some i → i ∉ o.looksAt ops) : ∀ t ∈ o.looksAt ops, updF dst d φ t = φ t := fun t ht => by
  cases dst with
  | none => rfl
  | some i =>
    simp only [updF]
    rw [if_neg (fun e => h i rfl (by rw [e]; exact ht))]

/-- The prefix, in whatever order. -/
def anyP (P : Program) (G : Nat → DV) (B n : Nat) (md : Region.Mode) (ops : Array Oper) (σ : List ABlk) (m : Nat) (Fin : Array Bool → (Nat → DV) → Prop) : Nat → Array Bool → (Nat → DV) → Prop
  | 0, listed, φ => (∀ j ∈ Region.ready md ops listed, m ≤ j) ∧ Fin listed φ
  | r + 1, listed, φ => Region.ready md ops listed ≠ [] ∧ ∀ i ∈ Region.ready md ops listed, i < m ∧ ∃ o d, ops[i]? = some o ∧ YA P G B n ops σ o d φ ∧ anyP P G B n md ops σ m Fin r (listed.setIfInBounds i true) (updF o.dst d φ)

/-- What is listed is closed under what it waits for. -/
def Closed (md : Region.Mode) (ops : Array Oper) (listed : Array Bool) : Prop := ∀ (j : Nat) (o : Oper), ops[j]? = some o → listed.getD j false = true → ∀ e ∈ o.after, Region.binds md e = true → listed.getD e.on false = true

theorem Closed.step {listed : Array Bool} (h : Closed md ops listed) {i : Nat} (hr : i ∈ Region.ready md ops listed) : Closed md ops (listed.setIfInBounds i true) := fun j o hj hl e he hb => by
  by_cases hij : i = j
  · subst hij
    obtain ⟨_, o', ho', hall⟩ := mem_ready.1 hr
    rw [hj] at ho'
    cases ho'
    exact getD_set_true (hall e he hb)
  · rw [getD_set_ne false hij] at hl
    exact getD_set_true (h j o hj hl e he hb)

/-- All that an operation waits for, directly or not (so many steps far). -/
def waits (md : Region.Mode) (ops : Array Oper) : Nat → Nat → List Nat
  | 0, j => [j]
  | k + 1, j => j :: (((ops[j]?).map (·.after.toList)).getD []).flatMap fun e => if Region.binds md e then waits md ops k e.on else []
theorem waits_listed {listed : Array Bool} (hc : Closed md ops listed) : ∀ (k j : Nat), listed.getD j false = true → ∀ i ∈ waits md ops k j, listed.getD i false = true
  | 0, j, h, i, hi => by simp [waits] at hi; rw [hi]; exact h
  | k + 1, j, h, i, hi => by
    simp only [waits, List.mem_cons, List.mem_flatMap] at hi
    rcases hi with rfl | ⟨e, he, hi⟩
    · exact h
    · cases ho : ops[j]? with
      | none => simp [ho] at he
      | some o =>
        simp [ho] at he
        split at hi
        · rename_i hb
          exact waits_listed hc k e.on (hc j o ho h e he hb) i hi
        · simp at hi
theorem ready_waits {listed : Array Bool} (hc : Closed md ops listed) {j : Nat} (hr : j ∈ Region.ready md ops listed) (k : Nat) : ∀ i ∈ waits md ops k j, i ≠ j → listed.getD i false = true := fun i hi hne => by
  cases k with
  | zero => simp [waits] at hi; exact absurd hi hne
  | succ k =>
    simp only [waits, List.mem_cons, List.mem_flatMap] at hi
    rcases hi with rfl | ⟨e, he, hi⟩
    · exact absurd rfl hne
    · obtain ⟨_, o, ho, hall⟩ := mem_ready.1 hr
      simp [ho] at he
      split at hi
      · rename_i hb
        exact waits_listed hc k e.on (hall e he hb) i hi
      · simp at hi

/-- The operations from m on wait for all before m. -/
def sufB (md : Region.Mode) (ops : Array Oper) (m : Nat) : Bool := (List.range ops.size).all fun j => decide (j < m) || (List.range m).all fun i => (waits md ops ops.size j).contains i
theorem sufB_spec {m : Nat} (h : sufB md ops m = true) {listed : Array Bool} (hc : Closed md ops listed) {i j : Nat} (hi : i < m) (hun : listed.getD i true = false) (hr : j ∈ Region.ready md ops listed) : j < m := by
  by_cases hj : j < m
  · exact hj
  · exfalso
    obtain ⟨_, o, ho, _⟩ := mem_ready.1 hr
    have hlt : j < ops.size := (Array.getElem?_eq_some_iff.1 ho).1
    have h1 := List.all_eq_true.1 h j (List.mem_range.2 hlt)
    simp only [hj, decide_false, Bool.false_or] at h1
    have h2 := List.all_eq_true.1 h1 i (List.mem_range.2 hi)
    have h3 := ready_waits hc hr ops.size i (by simpa using h2) (by omega)
    have : i < listed.size := by
      rcases Nat.lt_or_ge i listed.size with h | h
      · exact h
      · simp [Array.getElem?_eq_none h] at hun
    simp [this] at h3 hun
    rw [h3] at hun
    cases hun

theorem anyP_first {B m : Nat} {Fin : Array Bool → (Nat → DV) → Prop} (hsuf : sufB md ops m = true) {i : Nat} {oi : Oper} {d : DV} (hi : ops[i]? = some oi) (him : i < m) :
    ∀ (r : Nat) (listed : Array Bool) (φ : Nat → DV), Closed md ops listed →
      (∀ j oj, ops[j]? = some oj → j ≠ i → listed.getD j true = false → (∀ e ∈ oj.after, Region.binds md e = true → e.on ≠ i) → oi.apart ops oj = true) →
      i ∈ Region.ready md ops listed → YA P G B n ops σ oi d φ →
      anyP P G B n md ops σ m Fin r (listed.setIfInBounds i true) (updF oi.dst d φ) → anyP P G B n md ops σ m Fin (r + 1) listed φ := by
  intro r
  induction r with
  | zero =>
    intro listed φ hc hfree hr hy H
    refine ⟨fun h => (by rw [h] at hr; cases hr), fun j hj => ?_⟩
    by_cases hji : j = i
    · subst hji; exact ⟨him, oi, d, hi, hy, H⟩
    · have h1 := sufB_spec hsuf hc him (mem_ready.1 hr).1 hj
      have h2 := H.1 j (ready_mono hj hji)
      omega
  | succ r ih =>
    intro listed φ hc hfree hr hy H
    refine ⟨fun h => (by rw [h] at hr; cases hr), fun j hj => ?_⟩
    by_cases hji : j = i
    · subst hji; exact ⟨him, oi, d, hi, hy, H⟩
    · have hjm := sufB_spec hsuf hc him (mem_ready.1 hr).1 hj
      obtain ⟨_, oj, e, hoj, hyj, Hj⟩ := H.2 j (ready_mono hj hji)
      obtain ⟨hjun, oj', hoj', hall⟩ := mem_ready.1 hj
      rw [hoj] at hoj'; cases hoj'
      have hnot : ∀ e ∈ oj.after, Region.binds md e = true → e.on ≠ i := fun e he hb heq => by
        have h1 := hall e he hb
        have h0 := (mem_ready.1 hr).1
        rw [heq] at h1
        rcases Nat.lt_or_ge i listed.size with h' | h'
        · simp [h'] at h0 h1; rw [h0] at h1; cases h1
        · simp [Array.getElem?_eq_none h'] at h1
      obtain ⟨a1, a2, a3⟩ := Oper.apart_spec (hfree j oj hoj hji hjun hnot)
      refine ⟨hjm, oj, e, hoj, hyj.same fun t ht => (upd_looks (d := d) (φ := φ) a1 t ht).symm, ih _ _ (hc.step hj) ?_ (ready_mono hr (Ne.symm hji)) (hy.same (upd_looks a3)) ?_⟩
      · intro k ok hk hki hun hno
        refine hfree k ok hk hki ?_ hno
        by_cases hjk : j = k
        · subst hjk; exact hjun
        · rw [getD_set_ne true hjk] at hun; exact hun
      · rw [Array.setIfInBounds_comm _ _ hji, ← updF_comm d e φ a2]
        exact Hj

/-- The text's order. -/
def ALex (P : Program) (G : Nat → DV) (B n : Nat) (ops : Array Oper) (σ : List ABlk) (Q : (Nat → DV) → Prop) : List Oper → (Nat → DV) → Prop
  | [], φ => Q φ
  | o :: l, φ => ∃ d, YA P G B n ops σ o d φ ∧ ALex P G B n ops σ Q l (updF o.dst d φ)

/-- The prefix in the text's order: each may come up, and those that have not come up yet wait or are apart. -/
def lexP (md : Region.Mode) (ops : Array Oper) : Nat → Nat → Array Bool → Bool
  | 0, k, listed => (Region.ready md ops listed).all fun j => decide (k ≤ j)
  | r + 1, k, listed => (Region.ready md ops listed).contains k && Region.free md ops listed k && lexP md ops r (k + 1) (listed.setIfInBounds k true)
def listedTo (ops : Array Oper) : Nat → Nat → Array Bool → Array Bool
  | 0, _, listed => listed
  | r + 1, k, listed => listedTo ops r (k + 1) (listed.setIfInBounds k true)

theorem anyP_lex {B m : Nat} {Fin : Array Bool → (Nat → DV) → Prop} (hsuf : sufB md ops m = true) : ∀ (l : List Oper) (k : Nat) (listed : Array Bool) (φ : Nat → DV), (∀ j, j < l.length → l[j]? = ops[k + j]?) → k + l.length = m → Closed md ops listed →
    lexP md ops l.length k listed = true → ALex P G B n ops σ (fun φ' => Fin (listedTo ops l.length k listed) φ') l φ → anyP P G B n md ops σ m Fin l.length listed φ
  | [], k, listed, φ, _, hk, _, hB, h => ⟨fun j hj => by simp only [lexP, List.length_nil] at hB; have := List.all_eq_true.1 hB j hj; simp at this hk; omega, h⟩
  | o :: l, k, listed, φ, hl, hk, hc, hB, h => by
    have h0 : ops[k]? = some o := by simpa using (hl 0 (by simp)).symm
    simp only [List.length_cons, lexP, Bool.and_eq_true] at hB
    obtain ⟨⟨hr, hf⟩, hB'⟩ := hB
    obtain ⟨d, hy, hK⟩ := h
    have hr' : k ∈ Region.ready md ops listed := by simpa using hr
    exact anyP_first hsuf h0 (by simp at hk; omega) l.length listed φ hc (Region.free_spec h0 hf) hr' hy
      (anyP_lex hsuf l (k + 1) _ _ (fun j hj => by have := hl (j + 1) (by simp; omega); simpa [Nat.add_assoc, Nat.add_comm 1 j] using this) (by simp at hk; omega) (hc.step hr') hB' hK)

/-- One neutral operation, in the world. -/
theorem YA.run {o : Oper} {d : DV} {φ : Nat → DV} {Q : Exit → Act → World → Prop} {K : Act → World → Prop} {i : Nat} (hi : ops[i]? = some o) (hy : YA P G E.N n ops σ o d φ) (hk : ∀ a w, RelF G E n (updF o.dst d φ) σ a w → K a w) {a : Act} {w : World} (hr : RelF G E n φ σ a w) : wpOp P ops Q i K a w := by
  unfold wpOp
  simp only [hi]
  obtain ⟨X, h1, h2, h3, h4, h5, h6, h7, h8⟩ := hr
  have hput : ∀ {X' : AX} {v : Value} {d' : DV}, X'.σ = σ → Sto X' → WExt X X' → VRep X'.lay d' v → RelF G E n (updF o.dst d' φ) σ (a.put o.dst v) X'.w := by
    intro X' v d' g1 g2 g3 g4
    refine ⟨X', rfl, g1, g2, h4.trans g3, h5.ext g3, ?_, ?_, fun j => ?_⟩
    · cases ho : o.dst <;> exact h6
    · cases ho : o.dst <;> simp [Act.put, h7]
    · cases ho : o.dst with
      | none => exact (h8 j).ext g3
      | some s =>
        have hs := hy.1 s ho
        simp only [updF, Act.put]
        by_cases hsj : s = j
        · subst hsj
          rw [if_pos rfl]
          simpa [Array.getD_eq_getD_getElem?, Array.getElem?_setIfInBounds, h7, hs] using g4
        · rw [if_neg hsj]
          have := (h8 j).ext g3
          simpa [Array.getD_eq_getD_getElem?, Array.getElem?_setIfInBounds_ne hsj] using this
  have hwd : ∀ b, Wd n ops o φ b → Region.wanted o (yielded ops a.tmps) = b := by
    intro b hb
    unfold Wd at hb
    cases hg : o.guard with
    | none => rw [hg] at hb; simp [Region.wanted, hg, hb]
    | some gw =>
      obtain ⟨j, want⟩ := gw
      rw [hg] at hb
      obtain ⟨s, c, e1, e2, e3, e4⟩ := hb
      have hv := h8 s
      rw [e3] at hv
      have hv := VRep.sc_eq hv
      have hget : a.tmps[s]? = some c := by
        have hlt : s < a.tmps.size := by rw [h7]; exact e2
        simp only [Array.getD_eq_getD_getElem?] at hv
        rw [Array.getElem?_eq_getElem hlt] at hv ⊢
        simpa using hv
      have : yielded ops a.tmps j = yv c := by rw [yielded, e1, Option.bind_some, hget]; cases c <;> rfl
      simp only [Region.wanted, hg, this, e4]
  rcases hy.2 with ⟨hw, hs⟩ | ⟨hw, rfl⟩
  · rw [hwd true hw]
    simp only [if_true]
    refine .inl ?_
    have hx : ∀ x ∈ o.op.operands, VRep X.lay (aevF G φ x) (a.eval x) := fun x _ => by
      cases x with
      | tmp i => exact h8 i
      | const v => exact .sc v
      | global g => exact (h5 g).2
      | func f => exact .fn _ [] [] #[] #[] rfl rfl (fun j d h => by simp at h) (fun j d h => by simp at h)
    have hs := hs X a.eval h3 h2 h4.top h5 hx
    rw [h1] at hs
    unfold Oper.wp
    generalize (execOp a.eval o).run P w = x at *
    cases x with
    | ok nx w' =>
      cases nx <;> simp only [OPost] at hs <;> simp only [Oper.upon]
      case value v =>
        obtain ⟨X', e1, e2, e3, d', hv, rfl, hσ'⟩ := hs
        subst e1
        exact hk _ _ (hput hσ' e2 e3 hv)
      case skip =>
        obtain ⟨X', e1, e2, e3, d', hv, rfl, hσ'⟩ := hs
        subst e1
        exact hk _ _ (hput hσ' e2 e3 hv)
      case enter f args =>
        refine hs.2.mono fun e w'' ⟨v, he, X', e1, e2, e3, d', hv, hd, hσ'⟩ => ?_
        subst he
        subst hd
        subst e1
        exact hk _ _ (hput hσ' e2 e3 hv)
    | halt hh w' => simp only [OPost] at hs
  · rw [hwd false hw]
    simp only [Bool.false_eq_true, if_false]
    have := hput (X' := X) (v := undef) h2 h3 (.refl X) (VRep.sc undef)
    rw [h1] at this
    exact hk _ _ this

theorem anyP_run {m : Nat} {Q : Exit → Act → World → Prop} {f : Nat} {Fin : Array Bool → (Nat → DV) → Prop} (hF : ∀ listed φ, Fin listed φ → ∀ a w, RelF G E n φ σ a w → wpAny P md ops Q f listed a w) : ∀ (r : Nat) (listed : Array Bool) (φ : Nat → DV), anyP P G E.N n md ops σ m Fin r listed φ → ∀ a w, RelF G E n φ σ a w → wpAny P md ops Q (r + f) listed a w
  | 0, listed, φ, h, a, w, hr => by rw [Nat.zero_add]; exact hF _ _ h.2 a w hr
  | r + 1, listed, φ, h, a, w, hr => by
    rw [Nat.add_right_comm]
    refine ⟨fun h0 => absurd h0 h.1, fun i hi => ?_⟩
    obtain ⟨_, o, d, ho, hy, hn⟩ := h.2 i hi
    exact hy.run ho (fun a' w' hr' => anyP_run hF r _ _ hn a' w' hr') hr

/-- From here on the order is forced. -/
def forcedB (md : Region.Mode) (ops : Array Oper) : Nat → Nat → Array Bool → Bool
  | 0, _, listed => (Region.ready md ops listed).isEmpty
  | r + 1, k, listed => (Region.ready md ops listed) == [k] && forcedB md ops r (k + 1) (listed.setIfInBounds k true)
theorem forced_run {Q : Exit → Act → World → Prop} : ∀ (l : List Oper) (k : Nat) (listed : Array Bool), (∀ j, l[j]? = ops[k + j]?) → forcedB md ops l.length k listed = true → ∀ a w, wpList P ops Q l a w → wpAny P md ops Q l.length listed a w
  | [], k, listed, _, hB, a, w, h => ⟨by simpa [forcedB] using hB, h⟩
  | o :: l, k, listed, hl, hB, a, w, h => by
    have h0 : ops[k]? = some o := by simpa using (hl 0).symm
    simp only [List.length_cons, forcedB, Bool.and_eq_true, beq_iff_eq] at hB
    refine ⟨fun he => (by rw [hB.1] at he; cases he), fun i hi => ?_⟩
    rw [hB.1] at hi
    simp at hi
    subst hi
    have ih := forced_run (Q := Q) l (i + 1) _ (fun j => by have := hl (j + 1); simpa [Nat.add_assoc, Nat.add_comm 1 j] using this) hB.2
    unfold wpOp
    simp only [h0]
    unfold wpList at h
    split
    · rename_i hw
      rw [if_pos hw] at h
      exact h.imp (Oper.wp_mono fun a w => ih a w) id
    · rename_i hw
      rw [if_neg hw] at h
      exact ih _ _ h

/-- All that is asked of a region's edges. -/
def drawB (ops : Array Oper) (m : Nat) : Bool :=
  Region.noSelect ops && sufB .any ops m && lexP .any ops m 0 (Array.replicate ops.size false) && forcedB .any ops (ops.size - m) m (listedTo ops m 0 (Array.replicate ops.size false))

/-- **A region that draws its order**: the first m operations leave the store alone and are walked in the text's order; the others come up in the text's order. -/
theorem r_draw {id : Nat} {pre post : List Oper} {t : Fr} {N : ASt → Prop} {xs : List (Nat × (ASt → Prop))} {R : ASt → Prop} (hm : P.follows .mixedOrders = true) (hB : drawB (pre ++ post).toArray pre.length = true)
    (h : ALex P G E.N n (pre ++ post).toArray σ (fun φ => ∃ t', (∀ i, look t' i = .any ∨ look t' i = φ i) ∧ AOps P G E n (pre ++ post).toArray post N ⟨t', σ⟩) pre (look t)) : ARun P G E n (.region id (pre ++ post).toArray true) N xs R ⟨t, σ⟩ := fun a w hr => by
  simp only [drawB, Bool.and_eq_true] at hB
  obtain ⟨⟨⟨_, h2⟩, h3⟩, h4⟩ := hB
  have hr' : RelF G E n (look t) σ a { w with drawn := w.drawn + 1 } := by
    obtain ⟨X, e1, e2, e3, e4, e5, e6, e7, e8⟩ := hr
    have hk := Keep.drew X.w
    subst e1
    exact ⟨X.inW X.w.drew, rfl, e2, e3.inW hk, e4.trans (WExt.inW hk), e5.ext (WExt.inW hk), e6, e7, fun i => (e8 i).ext (WExt.inW hk)⟩
  have hpost : ((pre ++ post).toArray.size - pre.length) = post.length := by simp
  rw [hpost] at h4
  have hany := anyP_lex (Fin := fun listed φ => listed = listedTo (pre ++ post).toArray pre.length 0 (Array.replicate (pre ++ post).toArray.size false) ∧ ∃ t', (∀ i, look t' i = .any ∨ look t' i = φ i) ∧ AOps P G E n (pre ++ post).toArray post N ⟨t', σ⟩)
    (md := .any) h2 pre 0 (Array.replicate (pre ++ post).toArray.size false) (look t) (fun j hj => by simp [List.getElem?_append_left hj]) (by simp) (fun j o _ hl => by simp [Array.getElem?_replicate] at hl; split at hl <;> simp at hl) h3 (by simpa using h)
  refine wp_region_any hm ?_
  have := anyP_run (E := E) (Q := QOf G E n N xs R) (f := post.length) (fun listed φ ⟨hl, t', ht', ho⟩ a w hrf => by
    subst hl
    refine forced_run post pre.length _ (fun j => by simp [List.getElem?_append_right]) h4 a w ?_
    obtain ⟨X, e1, e2, e3, e4, e5, e6, e7, e8⟩ := hrf
    refine wp_mono_list (ho a w ⟨X, e1, e2, e3, e4, e5, e6, e7, fun i => ?_⟩) fun e a' w' ⟨he, st', hr', hq⟩ => by subst he; exact ⟨st', hr', hq⟩
    rcases ht' i with h' | h'
    · rw [h']; exact .any _
    · rw [h']; exact e8 i) _ _ _ hany a _ hr'
  simpa using this

/-- All of the region's operations leave the store alone. -/
theorem r_drawn {id : Nat} {l : List Oper} {t : Fr} {N : ASt → Prop} {xs : List (Nat × (ASt → Prop))} {R : ASt → Prop} (hm : P.follows .mixedOrders = true) (hB : drawB l.toArray l.length = true)
    (h : ALex P G E.N n l.toArray σ (fun φ => ∃ t', (∀ i, look t' i = .any ∨ look t' i = φ i) ∧ AOps P G E n l.toArray [] N ⟨t', σ⟩) l (look t)) : ARun P G E n (.region id l.toArray true) N xs R ⟨t, σ⟩ := by
  have := r_draw (P := P) (G := G) (E := E) (n := n) (σ := σ) (id := id) (pre := l) (post := []) (t := t) (N := N) (xs := xs) (R := R) hm
  simp only [List.append_nil] at this
  exact this hB h
/-- The first m. -/
theorem r_drawm (m : Nat) {id : Nat} {l : List Oper} {t : Fr} {N : ASt → Prop} {xs : List (Nat × (ASt → Prop))} {R : ASt → Prop} (hm : P.follows .mixedOrders = true) (hl : (l.take m).length = m) (hB : drawB l.toArray m = true)
    (h : ALex P G E.N n l.toArray σ (fun φ => ∃ t', (∀ i, look t' i = .any ∨ look t' i = φ i) ∧ AOps P G E n l.toArray (l.drop m) N ⟨t', σ⟩) (l.take m) (look t)) : ARun P G E n (.region id l.toArray true) N xs R ⟨t, σ⟩ := by
  have := r_draw (P := P) (G := G) (E := E) (n := n) (σ := σ) (id := id) (pre := l.take m) (post := l.drop m) (t := t) (N := N) (xs := xs) (R := R) hm
  rw [hl] at this
  simp only [List.take_append_drop] at this
  exact this hB h

/-! The rules of the walk in the text's order. -/
variable {Q : (Nat → DV) → Prop} {l : List Oper} {t : Fr}
theorem look_put {i : Tmp} {d : DV} : look ((i, d) :: t) = updF (some i) d (look t) := look_putF (some i) d t
theorem look_same {s : Nat} {d : DV} (h : look t s = d) : look ((s, d) :: t) = look t := by
  funext i
  simp only [look]
  cases hb : Nat.beq s i with
  | true => have := Nat.eq_of_beq_eq_true hb; subst this; exact h.symm
  | false => rfl
theorem x_op {i : Tmp} {op : Op} {type : TypeId} {pos : String} {after : Array Edge} {d : DV} (hd : Nat.blt i n = true) (h : OpSem P G E.N ⟨some i, op, type, pos, after, none⟩ (aev G t) σ (fun d' σ' => d' = d ∧ σ' = σ)) (k : ALex P G E.N n ops σ Q l (look ((i, d) :: t))) :
    ALex P G E.N n ops σ Q (⟨some i, op, type, pos, after, none⟩ :: l) (look t) := ⟨d, ⟨fun j hj => by cases hj; exact Nat.ble_eq.mp hd, .inl ⟨rfl, by rw [aevF_look]; exact h⟩⟩, by rw [look_put] at k; exact k⟩
theorem x_gy {i : Tmp} {op : Op} {type : TypeId} {pos : String} {after : Array Edge} {j s : Nat} {want : Bool} {d : DV} (hj : (ops[j]?).bind (·.dst) = some s) (hl : look t s = .sc (.bool want)) (hs : Nat.blt s n = true) (hd : Nat.blt i n = true)
    (h : OpSem P G E.N ⟨some i, op, type, pos, after, some (j, want)⟩ (aev G t) σ (fun d' σ' => d' = d ∧ σ' = σ)) (k : ALex P G E.N n ops σ Q l (look ((i, d) :: t))) : ALex P G E.N n ops σ Q (⟨some i, op, type, pos, after, some (j, want)⟩ :: l) (look t) :=
  ⟨d, ⟨fun j hj => by cases hj; exact Nat.ble_eq.mp hd, .inl ⟨⟨s, .bool want, hj, Nat.ble_eq.mp hs, hl, by cases want <;> rfl⟩, by rw [aevF_look]; exact h⟩⟩, by rw [look_put] at k; exact k⟩
theorem x_gn {i : Tmp} {op : Op} {type : TypeId} {pos : String} {after : Array Edge} {j s : Nat} {want : Bool} (hj : (ops[j]?).bind (·.dst) = some s) (hl : look t s = .sc (.bool !want)) (hs : Nat.blt s n = true) (hd : Nat.blt i n = true)
    (k : ALex P G E.N n ops σ Q l (look ((i, .sc undef) :: t))) : ALex P G E.N n ops σ Q (⟨some i, op, type, pos, after, some (j, want)⟩ :: l) (look t) :=
  ⟨.sc undef, ⟨fun j hj => by cases hj; exact Nat.ble_eq.mp hd, .inr ⟨⟨s, .bool !want, hj, Nat.ble_eq.mp hs, hl, by cases want <;> rfl⟩, rfl⟩⟩, by rw [look_put] at k; exact k⟩
/-- The guard itself was not carried out. -/
theorem x_gu {i : Tmp} {op : Op} {type : TypeId} {pos : String} {after : Array Edge} {j s : Nat} {want : Bool} {v : Value} (hj : (ops[j]?).bind (·.dst) = some s) (hl : look t s = .sc v) (hv : yv v = none) (hs : Nat.blt s n = true) (hd : Nat.blt i n = true)
    (k : ALex P G E.N n ops σ Q l (look ((i, .sc undef) :: t))) : ALex P G E.N n ops σ Q (⟨some i, op, type, pos, after, some (j, want)⟩ :: l) (look t) :=
  ⟨.sc undef, ⟨fun j hj => by cases hj; exact Nat.ble_eq.mp hd, .inr ⟨⟨s, v, hj, Nat.ble_eq.mp hs, hl, by rw [hv]; rfl⟩, rfl⟩⟩, by rw [look_put] at k; exact k⟩
/-- A guard that is not known parts the ways. -/
theorem x_sp {dst : Option Tmp} {op : Op} {type : TypeId} {pos : String} {after : Array Edge} {j s : Nat} {want b : Bool} (hj : (ops[j]?).bind (·.dst) = some s) (hl : look t s = .sc (.bool b)) (yes : b = true → ALex P G E.N n ops σ Q (⟨dst, op, type, pos, after, some (j, want)⟩ :: l) (look ((s, .sc (.bool true)) :: t)))
    (no : b = false → ALex P G E.N n ops σ Q (⟨dst, op, type, pos, after, some (j, want)⟩ :: l) (look ((s, .sc (.bool false)) :: t))) : ALex P G E.N n ops σ Q (⟨dst, op, type, pos, after, some (j, want)⟩ :: l) (look t) := by
  cases b with
  | true => have := yes rfl; rwa [look_same hl] at this
  | false => have := no rfl; rwa [look_same hl] at this
theorem x_sp_d {dst : Option Tmp} {op : Op} {type : TypeId} {pos : String} {after : Array Edge} {j s : Nat} {want : Bool} {p : Prop} [Decidable p] (hj : (ops[j]?).bind (·.dst) = some s) (hl : look t s = .sc (.bool (decide p))) (yes : p → ALex P G E.N n ops σ Q (⟨dst, op, type, pos, after, some (j, want)⟩ :: l) (look ((s, .sc (.bool true)) :: t)))
    (no : ¬ p → ALex P G E.N n ops σ Q (⟨dst, op, type, pos, after, some (j, want)⟩ :: l) (look ((s, .sc (.bool false)) :: t))) : ALex P G E.N n ops σ Q (⟨dst, op, type, pos, after, some (j, want)⟩ :: l) (look t) :=
  x_sp hj hl (fun h => yes (of_decide_eq_true h)) (fun h => no (of_decide_eq_false h))
theorem x_sp_t {dst : Option Tmp} {op : Op} {type : TypeId} {pos : String} {after : Array Edge} {j s : Nat} {want : Bool} {p : Prop} [Decidable p] (hj : (ops[j]?).bind (·.dst) = some s) (hl : look t s = .sc (.bool (decide p))) (hp : p) (yes : ALex P G E.N n ops σ Q (⟨dst, op, type, pos, after, some (j, want)⟩ :: l) (look ((s, .sc (.bool true)) :: t))) : ALex P G E.N n ops σ Q (⟨dst, op, type, pos, after, some (j, want)⟩ :: l) (look t) :=
  x_sp_d hj hl (fun _ => yes) (fun h => absurd hp h)
theorem x_sp_f {dst : Option Tmp} {op : Op} {type : TypeId} {pos : String} {after : Array Edge} {j s : Nat} {want : Bool} {p : Prop} [Decidable p] (hj : (ops[j]?).bind (·.dst) = some s) (hl : look t s = .sc (.bool (decide p))) (hp : ¬ p) (no : ALex P G E.N n ops σ Q (⟨dst, op, type, pos, after, some (j, want)⟩ :: l) (look ((s, .sc (.bool false)) :: t))) : ALex P G E.N n ops σ Q (⟨dst, op, type, pos, after, some (j, want)⟩ :: l) (look t) :=
  x_sp_d hj hl (fun h => absurd h hp) (fun _ => no)
theorem x_nil {post : List Oper} {N : ASt → Prop} (h : AOps P G E n ops post N ⟨t, σ⟩) : ALex P G E.N n ops σ (fun φ => ∃ t', (∀ i, look t' i = .any ∨ look t' i = φ i) ∧ AOps P G E n ops post N ⟨t', σ⟩) [] (look t) := ⟨t, fun _ => .inr rfl, h⟩

end
end Go.Av
