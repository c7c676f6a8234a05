/-
  Part 1 of the proof: AvB AvC AvD AvE AvF AvG AvH AvI AvJ AvK AvL AvM AvN Inst O0 B0 B1 B2 B3.
-/
import Derived.Still
import Derived.DeepKeys
import Derived.Test.YtecbcpilcjmhlaaDoorRows
import Derived.Test.YtecbcpilcjmhlaaDoorZB0
set_option linter.unusedSimpArgs false
set_option linter.unusedVariables false
set_option maxRecDepth 10000
set_option maxHeartbeats 4000000
section
namespace Go.Av
open Classical
def ZO (dst : Option Tmp) (d : DV) (φ : Nat -> DV) : Nat -> DV := match dst with | some i => fun j => if i = j then d else φ j | none => φ
theorem look_putF (dst : Option Tmp) (d : DV) (t : Fr) : Wp (putF dst d t) = ZO dst d (Wp t) := by
 cases dst with
 | none => rfl
 | some i =>
  funext j
  simp only [putF, Wp, ZO]
  cases hb : Nat.beq i j with
  | true => rw [if_pos (Nat.eq_of_beq_eq_true hb)]
  | false => rw [if_neg (fun e => by subst e; simp at hb)]
def aevF (G : Nat -> DV) (φ : Nat -> DV) : Operand -> DV
 | .tmp i => φ i
 | .const v => .sc v
 | .global g => G g
 | .func f => .fn (.func f) [] []
theorem Zl (G : Nat -> DV) (t : Fr) : aevF G (Wp t) = aev G t := by funext x; cases x <;> rfl
theorem updF_comm {x y : Option Tmp} (d e : DV) (φ : Nat -> DV) (h : ∀ i, x = some i -> y ≠ some i) : ZO y e (ZO x d φ) = ZO x d (ZO y e φ) := by
 cases x with
 | none => rfl
 | some i =>
  cases y with
  | none => rfl
  | some j =>
   have hne : i ≠ j := fun he => h i rfl (he ▸ rfl)
   funext k
   simp only [ZO]
   by_cases h1 : j = k <;> by_cases h2 : i = k
   ·exact absurd (h2.trans h1.symm) hne
   all_goals simp [h1, h2]
section
variable {P : Program} {G : Nat -> DV} {E : AX} {n : Nat} {σ : List ABlk} {ops : Array Oper} {md : Region.Mode}
def RelF (G : Nat -> DV) (E : AX) (n : Nat) (φ : Nat -> DV) (σ : List ABlk) (a : Act) (w : World) : Prop :=
 ∃ X : AX, X.w = w /\ X.σ = σ /\ Sto X /\ WExt E X /\ GOk G X /\ a.defers = [] /\ a.tmps.size = n /\ ∀ i, VRep X.lay (φ i) (a.tmps.getD i undef)
def Wd (n : Nat) (ops : Array Oper) (o : Oper) (φ : Nat -> DV) (b : Bool) : Prop := match o.guard with
 | none => b = true
 | some (j, want) => ∃ s c, (ops[j]?).bind (·.dst) = some s /\ s < n /\ φ s = .sc c /\ b = (yv c == some want)
def YA (P : Program) (G : Nat -> DV) (B n : Nat) (ops : Array Oper) (σ : List ABlk) (o : Oper) (d : DV) (φ : Nat -> DV) : Prop :=
 (∀ i, o.dst = some i -> i < n) /\ ((Wd n ops o φ true /\ OpSem P G B o (aevF G φ) σ (fun d' σ' => d' = d /\ σ' = σ)) \/ (Wd n ops o φ false /\ d = .sc undef))
theorem Wd.same {o : Oper} {φ φ' : Nat -> DV} {b : Bool} (h : Wd n ops o φ b) (he : ∀ t ∈ o.looksAt ops, φ' t = φ t) : Wd n ops o φ' b := by
 unfold Wd at *
 cases hg : o.guard with
 | none => rw [hg] at h; exact h
 | some gw =>
  obtain ⟨j, want⟩ := gw
  rw [hg] at h
  obtain ⟨s, c, h1, h2, h3, h4⟩ := h
  refine ⟨s, c, h1, h2, ?_, h4⟩
  rw [he s (by simp [Oper.looksAt, hg, h1])]
  exact h3
theorem OpSem.same {B : Nat} {o : Oper} {f f' : Operand -> DV} {K : DV -> List ABlk -> Prop} (h : OpSem P G B o f σ K) (he : ∀ x ∈ o.op.operands, f' x = f x) : OpSem P G B o f' σ K := fun X ρ h1 h2 h3 h4 h5 =>
 h X ρ h1 h2 h3 h4 fun x hx => by rw [<- he x hx]; exact h5 x hx
theorem YA.same {B : Nat} {o : Oper} {d : DV} {φ φ' : Nat -> DV} (h : YA P G B n ops σ o d φ) (he : ∀ t ∈ o.looksAt ops, φ' t = φ t) : YA P G B n ops σ o d φ' := by
 obtain ⟨h0, h⟩ := h
 refine ⟨h0, ?_⟩
 rcases h with ⟨h1, h2⟩ | ⟨h1, h2⟩
 ·refine .inl ⟨h1.same he, h2.same fun x hx => ?_⟩
  cases x with
  | tmp t => exact he t (List.mem_append_left _ (List.mem_filterMap.2 ⟨.tmp t, by simpa using hx, rfl⟩))
  | _ => rfl
 ·exact .inr ⟨h1.same he, h2⟩
theorem qj {o : Oper} {dst : Option Tmp} {d : DV} {φ : Nat -> DV} (h : ∀ i, dst = some i -> i ∉ o.looksAt ops) : ∀ t ∈ o.looksAt ops, ZO dst d φ t = φ t := fun t ht => by
 cases dst with
 | none => rfl
 | some i =>
  simp only [ZO]
  rw [if_neg (fun e => h i rfl (by rw [e]; exact ht))]
def anyP (P : Program) (G : Nat -> DV) (B n : Nat) (md : Region.Mode) (ops : Array Oper) (σ : List ABlk) (m : Nat) (Fin : Array Bool -> (Nat -> DV) -> Prop) : Nat -> Array Bool -> (Nat -> DV) -> Prop
 | 0, listed, φ => (∀ j ∈ Region.ready md ops listed, m <= j) /\ Fin listed φ
 | r + 1, listed, φ => Region.ready md ops listed ≠ [] /\ ∀ i ∈ Region.ready md ops listed, i < m /\ ∃ o d, ops[i]? = some o /\ YA P G B n ops σ o d φ /\ anyP P G B n md ops σ m Fin r (listed.setIfInBounds i true) (ZO o.dst d φ)
def Closed (md : Region.Mode) (ops : Array Oper) (listed : Array Bool) : Prop := ∀ (j : Nat) (o : Oper), ops[j]? = some o -> listed.getD j false = true -> ∀ e ∈ o.after, Region.binds md e = true -> listed.getD e.on false = true
theorem Closed.step {listed : Array Bool} (h : Closed md ops listed) {i : Nat} (hr : i ∈ Region.ready md ops listed) : Closed md ops (listed.setIfInBounds i true) := fun j o hj hl e he hb => by
 by_cases hij : i = j
 ·subst hij
  obtain ⟨_, o', ho', hall⟩ := mem_ready.1 hr
  rw [hj] at ho'
  cases ho'
  exact getD_set_true (hall e he hb)
 ·rw [getD_set_ne false hij] at hl
  exact getD_set_true (h j o hj hl e he hb)
def waits (md : Region.Mode) (ops : Array Oper) : Nat -> Nat -> List Nat
 | 0, j => [j]
 | k + 1, j => j :: (((ops[j]?).map (·.after.toList)).getD []).flatMap fun e => if Region.binds md e then waits md ops k e.on else []
theorem waits_listed {listed : Array Bool} (hc : Closed md ops listed) : ∀ (k j : Nat), listed.getD j false = true -> ∀ i ∈ waits md ops k j, listed.getD i false = true
 | 0, j, h, i, hi => by simp [waits] at hi; rw [hi]; exact h
 | k + 1, j, h, i, hi => by
  simp only [waits, List.mem_cons, List.mem_flatMap] at hi
  rcases hi with rfl | ⟨e, he, hi⟩
  ·exact h
  ·cases ho : ops[j]? with
   | none => simp [ho] at he
   | some o =>
    simp [ho] at he
    split at hi
    ·rename_i hb
     exact waits_listed hc k e.on (hc j o ho h e he hb) i hi
    ·simp at hi
theorem ready_waits {listed : Array Bool} (hc : Closed md ops listed) {j : Nat} (hr : j ∈ Region.ready md ops listed) (k : Nat) : ∀ i ∈ waits md ops k j, i ≠ j -> listed.getD i false = true := fun i hi hne => by
 cases k with
 | zero => simp [waits] at hi; exact absurd hi hne
 | succ k =>
  simp only [waits, List.mem_cons, List.mem_flatMap] at hi
  rcases hi with rfl | ⟨e, he, hi⟩
  ·exact absurd rfl hne
  ·obtain ⟨_, o, ho, hall⟩ := mem_ready.1 hr
   simp [ho] at he
   split at hi
   ·rename_i hb
    exact waits_listed hc k e.on (hall e he hb) i hi
   ·simp at hi
def sufB (md : Region.Mode) (ops : Array Oper) (m : Nat) : Bool := (List.range ops.size).all fun j => decide (j < m) || (List.range m).all fun i => (waits md ops ops.size j).contains i
theorem sufB_spec {m : Nat} (h : sufB md ops m = true) {listed : Array Bool} (hc : Closed md ops listed) {i j : Nat} (hi : i < m) (hun : listed.getD i true = false) (hr : j ∈ Region.ready md ops listed) : j < m := by
 by_cases hj : j < m
 ·exact hj
 ·exfalso
  obtain ⟨_, o, ho, _⟩ := mem_ready.1 hr
  have hlt : j < ops.size := (Array.getElem?_eq_some_iff.1 ho).1
  have h1 := List.all_eq_true.1 h j (List.mem_range.2 hlt)
  simp only [hj, decide_false, Bool.false_or] at h1
  have h2 := List.all_eq_true.1 h1 i (List.mem_range.2 hi)
  have h3 := ready_waits hc hr ops.size i (by simpa using h2) (by omega)
  have : i < listed.size := by
   rcases Nat.lt_or_ge i listed.size with h | h
   ·exact h
   ·simp [Array.getElem?_eq_none h] at hun
  simp [this] at h3 hun
  rw [h3] at hun
  cases hun
theorem anyP_first {B m : Nat} {Fin : Array Bool -> (Nat -> DV) -> Prop} (hsuf : sufB md ops m = true) {i : Nat} {oi : Oper} {d : DV} (hi : ops[i]? = some oi) (him : i < m) :
  ∀ (r : Nat) (listed : Array Bool) (φ : Nat -> DV), Closed md ops listed ->
   (∀ j oj, ops[j]? = some oj -> j ≠ i -> listed.getD j true = false -> (∀ e ∈ oj.after, Region.binds md e = true -> e.on ≠ i) -> oi.apart ops oj = true) ->
   i ∈ Region.ready md ops listed -> YA P G B n ops σ oi d φ ->
   anyP P G B n md ops σ m Fin r (listed.setIfInBounds i true) (ZO oi.dst d φ) -> anyP P G B n md ops σ m Fin (r + 1) listed φ := by
 intro r
 induction r with
 | zero =>
  intro listed φ hc hfree hr hy H
  refine ⟨fun h => (by rw [h] at hr; cases hr), fun j hj => ?_⟩
  by_cases hji : j = i
  ·subst hji; exact ⟨him, oi, d, hi, hy, H⟩
  ·have h1 := sufB_spec hsuf hc him (mem_ready.1 hr).1 hj
   have h2 := H.1 j (ready_mono hj hji)
   omega
 | succ r ih =>
  intro listed φ hc hfree hr hy H
  refine ⟨fun h => (by rw [h] at hr; cases hr), fun j hj => ?_⟩
  by_cases hji : j = i
  ·subst hji; exact ⟨him, oi, d, hi, hy, H⟩
  ·have hjm := sufB_spec hsuf hc him (mem_ready.1 hr).1 hj
   obtain ⟨_, oj, e, hoj, hyj, Hj⟩ := H.2 j (ready_mono hj hji)
   obtain ⟨hjun, oj', hoj', hall⟩ := mem_ready.1 hj
   rw [hoj] at hoj'; cases hoj'
   have hnot : ∀ e ∈ oj.after, Region.binds md e = true -> e.on ≠ i := fun e he hb heq => by
    have h1 := hall e he hb
    have h0 := (mem_ready.1 hr).1
    rw [heq] at h1
    rcases Nat.lt_or_ge i listed.size with h' | h'
    ·simp [h'] at h0 h1; rw [h0] at h1; cases h1
    ·simp [Array.getElem?_eq_none h'] at h1
   obtain ⟨a1, a2, a3⟩ := Oper.apart_spec (hfree j oj hoj hji hjun hnot)
   refine ⟨hjm, oj, e, hoj, hyj.same fun t ht => (qj (d := d) (φ := φ) a1 t ht).symm, ih _ _ (hc.step hj) ?_ (ready_mono hr (Ne.symm hji)) (hy.same (qj a3)) ?_⟩
   ·intro k ok hk hki hun hno
    refine hfree k ok hk hki ?_ hno
    by_cases hjk : j = k
    ·subst hjk; exact hjun
    ·rw [getD_set_ne true hjk] at hun; exact hun
   ·rw [Array.setIfInBounds_comm _ _ hji, <- updF_comm d e φ a2]
    exact Hj
def W0 (P : Program) (G : Nat -> DV) (B n : Nat) (ops : Array Oper) (σ : List ABlk) (Q : (Nat -> DV) -> Prop) : List Oper -> (Nat -> DV) -> Prop
 | [], φ => Q φ
 | o :: l, φ => ∃ d, YA P G B n ops σ o d φ /\ W0 P G B n ops σ Q l (ZO o.dst d φ)
def lexP (md : Region.Mode) (ops : Array Oper) : Nat -> Nat -> Array Bool -> Bool
 | 0, k, listed => (Region.ready md ops listed).all fun j => decide (k <= j)
 | r + 1, k, listed => (Region.ready md ops listed).contains k && Region.free md ops listed k && lexP md ops r (k + 1) (listed.setIfInBounds k true)
def listedTo (ops : Array Oper) : Nat -> Nat -> Array Bool -> Array Bool
 | 0, _, listed => listed
 | r + 1, k, listed => listedTo ops r (k + 1) (listed.setIfInBounds k true)
theorem anyP_lex {B m : Nat} {Fin : Array Bool -> (Nat -> DV) -> Prop} (hsuf : sufB md ops m = true) : ∀ (l : List Oper) (k : Nat) (listed : Array Bool) (φ : Nat -> DV), (∀ j, j < l.length -> l[j]? = ops[k + j]?) -> k + l.length = m -> Closed md ops listed ->
  lexP md ops l.length k listed = true -> W0 P G B n ops σ (fun φ' => Fin (listedTo ops l.length k listed) φ') l φ -> anyP P G B n md ops σ m Fin l.length listed φ
 | [], k, listed, φ, _, hk, _, hB, h => ⟨fun j hj => by simp only [lexP, List.length_nil] at hB; have := List.all_eq_true.1 hB j hj; simp at this hk; omega, h⟩
 | o :: l, k, listed, φ, hl, hk, hc, hB, h => by
  have h0 : ops[k]? = some o := by simpa using (hl 0 (by simp)).symm
  simp only [List.length_cons, lexP, Bool.and_eq_true] at hB
  obtain ⟨⟨hr, hf⟩, hB'⟩ := hB
  obtain ⟨d, hy, hK⟩ := h
  have hr' : k ∈ Region.ready md ops listed := by simpa using hr
  exact anyP_first hsuf h0 (by simp at hk; omega) l.length listed φ hc (Region.free_spec h0 hf) hr' hy
   (anyP_lex hsuf l (k + 1) _ _ (fun j hj => by have := hl (j + 1) (by simp; omega); simpa [Nat.add_assoc, Nat.add_comm 1 j] using this) (by simp at hk; omega) (hc.step hr') hB' hK)
theorem YA.run {o : Oper} {d : DV} {φ : Nat -> DV} {Q : Exit -> Act -> World -> Prop} {K : Act -> World -> Prop} {i : Nat} (hi : ops[i]? = some o) (hy : YA P G E.N n ops σ o d φ) (hk : ∀ a w, RelF G E n (ZO o.dst d φ) σ a w -> K a w) {a : Act} {w : World} (hr : RelF G E n φ σ a w) : wpOp P ops Q i K a w := by
 unfold wpOp
 simp only [hi]
 obtain ⟨X, h1, h2, h3, h4, h5, h6, h7, h8⟩ := hr
 have hput : ∀ {X' : AX} {v : Value} {d' : DV}, X'.σ = σ -> Sto X' -> WExt X X' -> VRep X'.lay d' v -> RelF G E n (ZO o.dst d' φ) σ (a.put o.dst v) X'.w := by
  intro X' v d' g1 g2 g3 g4
  refine ⟨X', rfl, g1, g2, h4.trans g3, h5.ext g3, ?_, ?_, fun j => ?_⟩
  ·cases ho : o.dst <;> exact h6
  ·cases ho : o.dst <;> simp [Act.put, h7]
  ·cases ho : o.dst with
   | none => exact (h8 j).ext g3
   | some s =>
    have hs := hy.1 s ho
    simp only [ZO, Act.put]
    by_cases hsj : s = j
    ·subst hsj
     rw [if_pos rfl]
     simpa [Array.getD_eq_getD_getElem?, Array.getElem?_setIfInBounds, h7, hs] using g4
    ·rw [if_neg hsj]
     have := (h8 j).ext g3
     simpa [Array.getD_eq_getD_getElem?, Array.getElem?_setIfInBounds_ne hsj] using this
 have hwd : ∀ b, Wd n ops o φ b -> Region.wanted o (yielded ops a.tmps) = b := by
  intro b hb
  unfold Wd at hb
  cases hg : o.guard with
  | none => rw [hg] at hb; simp [Region.wanted, hg, hb]
  | some gw =>
   obtain ⟨j, want⟩ := gw
   rw [hg] at hb
   obtain ⟨s, c, e1, e2, e3, e4⟩ := hb
   have hv := h8 s
   rw [e3] at hv
   have hv := VRep.sc_eq hv
   have hget : a.tmps[s]? = some c := by
    have hlt : s < a.tmps.size := by rw [h7]; exact e2
    simp only [Array.getD_eq_getD_getElem?] at hv
    rw [Array.getElem?_eq_getElem hlt] at hv ⊢
    simpa using hv
   have : yielded ops a.tmps j = yv c := by rw [yielded, e1, Option.bind_some, hget]; cases c <;> rfl
   simp only [Region.wanted, hg, this, e4]
 rcases hy.2 with ⟨hw, hs⟩ | ⟨hw, rfl⟩
 ·rw [hwd true hw]
  simp only [if_true]
  refine .inl ?_
  have hx : ∀ x ∈ o.op.operands, VRep X.lay (aevF G φ x) (a.eval x) := fun x _ => by
   cases x with
   | tmp i => exact h8 i
   | const v => exact .sc v
   | global g => exact (h5 g).2
   | func f => exact .fn _ [] [] #[] #[] rfl rfl (fun j d h => by simp at h) (fun j d h => by simp at h)
  have hs := hs X a.eval h3 h2 h4.top h5 hx
  rw [h1] at hs
  unfold Oper.wp
  generalize (execOp a.eval o).run P w = x at *
  cases x with
  | ok nx w' =>
   cases nx <;> simp only [OPost] at hs <;> simp only [Oper.upon]
   case value v =>
    obtain ⟨X', e1, e2, e3, d', hv, rfl, hσ'⟩ := hs
    subst e1
    exact hk _ _ (hput hσ' e2 e3 hv)
   case skip =>
    obtain ⟨X', e1, e2, e3, d', hv, rfl, hσ'⟩ := hs
    subst e1
    exact hk _ _ (hput hσ' e2 e3 hv)
   case enter f args =>
    refine hs.2.mono fun e w'' ⟨v, he, X', e1, e2, e3, d', hv, hd, hσ'⟩ => ?_
    subst he
    subst hd
    subst e1
    exact hk _ _ (hput hσ' e2 e3 hv)
  | halt hh w' => simp only [OPost] at hs
 ·rw [hwd false hw]
  simp only [Bool.false_eq_true, if_false]
  have := hput (X' := X) (v := undef) h2 h3 (.refl X) (VRep.sc undef)
  rw [h1] at this
  exact hk _ _ this
theorem anyP_run {m : Nat} {Q : Exit -> Act -> World -> Prop} {f : Nat} {Fin : Array Bool -> (Nat -> DV) -> Prop} (hF : ∀ listed φ, Fin listed φ -> ∀ a w, RelF G E n φ σ a w -> wpAny P md ops Q f listed a w) : ∀ (r : Nat) (listed : Array Bool) (φ : Nat -> DV), anyP P G E.N n md ops σ m Fin r listed φ -> ∀ a w, RelF G E n φ σ a w -> wpAny P md ops Q (r + f) listed a w
 | 0, listed, φ, h, a, w, hr => by rw [Nat.zero_add]; exact hF _ _ h.2 a w hr
 | r + 1, listed, φ, h, a, w, hr => by
  rw [Nat.add_right_comm]
  refine ⟨fun h0 => absurd h0 h.1, fun i hi => ?_⟩
  obtain ⟨_, o, d, ho, hy, hn⟩ := h.2 i hi
  exact hy.run ho (fun a' w' hr' => anyP_run hF r _ _ hn a' w' hr') hr
def forcedB (md : Region.Mode) (ops : Array Oper) : Nat -> Nat -> Array Bool -> Bool
 | 0, _, listed => (Region.ready md ops listed).isEmpty
 | r + 1, k, listed => (Region.ready md ops listed) == [k] && forcedB md ops r (k + 1) (listed.setIfInBounds k true)
theorem forced_run {Q : Exit -> Act -> World -> Prop} : ∀ (l : List Oper) (k : Nat) (listed : Array Bool), (∀ j, l[j]? = ops[k + j]?) -> forcedB md ops l.length k listed = true -> ∀ a w, wpList P ops Q l a w -> wpAny P md ops Q l.length listed a w
 | [], k, listed, _, hB, a, w, h => ⟨by simpa [forcedB] using hB, h⟩
 | o :: l, k, listed, hl, hB, a, w, h => by
  have h0 : ops[k]? = some o := by simpa using (hl 0).symm
  simp only [List.length_cons, forcedB, Bool.and_eq_true, beq_iff_eq] at hB
  refine ⟨fun he => (by rw [hB.1] at he; cases he), fun i hi => ?_⟩
  rw [hB.1] at hi
  simp at hi
  subst hi
  have ih := forced_run (Q := Q) l (i + 1) _ (fun j => by have := hl (j + 1); simpa [Nat.add_assoc, Nat.add_comm 1 j] using this) hB.2
  unfold wpOp
  simp only [h0]
  unfold wpList at h
  split
  ·rename_i hw
   rw [if_pos hw] at h
   exact h.imp (Oper.wp_mono fun a w => ih a w) id
  ·rename_i hw
   rw [if_neg hw] at h
   exact ih _ _ h
def drawB (ops : Array Oper) (m : Nat) : Bool :=
 Region.noSelect ops && sufB .any ops m && lexP .any ops m 0 (Array.replicate ops.size false) && forcedB .any ops (ops.size - m) m (listedTo ops m 0 (Array.replicate ops.size false))
theorem r_draw {id : Nat} {pre post : List Oper} {t : Fr} {N : ASt -> Prop} {xs : List (Nat × (ASt -> Prop))} {R : ASt -> Prop} (hm : P.follows .mixedOrders = true) (hB : drawB (pre ++ post).toArray pre.length = true)
  (h : W0 P G E.N n (pre ++ post).toArray σ (fun φ => ∃ t', (∀ i, Wp t' i = .any \/ Wp t' i = φ i) /\ WY P G E n (pre ++ post).toArray post N ⟨t', σ⟩) pre (Wp t)) : WE P G E n (.region id (pre ++ post).toArray true) N xs R ⟨t, σ⟩ := fun a w hr => by
 simp only [drawB, Bool.and_eq_true] at hB
 obtain ⟨⟨⟨_, h2⟩, h3⟩, h4⟩ := hB
 have hr' : RelF G E n (Wp t) σ a { w with drawn := w.drawn + 1 } := by
  obtain ⟨X, e1, e2, e3, e4, e5, e6, e7, e8⟩ := hr
  have hk := Keep.drew X.w
  subst e1
  exact ⟨X.inW X.w.drew, rfl, e2, e3.inW hk, e4.trans (WExt.inW hk), e5.ext (WExt.inW hk), e6, e7, fun i => (e8 i).ext (WExt.inW hk)⟩
 have hpost : ((pre ++ post).toArray.size - pre.length) = post.length := by simp
 rw [hpost] at h4
 have hany := anyP_lex (Fin := fun listed φ => listed = listedTo (pre ++ post).toArray pre.length 0 (Array.replicate (pre ++ post).toArray.size false) /\ ∃ t', (∀ i, Wp t' i = .any \/ Wp t' i = φ i) /\ WY P G E n (pre ++ post).toArray post N ⟨t', σ⟩)
  (md := .any) h2 pre 0 (Array.replicate (pre ++ post).toArray.size false) (Wp t) (fun j hj => by simp [List.getElem?_append_left hj]) (by simp) (fun j o _ hl => by simp [Array.getElem?_replicate] at hl; split at hl <;> simp at hl) h3 (by simpa using h)
 refine wp_region_any hm ?_
 have := anyP_run (E := E) (Q := QOf G E n N xs R) (f := post.length) (fun listed φ ⟨hl, t', ht', ho⟩ a w hrf => by
  subst hl
  refine forced_run post pre.length _ (fun j => by simp [List.getElem?_append_right]) h4 a w ?_
  obtain ⟨X, e1, e2, e3, e4, e5, e6, e7, e8⟩ := hrf
  refine wp_mono_list (ho a w ⟨X, e1, e2, e3, e4, e5, e6, e7, fun i => ?_⟩) fun e a' w' ⟨he, st', hr', hq⟩ => by subst he; exact ⟨st', hr', hq⟩
  rcases ht' i with h' | h'
  ·rw [h']; exact .any _
  ·rw [h']; exact e8 i) _ _ _ hany a _ hr'
 simpa using this
theorem r_drawn {id : Nat} {l : List Oper} {t : Fr} {N : ASt -> Prop} {xs : List (Nat × (ASt -> Prop))} {R : ASt -> Prop} (hm : P.follows .mixedOrders = true) (hB : drawB l.toArray l.length = true)
  (h : W0 P G E.N n l.toArray σ (fun φ => ∃ t', (∀ i, Wp t' i = .any \/ Wp t' i = φ i) /\ WY P G E n l.toArray [] N ⟨t', σ⟩) l (Wp t)) : WE P G E n (.region id l.toArray true) N xs R ⟨t, σ⟩ := by
 have := r_draw (P := P) (G := G) (E := E) (n := n) (σ := σ) (id := id) (pre := l) (post := []) (t := t) (N := N) (xs := xs) (R := R) hm
 simp only [List.append_nil] at this
 exact this hB h
theorem r_drawm (m : Nat) {id : Nat} {l : List Oper} {t : Fr} {N : ASt -> Prop} {xs : List (Nat × (ASt -> Prop))} {R : ASt -> Prop} (hm : P.follows .mixedOrders = true) (hl : (l.take m).length = m) (hB : drawB l.toArray m = true)
  (h : W0 P G E.N n l.toArray σ (fun φ => ∃ t', (∀ i, Wp t' i = .any \/ Wp t' i = φ i) /\ WY P G E n l.toArray (l.drop m) N ⟨t', σ⟩) (l.take m) (Wp t)) : WE P G E n (.region id l.toArray true) N xs R ⟨t, σ⟩ := by
 have := r_draw (P := P) (G := G) (E := E) (n := n) (σ := σ) (id := id) (pre := l.take m) (post := l.drop m) (t := t) (N := N) (xs := xs) (R := R) hm
 rw [hl] at this
 simp only [List.take_append_drop] at this
 exact this hB h
/-! The rules of the walk in the text's order. -/
variable {Q : (Nat -> DV) -> Prop} {l : List Oper} {t : Fr}
theorem Z5 {i : Tmp} {d : DV} : Wp ((i, d) :: t) = ZO (some i) d (Wp t) := look_putF (some i) d t
theorem look_same {s : Nat} {d : DV} (h : Wp t s = d) : Wp ((s, d) :: t) = Wp t := by
 funext i
 simp only [Wp]
 cases hb : Nat.beq s i with
 | true => have := Nat.eq_of_beq_eq_true hb; subst this; exact h.symm
 | false => rfl
theorem x_op {i : Tmp} {op : Op} {type : TypeId} {pos : String} {after : Array Edge} {d : DV} (hd : Nat.blt i n = true) (h : OpSem P G E.N ⟨some i, op, type, pos, after, none⟩ (aev G t) σ (fun d' σ' => d' = d /\ σ' = σ)) (k : W0 P G E.N n ops σ Q l (Wp ((i, d) :: t))) :
  W0 P G E.N n ops σ Q (⟨some i, op, type, pos, after, none⟩ :: l) (Wp t) := ⟨d, ⟨fun j hj => by cases hj; exact Nat.ble_eq.mp hd, .inl ⟨rfl, by rw [Zl]; exact h⟩⟩, by rw [Z5] at k; exact k⟩
theorem x_gy {i : Tmp} {op : Op} {type : TypeId} {pos : String} {after : Array Edge} {j s : Nat} {want : Bool} {d : DV} (hj : (ops[j]?).bind (·.dst) = some s) (hl : Wp t s = .sc (.bool want)) (hs : Nat.blt s n = true) (hd : Nat.blt i n = true)
  (h : OpSem P G E.N ⟨some i, op, type, pos, after, some (j, want)⟩ (aev G t) σ (fun d' σ' => d' = d /\ σ' = σ)) (k : W0 P G E.N n ops σ Q l (Wp ((i, d) :: t))) : W0 P G E.N n ops σ Q (⟨some i, op, type, pos, after, some (j, want)⟩ :: l) (Wp t) :=
 ⟨d, ⟨fun j hj => by cases hj; exact Nat.ble_eq.mp hd, .inl ⟨⟨s, .bool want, hj, Nat.ble_eq.mp hs, hl, by cases want <;> rfl⟩, by rw [Zl]; exact h⟩⟩, by rw [Z5] at k; exact k⟩
theorem x_gn {i : Tmp} {op : Op} {type : TypeId} {pos : String} {after : Array Edge} {j s : Nat} {want : Bool} (hj : (ops[j]?).bind (·.dst) = some s) (hl : Wp t s = .sc (.bool !want)) (hs : Nat.blt s n = true) (hd : Nat.blt i n = true)
  (k : W0 P G E.N n ops σ Q l (Wp ((i, .sc undef) :: t))) : W0 P G E.N n ops σ Q (⟨some i, op, type, pos, after, some (j, want)⟩ :: l) (Wp t) :=
 ⟨.sc undef, ⟨fun j hj => by cases hj; exact Nat.ble_eq.mp hd, .inr ⟨⟨s, .bool !want, hj, Nat.ble_eq.mp hs, hl, by cases want <;> rfl⟩, rfl⟩⟩, by rw [Z5] at k; exact k⟩
theorem x_sp {dst : Option Tmp} {op : Op} {type : TypeId} {pos : String} {after : Array Edge} {j s : Nat} {want b : Bool} (hj : (ops[j]?).bind (·.dst) = some s) (hl : Wp t s = .sc (.bool b)) (yes : b = true -> W0 P G E.N n ops σ Q (⟨dst, op, type, pos, after, some (j, want)⟩ :: l) (Wp ((s, .sc (.bool true)) :: t)))
  (no : b = false -> W0 P G E.N n ops σ Q (⟨dst, op, type, pos, after, some (j, want)⟩ :: l) (Wp ((s, .sc (.bool false)) :: t))) : W0 P G E.N n ops σ Q (⟨dst, op, type, pos, after, some (j, want)⟩ :: l) (Wp t) := by
 cases b with
 | true => have := yes rfl; rwa [look_same hl] at this
 | false => have := no rfl; rwa [look_same hl] at this
theorem x_sp_d {dst : Option Tmp} {op : Op} {type : TypeId} {pos : String} {after : Array Edge} {j s : Nat} {want : Bool} {p : Prop} [Decidable p] (hj : (ops[j]?).bind (·.dst) = some s) (hl : Wp t s = .sc (.bool (decide p))) (yes : p -> W0 P G E.N n ops σ Q (⟨dst, op, type, pos, after, some (j, want)⟩ :: l) (Wp ((s, .sc (.bool true)) :: t)))
  (no : ¬ p -> W0 P G E.N n ops σ Q (⟨dst, op, type, pos, after, some (j, want)⟩ :: l) (Wp ((s, .sc (.bool false)) :: t))) : W0 P G E.N n ops σ Q (⟨dst, op, type, pos, after, some (j, want)⟩ :: l) (Wp t) :=
 x_sp hj hl (fun h => yes (of_decide_eq_true h)) (fun h => no (of_decide_eq_false h))
theorem x_sp_t {dst : Option Tmp} {op : Op} {type : TypeId} {pos : String} {after : Array Edge} {j s : Nat} {want : Bool} {p : Prop} [Decidable p] (hj : (ops[j]?).bind (·.dst) = some s) (hl : Wp t s = .sc (.bool (decide p))) (hp : p) (yes : W0 P G E.N n ops σ Q (⟨dst, op, type, pos, after, some (j, want)⟩ :: l) (Wp ((s, .sc (.bool true)) :: t))) : W0 P G E.N n ops σ Q (⟨dst, op, type, pos, after, some (j, want)⟩ :: l) (Wp t) :=
 x_sp_d hj hl (fun _ => yes) (fun h => absurd hp h)
theorem x_sp_f {dst : Option Tmp} {op : Op} {type : TypeId} {pos : String} {after : Array Edge} {j s : Nat} {want : Bool} {p : Prop} [Decidable p] (hj : (ops[j]?).bind (·.dst) = some s) (hl : Wp t s = .sc (.bool (decide p))) (hp : ¬ p) (no : W0 P G E.N n ops σ Q (⟨dst, op, type, pos, after, some (j, want)⟩ :: l) (Wp ((s, .sc (.bool false)) :: t))) : W0 P G E.N n ops σ Q (⟨dst, op, type, pos, after, some (j, want)⟩ :: l) (Wp t) :=
 x_sp_d hj hl (fun h => absurd h hp) (fun _ => no)
theorem x_nil {post : List Oper} {N : ASt -> Prop} (h : WY P G E n ops post N ⟨t, σ⟩) : W0 P G E.N n ops σ (fun φ => ∃ t', (∀ i, Wp t' i = .any \/ Wp t' i = φ i) /\ WY P G E n ops post N ⟨t', σ⟩) [] (Wp t) := ⟨t, fun _ => .inr rfl, h⟩
end
section
variable {P : Program} {G : Nat -> DV} {B : Nat} {f : Operand -> DV} {σ : List ABlk} {K : DV -> List ABlk -> Prop} {dst : Option Tmp} {type : TypeId} {pos : String} {after : Array Edge} {gd : Option (Nat × Bool)}
variable {α : Type} [Enc α]
/-! Slicing. -/
def cut (a : Option Addr) (l cap s : Nat) : Option Addr := if cap = l then a else a.map (·.add (l * s))
inductive Bnd : Option Value -> Option Value -> (len l h : Nat) -> Prop
 | lh {len l h : Nat} {k1 k2 : IntKind} {x y : Int} : x = l -> y = h -> l <= h -> Bnd (some (.int k1 x)) (some (.int k2 y)) len l h
 | h {len h : Nat} {k2 : IntKind} {y : Int} : y = h -> Bnd none (some (.int k2 y)) len 0 h
 | l {len l : Nat} {k1 : IntKind} {x : Int} : x = l -> l <= len -> Bnd (some (.int k1 x)) none len l len
 | all {len : Nat} : Bnd none none len 0 len
theorem run_slice_sl {t e size : Nat} {g1 g2 : Bool} {z1 : Nat} {td : TypeDesc} (ht : TyI P t (.slice e) g1 z1) (he : TyI P e td g2 size) {a : Option Addr} {len cap l h : Nat} {lo hi : Option Value} (hb : Bnd lo hi len l h) (hlen : len <= cap) (hc : h <= cap) (w : World) :
  (Instr.sliceAt t (.slice a len cap) lo hi none).run P w = .ok (.slice (cut a l cap size) (h - l) (cap - l)) w := by
 have h0 : (Instr.sliceAt t (.slice a len cap) lo hi none).run P w = (Instr.slice t (.slice a len cap) lo hi none).run P w := by simp [Instr.sliceAt, run_underlying ht.u]
 rw [h0]
 cases hb with
 | lh h1 h2 h3 =>
  subst h1; subst h2
  simp [Instr.slice, run_underlying ht.u, Instr.sliceBounds, Instr.sliceBound, asIntOf, Ww he, cut, hc, h3, Int.ofNat_le]
 | h h1 =>
  subst h1
  simp [Instr.slice, run_underlying ht.u, Instr.sliceBounds, Instr.sliceBound, asIntOf, Ww he, cut, hc, Int.ofNat_le]
 | l h1 h2 =>
  subst h1
  simp [Instr.slice, run_underlying ht.u, Instr.sliceBounds, Instr.sliceBound, asIntOf, Ww he, cut, h2, Int.ofNat_le]
 | all => simp [Instr.slice, run_underlying ht.u, Instr.sliceBounds, Instr.sliceBound, asIntOf, Ww he, cut]
def optV (f : Operand -> DV) : Option Operand -> Option Value -> Prop
 | none, none => True
 | some x, some v => f x = .sc v
 | _, _ => False
theorem optV_eq {X : AX} {ρ : Operand -> Value} {x : Option Operand} {v : Option Value} (hf : ∀ y ∈ x.toList, VRep X.lay (f y) (ρ y)) (h : optV f x v) : x.map ρ = v := by
 cases x with
 | none =>
  cases v with
  | none => rfl
  | some v => exact h.elim
 | some x =>
  cases v with
  | none => exact h.elim
  | some v =>
   have h : f x = .sc v := h
   have h1 := hf x (by simp)
   rw [h] at h1
   rw [Option.map_some, VRep.sc_eq h1]
theorem s_slice_r {t e es : Nat} {g1 g2 : Bool} {z1 : Nat} {td : TypeDesc} {x : Operand} {lo hi : Option Operand} {vlo vhi : Option Value} {m g off len l h : Nat} {cs : List DV} [ht : TyI P t (.slice e) g1 z1] [he : TyI P e td g2 es] (hx : f x = .ref m g off len es) (hm : σ[m]? = some (.row g cs))
  (hlo : optV f lo vlo) (hhi : optV f hi vhi) (hb : Bnd vlo vhi len l h) (hlh : l <= h) (hh : h <= len) (k : K (.ref m g (off + l * es) (h - l) es) σ) : OpSem P G B ⟨dst, .slice t x lo hi none, type, pos, after, gd⟩ f σ K := fun X ρ hS hσ _ _ hf => by
 subst hσ
 have e1 := hf x (by simp [Op.operands]); rw [hx] at e1
 have e2 := optV_eq (fun y hy => hf y (by simp [Op.operands]; simp at hy; simp [hy])) hlo
 have e3 := optV_eq (fun y hy => hf y (by simp [Op.operands]; simp at hy; simp [hy])) hhi
 have hr := e1.ref_inv hm
 obtain ⟨a, cap, e4, h2, h3⟩ := e1.ref_slice hm
 simp only [execOp, e4, e2, e3, Option.map_none, run_slice_sl ht he hb h2 (by omega), Sem.run_bind, Sem.run_pure, Result.andThen_ok]
 refine Q7 hS (.ref _ _ _ _ _ _ _ _ (hS.gen m g (Wr hm)) fun ob hob => ?_) k
 rw [AX.row_mk (Wr hm)] at hob
 rw [<- Option.some.inj hob]
 unfold RefOk at hr ⊢
 cases hρ : X.ρ m with
 | none =>
  rw [hρ] at hr
  obtain ⟨hs, h5, h6⟩ := hr
  rw [e4] at hs
  cases hs
  have : l = 0 := by omega
  subst this
  have : h = 0 := by omega
  subst this
  exact ⟨by simp [cut], by omega, by omega⟩
 | some z =>
  obtain ⟨b, n⟩ := z
  rw [hρ] at hr
  obtain ⟨a', cap', hs, h5, h6⟩ := hr
  rw [e4] at hs
  cases hs
  refine ⟨_, cap - l, rfl, by omega, ?_⟩
  by_cases hcl : cap = l
  ·left; omega
  ·right
   rcases h6 with h6 | ⟨rfl, h6⟩
   ·omega
   ·refine ⟨by simp [cut, hcl, qh], ?_⟩
    have : (cap - l) * es = cap * es - l * es := Nat.sub_mul _ _ _
    have : l * es <= cap * es := Nat.mul_le_mul_right _ (by omega)
    omega
theorem s_slice_rh {t e es : Nat} {g1 g2 : Bool} {z1 : Nat} {td : TypeDesc} {x y : Operand} {kd : IntKind} {i : Nat} {m g off len : Nat} {cs : List DV} [ht : TyI P t (.slice e) g1 z1] [he : TyI P e td g2 es] (hx : f x = .ref m g off len es) (hm : σ[m]? = some (.row g cs)) (hy : f y = .sc (.int kd (i : Nat))) (hh : i <= len)
  (k : K (.ref m g off i es) σ) : OpSem P G B ⟨dst, .slice t x none (some y) none, type, pos, after, gd⟩ f σ K :=
 s_slice_r (vlo := none) (vhi := some (.int kd i)) (l := 0) (h := i) hx hm trivial hy (.h rfl) (Nat.zero_le _) hh (by simpa using k)
theorem s_slice_rl {t e es : Nat} {g1 g2 : Bool} {z1 : Nat} {td : TypeDesc} {x y : Operand} {kd : IntKind} {i : Nat} {m g off len : Nat} {cs : List DV} [ht : TyI P t (.slice e) g1 z1] [he : TyI P e td g2 es] (hx : f x = .ref m g off len es) (hm : σ[m]? = some (.row g cs)) (hy : f y = .sc (.int kd (i : Nat))) (hh : i <= len)
  (k : K (.ref m g (off + i * es) (len - i) es) σ) : OpSem P G B ⟨dst, .slice t x (some y) none none, type, pos, after, gd⟩ f σ K :=
 s_slice_r (vhi := none) (vlo := some (.int kd i)) (l := i) (h := len) hx hm hy trivial (.l rfl hh) hh (Nat.le_refl _) k
/-! Typed cells of a row. -/
theorem encs_at1 (h1 : Enc.es α = 1) {l : List α} {i : Nat} {d : DV} (hi : i < l.length) (hd : Enc.enc l[i] = [d]) : (Qq l)[i]? = some d := by
 have := encs_at l i hi 0 (by omega)
 rw [h1, Nat.mul_one, Nat.add_zero, hd] at this
 exact this
theorem WK {t e : TypeId} {d : TypeDesc} {g1 g2 : Bool} {z1 : Nat} {x y : Operand} {m g len : Nat} {cs : List DV} {kd : IntKind} {i : Nat} [ht : TyI P t (.slice e) g1 z1] [he : TyI P e d g2 1]
  (hx : f x = .ref m g 0 len 1) (hm : σ[m]? = some (.row g cs)) (hy : f y = .sc (.int kd (i : Nat))) (h1 : i < len) (k : K (.ptr m g i) σ) : OpSem P G B ⟨dst, .indexAddr t x y, type, pos, after, gd⟩ f σ K :=
 s_idx_ref hx hm hy (by omega) (by simpa using h1) (by simpa using k)
theorem Q9 {t : TypeId} {td : TypeDesc} {size : Nat} {x : Operand} {m g i : Nat} {l : List α} {d : DV} [ht : TyI P t td false size] (hx : f x = .ptr m g i) (hm : σ[m]? = some (.row g (Qq l))) (h1 : Enc.es α = 1) (hi : i < l.length) (hd : Enc.enc l[i] = [d]) (k : K d σ) :
  OpSem P G B ⟨dst, .load t x, type, pos, after, gd⟩ f σ K := Qc hx hm (encs_at1 h1 hi hd) k
theorem Q2 {t : TypeId} {td : TypeDesc} {agg : Bool} {x y : Operand} {m g i : Nat} {l : List α} {z : α} {d : DV} {σ' : List ABlk} [ht : TyI P t td agg 1] (hx : f x = .ptr m g i) (hm : σ[m]? = some (.row g (Qq l))) (h1 : Enc.es α = 1) (hy : f y = d) (hd : dcells d = some (Enc.enc z))
  (hi : i < l.length) (hσ' : setA σ m (.row g (Qq (l.set i z))) = some σ') (k : K (.sc undef) σ') : OpSem P G B ⟨dst, .store t x y, type, pos, after, gd⟩ f σ K :=
 s_store_e hx hm hy hd h1 (by rw [h1, Nat.mul_one]) hi hσ' k
/-! min, max -/
/-! A slice against nil. -/
theorem run_eq_nil {t e t' : TypeId} {g1 : Bool} {z1 : Nat} (ht : TyI P t (.slice e) g1 z1) {a : Option Addr} {n c : Nat} (w : World) : (binOp .eql t (.slice a n c) (.slice none 0 0)).run P w = .ok (.bool a.isNone) w := by
 have h1 : (Op.equal t (.slice a n c) (.slice none 0 0)).run P w = .ok a.isNone w := by
  show (Op.equalIn (9999 + 1) t _ _).run P w = _
  unfold Op.equalIn
  simp only [Sem.run_bind, run_underlying ht.u, Result.andThen_ok]
  cases a <;> rfl
 show (do pure (.bool (<- Op.equal t (.slice a n c) (.slice none 0 0))) : Sem Value).run P w = _
 simp only [Sem.run_bind, h1, Result.andThen_ok, Sem.run_pure]
theorem s_eq_nil_d {t e t' es : TypeId} {g1 : Bool} {z1 : Nat} {x y : Operand} {cs : List DV} [ht : TyI P t (.slice e) g1 z1] (hx : f x = .sl es cs) (hy : f y = .sc (.slice none 0 0)) (kt : cs = [] -> K (.sc (.bool true)) σ) (kf : K (.sc (.bool false)) σ) : OpSem P G B ⟨dst, .binOp .eql t x y t', type, pos, after, gd⟩ f σ K := fun X ρ hS hσ _ _ hf => by
 subst hσ
 have e1 := hf x (by simp [Op.operands]); rw [hx] at e1
 have e2 := hf y (by simp [Op.operands]); rw [hy] at e2
 obtain ⟨a, len, cap, fv, e3, _, _, _, h4, _⟩ := e1.sl_inv
 have hg : (eqGuard .eql t x y (.slice a len cap) (.slice none 0 0)).run P X.w = .ok () X.w := rfl
 simp only [execOp, e3, VRep.sc_eq e2, Sem.run_bind, hg, run_eq_nil (t' := t') ht, Result.andThen_ok, Sem.run_pure]
 cases a with
 | none =>
  refine Q7 hS (.sc _) (kt ?_)
  rcases h4 with h4 | ⟨_, _, h4, _⟩
  ·exact h4
  ·cases h4
 | some a => exact Q7 hS (.sc _) kf
end
/-! A row cut short: less of it is known. -/
section
variable {P : Program} {G : Nat -> DV} {E : AX} {n : Nat} {st : ASt} {R : DV -> List ABlk -> Prop}
theorem trunc {X : AX} (hS : Sto X) {k g m : Nat} {cs : List DV} (hk : X.σ[k]? = some (.row g cs)) (hm : cs.take m ≠ [] \/ True) : WExt X { X with σ := X.σ.set k (.row g (cs.take m)) } /\ Sto { X with σ := X.σ.set k (.row g (cs.take m)) } := by
 have hkl : k < X.σ.length := (List.getElem?_eq_some_iff.1 hk).1
 have hl : ∀ (i g' : Nat), (((X.σ.set k (.row g (cs.take m)))[i]?).bind ABlk.gen? = some g') ↔ X.live i g' := fun i g' => by
  rw [List.getElem?_set]
  by_cases h : k = i
  ·subst h
   rw [if_pos rfl, if_pos hkl]
   simp only [AX.live, hk]
   rfl
  ·simp [h, AX.live]
 have hE : WExt X { X with σ := X.σ.set k (.row g (cs.take m)) } := WExt.shrink fun i g' h => (hl i g').1 h
 refine ⟨hE, {
  inj := fun i i' g1 g2 b n1 n2 h1 h2 => hS.inj i i' g1 g2 b n1 n2 ((hl i g1).1 h1) ((hl i' g2).1 h2)
  gen := fun i g' h => hS.gen i g' ((hl i g').1 h)
  hid := fun b ⟨i, g', nn, h1, h2⟩ => hS.hid b ⟨i, g', nn, (hl i g').1 h1, h2⟩
  hidlt := hS.hidlt
  holds := fun i B hB => ?_ }⟩
 have hB' : (X.σ.set k (.row g (cs.take m)))[i]? = some B := hB
 clear hB
 rw [List.getElem?_set] at hB'
 split at hB'
 ·rename_i hik
  subst hik
  cases hB'
  have hh := (hS.holds k _ hk).mono hE.le (w' := X.w) fun _ _ _ => rfl
  show ABlk.holds _ X.w (X.ρ k) _
  cases hρ : X.ρ k with
  | none => rw [hρ] at hh; have : cs = [] := hh; subst this; simp [ABlk.holds]
  | some z =>
   obtain ⟨b, nn⟩ := z
   rw [hρ] at hh
   obtain ⟨arr, T, fr, q1, q2, q3, q4, q5⟩ := hh
   exact ⟨arr, T, fr, q1, q2, by rw [List.length_take]; omega, q4, fun j d hj => q5 j d (by rw [List.getElem?_take] at hj; split at hj; exact hj; cases hj)⟩
 ·exact (hS.holds i B hB').mono hE.le fun _ _ _ => rfl
end
/-! Calls that write one row of the caller's. -/
inductive Ren (k g : Nat) : DV -> DV -> Prop
 | clo {d : DV} : d.clo = true -> Ren k g d d
 | ref {o l e : Nat} : Ren k g (.ref k g o l e) (.ref 0 g o l e)
 | ptr {o : Nat} : Ren k g (.ptr k g o) (.ptr 0 g o)
inductive Rens (k g : Nat) : List DV -> List DV -> Prop
 | nil : Rens k g [] []
 | cons {d e : DV} {r s : List DV} : Ren k g d e -> Rens k g r s -> Rens k g (d :: r) (e :: s)
theorem Ren.to {k g : Nat} {L L' : Lay} (himm : ∀ b o v, L.imm b o = some v -> L'.imm b o = some v) (htop : L.top <= L'.top) (hrow : ∀ ob, L'.row 0 g = some ob -> L.row k g = some ob) {d e : DV} {v : Value} (h : Ren k g d e) (hv : VRep L d v) : VRep L' e v := by
 cases h with
 | clo hc => exact hv.mono_clo himm hc
 | ref => cases hv with | ref _ _ _ _ _ a l c h1 h2 => exact .ref _ _ _ _ _ _ _ _ (Nat.le_trans h1 htop) fun ob hob => h2 ob (hrow ob hob)
 | ptr => cases hv with | ptr _ _ _ a h1 h2 => exact .ptr _ _ _ _ (Nat.le_trans h1 htop) fun ob hob => h2 ob (hrow ob hob)
theorem Ren.from {k g : Nat} {L L' : Lay} (himm : ∀ b o v, L.imm b o = some v -> L'.imm b o = some v) (htop : L.top <= L'.top) (hrow : ∀ ob, L'.row k g = some ob -> L.row 0 g = some ob) {d e : DV} {v : Value} (h : Ren k g d e) (hv : VRep L e v) : VRep L' d v := by
 cases h with
 | clo hc => exact hv.mono_clo himm hc
 | ref => cases hv with | ref _ _ _ _ _ a l c h1 h2 => exact .ref _ _ _ _ _ _ _ _ (Nat.le_trans h1 htop) fun ob hob => h2 ob (hrow ob hob)
 | ptr => cases hv with | ptr _ _ _ a h1 h2 => exact .ptr _ _ _ _ (Nat.le_trans h1 htop) fun ob hob => h2 ob (hrow ob hob)
section
variable {P : Program} {G : Nat -> DV}
def Mut1 (P : Program) (G : Nat -> DV) (f : FuncId) (g : Nat) (args : List DV) (cs : List DV) (res : Nat -> DV) (cs' : List DV) (keep : Bool := false) : Prop :=
 ∀ B, g <= B -> ACalls P G B f args [.row g cs] (fun d σ' => ∃ g', (g' = g \/ (keep = false /\ B < g')) /\ d = res g' /\ σ' = [.row g' cs'])
theorem Mut1.lift {f : FuncId} {g k : Nat} {args args' : List DV} {cs cs' : List DV} {res res' : Nat -> DV} {keep : Bool} (h : Mut1 P G f g args' cs res' cs' keep) (hr : Rens k g args args') (hres : ∀ g', Ren k g' (res g') (res' g')) (hc : ∀ d ∈ cs, d.clo = true) (hc' : ∀ d ∈ cs', d.clo = true)
  {B : Nat} {σ : List ABlk} (hk : σ[k]? = some (.row g cs)) : ACalls P G B f args σ (fun d σ' => ∃ g', (g' = g \/ (keep = false /\ B < g')) /\ d = res g' /\ σ' = σ.set k (.row g' cs')) := fun X vs hS hσ hB hG hvs => by
 subst hσ
 have hlk : X.live k g := Wr hk
 let Y : AX := { w := X.w, ρ := fun _ => X.ρ k, σ := [.row g cs], N := X.N, hid := fun b => X.hid b \/ (X.mut b /\ ∀ n, X.ρ k ≠ some (b, n)) }
 have hYl : ∀ i g', Y.live i g' ↔ i = 0 /\ g' = g := fun i g' => by
  cases i with
  | zero => simp [Y, AX.live, ABlk.gen?]; exact eq_comm
  | succ i => simp [Y, AX.live]
 have hYm : ∀ b, Y.mut b ↔ ∃ n, X.ρ k = some (b, n) := fun b => by
  constructor
  ·rintro ⟨i, g', n, hl, hr⟩; exact ⟨n, hr⟩
  ·rintro ⟨n, hn⟩; exact ⟨0, g, n, (hYl 0 g).2 ⟨rfl, rfl⟩, hn⟩
 have himm : ∀ b o v, X.lay.imm b o = some v -> Y.lay.imm b o = some v := fun b o v hv => by
  obtain ⟨_, h2, h3, h4⟩ := AX.imm_lt hv
  exact AX.imm_mk (fun hm => by obtain ⟨n, hn⟩ := (hYm b).1 hm; exact h2 ⟨k, g, n, hlk, hn⟩) (fun hh => hh.elim h3 (fun hh => h2 hh.1)) h4
 have hYS : Sto Y := {
  inj := fun i i' g1 g2 b n1 n2 h1 h2 _ _ => by rw [((hYl i g1).1 h1).1, ((hYl i' g2).1 h2).1]
  gen := fun i g' h1 => by rw [((hYl i g').1 h1).2]; exact hS.gen k g hlk
  hid := fun b hm hh => by
   obtain ⟨n, hn⟩ := (hYm b).1 hm
   rcases hh with hh | ⟨_, hh⟩
   ·exact hS.hid b ⟨k, g, n, hlk, hn⟩ hh
   ·exact hh n hn
  hidlt := fun b hh => by
   rcases hh with hh | ⟨hh, _⟩
   ·exact hS.hidlt b hh
   ·exact hS.mut_lt hh
  holds := fun i B hB => by
   cases i with
   | succ i => simp [Y] at hB
   | zero =>
    simp [Y] at hB
    subst hB
    have hh := hS.holds k _ hk
    show ABlk.holds _ X.w (X.ρ k) _
    cases hρ : X.ρ k with
    | none => rw [hρ] at hh; exact hh
    | some z =>
     obtain ⟨b, nn⟩ := z
     rw [hρ] at hh
     obtain ⟨arr, T, fr, q1, q2, q3, q4, q5⟩ := hh
     exact ⟨arr, T, fr, q1, q2, q3, q4, fun j d hj => ⟨(q5 j d hj).1, (q5 j d hj).2.mono_clo himm (hc d (List.mem_of_getElem? hj))⟩⟩ }
 have hG' : GOk G Y := fun gg => ⟨(hG gg).1, (hG gg).2.mono_clo himm (hG gg).1⟩
 have hrow : ∀ ob, Y.lay.row 0 g = some ob -> X.lay.row k g = some ob := fun ob hob => by
  rw [AX.row_mk ((hYl 0 g).2 ⟨rfl, rfl⟩)] at hob
  rw [AX.row_mk hlk]; exact hob
 have hargs : VReps Y.lay args' vs := by
  obtain ⟨h1, h2⟩ := hvs
  have : ∀ (a b : List DV), Rens k g a b -> a.length = b.length /\ ∀ (j : Nat) (d e : DV) (v : Value), a[j]? = some d -> b[j]? = some e -> VRep X.lay d v -> VRep Y.lay e v := by
   intro a b hab
   induction hab with
   | nil => exact ⟨rfl, fun j d e v hd => by simp at hd⟩
   | cons h1 _ ih =>
    refine ⟨by simp [ih.1], fun j d e v hd he hv => ?_⟩
    cases j with
    | zero => simp at hd he; subst hd; subst he; exact h1.to himm (Nat.le_refl _) hrow hv
    | succ j => exact ih.2 j d e v (by simpa using hd) (by simpa using he) hv
  obtain ⟨g1, g2⟩ := this _ _ hr
  refine ⟨by rw [h1, g1], fun j e hj => ?_⟩
  have hlt : j < args.length := by rw [g1]; exact (List.getElem?_eq_some_iff.1 hj).1
  exact g2 j _ e _ (List.getElem?_eq_getElem hlt) hj (h2 j _ (List.getElem?_eq_getElem hlt))
 refine (h X.N (hS.gen k g hlk) Y vs hYS rfl (Nat.le_refl _) hG' hargs).mono ?_
 rintro e w' ⟨v, he, Z, hw, hZS, hE, d', hrep, g', hg', rfl, hσ'⟩
 subst hw
 have hZ0 : Z.σ[0]? = some (.row g' cs') := by rw [hσ']; rfl
 have hlZ : Z.live 0 g' := Wr hZ0
 have hok : ReplOk X k g Z.w (Z.ρ 0) (.row g' cs') Z.N := {
  live := hlk, os := hE.os, tape := hE.tape, output := hE.output, size := hE.size
  block := fun b hb hn => (hE.old b hb fun hm => by obtain ⟨n, h1⟩ := (hYm b).1 hm; exact hn n h1).1
  gen := by
   rcases hg' with rfl | ⟨_, hg'⟩
   ·exact .inr ⟨rfl, hE.top, (hE.rows 0 g' (hS.gen k g' hlk) hlZ).2⟩
   ·exact .inl ⟨g', rfl, by omega, hZS.gen 0 g' hlZ⟩
  lies := fun b n hb => by
   rcases Nat.lt_or_ge b X.w.heap.size with hlt | hge
   ·right
    by_cases hm : Y.mut b
    ·exact (hYm b).1 hm
    ·exact absurd ⟨0, g', n, hlZ, hb⟩ (hE.old b hlt hm).2
   ·exact .inl hge }
 have himm' : ∀ b o v, Z.lay.imm b o = some v -> (X.repl k Z.w (Z.ρ 0) (.row g' cs') Z.N).lay.imm b o = some v := fun b o v hv => by
  obtain ⟨_, h2, h3, h4⟩ := AX.imm_lt hv
  rw [hE.hid] at h3
  refine AX.imm_mk (fun hm => ?_) (fun hh => h3 (.inl hh)) h4
  obtain ⟨i, g1, n, hl, hr⟩ := hm
  rcases (AX.repl_live (AX.live_lt hlk)).1 hl with ⟨h5, h6⟩ | ⟨h5, h6⟩
  ·simp only [AX.repl, if_neg h5] at hr
   refine h3 (.inr ⟨⟨i, g1, n, h6, hr⟩, fun n' hn' => h5 (hS.inj i k g1 g b n n' h6 hlk hr hn')⟩)
  ·simp only [AX.repl, if_pos h5] at hr
   exact h2 ⟨0, g', n, hlZ, hr⟩
 have hh : (ABlk.row g' cs').holds (X.repl k Z.w (Z.ρ 0) (.row g' cs') Z.N).lay Z.w (Z.ρ 0) := by
  have := hZS.holds 0 _ hZ0
  cases hρ : Z.ρ 0 with
  | none => rw [hρ] at this; exact this
  | some z =>
   obtain ⟨b, nn⟩ := z
   rw [hρ] at this
   obtain ⟨arr, T, fr, q1, q2, q3, q4, q5⟩ := this
   rw [hρ] at himm'
   exact ⟨arr, T, fr, q1, q2, q3, q4, fun j d hj => ⟨(q5 j d hj).1, (q5 j d hj).2.mono_clo himm' (hc' d (List.mem_of_getElem? hj))⟩⟩
 refine ⟨v, he, X.repl k Z.w (Z.ρ 0) (.row g' cs') Z.N, rfl, hS.repl' hok hh, WExt.repl hS hok, res g', ?_, g', ?_, rfl, rfl⟩
 ·refine (hres g').from himm' (Nat.le_refl _) (fun ob hob => ?_) hrep
  rw [AX.row_mk ((AX.repl_live (AX.live_lt hlk)).2 (.inr ⟨rfl, rfl⟩))] at hob
  simp only [AX.repl, if_true] at hob
  rw [AX.row_mk hlZ]; exact hob
 ·rcases hg' with hg' | ⟨hk', hg'⟩
  ·exact .inl hg'
  ·exact .inr ⟨hk', by omega⟩
end
end Go.Av
end
section
namespace Go.Av
section
variable {P : Program} {G : Nat -> DV} {B : Nat} {f : Operand -> DV} {σ : List ABlk} {K : DV -> List ABlk -> Prop} {dst : Option Tmp} {type : TypeId} {pos : String} {after : Array Edge} {gd : Option (Nat × Bool)}
variable {α : Type} [Enc α]
theorem s_app1 {z : α} {t t' e : TypeId} {d : TypeDesc} {g1 g2 : Bool} {z1 bytes m g len es : Nat} {zs : List Value} {x y : Operand} {cs : List DV} {l : List α} [ht : TyI P t (.slice e) g1 z1] [ht' : SrcTy P t'] [he : TyI P e d g2 es] [hb : TyB P e bytes] [hz : TyZ P e zs]
  {σ' : Nat -> List ABlk} (hzl : zs.length = es) (hx : f x = .ref m g 0 len es) (hm : σ[m]? = some (.row g cs)) (hcs : cs = Qq l) (hes : es = Enc.es α) (hlen : len = l.length) (hy : f y = .sl es (Enc.enc z)) (hby : (l.length + 1) * bytes <= 140737488355328) (hsm : l.length + 1 <= 9223372036854775807)
  (hσ' : ∀ g', setA σ m (.row g' (Qq (l ++ [z]))) = some (σ' g')) (k : ∀ g', B < g' -> K (.ref m g' 0 (l ++ [z]).length es) (σ' g')) : OpSem P G B ⟨dst, .call ⟨.builtin .append, #[x, y], #[t, t']⟩, type, pos, after, gd⟩ f σ K := by
 subst hes hcs
 exact s_app (xs := [z]) hzl hx hm hlen hy srcOf_one hby hsm hσ' k
theorem Own.read {fid : FuncId} {args : List DV} {l : List α} (h : Own P G fid args l.length (Enc.es α) (Qq l)) : Pure P G fid args (Qy l) := h.pure (Qz l).symm
variable {E : AX} {R : DV -> List ABlk -> Prop}
theorem c_ownedB {k g len es len' es' : Nat} {cs cs' : List DV} {σ : List ABlk} (hB : B <= E.N) (hk : σ[k]? = some (.row g cs)) (h1 : len' = len) (h2 : cs' = cs) (h3 : es' = es) : QV E (fun d' σ' => ∃ g, B < g /\ d' = .ref 0 g 0 len' es' /\ σ' = [.row g cs']) (.ref k g 0 len es) σ :=
 c_own (m := 0) (Nat.zero_le _) hk fun g' hg => ⟨g', Nat.lt_of_le_of_lt hB hg, by rw [h1, h3], by rw [h2]; rfl⟩
variable {n : Nat} {t : Fr} {ops : Array Oper} {l : List Oper} {Q : (Nat -> DV) -> Prop} {N : ASt -> Prop}
end
section
variable {P : Program} {G : Nat -> DV} {E : AX} {n : Nat} {N : ASt -> Prop} {xs : List (Nat × (ASt -> Prop))} {R : ASt -> Prop} {st : ASt}
theorem r_loopg {c : Code} {ι : Type} (I : ι -> Nat -> ASt) (pre : ι -> Prop) (μ : ι -> Nat) (x0 : ι) (g0 : Nat) (hg0 : E.N < g0) (h0 : ALe st (I x0 g0)) (hp0 : pre x0)
  (round : ∀ x g, pre x -> E.N < g -> WE P G E n c (fun st' => ∃ y g', pre y /\ E.N < g' /\ μ y < μ x /\ ALe st' (I y g')) xs R (I x g)) : WE P G E n (.loop c) N xs R st :=
 Wi (fun z : ι × Nat => I z.1 z.2) (fun z => pre z.1 /\ E.N < z.2) (fun z => μ z.1) (x0, g0) h0 ⟨hp0, hg0⟩ fun ⟨x, g⟩ ⟨h1, h2⟩ a w hr =>
  wp_mono (round x g h1 h2 a w hr) fun e a' w' ⟨st', hr', hq⟩ => by
   refine ⟨st', hr', ?_⟩
   cases e with
   | normal => obtain ⟨y, g', h3, h4, h5, h6⟩ := hq; exact ⟨(y, g'), ⟨h3, h4⟩, h5, h6⟩
   | exit id => exact hq
   | ret => exact hq
   | goto l => exact hq.elim
   | panic ch => exact hq.elim
   | outgrown => exact hq.elim
theorem APost.ext {X X' : AX} (hE : WExt X X') {R : DV -> List ABlk -> Prop} {v : Value} {w' : World} (h : APost X' R v w') : APost X R v w' := by
 obtain ⟨Y, h1, h2, h3, h4⟩ := h
 exact ⟨Y, h1, h2, hE.trans h3, h4⟩
theorem s_pub {t : Fr} {σ σ' : List ABlk} {B i k g len es : Nat} {cs : List DV} {o : Oper} {K : DV -> List ABlk -> Prop} (h : Wp t i = .ref k g 0 len es) (hk : σ[k]? = some (.row g cs)) (hl : len * es = cs.length) (hσ' : setA σ k .gone = some σ')
  (kk : OpSem P G B o (aev G ((i, .sl es cs) :: t)) σ' K) : OpSem P G B o (aev G t) σ K := fun X ρ hS hσ hB hG hf => by
 have hE := ZH (X := X) k
 subst hσ
 have hs := kk { X with σ := X.σ.set k .gone } ρ (sto_gone hS k) (by rw [ZI hσ']) hB (hG.ext hE) fun x hx => by
  have hv := hf x hx
  cases x with
  | tmp j =>
   simp only [aev, Wp] at hv ⊢
   cases hb : Nat.beq i j with
   | true =>
    have := Nat.eq_of_beq_eq_true hb
    subst this
    rw [h] at hv
    exact pub_rep hS hk hl hv
   | false => exact hv.ext hE
  | const v => exact hv.ext hE
  | global g => exact hv.ext hE
  | func g => exact hv.ext hE
 show OPost P X K ((execOp ρ o).run P X.w)
 have hs' : OPost P { X with σ := X.σ.set k .gone } K ((execOp ρ o).run P X.w) := hs
 generalize (execOp ρ o).run P X.w = r at *
 cases r with
 | ok nx w' =>
  cases nx <;> simp only [OPost] at hs' ⊢
  case value v => exact hs'.ext hE
  case skip => exact hs'.ext hE
  case enter f args => exact ⟨hs'.1, hs'.2.mono fun e w'' ⟨v, he, hp⟩ => ⟨v, he, hp.ext hE⟩⟩
 | halt hh w' => simp only [OPost] at hs'
theorem s_bslice_pub {t : Fr} {σ σ' : List ABlk} {B i k g len es : Nat} {cs : List DV} {K : DV -> List ABlk -> Prop} {dst : Option Tmp} {ty type : TypeId} {pos : String} {after : Array Edge} {gd : Option (Nat × Bool)} {m : Nat} {r : List (Nat × Operand)} (h : Wp t i = .ref k g 0 len es) (hk : σ[k]? = some (.row g cs)) (hl : len * es = cs.length) (hσ' : setA σ k .gone = some σ')
  (kk : OpSem P G B ⟨dst, .buildSlice ty m ((0, .tmp i) :: r).toArray, type, pos, after, gd⟩ (aev G ((i, .sl es cs) :: t)) σ' K) : OpSem P G B ⟨dst, .buildSlice ty m ((0, .tmp i) :: r).toArray, type, pos, after, gd⟩ (aev G t) σ K := s_pub h hk hl hσ' kk
end
end Go.Av
end
section
namespace Go.Av
open Classical
section
variable {P : Program} {G : Nat -> DV} {E : AX} {n : Nat} {N : ASt -> Prop} {xs : List (Nat × (ASt -> Prop))} {R : ASt -> Prop} {st : ASt}
theorem Sto.rowcell {X X1 : AX} (hS : Sto X) (hS1 : Sto X1) (hE : WExt X X1) (hw : X1.w = X.w) {m gm j : Nat} {cs : List DV} {d d' : DV} (hm : X.σ[m]? = some (.row gm cs)) (hm1 : X1.σ[m]? = some (.row gm cs)) (hρ : X1.ρ m = X.ρ m)
  (hj : cs[j]? = some d) (ho : d'.one = true) (hv : ∀ v, VRep X.lay d v -> VRep X1.lay d' v) : ∃ X2, X2.w = X.w /\ X2.σ = X1.σ.set m (.row gm (cs.set j d')) /\ Sto X2 /\ WExt X1 X2 := by
 have hok : ReplOk X1 m gm X1.w (X1.ρ m) (.row gm (cs.set j d')) X1.N := {
  live := Wr hm1, os := rfl, tape := rfl, output := rfl, size := Nat.le_refl _, block := fun _ _ _ => rfl
  gen := .inr ⟨rfl, Nat.le_refl _, rfl⟩
  lies := fun b n h => .inr ⟨n, h⟩ }
 have hE2 := WExt.repl hS1 hok
 refine ⟨X1.repl m X1.w (X1.ρ m) (.row gm (cs.set j d')) X1.N, hw, rfl, Sto.repl' hS1 hok ?_, hE2⟩
 have key : ∀ ob, X.ρ m = ob -> (ABlk.row gm (cs.set j d')).holds (X1.repl m X1.w (X1.ρ m) (.row gm (cs.set j d')) X1.N).lay X1.w ob := fun ob hob => by
  have hh := hS.holds m _ hm
  rw [hob] at hh
  cases ob with
  | none =>
   have hh : cs = [] := hh
   subst hh; simp at hj
  | some x =>
   obtain ⟨b, nn⟩ := x
   obtain ⟨arr, T, fr, g1, g2, g3, g4, g5⟩ := hh
   refine ⟨arr, T, fr, by rw [hw]; exact g1, g2, by simpa using g3, g4, fun i e hi => ?_⟩
   rw [List.getElem?_set] at hi
   split at hi
   ·rename_i hji
    subst hji
    split at hi
    ·cases hi
     exact ⟨ho, (hv _ (g5 j d hj).2).ext hE2⟩
    ·cases hi
   ·exact ⟨(g5 i e hi).1, ((g5 i e hi).2.ext hE).ext hE2⟩
 exact key _ hρ.symm
theorem Rel.ownin {a : Act} {w : World} (hr : Rel G E n st a w) {m gm j es : Nat} {cs : List DV} (hm : st.σ[m]? = some (.row gm cs)) (hj : cs[j]? = some (.sc (.slice none 0 0))) :
  ∃ g, E.N < g /\ Rel G E n ⟨st.t, st.σ.set m (.row gm (cs.set j (.ref st.σ.length g 0 0 es))) ++ [.row g []]⟩ a w := by
 obtain ⟨X, h1, h2, h3, h4, h5, h6, h7, h8⟩ := hr
 have hob : ∀ b nn, (none : Option (Nat × Nat)) = some (b, nn) -> X.w.heap.size <= b := fun _ _ h => by cases h
 have hE := WExt.push h3 (Keep.refl X.w) (B := .row (X.N + 1) []) rfl hob
 have hS1 := h3.push (Keep.refl X.w) (B := .row (X.N + 1) []) rfl hob rfl
 rw [<- h2] at hm
 have hml : m < X.σ.length := (List.getElem?_eq_some_iff.1 hm).1
 obtain ⟨X2, k1, k2, k3, k4⟩ := Sto.rowcell h3 hS1 hE rfl (d' := .ref X.σ.length (X.N + 1) 0 0 es) hm (by simp only [AX.push]; rw [List.getElem?_append_left hml]; exact hm) (by simp only [AX.push]; rw [if_neg (by omega)]) hj rfl (fun v hv => by
  rw [VRep.sc_eq hv]
  refine .ref _ _ _ _ _ _ _ _ (Nat.le_refl _) fun ob hobb => ?_
  rw [AX.row_mk (AX.push_live.2 (.inr ⟨rfl, rfl⟩))] at hobb
  simp only [AX.push, if_true, Option.some.injEq] at hobb
  subst hobb
  exact ⟨rfl, rfl, rfl⟩)
 have hE2 := hE.trans k4
 refine ⟨X.N + 1, by have := h4.top; omega, X2, by rw [k1, h1], ?_, k3, h4.trans hE2, h5.ext hE2, h6, h7, fun i => (h8 i).ext hE2⟩
 rw [k2, <- h2]
 simp only [AX.push]
 rw [List.set_append_left _ _ hml]
theorem r_ownin {t : Fr} {σ : List ABlk} {c : Code} (m j es : Nat) {gm : Nat} {cs : List DV} {σ' : Nat -> List ABlk} (hm : σ[m]? = some (.row gm cs)) (hj : cs[j]? = some (.sc (.slice none 0 0))) (hσ' : ∀ g, setA σ m (.row gm (cs.set j (.ref σ.length g 0 0 es))) = some (σ' g))
  (k : ∀ g, E.N < g -> WE P G E n c N xs R ⟨t, σ' g ++ [.row g []]⟩) : WE P G E n c N xs R ⟨t, σ⟩ := fun a w hr => by
 obtain ⟨g, hg, hr'⟩ := hr.ownin (es := es) hm hj
 have := k g hg a w
 rw [ZI (hσ' g)] at this
 exact this hr'
theorem Rel.pubin {a : Act} {w : World} (hr : Rel G E n st a w) {m gm j k g len es : Nat} {cs ds : List DV} (hne : m ≠ k) (hm : st.σ[m]? = some (.row gm cs)) (hj : cs[j]? = some (.ref k g 0 len es)) (hk : st.σ[k]? = some (.row g ds)) (hl : len * es = ds.length) :
  Rel G E n ⟨st.t, (st.σ.set k .gone).set m (.row gm (cs.set j (.sl es ds)))⟩ a w := by
 obtain ⟨X, h1, h2, h3, h4, h5, h6, h7, h8⟩ := hr
 have hE := ZH (X := X) k
 rw [<- h2] at hm hk
 obtain ⟨X2, k1, k2, k3, k4⟩ := Sto.rowcell h3 (sto_gone h3 k) hE rfl (d' := .sl es ds) hm (by show (X.σ.set k .gone)[m]? = _; rw [List.getElem?_set, if_neg (Ne.symm hne)]; exact hm) rfl hj rfl (fun v hv => pub_rep h3 hk hl hv)
 have hE2 := hE.trans k4
 exact ⟨X2, by rw [k1, h1], by rw [k2, <- h2], k3, h4.trans hE2, h5.ext hE2, h6, h7, fun i => (h8 i).ext hE2⟩
theorem r_pubin {t : Fr} {σ σ1 σ' : List ABlk} {c : Code} (m j : Nat) {gm k g len es : Nat} {cs ds : List DV} (hm : σ[m]? = some (.row gm cs)) (hj : cs[j]? = some (.ref k g 0 len es)) (hk : σ[k]? = some (.row g ds)) (hl : len * es = ds.length)
  (hσ1 : setA σ k .gone = some σ1) (hσ' : setA σ1 m (.row gm (cs.set j (.sl es ds))) = some σ') (kk : WE P G E n c N xs R ⟨t, σ'⟩) (hne : m ≠ k := by decide) : WE P G E n c N xs R ⟨t, σ⟩ := fun a w hr => by
 have := kk a w
 rw [ZI hσ', ZI hσ1] at this
 exact this (hr.pubin hne hm hj hk hl)
def effB : Op -> Bool
 | .store _ _ _ => true
 | .alloc _ => true
 | .box _ _ => true
 | .makeSlice _ _ _ => true
 | .makeMap _ _ => true
 | .mapUpdate _ _ _ _ => true
 | .call ⟨.builtin .append, _, _⟩ => true
 | .call ⟨.builtin .clear, _, _⟩ => true
 | .call ⟨.builtin .copy, _, _⟩ => true
 | _ => false
def nEff : List Oper -> Nat
 | [] => 0
 | o :: r => match effB o.op with | true => 0 | false => nEff r + 1
theorem nEff_le : ∀ l : List Oper, (l.take (nEff l)).length = nEff l
 | [] => rfl
 | o :: r => by
  unfold nEff
  split
  ·rfl
  ·rw [List.take_succ_cons, List.length_cons, nEff_le r]
theorem QT {σ : List ABlk} {id : Nat} {l : List Oper} {t : Fr} (hm : P.follows .mixedOrders = true) (hB : drawB l.toArray (nEff l) = true)
  (h : W0 P G E.N n l.toArray σ (fun φ => ∃ t', (∀ i, Wp t' i = .any \/ Wp t' i = φ i) /\ WY P G E n l.toArray (l.drop (nEff l)) N ⟨t', σ⟩) (l.take (nEff l)) (Wp t)) : WE P G E n (.region id l.toArray true) N xs R ⟨t, σ⟩ :=
 r_drawm (nEff l) hm (nEff_le l) hB h
theorem Wa {st : ASt} {id : Nat} {l : List Oper} (h : WE P G E n (.region id l.toArray true) N xs R st) : WE P G E n (.region id l.toArray true) N xs R st := h
theorem Wj {σ : List ABlk} {id : Nat} {l : List Oper} {t : Fr} (hN : Nat.beq (nEff l) l.length = true) (hm : P.follows .mixedOrders = true) (hB : drawB l.toArray l.length = true)
  (h : W0 P G E.N n l.toArray σ (fun φ => ∃ t', (∀ i, Wp t' i = .any \/ Wp t' i = φ i) /\ WY P G E n l.toArray [] N ⟨t', σ⟩) l (Wp t)) : WE P G E n (.region id l.toArray true) N xs R ⟨t, σ⟩ := r_drawn hm hB h
end
section
variable {P : Program} {G : Nat -> DV} {B : Nat} {f : Operand -> DV} {σ : List ABlk} {K : DV -> List ABlk -> Prop} {dst : Option Tmp} {type : TypeId} {pos : String} {after : Array Edge} {gd : Option (Nat × Bool)}
variable {α : Type} [Enc α]
theorem s_app_r {t t' e : TypeId} {d : TypeDesc} {g1 g2 : Bool} {z1 bytes m g len es : Nat} {zs : List Value} {x y : Operand} {cs : List DV} {l xs : List α} [ht : TyI P t (.slice e) g1 z1] [ht' : SrcTy P t'] [he : TyI P e d g2 es] [hb : TyB P e bytes] [hz : TyZ P e zs]
  {σ' : Nat -> List ABlk} (hzl : zs.length = es) (hx : f x = .ref m g 0 len es) (hy : f y = Qy xs) (hm : σ[m]? = some (.row g cs)) (hcs : cs = Qq l) (hes : es = Enc.es α) (hlen : len = l.length) (hby : (l.length + xs.length) * bytes <= 140737488355328) (hsm : l.length + xs.length <= 9223372036854775807)
  (hσ' : ∀ g', setA σ m (.row g' (Qq (l ++ xs))) = some (σ' g')) (k : ∀ g', B < g' -> K (.ref m g' 0 (l ++ xs).length es) (σ' g')) : OpSem P G B ⟨dst, .call ⟨.builtin .append, #[x, y], #[t, t']⟩, type, pos, after, gd⟩ f σ K := by
 subst hes hcs
 exact s_app hzl hx hm hlen hy srcOf_slOf hby hsm hσ' k
theorem s_app_n {t t' e : TypeId} {d : TypeDesc} {g1 g2 : Bool} {z1 bytes es : Nat} {zs : List Value} {x y : Operand} {xs : List α} [ht : TyI P t (.slice e) g1 z1] [ht' : SrcTy P t'] [he : TyI P e d g2 es] [hb : TyB P e bytes] [hz : TyZ P e zs]
  (hzl : zs.length = es) (hx : f x = .sc (.slice none 0 0)) (hy : f y = Qy xs) (hes : es = Enc.es α) (hby : xs.length * bytes <= 140737488355328) (hsm : xs.length <= 9223372036854775807)
  (k : ∀ g', B < g' -> K (.ref σ.length g' 0 xs.length es) (σ ++ [.row g' (Qq xs)])) : OpSem P G B ⟨dst, .call ⟨.builtin .append, #[x, y], #[t, t']⟩, type, pos, after, gd⟩ f σ K := by
 subst hes
 exact s_app_nil hzl hx hy srcOf_slOf hby hsm k
end
section
variable {P : Program} {G : Nat -> DV} {E : AX} {n : Nat} {N : ASt -> Prop} {xs : List (Nat × (ASt -> Prop))} {R : ASt -> Prop} {st : ASt}
theorem pub_ptr {X : AX} (hS : Sto X) {k g : Nat} {cs : List DV} {v : Value} (hσ : X.σ[k]? = some (.row g cs)) (h : VRep X.lay (.ptr k g 0) v) : VRep { X with σ := X.σ.set k .gone }.lay (.ep cs) v := by
 have hW := ZH (X := X) k
 obtain ⟨b, n, hρ, rfl⟩ := h.ptr_inv hσ
 obtain ⟨arr, T, fr, g1, g2, g3, g4, g5⟩ := hS.row hσ hρ
 refine .ep _ b 0 (fun j => arr.getD j undef) (fun d hd => ?_) (fun j hj => ?_) (fun j d hj => (g5 j d hj).2.ext hW)
 ·obtain ⟨j, hj⟩ := List.mem_iff_getElem?.1 hd
  exact (g5 j d hj).1
 ·refine AX.imm_mk (fun ⟨i, g', n', hl', hr'⟩ => ?_) (fun hh => hS.hid b ⟨k, g, n, Wr hσ, hρ⟩ hh) ?_
  ·have hli : X.live i g' /\ i ≠ k := by
    have hl' : ((X.σ.set k .gone)[i]?).bind ABlk.gen? = some g' := hl'
    rw [List.getElem?_set] at hl'
    split at hl'
    ·split at hl' <;> simp [ABlk.gen?] at hl'
    ·rename_i hne; exact ⟨hl', Ne.symm hne⟩
   exact hli.2 (hS.inj i k g' g b n' n hli.1 (Wr hσ) hr' hρ)
  ·have : 0 + j < arr.size := by omega
   simp only [Nat.zero_add] at this ⊢
   simp [World.cell?, g1, Array.getD_eq_getD_getElem?, this]
theorem Rel.pubptr {a : Act} {w : World} (hr : Rel G E n st a w) {i k g : Nat} {cs : List DV} (h : Wp st.t i = .ptr k g 0) (hk : st.σ[k]? = some (.row g cs)) : Rel G E n ⟨(i, .ep cs) :: st.t, st.σ.set k .gone⟩ a w := by
 obtain ⟨X, h1, h2, h3, h4, h5, h6, h7, h8⟩ := hr
 have hE := ZH (X := X) k
 refine ⟨{ X with σ := X.σ.set k .gone }, h1, by rw [<- h2], sto_gone h3 k, h4.trans hE, h5.ext hE, h6, h7, fun j => ?_⟩
 simp only [Wp]
 cases hb : Nat.beq i j with
 | true =>
  have := Nat.eq_of_beq_eq_true hb
  subst this
  have hv := h8 i
  rw [h] at hv
  rw [<- h2] at hk
  exact pub_ptr h3 hk hv
 | false => exact (h8 j).ext hE
theorem r_pubptr {t : Fr} {σ : List ABlk} {c : Code} {σ' : List ABlk} {k g : Nat} {cs : List DV} (i : Nat) (h : Wp t i = .ptr k g 0) (hk : σ[k]? = some (.row g cs)) (hσ' : setA σ k .gone = some σ')
  (kk : WE P G E n c N xs R ⟨(i, .ep cs) :: t, σ'⟩) : WE P G E n c N xs R ⟨t, σ⟩ := fun a w hr => by
 rw [ZI hσ'] at kk
 exact kk a w (hr.pubptr h hk)
variable {B : Nat} {f : Operand -> DV} {σ : List ABlk} {K : DV -> List ABlk -> Prop} {dst : Option Tmp} {type : TypeId} {pos : String} {after : Array Edge} {gd : Option (Nat × Bool)}
theorem s_callv_p {x : Operand} {args : Array Operand} {ts : Array TypeId} {fid : FuncId} {first cap ds : List DV} {d : DV} [FnOk P fid] (hx : f x = .fn (.func fid) first cap) (hds : reL (first ++ args.toList.map f ++ cap) = some ds) (h : Pure P G fid ds d) (hc : d.clo = true) (k : K d σ) :
  OpSem P G B ⟨dst, .call ⟨.value x, args, ts⟩, type, pos, after, gd⟩ f σ K := s_callv hx hds ((h.lift hc).mono fun _ _ ⟨h1, h2⟩ => by rw [h1, h2]; exact k)
theorem reL_some : ∀ l : List DV, reL l = some l
 | [] => rfl
 | d :: r => by cases d <;> simp [reL, reD, reL_some r]
theorem WQ {x : Operand} {args : Array Operand} {ts : Array TypeId} {fid : FuncId} {first cap : List DV} {d : DV} [FnOk P fid] (hx : f x = .fn (.func fid) first cap) (h : Pure P G fid (first ++ args.toList.map f ++ cap) d) (hc : d.clo = true) (k : K d σ) :
  OpSem P G B ⟨dst, .call ⟨.value x, args, ts⟩, type, pos, after, gd⟩ f σ K := s_callv hx (reL_some _) ((h.lift hc).mono fun _ _ ⟨h1, h2⟩ => by rw [h1, h2]; exact k)
theorem WX {f : Fn} {a b : List DV} (ha : ∀ d ∈ a, d.clo = true) (hb : ∀ d ∈ b, d.clo = true) : (DV.fn f a b).clo = true := by
 simp only [DV.clo, Bool.and_eq_true, List.all_eq_true]; exact ⟨fun x _ => ha x.1 x.2, fun x _ => hb x.1 x.2⟩
theorem WV {cs : List DV} (h : ∀ d ∈ cs, d.clo = true) : (DV.ep cs).clo = true := by simp only [DV.clo, List.all_eq_true]; exact fun x _ => h x.1 x.2
end
section
variable {P : Program} {G : Nat -> DV} {B : Nat} {f : Operand -> DV} {σ : List ABlk} {K : DV -> List ABlk -> Prop} {dst : Option Tmp} {type : TypeId} {pos : String} {after : Array Edge} {gd : Option (Nat × Bool)}
variable {α : Type} [Enc α]
theorem APost.trunc {X : AX} {k g : Nat} {cs cs' r : List DV} {v : Value} {w' : World} {d : DV} (hd : ∀ L, VRep L d v) (hσ' : ∃ σ', σ'[k]? = some (.row g cs) /\ cs = cs' ++ r /\ APost X (fun _ s => s = σ') v w' /\ K d (σ'.set k (.row g cs'))) : APost X K v w' := by
 obtain ⟨σ', h1, h2, ⟨Y, h3, h4, h5, e, h6, h7⟩, h8⟩ := hσ'
 rw [<- h7] at h1 h8
 have := Av.trunc (m := cs'.length) h4 h1 (.inr trivial)
 rw [h2, List.take_left] at this
 exact ⟨{ Y with σ := Y.σ.set k (.row g cs') }, h3, this.2, h5.trans this.1, d, hd _, h8⟩
theorem s_clear_tail {t e : TypeId} {td : TypeDesc} {g1 g2 : Bool} {z1 m g len i es : Nat} {zs : List Value} {x : Operand} {cs : List DV} {l : List α} {σ' : List ABlk} [ht : TyI P t (.slice e) g1 z1] [he : TyI P e td g2 es] [hz : TyZ P e zs] (hzl : zs.length = es)
  (hx : f x = .ref m g (0 + i * es) len es) (hm : σ[m]? = some (.row g cs)) (hcs : cs = Qq l) (hes : es = Enc.es α) (hi : i <= l.length) (hlen : len = l.length - i) (hσ' : setA σ m (.row g (Qq (l.take i))) = some σ') (k : K (.tup []) σ') :
  OpSem P G B ⟨dst, .call ⟨.builtin .clear, #[x], #[t]⟩, type, pos, after, gd⟩ f σ K := fun X ρ hS hσ hB _ hf => by
 subst hσ hcs hlen hes
 rw [Nat.zero_add] at hx
 have e1 := hf x (by simp [Op.operands, Call.operands]); rw [hx] at e1
 obtain ⟨a, cap, e4, h2, h3⟩ := e1.ref_slice hm
 rw [ZI hσ'] at k
 simp only [execOp, resolve, invoke, builtin, List.map_toArray, List.map_cons, List.map_nil, Sem.run_bind, Sem.run_pure, Result.andThen_ok, e4]
 by_cases h0 : l.length - i = 0
 ·have hrun : (Builtin.clear_ #[t] type #[.slice a (l.length - i) cap]).run P X.w = .ok (.tuple #[]) X.w := by
   rw [h0]
   cases a <;> simp [Builtin.clear_, run_underlying ht.u]
  rw [hrun]
  have : l.take i = l := List.take_of_length_le (by omega)
  rw [this, show X.σ.set m (.row g (Qq l)) = X.σ from by
   apply List.ext_getElem?
   intro j
   rw [List.getElem?_set]
   split
   ·rename_i hj; subst hj; rw [hm]; split
    ·rfl
    ·rename_i hh; exact absurd (List.getElem?_eq_some_iff.1 hm).1 hh
   ·rfl] at k
  exact Q7 hS (.tup _ _ rfl fun j d hj => by simp at hj) k
 ·obtain ⟨b, n, hρ, rfl, h5⟩ := h3 (Nat.pos_of_ne_zero h0)
  clear h3
  obtain ⟨_, _, _, _, g2', g3, _⟩ := hS.row hm hρ
  rw [Qz] at g3
  obtain ⟨z, hz1, hz2⟩ := run_zero hz X.w
  have hcells := madeRow (L := X.lay) (n := l.length - i) hz.one
  have hzc : (Builtin.zeroCells z.cells (l.length - i)) = ((Array.range ((l.length - i) * zs.length)).map (zs.toArray[· % zs.toArray.size]!)) := by rw [hz2]; simp [Builtin.zeroCells]
  rw [<- hzc] at hcells
  have hmul : i * Enc.es α + (l.length - i) * Enc.es α = l.length * Enc.es α := by rw [<- Nat.add_mul]; congr 1; omega
  have hst := post_store (P := P) (v := .tuple #[]) (d := .tup []) (K := fun _ s => s = X.σ.set m (.row g (Qq (l.take i) ++ WP zs (l.length - i)))) (vs := (Builtin.zeroCells z.cells (l.length - i)).toList) (ds := WP zs (l.length - i)) (cs' := Qq (l.take i) ++ WP zs (l.length - i)) (o := i * Enc.es α) hS hm hρ
   (by simpa using hcells.1) hcells.2.1 (fun j e hj => by simpa [Array.getD_eq_getD_getElem?] using hcells.2.2 j e hj) (by rw [Zs, hzl]; omega) (by rw [List.length_append, Zs, hzl, Qz, List.length_take, Nat.min_eq_left hi]; omega)
   (fun j => by
    have hl1 : (Qq (l.take i)).length = i * Enc.es α := by rw [Qz, List.length_take, Nat.min_eq_left hi]
    rw [List.getElem?_append, hl1, Zs, hzl]
    split
    ·rw [if_neg (by omega), <- encs_take, List.getElem?_take, if_pos (by omega)]
    ·split
     ·rfl
     ·rw [List.getElem?_eq_none (by rw [Zs, hzl]; omega), List.getElem?_eq_none (by rw [Qz]; omega)])
   (fun L _ => .tup _ _ rfl fun j d hj => by simp at hj) rfl
  have hrun : (Builtin.clear_ #[t] type #[.slice (some ⟨b, i * Enc.es α, none⟩) (l.length - i) cap]).run P X.w = .ok (.tuple #[]) (X.w.setCells b (i * Enc.es α) (Builtin.zeroCells z.cells (l.length - i)).toList) := by
   obtain ⟨q, hq⟩ : ∃ q, l.length - i = q + 1 := Nat.exists_eq_succ_of_ne_zero h0
   have hst1 := hst.1
   rw [hq] at hst1 ⊢
   simp [Builtin.clear_, run_underlying ht.u, hz1, hst1]
  rw [hrun]
  refine APost.trunc (k := m) (g := g) (cs := Qq (l.take i) ++ WP zs (l.length - i)) (cs' := Qq (l.take i)) (r := WP zs (l.length - i)) (d := .tup []) (fun L => .tup _ _ rfl fun j d hj => by simp at hj) ⟨X.σ.set m (.row g (Qq (l.take i) ++ WP zs (l.length - i))), ?_, rfl, hst.2, ?_⟩
  ·rw [List.getElem?_set, if_pos rfl, if_pos (List.getElem?_eq_some_iff.1 hm).1]
  ·rw [List.set_set]; exact k
end
section
variable {P : Program} {G : Nat -> DV} {E : AX} {n : Nat} {N : ASt -> Prop} {xs : List (Nat × (ASt -> Prop))} {R : ASt -> Prop} {st : ASt}
theorem qb {c : Code} {ι κ : Type} (I : ι -> κ -> ASt) (pre : ι -> κ -> Prop) (μ : ι -> κ -> Nat) (x0 : ι) (y0 : κ) (h0 : ALe st (I x0 y0)) (hp0 : pre x0 y0)
  (round : ∀ x y, pre x y -> WE P G E n c (fun st' => ∃ x' y', pre x' y' /\ μ x' y' < μ x y /\ ALe st' (I x' y')) xs R (I x y)) : WE P G E n (.loop c) N xs R st :=
 Wi (fun z : ι × κ => I z.1 z.2) (fun z => pre z.1 z.2) (fun z => μ z.1 z.2) (x0, y0) h0 hp0 fun ⟨x, y⟩ h1 a w hr =>
  wp_mono (round x y h1 a w hr) fun e a' w' ⟨st', hr', hq⟩ => by
   refine ⟨st', hr', ?_⟩
   cases e with
   | normal => obtain ⟨x', y', h3, h4, h5⟩ := hq; exact ⟨(x', y'), h3, h4, h5⟩
   | exit id => exact hq
   | ret => exact hq
   | goto l => exact hq.elim
   | panic ch => exact hq.elim
   | outgrown => exact hq.elim
end
section
variable {P : Program} {G : Nat -> DV} {B : Nat} {f : Operand -> DV} {σ : List ABlk} {K : DV -> List ABlk -> Prop} {dst : Option Tmp} {type : TypeId} {pos : String} {after : Array Edge} {gd : Option (Nat × Bool)}
theorem s_idx_ref1i {t e : TypeId} {d : TypeDesc} {g1 g2 : Bool} {z1 : Nat} {x y : Operand} {m g len : Nat} {cs : List DV} {kd : IntKind} {i : Int} [ht : TyI P t (.slice e) g1 z1] [he : TyI P e d g2 1]
  (hx : f x = .ref m g 0 len 1) (hm : σ[m]? = some (.row g cs)) (hy : f y = .sc (.int kd i)) (h0 : 0 <= i) (h1 : i.toNat < len) (k : K (.ptr m g i.toNat) σ) : OpSem P G B ⟨dst, .indexAddr t x y, type, pos, after, gd⟩ f σ K :=
 s_idx_ref hx hm hy h0 h1 (by simpa using k)
theorem s_idx_refoi {t e : TypeId} {d : TypeDesc} {g1 g2 : Bool} {z1 : Nat} {x y : Operand} {m g off len : Nat} {cs : List DV} {kd : IntKind} {i : Int} [ht : TyI P t (.slice e) g1 z1] [he : TyI P e d g2 1]
  (hx : f x = .ref m g off len 1) (hm : σ[m]? = some (.row g cs)) (hy : f y = .sc (.int kd i)) (h0 : 0 <= i) (h1 : i.toNat < len) (k : K (.ptr m g (off + i.toNat)) σ) : OpSem P G B ⟨dst, .indexAddr t x y, type, pos, after, gd⟩ f σ K :=
 s_idx_ref hx hm hy h0 h1 (by simpa using k)
end
section
variable {P : Program} {G : Nat -> DV} {E : AX}
theorem c_own_nil {B es : Nat} {σ : List ABlk} (hB : B <= E.N) : QV E (fun d' σ' => ∃ g, B < g /\ d' = .ref 0 g 0 0 es /\ σ' = [.row g []]) (.sc (.slice none 0 0)) σ := fun X v hσ hS hE hv => by
 have hE1 : WExt X { X with σ := [] } := WExt.shrink fun k g hg => by simp at hg
 have hS1 : Sto { X with σ := [] } := hS.shrink fun k B hB => by simp at hB
 have hob : ∀ b nn, (none : Option (Nat × Nat)) = some (b, nn) -> X.w.heap.size <= b := fun _ _ h => by cases h
 have hE2 := WExt.push hS1 (Keep.refl X.w) (B := .row (X.N + 1) []) rfl hob
 have hS2 := hS1.push (Keep.refl X.w) (B := .row (X.N + 1) []) rfl hob rfl
 refine ⟨AX.push { X with σ := [] } X.w none (.row (X.N + 1) []), rfl, hS2, hE.trans (hE1.trans hE2), .ref 0 (X.N + 1) 0 0 es, ?_, X.N + 1, by have := hE.top; omega, rfl, rfl⟩
 rw [VRep.sc_eq hv]
 refine .ref _ _ _ _ _ _ _ _ (Nat.le_refl _) fun ob hobb => ?_
 have hh := AX.row_mk (X := AX.push { X with σ := [] } X.w none (.row (X.N + 1) [])) (k := 0) (g := X.N + 1) (AX.push_live.2 (.inr ⟨rfl, rfl⟩))
 rw [hh] at hobb
 simp only [AX.push, List.length_nil, if_true, Option.some.injEq] at hobb
 subst hobb
 exact ⟨rfl, rfl, rfl⟩
variable {B : Nat} {f : Operand -> DV} {σ : List ABlk} {K : DV -> List ABlk -> Prop} {dst : Option Tmp} {type : TypeId} {pos : String} {after : Array Edge} {gd : Option (Nat × Bool)}
theorem s_bslice_none {t e size : Nat} {g1 g2 : Bool} {z1 : Nat} {td : TypeDesc} {zs : List Value} [ht : TyI P t (.slice e) g1 z1] [he : TyI P e td g2 size] [hz : TyZ P e zs] (hzl : zs.length = size)
  (k : ∀ g, B < g -> K (.ref σ.length g 0 0 size) (σ ++ [.row g []])) : OpSem P G B ⟨dst, .buildSlice t 0 #[], type, pos, after, gd⟩ f σ K :=
 s_bslice_own (n := 0) (ps := []) hzl rfl (by omega) (cs := []) (by simp [fillD, WP, forceD]) (by simp) k
variable {α : Type} [Enc α]
theorem s_app_z {t t' e : TypeId} {d : TypeDesc} {g1 g2 : Bool} {z1 bytes m g es : Nat} {zs : List Value} {x y : Operand} {xs : List α} [ht : TyI P t (.slice e) g1 z1] [ht' : SrcTy P t'] [he : TyI P e d g2 es] [hb : TyB P e bytes] [hz : TyZ P e zs]
  {σ' : Nat -> List ABlk} (hzl : zs.length = es) (hx : f x = .ref m g 0 0 es) (hy : f y = Qy xs) (hm : σ[m]? = some (.row g [])) (hes : es = Enc.es α) (hby : xs.length * bytes <= 140737488355328) (hsm : xs.length <= 9223372036854775807)
  (hσ' : ∀ g', setA σ m (.row g' (Qq xs)) = some (σ' g')) (k : ∀ g', B < g' -> K (.ref m g' 0 xs.length es) (σ' g')) : OpSem P G B ⟨dst, .call ⟨.builtin .append, #[x, y], #[t, t']⟩, type, pos, after, gd⟩ f σ K := by
 subst hes
 exact s_app (l := []) (xs := xs) hzl hx hm rfl hy srcOf_slOf (by simpa using hby) (by simpa using hsm) hσ' k
end
section
variable {P : Program} {G : Nat -> DV} {B : Nat} {f : Operand -> DV} {σ : List ABlk} {K : DV -> List ABlk -> Prop} {dst : Option Tmp} {type : TypeId} {pos : String} {after : Array Edge} {gd : Option (Nat × Bool)}
theorem s_call_m {args : Array Operand} {ts : Array TypeId} {fid : FuncId} {ds ds' cs cs' : List DV} {k g : Nat} {d0 : DV} {res' : Nat -> DV} {σ' : List ABlk} [FnOk P fid] (hx : f (.func fid) = .fn (.func fid) [] []) (hds : reL (args.toList.map f) = some ds) (h : Mut1 P G fid g ds' cs res' cs' true) (hk : σ[k]? = some (.row g cs)) (hr : Rens k g ds ds') (hres : Ren k g d0 (res' g))
  (hc : ∀ d ∈ cs, d.clo = true) (hc' : ∀ d ∈ cs', d.clo = true) (hσ' : setA σ k (.row g cs') = some σ') (kk : K d0 σ') : OpSem P G B ⟨dst, .call ⟨.value (.func fid), args, ts⟩, type, pos, after, gd⟩ f σ K := by
 refine s_call hx hds ?_
 intro X vs hS hσ hB hG hvs
 have hm : Mut1 P G fid g ds' cs (fun g' => if g' = g then res' g else DV.any) cs' true := fun B hB => (h B hB).mono fun d σ ⟨g', h1, h2, h3⟩ => by
  rcases h1 with rfl | ⟨h1, _⟩
  ·exact ⟨g', .inl rfl, by rw [h2]; simp, h3⟩
  ·cases h1
 have := hm.lift (B := B) (k := k) (res := fun g' => if g' = g then d0 else DV.any) hr (fun g' => by
  by_cases hg : g' = g
  ·subst hg; simp only [if_pos]; exact hres
  ·simp only [if_neg hg]; exact .clo (by simp [DV.clo])) hc hc' hk
 refine (this X vs hS hσ hB hG hvs).mono ?_
 rintro e w' ⟨v, he, X', h1, h2, h3, d, h4, g', h5, h6, h7⟩
 rcases h5 with rfl | ⟨h5, _⟩
 ·rw [if_pos rfl] at h6
  subst h6
  refine ⟨v, he, X', h1, h2, h3, _, h4, ?_⟩
  rw [h7, <- ZI hσ']; exact kk
 ·cases h5
end
section
variable {P : Program} {G : Nat -> DV} {B : Nat} {f : Operand -> DV} {σ : List ABlk} {K : DV -> List ABlk -> Prop} {dst : Option Tmp} {type : TypeId} {pos : String} {after : Array Edge} {gd : Option (Nat × Bool)}
/-! The same with the place named. -/
end
section
variable {P : Program} {G : Nat -> DV} {E : AX} {n : Nat} {N : ASt -> Prop}
/-! A closure takes its variables: they are no longer written. -/
end
theorem QX : ∀ d ∈ ([] : List DV), d.clo = true := fun d h => by simp at h
theorem QN {d : DV} {r : List DV} (h : d.clo = true) (k : ∀ e ∈ r, e.clo = true) : ∀ e ∈ d :: r, e.clo = true := fun e he => by
 rcases List.mem_cons.1 he with rfl | he
 ·exact h
 ·exact k e he
section
variable {P : Program} {G : Nat -> DV} {B : Nat} {f : Operand -> DV} {σ : List ABlk} {K : DV -> List ABlk -> Prop} {dst : Option Tmp} {type : TypeId} {pos : String} {after : Array Edge} {gd : Option (Nat × Bool)}
theorem s_eql_b {t t' : TypeId} {z : Nat} {x y : Operand} {a b : Bool} [ht : TyI P t .bool false z] (hx : f x = .sc (.bool a)) (hy : f y = .sc (.bool b)) (k : K (.sc (.bool (a == b))) σ) : OpSem P G B ⟨dst, .binOp .eql t x y t', type, pos, after, gd⟩ f σ K :=
 s_bin hx hy (fun w => by
  have : (eqGuard .eql t x y (.bool a) (.bool b)).run P w = .ok () w := by unfold eqGuard; rfl
  rw [Sem.run_bind, this]
  simp [binOp, run_equal_bool w t a b ht.u]) k
end
section
theorem QZ {P : Program} {G : Nat -> DV} {B : Nat} {f : Operand -> DV} {σ : List ABlk} {K : DV -> List ABlk -> Prop} {dst : Option Tmp} {type : TypeId} {pos : String} {after : Array Edge} {gd : Option (Nat × Bool)} {args : Array Operand} {ts : Array TypeId} {fid : FuncId} {ds : List DV} {d : DV} [FnOk P fid] (hx : f (.func fid) = .fn (.func fid) [] []) (hds : reL (args.toList.map f) = some ds) (h : Pure P G fid ds d) (k : K d σ) (hc : d.clo = true := by repeat' first | exact QA | exact QQ _ | exact Q8 (Qk _) | exact Qk _ | refine WX ?_ ?_ | refine WV ?_ | refine Wz ?_ | refine QB ?_ | exact QX | refine QN ?_ ?_ | refine Q8 ?_) : OpSem P G B ⟨dst, .call ⟨.value (.func fid), args, ts⟩, type, pos, after, gd⟩ f σ K := s_call_p hx hds h hc k
theorem zal {st : ASt} {t : Fr} {σ r : List ABlk} (hσ : st.σ = σ ++ r) (h : ∀ p ∈ t, Wp st.t p.1 = p.2 := by repeat' first | exact mem_nil | refine mem_cons rfl ?_) : ALe st ⟨t, σ⟩ := ale_drop h hσ
end
section
variable {P : Program} {G : Nat -> DV} {E : AX} {n : Nat} {ops : Array Oper} {md : Region.Mode} {Fin : (Nat -> DV) -> List ABlk -> Prop}
theorem OPost.mono {X : AX} {K K' : DV -> List ABlk -> Prop} {r : Result Next} (hk : ∀ d σ, K d σ -> K' d σ) (h : OPost P X K r) : OPost P X K' r := by
 have am : ∀ {v w'}, APost X K v w' -> APost X K' v w' := fun ⟨Y, h1, h2, h3, d, h4, h5⟩ => ⟨Y, h1, h2, h3, d, h4, hk _ _ h5⟩
 cases r with
 | ok nx w' =>
  cases nx <;> simp only [OPost] at h ⊢
  case value v => exact am h
  case skip => exact am h
  case enter f args => exact ⟨h.1, h.2.mono fun e w'' ⟨v, he, hp⟩ => ⟨v, he, am hp⟩⟩
 | halt hh w' => simp only [OPost] at h
theorem OpSem.mono {B : Nat} {o : Oper} {f : Operand -> DV} {σ : List ABlk} {K K' : DV -> List ABlk -> Prop} (h : OpSem P G B o f σ K) (hk : ∀ d σ, K d σ -> K' d σ) : OpSem P G B o f σ K' := fun X ρ h1 h2 h3 h4 h5 =>
 (h X ρ h1 h2 h3 h4 h5).mono hk
def mixB (md : Region.Mode) (ops : Array Oper) : List (Nat × Bool) -> Array Bool -> Bool
 | [], listed => (Region.ready md ops listed).isEmpty
 | (j, true) :: r, listed => (Region.ready md ops listed).contains j && Region.free md ops listed j && mixB md ops r (listed.setIfInBounds j true)
 | (j, false) :: r, listed => (Region.ready md ops listed) == [j] && mixB md ops r (listed.setIfInBounds j true)
variable {N : ASt -> Prop} {xs : List (Nat × (ASt -> Prop))} {R : ASt -> Prop} {σ : List ABlk} {t : Fr}
variable {B : Nat} {l : List (Oper × Bool)}
end
/-! What a map with integers for keys holds. -/
def Wg (l : List (Int × DV)) : List (Value × DV) := l.map fun p => (.int .i64 p.1, p.2)
def ifind (l : List (Int × DV)) (x : Int) : Option Nat := l.findIdx? fun p => decide (p.1 = x)
def iput (l : List (Int × DV)) (x : Int) (d : DV) : List (Int × DV) := match ifind l x with
 | some j => l.set j (x, d)
 | none => l ++ [(x, d)]
theorem ifind_some {l : List (Int × DV)} {x : Int} {j : Nat} (h : ifind l x = some j) : ∃ hj : j < l.length, l[j].1 = x /\ ∀ i (hi : i < j), (l[i]'(by omega)).1 ≠ x := by
 obtain ⟨h1, h2, h3⟩ := List.findIdx?_eq_some_iff_getElem.1 h
 exact ⟨h1, of_decide_eq_true h2, fun i hi e => h3 i hi (decide_eq_true e)⟩
theorem ifind_none {l : List (Int × DV)} {x : Int} (h : ifind l x = none) : ∀ p ∈ l, p.1 ≠ x := fun p hp e => by
 have := List.findIdx?_eq_none_iff.1 h p hp
 exact of_decide_eq_false this e
theorem findNow_none {K : IntKind} {x : Int} : ∀ (es : List MapEntry) (i0 : Nat), (∀ e ∈ es, ∃ y, y ≠ x /\ e.key = .int .i64 y) -> Instr.findNow (.int K) (.int .i64 x) es i0 = some none
 | [], _, _ => rfl
 | e :: r, i0, h => by
  obtain ⟨y, hy, hk⟩ := h e (by simp)
  have : (x == y) = false := by simpa using fun e => hy e.symm
  simp only [Instr.findNow, hk, Instr.sameNow, if_true, this]
  exact findNow_none r _ fun e he => h e (by simp [he])
theorem findNow_some {K : IntKind} {x : Int} : ∀ (es : List MapEntry) (i0 j : Nat) (hj : j < es.length), es[j].key = .int .i64 x -> (∀ i (hi : i < j), ∃ y, y ≠ x /\ (es[i]'(by omega)).key = .int .i64 y) -> Instr.findNow (.int K) (.int .i64 x) es i0 = some (some (i0 + j, es[j].val))
 | [], _, _, hj, _, _ => by simp at hj
 | e :: r, i0, 0, _, hk, _ => by
  have hk : e.key = .int .i64 x := hk
  simp only [Instr.findNow, hk, Instr.sameNow, if_true, beq_self_eq_true]
  rfl
 | e :: r, i0, j + 1, hj, hk, hno => by
  obtain ⟨y, hy, hke⟩ := hno 0 (by omega)
  have hke : e.key = .int .i64 y := hke
  have : (x == y) = false := by simpa using fun e => hy e.symm
  simp only [Instr.findNow, hke, Instr.sameNow, if_true, this]
  have := findNow_some (K := K) r (i0 + 1) j (by simpa using hj) (by simpa using hk) (fun i hi => by have := hno (i + 1) (by omega); simpa using this)
  rw [this]
  simp; omega
section
variable {P : Program} {G : Nat -> DV} {B : Nat} {f : Operand -> DV} {σ : List ABlk} {K : DV -> List ABlk -> Prop} {dst : Option Tmp} {type : TypeId} {pos : String} {after : Array Edge} {gd : Option (Nat × Bool)}
theorem live_map {X : AX} {k g : Nat} {m : List (Value × DV)} (h : X.σ[k]? = some (.mapb g m)) : X.live k g := by unfold AX.live; rw [h]; rfl
theorem Sto.map {X : AX} (hS : Sto X) {k g : Nat} {m : List (Value × DV)} (h : X.σ[k]? = some (.mapb g m)) : ∃ b n es clock, X.ρ k = some (b, n) /\ X.w.heap[b]? = some (.map es clock) /\ es.size = m.length /\ (∀ e ∈ es, e.born < clock) /\
  ∀ (j : Nat) (k : Value) (d : DV), m[j]? = some (k, d) -> (es.getD j default).key = k /\ VRep X.lay d (es.getD j default).val := hS.holds k _ h
theorem VRep.mp_inv {X : AX} {k g : Nat} {m : List (Value × DV)} {v : Value} (hm : X.σ[k]? = some (.mapb g m)) (h : VRep X.lay (.mp k g) v) {b n : Nat} (hρ : X.ρ k = some (b, n)) : v = .map (some b) := by
 cases h with | mp _ _ r h1 h2 =>
 obtain ⟨b', n', e1, e2⟩ := h2 _ (AX.row_mk (live_map hm))
 rw [hρ] at e1; cases e1
 rw [e2]
theorem s_mkmap {t : TypeId} (k : ∀ g, B < g -> K (.mp σ.length g) (σ ++ [.mapb g (Wg [])])) : OpSem P G B ⟨dst, .makeMap t none, type, pos, after, gd⟩ f σ K := fun X ρ hS hσ hB _ hf => by
 subst hσ
 simp only [execOp, Instr.makeMap, Option.map_none, run_newObj, Sem.run_bind, Sem.run_pure, Result.andThen_ok, World.alloc_eq]
 have hob : ∀ b' n, some (X.w.heap.size, 0) = some (b', n) -> X.w.heap.size <= b' := fun b' n h => by cases h; exact Nat.le_refl _
 have hk := Keep.alloc X.w (.map #[] 0)
 have hh : (ABlk.mapb (X.N + 1) (Wg [])).holds X.lay (X.w.alloc (.map #[] 0)) (some (X.w.heap.size, 0)) :=
  ⟨_, _, #[], 0, rfl, heap_alloc_new _ _, rfl, fun e he => by simp at he, fun j k d h => by simp [Wg] at h⟩
 have hS' := hS.push hk (B := .mapb (X.N + 1) (Wg [])) rfl hob hh
 refine ⟨_, rfl, hS', WExt.push hS hk rfl hob, .mp X.σ.length (X.N + 1), ?_, k (X.N + 1) (by omega)⟩
 refine .mp _ _ _ (Nat.le_refl _) fun ob hob => ?_
 rw [AX.row_mk (AX.push_live.2 (.inr ⟨rfl, rfl⟩))] at hob
 simp only [AX.push, if_true, Option.some.injEq] at hob
 subst hob
 exact ⟨_, _, rfl, rfl⟩
theorem map_keys {X : AX} {l : List (Int × DV)} {es : Array MapEntry} (hl : es.size = (Wg l).length) (h : ∀ (j : Nat) (k : Value) (d : DV), (Wg l)[j]? = some (k, d) -> (es.getD j default).key = k /\ VRep X.lay d (es.getD j default).val) :
  es.size = l.length /\ ∀ j (hj : j < l.length) (hj' : j < es.toList.length), es.toList[j].key = .int .i64 l[j].1 /\ VRep X.lay l[j].2 es.toList[j].val := by
 have hl' : es.size = l.length := by simpa [Wg] using hl
 refine ⟨hl', fun j hj hj' => ?_⟩
 have := h j (.int .i64 l[j].1) l[j].2 (by simp [Wg, hj])
 have e : es.getD j default = es.toList[j] := by simp [Array.getD_eq_getD_getElem?, show j < es.size by omega]
 rwa [e] at this
theorem run_mapUpdate_new {m kt et : TypeId} {w : World} {b clock : Nat} {es : Array MapEntry} {x : Int} {v : Value} (hm : P.underlying m = some (.map kt et)) (hk : P.underlying kt = some (.int .i64)) (hb : w.heap[b]? = some (.map es clock)) (hf : Instr.findNow (.int .i64) (.int .i64 x) es.toList 0 = some none) :
  (Instr.mapUpdate m (.map (some b)) (.int .i64 x) v).run P w = .ok () { w with heap := w.heap.setIfInBounds b (.map (es.push { key := .int .i64 x, val := v, born := clock }) (clock + 1)) } := by
 simp [Instr.mapUpdate, run_underlying hm, MapKept.run_getObj_map hb, MapKept.run_checkKey hk (k := .int .i64 x) rfl, MapKept.run_findKey hk hf, MapKept.run_setObj_map _ hb, Result.andThen]
theorem run_mapUpdate_old {m kt et : TypeId} {w : World} {b clock j : Nat} {es : Array MapEntry} {x : Int} {v u : Value} (hm : P.underlying m = some (.map kt et)) (hk : P.underlying kt = some (.int .i64)) (hb : w.heap[b]? = some (.map es clock)) (hf : Instr.findNow (.int .i64) (.int .i64 x) es.toList 0 = some (some (j, u))) (hj : j < es.size) (hkey : es[j].key = .int .i64 x) :
  (Instr.mapUpdate m (.map (some b)) (.int .i64 x) v).run P w = .ok () { w with heap := w.heap.setIfInBounds b (.map (es.modify j fun e => { e with key := .int .i64 x, val := v }) clock) } := by
 have e : ((es[j]?.map (·.key)).getD (.int .i64 x)) = .int .i64 x := by simp [hj, hkey]
 have hks : (Instr.keyThatStays (.int .i64 x) (.int .i64 x)).run P w = .ok (.int .i64 x) w := by simp [Instr.keyThatStays, Instr.sameBits]
 simp [Instr.mapUpdate, run_underlying hm, MapKept.run_getObj_map hb, MapKept.run_checkKey hk (k := .int .i64 x) rfl, MapKept.run_findKey hk hf, MapKept.run_setObj_map _ hb, Result.andThen, e, hks, hj, hkey]
theorem post_map {X : AX} (hS : Sto X) {k g b n clock : Nat} {m m' : List (Value × DV)} {es : Array MapEntry} (hσ : X.σ[k]? = some (.mapb g m)) (hρ : X.ρ k = some (b, n)) (hb : b < X.w.heap.size) (hl : es.size = m'.length) (hc : ∀ e ∈ es, e.born < clock)
  (hm : ∀ (j : Nat) (k : Value) (d : DV), m'[j]? = some (k, d) -> (es.getD j default).key = k /\ VRep X.lay d (es.getD j default).val) (hK : K (.sc undef) (X.σ.set k (.mapb g m'))) : APost X K undef { X.w with heap := X.w.heap.setIfInBounds b (.map es clock) } := by
 have hok : ReplOk X k g { X.w with heap := X.w.heap.setIfInBounds b (.map es clock) } (X.ρ k) (.mapb g m') X.N := {
  live := live_map hσ, os := rfl, tape := rfl, output := rfl, size := by simp
  block := fun b' _ hb' => by
   have : b ≠ b' := fun e => hb' n (by rw [hρ, e])
   simp [Array.getElem?_setIfInBounds_ne this]
  gen := .inr ⟨rfl, Nat.le_refl _, rfl⟩
  lies := fun b' n' h => .inr ⟨n', h⟩ }
 have hh : (ABlk.mapb g m').holds X.lay { X.w with heap := X.w.heap.setIfInBounds b (.map es clock) } (X.ρ k) := ⟨b, n, es, clock, hρ, by simp [hb], hl, hc, hm⟩
 exact ⟨_, rfl, hS.repl hok hh, WExt.repl hS hok, .sc undef, .sc _, hK⟩
theorem map_put {t kt et : TypeId} {agg a1 : Bool} {size s1 : Nat} {k g : Nat} {l : List (Int × DV)} {x : Int} {d : DV} {σ' : List ABlk} (ht : TyI P t (.map kt et) agg size) (hkt : TyI P kt (.int .i64) a1 s1) {X : AX} (hS : Sto X) {vm vk v : Value} (e1 : VRep X.lay (.mp k g) vm) (hσk : X.σ[k]? = some (.mapb g (Wg l))) (e2 : vk = .int .i64 x) (e3 : VRep X.lay d v)
  (hσ' : setA X.σ k (.mapb g (Wg (iput l x d))) = some σ') (kk : K (.sc undef) σ') : ∃ w', (Instr.mapUpdate t vm vk v).run P X.w = .ok () w' /\ APost X K undef w' := by
 subst e2
 obtain ⟨b, n, es, clock, hρ, hb, hl, hc, hes⟩ := hS.map hσk
 have e1 := VRep.mp_inv hσk e1 hρ
 subst e1
 obtain ⟨hl', hkey⟩ := map_keys hl hes
 have hlt : es.toList.length = l.length := by simpa using hl'
 have hbl := lt_of_heap hb
 rw [ZI hσ'] at kk
 cases hfi : ifind l x with
 | none =>
  have hno := ifind_none hfi
  have hf := findNow_none (K := .i64) (x := x) es.toList 0 fun e he => by
   obtain ⟨j, hj, rfl⟩ := List.getElem_of_mem he
   exact ⟨_, hno _ (List.getElem_mem (show j < l.length by omega)), (hkey j (by omega) hj).1⟩
  refine ⟨_, run_mapUpdate_new ht.u hkt.u hb hf, ?_⟩
  have hp : iput l x d = l ++ [(x, d)] := by unfold iput; rw [hfi]
  rw [hp] at kk
  refine post_map hS hσk hρ hbl (by simp [Wg, hl']) (fun e he => ?_) (fun j kv dd hj => ?_) kk
  ·rcases Array.mem_push.1 he with he | rfl
   ·exact Nat.lt_succ_of_lt (hc e he)
   ·exact Nat.lt_succ_self _
  ·have hjl : j < l.length + 1 := by have := (List.getElem?_eq_some_iff.1 hj).1; simpa [Wg] using this
   by_cases h : j < l.length
   ·have hj' : (Wg l)[j]? = some (kv, dd) := by
     rw [<- hj]; simp [Wg, List.getElem?_append, h]
    have := hes j kv dd hj'
    have e : (es.push { key := .int .i64 x, val := v, born := clock }).getD j default = es.getD j default := by
     simp [Array.getD_eq_getD_getElem?, Array.getElem?_push, show j ≠ es.size by omega]
    rw [e]; exact this
   ·have hjj : j = l.length := by omega
    subst hjj
    simp [Wg] at hj
    obtain ⟨rfl, rfl⟩ := hj
    have e : (es.push { key := .int .i64 x, val := v, born := clock }).getD l.length default = { key := .int .i64 x, val := v, born := clock } := by
     rw [<- hl']; simp [Array.getD_eq_getD_getElem?]
    rw [e]; exact ⟨rfl, e3⟩
 | some j0 =>
  obtain ⟨h1, h2, h3⟩ := ifind_some hfi
  have hj : j0 < es.toList.length := by omega
  have hk0 := (hkey j0 h1 hj).1
  rw [h2] at hk0
  have hf := findNow_some (K := .i64) (x := x) es.toList 0 j0 hj hk0 fun i hi => ⟨_, h3 i hi, (hkey i (by omega) (by omega)).1⟩
  refine ⟨_, run_mapUpdate_old ht.u hkt.u hb (by simpa using hf) (by omega) (by simpa using hk0), ?_⟩
  have hp : iput l x d = l.set j0 (x, d) := by unfold iput; rw [hfi]
  rw [hp] at kk
  refine post_map hS hσk hρ hbl (by simp [Wg, hl']) (fun e he => ?_) (fun j kv dd hj' => ?_) kk
  ·obtain ⟨i, hi, rfl⟩ := Array.getElem_of_mem he
   rw [Array.getElem_modify]
   have hi' : i < es.size := by simpa using hi
   split
   ·exact hc es[i] (Array.getElem_mem hi')
   ·exact hc _ (Array.getElem_mem hi')
  ·have hjl : j < l.length := by have := (List.getElem?_eq_some_iff.1 hj').1; simpa [Wg] using this
   by_cases h : j = j0
   ·subst h
    simp [Wg, hjl] at hj'
    obtain ⟨rfl, rfl⟩ := hj'
    have e : ((es.modify j fun e => { e with key := .int .i64 x, val := v }).getD j default).key = .int .i64 x /\ ((es.modify j fun e => { e with key := .int .i64 x, val := v }).getD j default).val = v := by
     rw [Array.getD_eq_getD_getElem?, Array.getElem?_modify, if_pos rfl, Array.getElem?_eq_getElem (show j < es.size by omega)]
     exact ⟨rfl, rfl⟩
    rw [e.1, e.2]; exact ⟨rfl, e3⟩
   ·have hj2 : (Wg l)[j]? = some (kv, dd) := by
     rw [<- hj']; simp [Wg, List.getElem?_set, show ¬ j0 = j from fun e => h e.symm]
    have := hes j kv dd hj2
    have e : (es.modify j0 fun e => { e with key := .int .i64 x, val := v }).getD j default = es.getD j default := by
     simp [Array.getD_eq_getD_getElem?, Array.getElem?_modify, show ¬ j0 = j from fun e => h e.symm]
    rw [e]; exact this
theorem s_mapupd {t kt et : TypeId} {agg a1 : Bool} {size s1 : Nat} {m ix y : Operand} {k g : Nat} {l : List (Int × DV)} {x : Int} {d : DV} {σ' : List ABlk} [ht : TyI P t (.map kt et) agg size] [hkt : TyI P kt (.int .i64) a1 s1] (hm : f m = .mp k g) (hσk : σ[k]? = some (.mapb g (Wg l))) (hx : f ix = .sc (.int .i64 x)) (hy : f y = d)
  (hσ' : setA σ k (.mapb g (Wg (iput l x d))) = some σ') (kk : K (.sc undef) σ') : OpSem P G B ⟨dst, .mapUpdate t m ix y, type, pos, after, gd⟩ f σ K := fun X ρ hS hσ hB _ hf => by
 subst hσ
 have e1 := hf m (by simp [Op.operands]); rw [hm] at e1
 have e2 := hf ix (by simp [Op.operands]); rw [hx] at e2
 have e3 := hf y (by simp [Op.operands]); rw [hy] at e3
 obtain ⟨w', h1, h2⟩ := map_put (K := K) ht hkt hS e1 hσk (VRep.sc_eq e2) e3 hσ' kk
 simp only [execOp, h1, Sem.run_bind, Sem.run_pure, Result.andThen_ok]
 exact h2
end
inductive RenS (q : Nat -> Nat) : DV -> DV -> Prop
 | clo {d : DV} : d.clo = true -> RenS q d d
 | ref {k i g o l e : Nat} : k = q i -> RenS q (.ref k g o l e) (.ref i g o l e)
 | ptr {k i g o : Nat} : k = q i -> RenS q (.ptr k g o) (.ptr i g o)
 | mp {k i g : Nat} : k = q i -> RenS q (.mp k g) (.mp i g)
inductive RenL (R : DV -> DV -> Prop) : List DV -> List DV -> Prop
 | nil : RenL R [] []
 | cons {d e : DV} {r s : List DV} : R d e -> RenL R r s -> RenL R (d :: r) (e :: s)
inductive RenD (q : Nat -> Nat) : DV -> DV -> Prop
 | s {d e : DV} : RenS q d e -> RenD q d e
 | fn {F : Fn} {a a' c c' : List DV} : RenL (RenS q) a a' -> RenL (RenS q) c c' -> RenD q (.fn F a c) (.fn F a' c')
 | tup {a a' : List DV} : RenL (RenS q) a a' -> RenD q (.tup a) (.tup a')
inductive RenB (q : Nat -> Nat) : ABlk -> ABlk -> Prop
 | gone : RenB q .gone .gone
 | row {g : Nat} {cs cs' : List DV} : RenL (RenS q) cs cs' -> RenB q (.row g cs) (.row g cs')
 | rowc {g : Nat} {cs : List DV} : (∀ d ∈ cs, d.clo = true) -> RenB q (.row g cs) (.row g cs)
 | map {g : Nat} {m : List (Value × DV)} : (∀ p ∈ m, p.2.clo = true) -> RenB q (.mapb g m) (.mapb g m)
inductive RenBs (q : Nat -> Nat) : List ABlk -> List ABlk -> Prop
 | nil : RenBs q [] []
 | cons {d e : ABlk} {r s : List ABlk} : RenB q d e -> RenBs q r s -> RenBs q (d :: r) (e :: s)
theorem RenL.get {R : DV -> DV -> Prop} {a b : List DV} (h : RenL R a b) : a.length = b.length /\ ∀ (j : Nat) (d e : DV), a[j]? = some d -> b[j]? = some e -> R d e := by
 induction h with
 | nil => exact ⟨rfl, fun j d e h => by simp at h⟩
 | cons h1 _ ih =>
  refine ⟨by simp [ih.1], fun j d e hd he => ?_⟩
  cases j with
  | zero => simp at hd he; subst hd; subst he; exact h1
  | succ j => exact ih.2 j d e (by simpa using hd) (by simpa using he)
theorem RenBs.get {q : Nat -> Nat} {a b : List ABlk} (h : RenBs q a b) : a.length = b.length /\ ∀ (j : Nat) (d e : ABlk), a[j]? = some d -> b[j]? = some e -> RenB q d e := by
 induction h with
 | nil => exact ⟨rfl, fun j d e h => by simp at h⟩
 | cons h1 _ ih =>
  refine ⟨by simp [ih.1], fun j d e hd he => ?_⟩
  cases j with
  | zero => simp at hd he; subst hd; subst he; exact h1
  | succ j => exact ih.2 j d e (by simpa using hd) (by simpa using he)
theorem RenB.gen {q : Nat -> Nat} {a b : ABlk} (h : RenB q a b) : a.gen? = b.gen? := by cases h <;> rfl
theorem RenS.one {q : Nat -> Nat} {d e : DV} (h : RenS q d e) : d.one = e.one := by cases h <;> rfl
section
variable {q : Nat -> Nat} {L L' : Lay}
theorem RenS.to (himm : ∀ b o v, L.imm b o = some v -> L'.imm b o = some v) (htop : L.top <= L'.top) (hrow : ∀ i g ob, L'.row i g = some ob -> L.row (q i) g = some ob) {d e : DV} {v : Value} (h : RenS q d e) (hv : VRep L d v) : VRep L' e v := by
 cases h with
 | clo hc => exact hv.mono_clo himm hc
 | ref hk => subst hk; cases hv with | ref _ _ _ _ _ a l c h1 h2 => exact .ref _ _ _ _ _ _ _ _ (Nat.le_trans h1 htop) fun ob hob => h2 ob (hrow _ _ ob hob)
 | ptr hk => subst hk; cases hv with | ptr _ _ _ a h1 h2 => exact .ptr _ _ _ _ (Nat.le_trans h1 htop) fun ob hob => h2 ob (hrow _ _ ob hob)
 | mp hk => subst hk; cases hv with | mp _ _ r h1 h2 => exact .mp _ _ _ (Nat.le_trans h1 htop) fun ob hob => h2 ob (hrow _ _ ob hob)
theorem RenS.from (himm : ∀ b o v, L.imm b o = some v -> L'.imm b o = some v) (htop : L.top <= L'.top) (hrow : ∀ i g ob, L'.row (q i) g = some ob -> L.row i g = some ob) {d e : DV} {v : Value} (h : RenS q d e) (hv : VRep L e v) : VRep L' d v := by
 cases h with
 | clo hc => exact hv.mono_clo himm hc
 | ref hk => subst hk; cases hv with | ref _ _ _ _ _ a l c h1 h2 => exact .ref _ _ _ _ _ _ _ _ (Nat.le_trans h1 htop) fun ob hob => h2 ob (hrow _ _ ob hob)
 | ptr hk => subst hk; cases hv with | ptr _ _ _ a h1 h2 => exact .ptr _ _ _ _ (Nat.le_trans h1 htop) fun ob hob => h2 ob (hrow _ _ ob hob)
 | mp hk => subst hk; cases hv with | mp _ _ r h1 h2 => exact .mp _ _ _ (Nat.le_trans h1 htop) fun ob hob => h2 ob (hrow _ _ ob hob)
theorem RenD.to (himm : ∀ b o v, L.imm b o = some v -> L'.imm b o = some v) (htop : L.top <= L'.top) (hrow : ∀ i g ob, L'.row i g = some ob -> L.row (q i) g = some ob) {d e : DV} {v : Value} (h : RenD q d e) (hv : VRep L d v) : VRep L' e v := by
 have lift : ∀ {a a' : List DV} {vs : Array Value}, RenL (RenS q) a a' -> (∀ j d, a[j]? = some d -> VRep L d (vs.getD j undef)) -> ∀ j e, a'[j]? = some e -> VRep L' e (vs.getD j undef) := fun hl hv j e he => by
  obtain ⟨h1, h2⟩ := hl.get
  have hj := (List.getElem?_eq_some_iff.1 he).1
  have hd := List.getElem?_eq_getElem (show j < _ by rw [h1]; exact hj)
  exact (h2 j _ e hd he).to himm htop hrow (hv j _ hd)
 cases h with
 | s h => exact h.to himm htop hrow hv
 | fn ha hc => cases hv with | fn _ _ _ fs cs h1 h2 h3 h4 => exact .fn _ _ _ _ _ (by rw [h1, ha.get.1]) (by rw [h2, hc.get.1]) (lift ha h3) (lift hc h4)
 | tup ha => cases hv with | tup _ vs h1 h2 => exact .tup _ _ (by rw [h1, ha.get.1]) (lift ha h2)
theorem RenD.from (himm : ∀ b o v, L.imm b o = some v -> L'.imm b o = some v) (htop : L.top <= L'.top) (hrow : ∀ i g ob, L'.row (q i) g = some ob -> L.row i g = some ob) {d e : DV} {v : Value} (h : RenD q d e) (hv : VRep L e v) : VRep L' d v := by
 have lift : ∀ {a a' : List DV} {vs : Array Value}, RenL (RenS q) a a' -> (∀ j d, a'[j]? = some d -> VRep L d (vs.getD j undef)) -> ∀ j e, a[j]? = some e -> VRep L' e (vs.getD j undef) := fun hl hv j e he => by
  obtain ⟨h1, h2⟩ := hl.get
  have hj := (List.getElem?_eq_some_iff.1 he).1
  have hd := List.getElem?_eq_getElem (show j < _ by rw [<- h1]; exact hj)
  exact (h2 j e _ he hd).from himm htop hrow (hv j _ hd)
 cases h with
 | s h => exact h.from himm htop hrow hv
 | fn ha hc => cases hv with | fn _ _ _ fs cs h1 h2 h3 h4 => exact .fn _ _ _ _ _ (by rw [h1, ha.get.1]) (by rw [h2, hc.get.1]) (lift ha h3) (lift hc h4)
 | tup ha => cases hv with | tup _ vs h1 h2 => exact .tup _ _ (by rw [h1, ha.get.1]) (lift ha h2)
theorem RenB.turn {w : World} {ob : Option (Nat × Nat)} {a b : ABlk} (ha : ∀ d e v, RenS q d e -> VRep L d v -> VRep L' e v) (h : RenB q a b) (hh : a.holds L w ob) : b.holds L' w ob := by
 cases h with
 | gone => trivial
 | rowc hc =>
  cases ob with
  | none => exact hh
  | some z =>
   obtain ⟨arr, T, fr, q1, q2, q3, q4, q5⟩ := hh
   exact ⟨arr, T, fr, q1, q2, q3, q4, fun j d hj => ⟨(q5 j d hj).1, ha _ _ _ (.clo (hc d (List.mem_of_getElem? hj))) (q5 j d hj).2⟩⟩
 | row hl =>
  obtain ⟨h1, h2⟩ := hl.get
  cases ob with
  | none => exact List.eq_nil_of_length_eq_zero (by rw [<- h1, show _ = [] from hh]; rfl)
  | some z =>
   obtain ⟨arr, T, fr, q1, q2, q3, q4, q5⟩ := hh
   refine ⟨arr, T, fr, q1, q2, by omega, q4, fun j e he => ?_⟩
   have hj := (List.getElem?_eq_some_iff.1 he).1
   have hd := List.getElem?_eq_getElem (show j < _ by rw [h1]; exact hj)
   have hr := h2 j _ e hd he
   exact ⟨by rw [<- hr.one]; exact (q5 j _ hd).1, ha _ _ _ hr (q5 j _ hd).2⟩
 | map hc =>
  obtain ⟨b, n, es, clock, q0, q1, q2, q3, q4⟩ := hh
  exact ⟨b, n, es, clock, q0, q1, q2, q3, fun j k d hj => ⟨(q4 j k d hj).1, ha _ _ _ (.clo (hc (k, d) (List.mem_of_getElem? hj))) (q4 j k d hj).2⟩⟩
theorem RenB.back {w : World} {ob : Option (Nat × Nat)} {a b : ABlk} (ha : ∀ d e v, RenS q d e -> VRep L e v -> VRep L' d v) (h : RenB q a b) (hh : b.holds L w ob) : a.holds L' w ob := by
 cases h with
 | gone => trivial
 | rowc hc =>
  cases ob with
  | none => exact hh
  | some z =>
   obtain ⟨arr, T, fr, q1, q2, q3, q4, q5⟩ := hh
   exact ⟨arr, T, fr, q1, q2, q3, q4, fun j d hj => ⟨(q5 j d hj).1, ha _ _ _ (.clo (hc d (List.mem_of_getElem? hj))) (q5 j d hj).2⟩⟩
 | row hl =>
  obtain ⟨h1, h2⟩ := hl.get
  cases ob with
  | none => exact List.eq_nil_of_length_eq_zero (by rw [h1, show _ = [] from hh]; rfl)
  | some z =>
   obtain ⟨arr, T, fr, q1, q2, q3, q4, q5⟩ := hh
   refine ⟨arr, T, fr, q1, q2, by omega, q4, fun j e he => ?_⟩
   have hj := (List.getElem?_eq_some_iff.1 he).1
   have hd := List.getElem?_eq_getElem (show j < _ by rw [<- h1]; exact hj)
   have hr := h2 j e _ he hd
   exact ⟨by rw [hr.one]; exact (q5 j _ hd).1, ha _ _ _ hr (q5 j _ hd).2⟩
 | map hc =>
  obtain ⟨b, n, es, clock, q0, q1, q2, q3, q4⟩ := hh
  exact ⟨b, n, es, clock, q0, q1, q2, q3, fun j k d hj => ⟨(q4 j k d hj).1, ha _ _ _ (.clo (hc (k, d) (List.mem_of_getElem? hj))) (q4 j k d hj).2⟩⟩
end
theorem nodup_inj {ps : List Nat} (h : ps.Nodup) {i j : Nat} (hi : i < ps.length) (hj : j < ps.length) (e : ps[i] = ps[j]) : i = j := by
 have := List.pairwise_iff_getElem.1 h
 rcases Nat.lt_trichotomy i j with h' | h' | h'
 ·exact absurd e (this i j hi hj h')
 ·exact h'
 ·exact absurd e.symm (this j i hj hi h')
theorem idxOf_nodup {ps : List Nat} (h : ps.Nodup) {i : Nat} (hi : i < ps.length) : ps.idxOf ps[i] = i := by
 have h1 := List.idxOf_lt_length_of_mem (List.getElem_mem hi)
 exact nodup_inj h h1 hi (List.getElem_idxOf h1)
def qf (ps : List Nat) (n i : Nat) : Nat := match ps[i]? with
 | some k => k
 | none => n + (i - ps.length)
theorem qf_in {ps : List Nat} {n i : Nat} (h : i < ps.length) : qf ps n i = ps[i] := by unfold qf; rw [List.getElem?_eq_getElem h]
theorem qf_out {ps : List Nat} {n i : Nat} (h : ps.length <= i) : qf ps n i = n + (i - ps.length) := by unfold qf; rw [List.getElem?_eq_none h]
structure Out (σ τ τ' : List ABlk) (ps : List Nat) (d d' : DV) (σ' : List ABlk) : Prop where
 d : RenD (qf ps σ.length) d d'
 le : τ.length <= τ'.length
 len : σ'.length = σ.length + (τ'.length - τ.length)
 keep : ∀ j, j < σ.length -> j ∉ ps -> σ'[j]? = σ[j]?
 new : ∀ i B', τ'[i]? = some B' -> ∃ B, σ'[qf ps σ.length i]? = some B /\ RenB (qf ps σ.length) B B'
section
variable {P : Program} {G : Nat -> DV}
theorem ACalls.sub {f : FuncId} {args ds : List DV} {B : Nat} {σ τ : List ABlk} {ps : List Nat} {R : Nat -> DV -> List ABlk -> Prop} {K : DV -> List ABlk -> Prop} (hargs : RenL (RenD (qf ps σ.length)) args ds) (hps : ps.Nodup) (hlen : ps.length = τ.length)
  (hτ : ∀ i (h : i < ps.length), ∃ b b', σ[ps[i]]? = some b /\ τ[i]? = some b' /\ RenB (qf ps σ.length) b b')
  (h : ∀ B', B <= B' -> (∀ (i : Nat) (b : ABlk) (g : Nat), τ[i]? = some b -> b.gen? = some g -> g <= B') -> ACalls P G B' f ds τ (R B')) (k : ∀ B' d' τ', B <= B' -> R B' d' τ' -> ∃ d σ', Out σ τ τ' ps d d' σ' /\ K d σ') : ACalls P G B f args σ K := fun X vs hS hσ hB hG hvs => by
 subst hσ
 have hin : ∀ i, i < ps.length -> ps[i]! < X.σ.length := fun i hi => by
  obtain ⟨b, b', h1, _⟩ := hτ i hi
  rw [getElem!_pos ps i hi]; exact (List.getElem?_eq_some_iff.1 h1).1
 let Y : AX := { w := X.w, ρ := fun i => X.ρ (qf ps X.σ.length i), σ := τ, N := X.N, hid := fun b => X.hid b \/ (X.mut b /\ ∀ i g n, i < ps.length -> X.live (qf ps X.σ.length i) g -> X.ρ (qf ps X.σ.length i) ≠ some (b, n)) }
 have hYl : ∀ i g, Y.live i g ↔ i < ps.length /\ X.live (qf ps X.σ.length i) g := fun i g => by
  by_cases hi : i < ps.length
  ·obtain ⟨b, b', h1, h2, h3⟩ := hτ i hi
   rw [qf_in hi]
   simp only [Y, AX.live, h1, h2, Option.bind_some, h3.gen, hi, true_and]
  ·simp only [hi, false_and, iff_false]
   intro hl
   exact hi (by rw [hlen]; exact AX.live_lt hl)
 have hYm : ∀ b, Y.mut b ↔ ∃ i g n, i < ps.length /\ X.live (qf ps X.σ.length i) g /\ X.ρ (qf ps X.σ.length i) = some (b, n) := fun b => by
  constructor
  ·rintro ⟨i, g, n, hl, hr⟩
   obtain ⟨h1, h2⟩ := (hYl i g).1 hl
   exact ⟨i, g, n, h1, h2, hr⟩
  ·rintro ⟨i, g, n, h1, h2, h3⟩; exact ⟨i, g, n, (hYl i g).2 ⟨h1, h2⟩, h3⟩
 have hYX : ∀ b, Y.mut b -> X.mut b := fun b hb => by
  obtain ⟨i, g, n, _, h2, h3⟩ := (hYm b).1 hb
  exact ⟨_, g, n, h2, h3⟩
 have qinj : ∀ i i', i < ps.length -> i' < ps.length -> qf ps X.σ.length i = qf ps X.σ.length i' -> i = i' := fun i i' hi hi' he => by
  rw [qf_in hi, qf_in hi'] at he
  exact nodup_inj hps hi hi' he
 have himm : ∀ b o v, X.lay.imm b o = some v -> Y.lay.imm b o = some v := fun b o v hv => by
  obtain ⟨_, h2, h3, h4⟩ := AX.imm_lt hv
  exact AX.imm_mk (fun hm => h2 (hYX b hm)) (fun hh => hh.elim h3 (fun hh => h2 hh.1)) h4
 have hrow : ∀ i g ob, Y.lay.row i g = some ob -> X.lay.row (qf ps X.σ.length i) g = some ob := fun i g ob hob => by
  obtain ⟨h1, h2⟩ := AX.row_of hob
  rw [AX.row_mk ((hYl i g).1 h1).2]
  exact congrArg some h2
 have hYS : Sto Y := {
  inj := fun i i' g1 g2 b n1 n2 h1 h2 h3 h4 => by
   obtain ⟨e1, e2⟩ := (hYl i g1).1 h1
   obtain ⟨e3, e4⟩ := (hYl i' g2).1 h2
   exact qinj i i' e1 e3 (hS.inj _ _ g1 g2 b n1 n2 e2 e4 h3 h4)
  gen := fun i g h1 => hS.gen _ g ((hYl i g).1 h1).2
  hid := fun b hm hh => by
   obtain ⟨i, g, n, h1, h2, h3⟩ := (hYm b).1 hm
   rcases hh with hh | ⟨_, hh⟩
   ·exact hS.hid b ⟨_, g, n, h2, h3⟩ hh
   ·exact hh i g n h1 h2 h3
  hidlt := fun b hh => by
   rcases hh with hh | ⟨hh, _⟩
   ·exact hS.hidlt b hh
   ·exact hS.mut_lt hh
  holds := fun i b' hb' => by
   have hb' : τ[i]? = some b' := hb'
   have hi : i < ps.length := by rw [hlen]; exact (List.getElem?_eq_some_iff.1 hb').1
   obtain ⟨b, b'', h1, h2, h3⟩ := hτ i hi
   rw [h2] at hb'; cases hb'
   have hh := hS.holds _ b (by rw [<- qf_in (n := X.σ.length) hi] at h1; exact h1)
   exact h3.turn (fun d e v hr hv => hr.to himm (Nat.le_refl _) hrow hv) hh }
 have hG' : GOk G Y := fun gg => ⟨(hG gg).1, (hG gg).2.mono_clo himm (hG gg).1⟩
 have hargs' : VReps Y.lay ds vs := by
  obtain ⟨h1, h2⟩ := hvs
  obtain ⟨g1, g2⟩ := hargs.get
  refine ⟨by rw [h1, g1], fun j e hj => ?_⟩
  have hlt : j < args.length := by rw [g1]; exact (List.getElem?_eq_some_iff.1 hj).1
  exact (g2 j _ e (List.getElem?_eq_getElem hlt) hj).to himm (Nat.le_refl _) hrow (h2 j _ (List.getElem?_eq_getElem hlt))
 refine (h X.N hB (fun i b g hi hg => hYS.gen i g ((AX.live_get (X := Y) (k := i) (B := b) hi).2 hg)) Y vs hYS rfl (Nat.le_refl _) hG' hargs').mono ?_
 rintro e w' ⟨v, he, Z, hw, hZS, hE, d', hrep, hR⟩
 subst hw
 obtain ⟨d, σ', hO, hK⟩ := k X.N d' Z.σ hB hR
 have hl0 : ps.length <= Z.σ.length := by rw [hlen]; exact hO.le
 have hl1 : σ'.length = X.σ.length + (Z.σ.length - ps.length) := by rw [hlen]; exact hO.len
 -- the caller's places: which block of the callee's lies there
 let src : Nat -> Option Nat := fun j => if j ∈ ps then some (ps.idxOf j) else if j < X.σ.length then none else some (ps.length + (j - X.σ.length))
 have src_q : ∀ i, src (qf ps X.σ.length i) = some i := fun i => by
  by_cases hi : i < ps.length
  ·rw [qf_in hi]
   simp only [src, List.getElem_mem, if_true]
   rw [idxOf_nodup hps hi]
  ·rw [qf_out (by omega)]
   have : X.σ.length + (i - ps.length) ∉ ps := fun hm => by
    obtain ⟨i', hi', he⟩ := List.getElem_of_mem hm
    have := hin i' hi'
    rw [getElem!_pos ps i' hi'] at this
    omega
   simp only [src, this, if_false]
   rw [if_neg (by omega)]
   congr 1; omega
 have q_src : ∀ j i, src j = some i -> j = qf ps X.σ.length i := fun j i hji => by
  simp only [src] at hji
  split at hji
  ·rename_i hm
   cases hji
   have := List.idxOf_lt_length_of_mem hm
   rw [qf_in this, List.getElem_idxOf]
  ·split at hji
   ·cases hji
   ·cases hji
    rw [qf_out (by omega)]; omega
 have src_n : ∀ j, src j = none -> j < X.σ.length /\ j ∉ ps := fun j hj => by
  simp only [src] at hj
  split at hj
  ·cases hj
  ·split at hj
   ·rename_i h1 h2; exact ⟨h2, h1⟩
   ·cases hj
 let W : AX := { w := Z.w, ρ := fun j => match src j with | some i => Z.ρ i | none => X.ρ j, σ := σ', N := Z.N, hid := X.hid }
 have hWq : ∀ i, W.ρ (qf ps X.σ.length i) = Z.ρ i := fun i => by simp only [W, src_q]
 have hWn : ∀ j, src j = none -> W.ρ j = X.ρ j := fun j hj => by simp only [W, hj]
 have hWl : ∀ i g, W.live (qf ps X.σ.length i) g ↔ Z.live i g := fun i g => by
  by_cases hi : i < Z.σ.length
  ·obtain ⟨b, h1, h2⟩ := hO.new i _ (List.getElem?_eq_getElem hi)
   simp only [W, AX.live, h1, List.getElem?_eq_getElem hi, Option.bind_some, h2.gen]
  ·constructor
   ·intro hl
    have := AX.live_lt hl
    have hq : qf ps X.σ.length i = X.σ.length + (i - ps.length) := qf_out (by omega)
    rw [hq] at this
    have hs : W.σ.length = σ'.length := rfl
    omega
   ·intro hl; exact absurd (AX.live_lt hl) hi
 have hWk : ∀ j g, src j = none -> (W.live j g ↔ X.live j g) := fun j g hj => by
  obtain ⟨h1, h2⟩ := src_n j hj
  simp only [W, AX.live, hO.keep j h1 h2]
 have hcase : ∀ j, (src j = none) \/ ∃ i, j = qf ps X.σ.length i := fun j => by
  cases hj : src j with
  | none => exact .inl rfl
  | some i => exact .inr ⟨i, q_src j i hj⟩
 -- a block of the caller's that the callee does not see
 have hfar : ∀ j g b n, src j = none -> X.live j g -> X.ρ j = some (b, n) -> ¬ Y.mut b := fun j g b n hj hl hr hm => by
  obtain ⟨i, g', n', h1, h2, h3⟩ := (hYm b).1 hm
  have := hS.inj j _ g g' b n n' hl h2 hr h3
  rw [this, src_q] at hj; cases hj
 have hWm : ∀ b, W.mut b -> (X.mut b /\ ¬ Y.mut b) \/ Z.mut b := fun b ⟨j, g, n, hl, hr⟩ => by
  rcases hcase j with hj | ⟨i, rfl⟩
  ·rw [hWn j hj] at hr
   have hl := (hWk j g hj).1 hl
   exact .inl ⟨⟨j, g, n, hl, hr⟩, hfar j g b n hj hl hr⟩
  ·rw [hWq] at hr
   exact .inr ⟨i, g, n, (hWl i g).1 hl, hr⟩
 have hEW : WExt X W := {
  hid := rfl, top := hE.top, os := hE.os, tape := hE.tape, output := hE.output, size := hE.size
  old := fun b hb hm => by
   obtain ⟨h1, h2⟩ := hE.old b hb fun h => hm (hYX b h)
   exact ⟨h1, fun h => (hWm b h).elim (fun h => hm h.1) h2⟩
  rows := fun j g hg hl => by
   rcases hcase j with hj | ⟨i, rfl⟩
   ·exact ⟨(hWk j g hj).1 hl, hWn j hj⟩
   ·obtain ⟨h1, h2⟩ := hE.rows i g hg ((hWl i g).1 hl)
    exact ⟨((hYl i g).1 h1).2, by rw [hWq, h2]⟩ }
 have himm' : ∀ b o v, Z.lay.imm b o = some v -> W.lay.imm b o = some v := fun b o v hv => by
  obtain ⟨_, h2, h3, h4⟩ := AX.imm_lt hv
  rw [hE.hid] at h3
  refine AX.imm_mk (fun hm => ?_) (fun hh => h3 (.inl hh)) h4
  rcases hWm b hm with ⟨h5, h6⟩ | h5
  ·exact h3 (.inr ⟨h5, fun i g n hi hl hr => h6 ((hYm b).2 ⟨i, g, n, hi, hl, hr⟩)⟩)
  ·exact h2 h5
 have hrow' : ∀ i g ob, W.lay.row (qf ps X.σ.length i) g = some ob -> Z.lay.row i g = some ob := fun i g ob hob => by
  obtain ⟨h1, h2⟩ := AX.row_of hob
  rw [AX.row_mk ((hWl i g).1 h1), <- hWq, h2]
 have hSW : Sto W := {
  inj := fun j j' g1 g2 b n1 n2 h1 h2 h3 h4 => by
   rcases hcase j with hj | ⟨i, rfl⟩ <;> rcases hcase j' with hj' | ⟨i', rfl⟩
   ·rw [hWn j hj] at h3; rw [hWn j' hj'] at h4
    exact hS.inj j j' g1 g2 b n1 n2 ((hWk j g1 hj).1 h1) ((hWk j' g2 hj').1 h2) h3 h4
   ·rw [hWn j hj] at h3; rw [hWq] at h4
    have hl := (hWk j g1 hj).1 h1
    exact absurd ⟨i', g2, n2, (hWl i' g2).1 h2, h4⟩ (hE.old b (hS.ρ_lt hl h3) (hfar j g1 b n1 hj hl h3)).2
   ·rw [hWn j' hj'] at h4; rw [hWq] at h3
    have hl := (hWk j' g2 hj').1 h2
    exact absurd ⟨i, g1, n1, (hWl i g1).1 h1, h3⟩ (hE.old b (hS.ρ_lt hl h4) (hfar j' g2 b n2 hj' hl h4)).2
   ·rw [hWq] at h3 h4
    rw [hZS.inj i i' g1 g2 b n1 n2 ((hWl i g1).1 h1) ((hWl i' g2).1 h2) h3 h4]
  gen := fun j g hl => by
   rcases hcase j with hj | ⟨i, rfl⟩
   ·exact Nat.le_trans (hS.gen j g ((hWk j g hj).1 hl)) hE.top
   ·exact hZS.gen i g ((hWl i g).1 hl)
  hid := fun b hm hh => by
   rcases hWm b hm with ⟨h1, _⟩ | h1
   ·exact hS.hid b h1 hh
   ·exact hZS.hid b h1 (by rw [hE.hid]; exact .inl hh)
  hidlt := fun b hb => Nat.lt_of_lt_of_le (hS.hidlt b hb) hE.size
  holds := fun j b hb => by
   have hb : σ'[j]? = some b := hb
   rcases hcase j with hj | ⟨i, rfl⟩
   ·obtain ⟨h1, h2⟩ := src_n j hj
    rw [hO.keep j h1 h2] at hb
    rw [hWn j hj]
    cases hg : b.gen? with
    | none => cases b <;> first | trivial | cases hg
    | some g =>
     have hl := (AX.live_get hb).2 hg
     exact (hS.holds j b hb).mono hEW.le fun b' n hb' => (hE.old b' (hS.ρ_lt hl hb') (hfar j g b' n hj hl hb')).1
   ·rw [hWq]
    have hi : i < Z.σ.length := by
     by_cases hi : i < Z.σ.length
     ·exact hi
     ·have := (List.getElem?_eq_some_iff.1 hb).1
      rw [qf_out (by omega)] at this
      omega
    obtain ⟨b2, h1, h2⟩ := hO.new i _ (List.getElem?_eq_getElem hi)
    rw [h1] at hb; cases hb
    exact h2.back (fun d e v hr hv => hr.from himm' (Nat.le_refl _) hrow' hv) (hZS.holds i _ (List.getElem?_eq_getElem hi)) }
 exact ⟨v, he, W, rfl, hSW, hEW, d, hO.d.from himm' (Nat.le_refl _) hrow' hrep, hK⟩
def setAll : List ABlk -> List Nat -> List ABlk -> Option (List ABlk)
 | σ, [], [] => some σ
 | σ, p :: ps, b :: bs => match setA σ p b with | some σ1 => setAll σ1 ps bs | none => none
 | _, _, _ => none
def pickA (σ : List ABlk) : List Nat -> Option (List ABlk)
 | [] => some []
 | p :: ps => match σ[p]?, pickA σ ps with | some b, some r => some (b :: r) | _, _ => none
theorem pickA_eq {σ : List ABlk} : ∀ {ps : List Nat} {bs : List ABlk}, pickA σ ps = some bs -> ps.length = bs.length /\ ∀ (i : Nat) (h : i < ps.length), ∃ b, σ[ps[i]]? = some b /\ bs[i]? = some b
 | [], bs, h => by cases h; exact ⟨rfl, fun i h => by simp at h⟩
 | p :: ps, bs, h => by
  simp only [pickA] at h
  split at h
  ·rename_i b r h1 h2
   cases h
   obtain ⟨k1, k2⟩ := pickA_eq h2
   refine ⟨by simp [k1], fun i hi => ?_⟩
   cases i with
   | zero => exact ⟨b, h1, rfl⟩
   | succ i =>
    obtain ⟨b', e1, e2⟩ := k2 i (by simpa using hi)
    exact ⟨b', by simpa using e1, by simpa using e2⟩
  ·cases h
theorem setA_len {σ σ' : List ABlk} {p : Nat} {b : ABlk} (h : setA σ p b = some σ') : p < σ.length := by
 induction σ generalizing p σ' with
 | nil => simp [setA] at h
 | cons a r ih =>
  cases p with
  | zero => simp
  | succ p =>
   simp only [setA] at h
   split at h
   ·rename_i r' hr; have := ih hr; simp; omega
   ·cases h
theorem setAll_eq : ∀ {ps : List Nat} {σ bs σ' : List ABlk}, setAll σ ps bs = some σ' -> ps.Nodup -> ps.length = bs.length /\ σ'.length = σ.length /\ (∀ j, j ∉ ps -> σ'[j]? = σ[j]?) /\ ∀ (i : Nat) (h : i < ps.length), σ'[ps[i]]? = bs[i]?
 | [], σ, bs, σ', h, _ => by
  cases bs with
  | nil => simp only [setAll] at h; cases h; exact ⟨rfl, rfl, fun j _ => rfl, fun i h => by simp at h⟩
  | cons b bs => simp [setAll] at h
 | p :: ps, σ, [], σ', h, _ => by simp [setAll] at h
 | p :: ps, σ, b :: bs, σ', h, hn => by
  simp only [setAll] at h
  split at h
  ·rename_i σ1 h1
   have hpl := setA_len h1
   have e1 := ZI h1
   obtain ⟨hp, hn'⟩ := List.nodup_cons.1 hn
   obtain ⟨k1, k2, k3, k4⟩ := setAll_eq h hn'
   subst e1
   refine ⟨by simp [k1], by rw [k2]; simp, fun j hj => ?_, fun i hi => ?_⟩
   ·simp only [List.mem_cons, not_or] at hj
    rw [k3 j hj.2, List.getElem?_set_ne (fun e => hj.1 e.symm)]
   ·cases i with
    | zero =>
     simp only [List.getElem_cons_zero, List.getElem?_cons_zero]
     rw [k3 p hp, List.getElem?_set_self hpl]
    | succ i => simpa using k4 i (by simpa using hi)
  ·cases h
theorem Out.of {σ τ τ' bs σ' : List ABlk} {ps : List Nat} {d d' : DV} (hd : RenD (qf ps σ.length) d d') (hps : ps.Nodup) (hl : ps.length = τ.length) (hbs : RenBs (qf ps σ.length) bs τ') (hσ : setAll σ ps bs = some σ') : Out σ τ τ' ps d d' σ' := by
 obtain ⟨k1, k2, k3, k4⟩ := setAll_eq hσ hps
 obtain ⟨h1, h2⟩ := hbs.get
 refine ⟨hd, by omega, by omega, fun j _ hj => k3 j hj, fun i B' hB' => ?_⟩
 have hi : i < ps.length := by have := (List.getElem?_eq_some_iff.1 hB').1; omega
 have hb := List.getElem?_eq_getElem (show i < bs.length by omega)
 exact ⟨_, by rw [qf_in hi, k4 i hi]; exact hb, h2 i _ B' hb hB'⟩
variable {B : Nat} {f : Operand -> DV} {σ : List ABlk} {K : DV -> List ABlk -> Prop} {dst : Option Tmp} {type : TypeId} {pos : String} {after : Array Edge} {gd : Option (Nat × Bool)}
theorem Zh {args : Array Operand} {ts : Array TypeId} {fid : FuncId} {es ds : List DV} {τ cs : List ABlk} {R : Nat -> DV -> List ABlk -> Prop} [FnOk P fid] (ps : List Nat) (hx : f (.func fid) = .fn (.func fid) [] []) (hds : reL (args.toList.map f) = some es) (hargs : RenL (RenD (qf ps σ.length)) es ds) (hps : ps.Nodup)
  (hcs : pickA σ ps = some cs) (hτ : RenBs (qf ps σ.length) cs τ) (h : ∀ B', B <= B' -> (∀ (i : Nat) (b : ABlk) (g : Nat), τ[i]? = some b -> b.gen? = some g -> g <= B') -> ACalls P G B' fid ds τ (R B'))
  (k : ∀ B' d' τ', B <= B' -> R B' d' τ' -> ∃ d bs σ', RenD (qf ps σ.length) d d' /\ RenBs (qf ps σ.length) bs τ' /\ setAll σ ps bs = some σ' /\ K d σ') : OpSem P G B ⟨dst, .call ⟨.value (.func fid), args, ts⟩, type, pos, after, gd⟩ f σ K := by
 obtain ⟨h1, h2⟩ := pickA_eq hcs
 obtain ⟨h3, h4⟩ := hτ.get
 refine s_call hx hds (ACalls.sub hargs hps (by omega) (fun i hi => ?_) h fun B' d' τ' hB hR => ?_)
 ·obtain ⟨b, e1, e2⟩ := h2 i hi
  have e3 := List.getElem?_eq_getElem (show i < τ.length by omega)
  exact ⟨b, _, e1, e3, h4 i b _ e2 e3⟩
 ·obtain ⟨d, bs, σ', k1, k2, k3, k4⟩ := k B' d' τ' hB hR
  exact ⟨d, σ', Out.of k1 hps (by omega) k2 k3, k4⟩
variable {E : AX} {R : DV -> List ABlk -> Prop}
theorem c_gone {d : DV} {σ σ' : List ABlk} (k : Nat) (hσ : setA σ k .gone = some σ') (h : QV E R d σ') : QV E R d σ := fun X v hX hS hE hv => by
 subst hX
 rw [ZI hσ] at h
 exact h { X with σ := X.σ.set k .gone } v rfl (sto_gone hS k) (hE.trans (ZH k)) (hv.ext (ZH k))
end
section
variable {P : Program} {G : Nat -> DV} {E : AX} {n : Nat} {ops : Array Oper} {md : Region.Mode} {Fin : (Nat -> DV) -> List ABlk -> Prop} {Inv : List ABlk -> Prop} {z : Nat}
def deps (md : Region.Mode) (ops : Array Oper) (k : Nat) : List Nat := match ops[k]? with
 | none => []
 | some o => (o.after.toList.filter fun e => Region.binds md e).map fun e => e.on
def clos (md : Region.Mode) (ops : Array Oper) : Nat -> List Nat -> List Nat
 | 0, l => l
 | f + 1, l => clos md ops f (l ++ l.flatMap (deps md ops)).eraseDups
def lastB (md : Region.Mode) (ops : Array Oper) (z : Nat) : Bool := match ops[z]? with
 | none => true
 | some _ => (List.range ops.size).all fun k => Nat.beq k z || (clos md ops 4 (deps md ops z)).contains k
theorem mem_deps {k j : Nat} (h : j ∈ deps md ops k) : ∃ o, ops[k]? = some o /\ ∃ e ∈ o.after, Region.binds md e = true /\ e.on = j := by
 unfold deps at h
 split at h
 ·simp at h
 ·rename_i o ho
  obtain ⟨e, he, rfl⟩ := List.mem_map.1 h
  obtain ⟨h1, h2⟩ := List.mem_filter.1 he
  exact ⟨o, ho, e, by simpa using h1, h2, rfl⟩
theorem clos_listed {listed : Array Bool} (hc : Closed md ops listed) : ∀ (f : Nat) (l : List Nat), (∀ k ∈ l, listed.getD k false = true) -> ∀ k ∈ clos md ops f l, listed.getD k false = true
 | 0, l, h => h
 | f + 1, l, h => clos_listed hc f _ fun k hk => by
  rw [List.mem_eraseDups, List.mem_append] at hk
  rcases hk with hk | hk
  ·exact h k hk
  ·obtain ⟨m, hm, hk⟩ := List.mem_flatMap.1 hk
   obtain ⟨o, ho, e, he, hb, rfl⟩ := mem_deps hk
   exact hc m o ho (h m hm) e he hb
theorem lastB_spec {z k : Nat} {oz : Oper} {listed : Array Bool} (h : lastB md ops z = true) (hz : ops[z]? = some oz) (hc : Closed md ops listed) (hall : ∀ e ∈ oz.after, Region.binds md e = true -> listed.getD e.on false = true) (hk : k < ops.size) (hne : k ≠ z) : listed.getD k false = true := by
 unfold lastB at h
 rw [hz] at h
 have := List.all_eq_true.1 h k (List.mem_range.2 hk)
 rw [Bool.or_eq_true] at this
 rcases this with h1 | h1
 ·exact absurd (Nat.eq_of_beq_eq_true h1) hne
 ·refine clos_listed hc 4 _ (fun m hm => ?_) k (List.contains_iff_mem.1 h1)
  obtain ⟨o, ho, e, he, hb, rfl⟩ := mem_deps hm
  rw [hz] at ho; cases ho
  exact hall e he hb
def anyI (P : Program) (G : Nat -> DV) (B n : Nat) (md : Region.Mode) (ops : Array Oper) (Fin : (Nat -> DV) -> List ABlk -> Prop) (Inv : List ABlk -> Prop) (z : Nat) : Nat -> Array Bool -> (Nat -> DV) -> List ABlk -> Prop
 | 0, listed, φ, σ => Region.ready md ops listed = [] /\ Fin φ σ
 | f + 1, listed, φ, σ => (Region.ready md ops listed = [] -> Fin φ σ) /\ ∀ i ∈ Region.ready md ops listed, ∃ o, ops[i]? = some o /\ (∀ s, o.dst = some s -> s < n) /\
   ((Wd n ops o φ true /\ OpSem P G B o (aevF G φ) σ (fun d σ' => (i ≠ z -> Inv σ') /\ anyI P G B n md ops Fin Inv z f (listed.setIfInBounds i true) (ZO o.dst d φ) σ')) \/
   (Wd n ops o φ false /\ anyI P G B n md ops Fin Inv z f (listed.setIfInBounds i true) (ZO o.dst (.sc undef) φ) σ))
theorem anyI_first {B : Nat} {i : Nat} {oi : Oper} {d : DV} (hi : ops[i]? = some oi) (hz : lastB md ops z = true) (hiz : i ≠ z) : ∀ (f : Nat) (listed : Array Bool) (φ : Nat -> DV) (σ : List ABlk), Closed md ops listed ->
   (∀ j oj, ops[j]? = some oj -> j ≠ i -> listed.getD j true = false -> (∀ e ∈ oj.after, Region.binds md e = true -> e.on ≠ i) -> oi.apart ops oj = true) ->
   i ∈ Region.ready md ops listed -> (∀ σ, Inv σ -> YA P G B n ops σ oi d φ) -> Inv σ ->
   anyI P G B n md ops Fin Inv z f (listed.setIfInBounds i true) (ZO oi.dst d φ) σ -> anyI P G B n md ops Fin Inv z (f + 1) listed φ σ := by
 intro f
 have now : ∀ (f : Nat) (listed : Array Bool) (φ : Nat -> DV) (σ : List ABlk), (∀ σ, Inv σ -> YA P G B n ops σ oi d φ) -> Inv σ -> anyI P G B n md ops Fin Inv z f (listed.setIfInBounds i true) (ZO oi.dst d φ) σ ->
   ∃ o, ops[i]? = some o /\ (∀ s, o.dst = some s -> s < n) /\ ((Wd n ops o φ true /\ OpSem P G B o (aevF G φ) σ (fun d σ' => (i ≠ z -> Inv σ') /\ anyI P G B n md ops Fin Inv z f (listed.setIfInBounds i true) (ZO o.dst d φ) σ')) \/
   (Wd n ops o φ false /\ anyI P G B n md ops Fin Inv z f (listed.setIfInBounds i true) (ZO o.dst (.sc undef) φ) σ)) := fun f listed φ σ hy hI H => by
  obtain ⟨h0, h⟩ := hy σ hI
  refine ⟨oi, hi, h0, ?_⟩
  rcases h with ⟨h1, h2⟩ | ⟨h1, h2⟩
  ·exact .inl ⟨h1, h2.mono fun d' σ' ⟨e1, e2⟩ => by rw [e1, e2]; exact ⟨fun _ => hI, H⟩⟩
  ·exact .inr ⟨h1, by rw [<- h2]; exact H⟩
 induction f with
 | zero =>
  intro listed φ σ hc hfree hr hy hI H
  refine ⟨fun h => (by rw [h] at hr; cases hr), fun j hj => ?_⟩
  by_cases hji : j = i
  ·subst hji; exact now 0 listed φ σ hy hI H
  ·have := ready_mono hj hji
   rw [H.1] at this; cases this
 | succ f ih =>
  intro listed φ σ hc hfree hr hy hI H
  refine ⟨fun h => (by rw [h] at hr; cases hr), fun j hj => ?_⟩
  by_cases hji : j = i
  ·subst hji; exact now (f + 1) listed φ σ hy hI H
  ·obtain ⟨oj, hoj, hdst, Hj⟩ := H.2 j (ready_mono hj hji)
   obtain ⟨hjun, oj', hoj', hall⟩ := mem_ready.1 hj
   rw [hoj] at hoj'; cases hoj'
   have hnot : ∀ e ∈ oj.after, Region.binds md e = true -> e.on ≠ i := fun e he hb heq => by
    have h1 := hall e he hb
    have h0 := (mem_ready.1 hr).1
    rw [heq] at h1
    rcases Nat.lt_or_ge i listed.size with h' | h'
    ·simp [h'] at h0 h1; rw [h0] at h1; cases h1
    ·simp [Array.getElem?_eq_none h'] at h1
   obtain ⟨a1, a2, a3⟩ := Oper.apart_spec (hfree j oj hoj hji hjun hnot)
   have hjz : j ≠ z := fun e => by
    subst e
    have hl := lastB_spec hz hoj hc (fun e he hb => by simpa using hall e he hb) (show i < ops.size from (Array.getElem?_eq_some_iff.1 hi).1) (fun e => hji e.symm)
    have h0 := (mem_ready.1 hr).1
    rcases Nat.lt_or_ge i listed.size with h' | h'
    ·simp [h'] at h0 hl; rw [h0] at hl; cases hl
    ·simp [Array.getElem?_eq_none h'] at hl
   have next : ∀ d' σ', Inv σ' -> anyI P G B n md ops Fin Inv z f ((listed.setIfInBounds i true).setIfInBounds j true) (ZO oj.dst d' (ZO oi.dst d φ)) σ' -> anyI P G B n md ops Fin Inv z (f + 1) (listed.setIfInBounds j true) (ZO oj.dst d' φ) σ' := fun d' σ' hI' h => by
    refine ih _ _ _ (hc.step hj) ?_ (ready_mono hr (Ne.symm hji)) (fun σ hs => (hy σ hs).same (qj a3)) hI' ?_
    ·intro k ok hk hki hun hno
     refine hfree k ok hk hki ?_ hno
     by_cases hjk : j = k
     ·subst hjk; exact hjun
     ·rw [getD_set_ne true hjk] at hun; exact hun
    ·rw [Array.setIfInBounds_comm _ _ hji, <- updF_comm d d' φ a2]
     exact h
   refine ⟨oj, hoj, hdst, ?_⟩
   have looks : ∀ t ∈ oj.looksAt ops, φ t = ZO oi.dst d φ t := fun t ht => (qj (d := d) (φ := φ) a1 t ht).symm
   rcases Hj with ⟨h1, h2⟩ | ⟨h1, h2⟩
   ·refine .inl ⟨h1.same looks, (h2.same fun x hx => ?_).mono fun d' σ' h => ⟨h.1, next d' σ' (h.1 hjz) h.2⟩⟩
    cases x with
    | tmp t => exact looks t (List.mem_append_left _ (List.mem_filterMap.2 ⟨.tmp t, by simpa using hx, rfl⟩))
    | _ => rfl
   ·exact .inr ⟨h1.same looks, next _ _ hI h2⟩
theorem anyI_run : ∀ (f : Nat) (listed : Array Bool) (φ : Nat -> DV) (σ : List ABlk), anyI P G E.N n md ops Fin Inv z f listed φ σ -> ∀ a w, RelF G E n φ σ a w -> wpAny P md ops (fun e a w => e = .normal /\ ∃ φ σ, RelF G E n φ σ a w /\ Fin φ σ) f listed a w
 | 0, listed, φ, σ, h, a, w, hr => ⟨h.1, rfl, φ, σ, hr, h.2⟩
 | f + 1, listed, φ, σ, h, a, w, hr => by
  refine ⟨fun h0 => ⟨rfl, φ, σ, hr, h.1 h0⟩, fun i hi => ?_⟩
  obtain ⟨o, ho, hdst, hn⟩ := h.2 i hi
  unfold wpOp
  simp only [ho]
  obtain ⟨X, h1, h2, h3, h4, h5, h6, h7, h8⟩ := hr
  have hput : ∀ {X' : AX} {v : Value} {d' : DV} {σ' : List ABlk}, X'.σ = σ' -> Sto X' -> WExt X X' -> VRep X'.lay d' v -> RelF G E n (ZO o.dst d' φ) σ' (a.put o.dst v) X'.w := by
   intro X' v d' σ' g1 g2 g3 g4
   refine ⟨X', rfl, g1, g2, h4.trans g3, h5.ext g3, ?_, ?_, fun j => ?_⟩
   ·cases ho : o.dst <;> exact h6
   ·cases ho : o.dst <;> simp [Act.put, h7]
   ·cases ho : o.dst with
    | none => exact (h8 j).ext g3
    | some s =>
     have hs := hdst s ho
     simp only [ZO, Act.put]
     by_cases hsj : s = j
     ·subst hsj
      rw [if_pos rfl]
      simpa [Array.getD_eq_getD_getElem?, Array.getElem?_setIfInBounds, h7, hs] using g4
     ·rw [if_neg hsj]
      have := (h8 j).ext g3
      simpa [Array.getD_eq_getD_getElem?, Array.getElem?_setIfInBounds_ne hsj] using this
  have hwd : ∀ b, Wd n ops o φ b -> Region.wanted o (yielded ops a.tmps) = b := by
   intro b hb
   unfold Wd at hb
   cases hg : o.guard with
   | none => rw [hg] at hb; simp [Region.wanted, hg, hb]
   | some gw =>
    obtain ⟨j, want⟩ := gw
    rw [hg] at hb
    obtain ⟨s, c, e1, e2, e3, e4⟩ := hb
    have hv := h8 s
    rw [e3] at hv
    have hv := VRep.sc_eq hv
    have hget : a.tmps[s]? = some c := by
     have hlt : s < a.tmps.size := by rw [h7]; exact e2
     simp only [Array.getD_eq_getD_getElem?] at hv
     rw [Array.getElem?_eq_getElem hlt] at hv ⊢
     simpa using hv
    have : yielded ops a.tmps j = yv c := by rw [yielded, e1, Option.bind_some, hget]; cases c <;> rfl
    simp only [Region.wanted, hg, this, e4]
  rcases hn with ⟨hw, hs⟩ | ⟨hw, hK⟩
  ·rw [hwd true hw]
   simp only [if_true]
   refine .inl ?_
   have hx : ∀ x ∈ o.op.operands, VRep X.lay (aevF G φ x) (a.eval x) := fun x _ => by
    cases x with
    | tmp i => exact h8 i
    | const v => exact .sc v
    | global g => exact (h5 g).2
    | func f => exact .fn _ [] [] #[] #[] rfl rfl (fun j d h => by simp at h) (fun j d h => by simp at h)
   have hs := hs X a.eval h3 h2 h4.top h5 hx
   rw [h1] at hs
   unfold Oper.wp
   generalize (execOp a.eval o).run P w = x at *
   cases x with
   | ok nx w' =>
    cases nx <;> simp only [OPost] at hs <;> simp only [Oper.upon]
    case value v =>
     obtain ⟨X', e1, e2, e3, d', hv, _, hσ'⟩ := hs
     subst e1
     exact anyI_run f _ _ _ hσ' _ _ (hput rfl e2 e3 hv)
    case skip =>
     obtain ⟨X', e1, e2, e3, d', hv, _, hσ'⟩ := hs
     subst e1
     exact anyI_run f _ _ _ hσ' _ _ (hput rfl e2 e3 hv)
    case enter g args =>
     refine hs.2.mono fun e w'' ⟨v, he, X', e1, e2, e3, d', hv, _, hσ'⟩ => ?_
     subst he
     subst e1
     exact anyI_run f _ _ _ hσ' _ _ (hput rfl e2 e3 hv)
   | halt hh w' => simp only [OPost] at hs
  ·rw [hwd false hw]
   simp only [Bool.false_eq_true, if_false]
   have := hput (X' := X) (v := undef) h2 h3 (.refl X) (VRep.sc undef)
   rw [h1] at this
   exact anyI_run f _ _ _ hK _ _ this
def IMix (P : Program) (G : Nat -> DV) (B n : Nat) (ops : Array Oper) (Fin : (Nat -> DV) -> List ABlk -> Prop) (Inv : List ABlk -> Prop) (z : Nat) : List (Nat × Oper × Bool) -> (Nat -> DV) -> List ABlk -> Prop
 | [], φ, σ => Fin φ σ
 | (j, o, true) :: l, φ, σ => j ≠ z /\ ∃ d, (∀ σ, Inv σ -> YA P G B n ops σ o d φ) /\ IMix P G B n ops Fin Inv z l (ZO o.dst d φ) σ
 | (j, o, false) :: l, φ, σ => (∀ s, o.dst = some s -> s < n) /\ ((Wd n ops o φ true /\ OpSem P G B o (aevF G φ) σ (fun d σ' => (j ≠ z -> Inv σ') /\ (l ≠ [] -> Inv σ') /\ IMix P G B n ops Fin Inv z l (ZO o.dst d φ) σ')) \/ (Wd n ops o φ false /\ IMix P G B n ops Fin Inv z l (ZO o.dst (.sc undef) φ) σ))
theorem anyI_mix {B : Nat} (hz : lastB md ops z = true) : ∀ (js : List (Nat × Bool)) (l : List (Nat × Oper × Bool)) (listed : Array Bool) (φ : Nat -> DV) (σ : List ABlk), js.map (fun p => (p.1, ops[p.1]?, p.2)) = l.map (fun p => (p.1, some p.2.1, p.2.2)) -> Closed md ops listed -> mixB md ops js listed = true -> (l ≠ [] -> Inv σ) ->
  IMix P G B n ops Fin Inv z l φ σ -> anyI P G B n md ops Fin Inv z js.length listed φ σ
 | [], [], listed, φ, σ, _, _, hB, _, h => ⟨by simpa [mixB] using hB, h⟩
 | [], _ :: _, _, _, _, he, _, _, _, _ => by simp at he
 | _ :: _, [], _, _, _, he, _, _, _, _ => by simp at he
 | (j, b) :: js, (j', o, b') :: l, listed, φ, σ, he, hc, hB, hI, h => by
  simp only [List.map_cons, List.cons.injEq, Prod.mk.injEq] at he
  obtain ⟨⟨rfl, ho, rfl⟩, he⟩ := he
  have hI' : Inv σ := hI (by simp)
  clear hI
  cases b with
  | true =>
   simp only [mixB, Bool.and_eq_true] at hB
   obtain ⟨⟨h1, h2⟩, h3⟩ := hB
   obtain ⟨hjz, d, hy, hK⟩ := h
   have hr : j ∈ Region.ready md ops listed := by simpa using h1
   exact anyI_first ho hz hjz js.length listed φ σ hc (Region.free_spec ho h2) hr hy hI' (anyI_mix hz js l _ _ _ he (hc.step hr) h3 (fun _ => hI') hK)
  | false =>
   simp only [mixB, Bool.and_eq_true, beq_iff_eq] at hB
   obtain ⟨h1, h3⟩ := hB
   have hr : j ∈ Region.ready md ops listed := by rw [h1]; simp
   refine ⟨fun h0 => (by rw [h1] at h0; cases h0), fun i hi => ?_⟩
   rw [h1, List.mem_singleton] at hi
   subst hi
   refine ⟨o, ho, h.1, ?_⟩
   rcases h.2 with ⟨h4, h5⟩ | ⟨h4, h5⟩
   ·exact .inl ⟨h4, h5.mono fun d σ' hK => ⟨hK.1, anyI_mix hz js l _ _ _ he (hc.step hr) h3 hK.2.1 hK.2.2⟩⟩
   ·exact .inr ⟨h4, anyI_mix hz js l _ _ _ he (hc.step hr) h3 (fun _ => hI') h5⟩
def pickI (l : List Oper) : List (Nat × Bool) -> Option (List (Nat × Oper × Bool))
 | [] => some []
 | (j, b) :: r => match l[j]? with
  | none => none
  | some o => match pickI l r with | none => none | some m => some ((j, o, b) :: m)
theorem pickI_eq {l : List Oper} : ∀ {js : List (Nat × Bool)} {m : List (Nat × Oper × Bool)}, pickI l js = some m -> js.map (fun p => (p.1, l.toArray[p.1]?, p.2)) = m.map (fun p => (p.1, some p.2.1, p.2.2))
 | [], m, h => by simp only [pickI, Option.some.injEq] at h; subst h; rfl
 | (j, b) :: r, m, h => by
  unfold pickI at h
  split at h
  ·cases h
  ·rename_i o ho
   split at h
   ·cases h
   ·rename_i m' hm'
    cases h
    rw [List.map_cons, List.map_cons, pickI_eq hm', List.getElem?_toArray, ho]
variable {N : ASt -> Prop} {xs : List (Nat × (ASt -> Prop))} {R : ASt -> Prop} {σ : List ABlk} {t : Fr}
theorem Wu {ι : Type} (I : ι -> List ABlk) (z : Nat) (js : List (Nat × Bool)) {id : Nat} {l : List Oper} {m : List (Nat × Oper × Bool)} (hp : pickI l js = some m) (hl : Nat.beq js.length l.length = true) (hm : P.follows .mixedOrders = true) (hB : mixB .any l.toArray js (Array.replicate l.toArray.size false) = true)
  (hz : lastB .any l.toArray z = true) (hI : ∃ p, σ = I p) (h : IMix P G E.N n l.toArray (fun φ σ => ∃ t', (∀ i, Wp t' i = .any \/ Wp t' i = φ i) /\ N ⟨t', σ⟩) (fun σ => ∃ p, σ = I p) z m (Wp t) σ) : WE P G E n (.region id l.toArray true) N xs R ⟨t, σ⟩ := fun a w hr => by
 have hr' : RelF G E n (Wp t) σ a { w with drawn := w.drawn + 1 } := by
  obtain ⟨X, e1, e2, e3, e4, e5, e6, e7, e8⟩ := hr
  have hk := Keep.drew X.w
  subst e1
  exact ⟨X.inW X.w.drew, rfl, e2, e3.inW hk, e4.trans (WExt.inW hk), e5.ext (WExt.inW hk), e6, e7, fun i => (e8 i).ext (WExt.inW hk)⟩
 have hany := anyI_mix (md := .any) hz js m (Array.replicate l.toArray.size false) (Wp t) σ (pickI_eq hp) (fun j o _ hl => by simp [Array.getElem?_replicate] at hl; split at hl <;> simp at hl) hB (fun _ => hI) h
 rw [Nat.eq_of_beq_eq_true hl, show l.length = l.toArray.size from by simp] at hany
 refine wp_mono (wp_region_any hm (anyI_run _ _ _ _ hany a _ hr')) fun e a' w' ⟨he, φ, σ', ⟨X, e1, e2, e3, e4, e5, e6, e7, e8⟩, t', ht', hN⟩ => ?_
 subst he
 refine ⟨⟨t', σ'⟩, ⟨X, e1, e2, e3, e4, e5, e6, e7, fun i => ?_⟩, hN⟩
 rcases ht' i with h' | h'
 ·rw [h']; exact .any _
 ·rw [h']; exact e8 i
variable {B : Nat} {l : List (Nat × Oper × Bool)} {ι : Type} {I : ι -> List ABlk} {j : Nat}
theorem i_nil {I : List ABlk -> Prop} (h : N ⟨t, σ⟩) : IMix P G B n ops (fun φ σ => ∃ t', (∀ i, Wp t' i = .any \/ Wp t' i = φ i) /\ N ⟨t', σ⟩) I z [] (Wp t) σ := ⟨t, fun _ => .inr rfl, h⟩
theorem i_st {i : Tmp} {op : Op} {type : TypeId} {pos : String} {after : Array Edge} {d : DV} (hj : Nat.beq j z = false) (hd : Nat.blt i n = true) (h : ∀ p, OpSem P G B ⟨some i, op, type, pos, after, none⟩ (aev G t) (I p) (fun d' s => d' = d /\ s = I p)) (k : IMix P G B n ops Fin (fun σ => ∃ p, σ = I p) z l (Wp ((i, d) :: t)) σ) :
  IMix P G B n ops Fin (fun σ => ∃ p, σ = I p) z ((j, ⟨some i, op, type, pos, after, none⟩, true) :: l) (Wp t) σ := by
 refine ⟨fun e => (by rw [e, Nat.beq_refl] at hj; cases hj), d, fun σ' ⟨p, hp⟩ => ⟨fun j hj => (by cases hj; exact Nat.ble_eq.mp hd), .inl ⟨rfl, by rw [Zl, hp]; exact h p⟩⟩, ?_⟩
 rw [Z5] at k; exact k
theorem i_ef {i : Tmp} {op : Op} {type : TypeId} {pos : String} {after : Array Edge} (hd : Nat.blt i n = true) (h : OpSem P G B ⟨some i, op, type, pos, after, none⟩ (aev G t) σ (fun d σ' => (∃ p, σ' = I p) /\ IMix P G B n ops Fin (fun σ => ∃ p, σ = I p) z l (Wp ((i, d) :: t)) σ')) :
  IMix P G B n ops Fin (fun σ => ∃ p, σ = I p) z ((j, ⟨some i, op, type, pos, after, none⟩, false) :: l) (Wp t) σ := by
 refine ⟨fun j hj => by cases hj; exact Nat.ble_eq.mp hd, .inl ⟨rfl, ?_⟩⟩
 rw [Zl]
 exact h.mono fun d σ' k => by obtain ⟨k1, k⟩ := k; rw [Z5] at k; exact ⟨fun _ => k1, fun _ => k1, k⟩
theorem i_ef0 {op : Op} {type : TypeId} {pos : String} {after : Array Edge} (h : OpSem P G B ⟨none, op, type, pos, after, none⟩ (aev G t) σ (fun _ σ' => (∃ p, σ' = I p) /\ IMix P G B n ops Fin (fun σ => ∃ p, σ = I p) z l (Wp t) σ')) :
  IMix P G B n ops Fin (fun σ => ∃ p, σ = I p) z ((j, ⟨none, op, type, pos, after, none⟩, false) :: l) (Wp t) σ := by
 refine ⟨fun j hj => (by cases hj), .inl ⟨rfl, ?_⟩⟩
 rw [Zl]
 exact h.mono fun d σ' ⟨k1, k⟩ => ⟨fun _ => k1, fun _ => k1, k⟩
theorem i_z0 {I : List ABlk -> Prop} {op : Op} {type : TypeId} {pos : String} {after : Array Edge} (h : OpSem P G B ⟨none, op, type, pos, after, none⟩ (aev G t) σ (fun _ σ' => IMix P G B n ops Fin I j [] (Wp t) σ')) :
  IMix P G B n ops Fin I j [(j, ⟨none, op, type, pos, after, none⟩, false)] (Wp t) σ := by
 refine ⟨fun j hj => (by cases hj), .inl ⟨rfl, ?_⟩⟩
 rw [Zl]
 exact h.mono fun d σ' k => ⟨fun h => absurd rfl h, fun h => absurd rfl h, k⟩
end
def keepF : List Nat -> Fr -> Option Fr
 | [], _ => some []
 | i :: r, t => match reD (Wp t i), keepF r t with
  | some d, some t' => some ((i, d) :: t')
  | _, _ => none
theorem keepF_spec {t : Fr} : ∀ {l : List Nat} {t' : Fr}, keepF l t = some t' -> ∀ p ∈ t', Wp t p.1 = p.2
 | [], t', h, p, hp => by cases h; simp at hp
 | i :: r, t', h, p, hp => by
  simp only [keepF] at h
  split at h
  ·rename_i d t'' h1 h2
   cases h
   rcases List.mem_cons.1 hp with rfl | hp
   ·exact (reD_eq h1).symm
   ·exact keepF_spec h2 p hp
  ·cases h
theorem QI {P : Program} {G : Nat -> DV} {E : AX} {n : Nat} {N : ASt -> Prop} {xs : List (Nat × (ASt -> Prop))} {R : ASt -> Prop} {t t' : Fr} {σ : List ABlk} (l : List Nat) {id : Nat} {ops : Array Oper} {d : Bool} (h : keepF l t = some t') (k : WE P G E n (.region id ops d) N xs R ⟨t', σ⟩) : WE P G E n (.region id ops d) N xs R ⟨t, σ⟩ := fun a w hr =>
 k a w (hr.le (ale_drop (σ := σ) (r := []) (keepF_spec h) (by simp)))
def bareO (o : Oper) : Oper := { o with after := #[] }
def bareA : List Oper -> Option (List Oper)
 | [] => some []
 | ⟨dst, op, type, pos, _, gd⟩ :: r => match bareA r with
  | some r' => some (⟨dst, op, type, pos, #[], gd⟩ :: r')
  | none => none
theorem bareA_eq : ∀ {l lb : List Oper}, bareA l = some lb -> lb = l.map bareO
 | [], lb, h => by cases h; rfl
 | o :: r, lb, h => by
  simp only [bareA] at h
  split at h
  ·rename_i r' hr
   cases h
   rw [bareA_eq hr]; rfl
  ·cases h
theorem alex_bare {P : Program} {G : Nat -> DV} {B n : Nat} {l0 : List Oper} {σ : List ABlk} {Q : (Nat -> DV) -> Prop} : ∀ {l : List Oper} {φ : Nat -> DV}, W0 P G B n (l0.map bareO).toArray σ Q (l.map bareO) φ -> W0 P G B n l0.toArray σ Q l φ
 | [], _, h => h
 | o :: r, φ, ⟨d, h, k⟩ => by
  have hwd : ∀ b, Wd n (l0.map bareO).toArray (bareO o) φ b -> Wd n l0.toArray o φ b := fun b hb => by
   unfold Wd at *
   show (match o.guard with | none => b = true | some (j, want) => _)
   have hb : (match o.guard with | none => b = true | some (j, want) => ∃ s c, (((l0.map bareO).toArray)[j]?).bind (·.dst) = some s /\ s < n /\ φ s = .sc c /\ b = (yv c == some want)) := hb
   cases hg : o.guard with
   | none => rw [hg] at hb; exact hb
   | some jw =>
    rw [hg] at hb
    obtain ⟨s, c, h1, h2⟩ := hb
    refine ⟨s, c, ?_, h2⟩
    rw [<- h1]
    simp only [List.getElem?_toArray, List.getElem?_map]
    cases l0[jw.1]? <;> rfl
  obtain ⟨h0, h⟩ := h
  refine ⟨d, ⟨h0, ?_⟩, alex_bare k⟩
  rcases h with ⟨h1, h2⟩ | ⟨h1, h2⟩
  ·exact .inl ⟨hwd _ h1, h2⟩
  ·exact .inr ⟨hwd _ h1, h2⟩
section
variable {P : Program} {G : Nat -> DV} {E : AX} {n : Nat} {N : ASt -> Prop} {xs : List (Nat × (ASt -> Prop))} {R : ASt -> Prop}
theorem WA {σ : List ABlk} {id : Nat} {l lb : List Oper} {t : Fr} (hN : Nat.beq (nEff l) l.length = true) (hm : P.follows .mixedOrders = true) (hB : drawB l.toArray l.length = true) (hb : bareA l = some lb)
  (h : W0 P G E.N n lb.toArray σ (fun φ => ∃ t', (∀ i, Wp t' i = .any \/ Wp t' i = φ i) /\ N ⟨t', σ⟩) lb (Wp t)) : WE P G E n (.region id l.toArray true) N xs R ⟨t, σ⟩ := by
 refine Wj hN hm hB (alex_bare ?_)
 rw [<- bareA_eq hb]
 have mono : ∀ {Q Q' : (Nat -> DV) -> Prop} (hq : ∀ φ, Q φ -> Q' φ) {ops : Array Oper} {l : List Oper} {φ : Nat -> DV}, W0 P G E.N n ops σ Q l φ -> W0 P G E.N n ops σ Q' l φ := fun {Q Q'} hq {ops} l => by
  induction l with
  | nil => exact fun {φ} h => hq φ h
  | cons o r ih => exact fun {φ} ⟨d, h, k⟩ => ⟨d, h, ih k⟩
 exact mono (fun φ ⟨t', h1, h2⟩ => ⟨t', h1, Qe h2⟩) h
theorem Zm {ops : Array Oper} {σ : List ABlk} {t : Fr} (h : N ⟨t, σ⟩) : W0 P G E.N n ops σ (fun φ => ∃ t', (∀ i, Wp t' i = .any \/ Wp t' i = φ i) /\ N ⟨t', σ⟩) [] (Wp t) := ⟨t, fun _ => .inr rfl, h⟩
end
section
variable {P : Program} {G : Nat -> DV} {B : Nat} {f : Operand -> DV} {σ : List ABlk} {K : DV -> List ABlk -> Prop} {dst : Option Tmp} {type : TypeId} {pos : String} {after : Array Edge} {gd : Option (Nat × Bool)}
theorem WB {t e : TypeId} {d : TypeDesc} {n : Nat} {g1 g2 : Bool} {z1 : Nat} {x y : Operand} {m g : Nat} {cs : List DV} {kd : IntKind} {i : Nat} [ht : TyI P t (.array n e) g1 z1] [he : TyI P e d g2 1]
  (hx : f x = .ptr m g 0) (hm : σ[m]? = some (.row g cs)) (hy : f y = .sc (.int kd (i : Nat))) (h1 : i < n) (k : K (.ptr m g i) σ) : OpSem P G B ⟨dst, .indexAddr t x y, type, pos, after, gd⟩ f σ K :=
 Zp hx hm hy (by omega) (by omega) (by simpa using k)
theorem Ql {t : TypeId} {td : TypeDesc} {agg : Bool} {size : Nat} {x y : Operand} {m g : Nat} {cs ds : List DV} {σ' : List ABlk} [ht : TyI P t td agg size] (hx : f x = .ptr m g 0) (hm : σ[m]? = some (.row g cs)) (hy : f y = .agg ds)
  (hl : ds.length = size) (hc : cs.length = size) (hσ' : setA σ m (.row g ds) = some σ') (k : K (.sc undef) σ') : OpSem P G B ⟨dst, .store t x y, type, pos, after, gd⟩ f σ K :=
 s_store' (cs' := ds) hx hm hy rfl hl (by omega) (by omega) (fun j => by
  by_cases h : j < ds.length
  ·rw [if_pos (by omega)]; simp
  ·rw [if_neg (by omega), List.getElem?_eq_none (by omega), List.getElem?_eq_none (by omega)]) (by rw [<- ZI hσ']; exact k)
theorem Qu {t : TypeId} {td : TypeDesc} {size : Nat} {x : Operand} {m g : Nat} {cs : List DV} [ht : TyI P t td true size] (hx : f x = .ptr m g 0) (hm : σ[m]? = some (.row g cs)) (hl : cs.length = size) (k : K (.agg cs) σ) :
  OpSem P G B ⟨dst, .load t x, type, pos, after, gd⟩ f σ K := s_load_rowa' hx hm (by simp [<- hl]) hl k
end
end Go.Av
end
section
namespace Go.Proofs
open Go.Av
instance : TyI Tryd.prog 2 (.int .i64) false 1 := ⟨by kernel_rfl, by kernel_rfl, by kernel_rfl⟩
instance : TyI Tryd.prog 3 (.int .i64) false 1 := ⟨by kernel_rfl, by kernel_rfl, by kernel_rfl⟩
instance : TyB Tryd.prog 3 8 := ⟨by kernel_rfl⟩
instance : TyZ Tryd.prog 3 [.int .i64 (0)] := ⟨by kernel_rfl, by kernel_rfl⟩
instance : TyI Tryd.prog 4 .bool false 1 := ⟨by kernel_rfl, by kernel_rfl, by kernel_rfl⟩
instance : TyB Tryd.prog 4 1 := ⟨by kernel_rfl⟩
instance : TyZ Tryd.prog 4 [.bool false] := ⟨by kernel_rfl, by kernel_rfl⟩
instance : TyI Tryd.prog 5 (.int .u8) false 1 := ⟨by kernel_rfl, by kernel_rfl, by kernel_rfl⟩
instance : TyI Tryd.prog 9 .string false 1 := ⟨by kernel_rfl, by kernel_rfl, by kernel_rfl⟩
instance : TyI Tryd.prog 22 (.slice 3) false 1 := ⟨by kernel_rfl, by kernel_rfl, by kernel_rfl⟩
instance : TyB Tryd.prog 22 24 := ⟨by kernel_rfl⟩
instance : TyZ Tryd.prog 22 [.slice none 0 0] := ⟨by kernel_rfl, by kernel_rfl⟩
instance : SrcTy Tryd.prog 22 := ⟨.inl ⟨_, TyI.u⟩⟩
instance : TyI Tryd.prog 23 (.slice 25) false 1 := ⟨by kernel_rfl, by kernel_rfl, by kernel_rfl⟩
instance : SrcTy Tryd.prog 23 := ⟨.inl ⟨_, TyI.u⟩⟩
noncomputable def Tryd.ds25 : TypeDesc := (Tryd.prog.underlying 25).getD .invalid
instance : TyI Tryd.prog 25 Tryd.ds25 true 4 := ⟨by kernel_rfl, by kernel_rfl, by kernel_rfl⟩
instance : TyB Tryd.prog 25 48 := ⟨by kernel_rfl⟩
instance : TyZ Tryd.prog 25 [.int .i64 (0), .int .i64 (0), .int .i64 (0), .slice none 0 0] := ⟨by kernel_rfl, by kernel_rfl⟩
instance : TyS Tryd.prog 25 [(0, 1), (1, 1), (2, 1), (3, 1)] := ⟨_, Tryd.underlying25, by kernel_rfl⟩
noncomputable def Tryd.ds28 : TypeDesc := (Tryd.prog.underlying 28).getD .invalid
instance : TyI Tryd.prog 28 Tryd.ds28 false 1 := ⟨by kernel_rfl, by kernel_rfl, by kernel_rfl⟩
instance : TyI Tryd.prog 31 (.slice 22) false 1 := ⟨by kernel_rfl, by kernel_rfl, by kernel_rfl⟩
instance : SrcTy Tryd.prog 31 := ⟨.inl ⟨_, TyI.u⟩⟩
noncomputable def Tryd.ds33 : TypeDesc := (Tryd.prog.underlying 33).getD .invalid
instance : TyI Tryd.prog 33 Tryd.ds33 true 5 := ⟨by kernel_rfl, by kernel_rfl, by kernel_rfl⟩
instance : TyZ Tryd.prog 33 [.int .i64 (0), .slice none 0 0, .slice none 0 0, .slice none 0 0, .slice none 0 0] := ⟨by kernel_rfl, by kernel_rfl⟩
instance : TyS Tryd.prog 33 [(0, 1), (1, 1), (2, 1), (3, 1), (4, 1)] := ⟨_, Tryd.underlying33, by kernel_rfl⟩
instance : TyI Tryd.prog 52 (.slice 4) false 1 := ⟨by kernel_rfl, by kernel_rfl, by kernel_rfl⟩
instance : SrcTy Tryd.prog 52 := ⟨.inl ⟨_, TyI.u⟩⟩
instance : TyZ Tryd.prog 61 [.slice none 0 0, .int .i64 (0), .int .i64 (0)] := ⟨by kernel_rfl, by kernel_rfl⟩
instance : TyS Tryd.prog 61 [(0, 1), (1, 1), (2, 1)] := ⟨_, Tryd.underlying61, by kernel_rfl⟩
instance : TyI Tryd.prog 70 (.map 3 3) false 1 := ⟨by kernel_rfl, by kernel_rfl, by kernel_rfl⟩
instance : TyI Tryd.prog 74 (.pointer 77) false 1 := ⟨by kernel_rfl, by kernel_rfl, by kernel_rfl⟩
instance : TyI Tryd.prog 75 (.map 9 81) false 1 := ⟨by kernel_rfl, by kernel_rfl, by kernel_rfl⟩
instance : TyZ Tryd.prog 77 [.int .i64 (0), .slice none 0 0, .slice none 0 0, .slice none 0 0, .slice none 0 0, .map none, .map none] := ⟨by kernel_rfl, by kernel_rfl⟩
instance : TyS Tryd.prog 77 [(0, 5), (5, 1), (6, 1)] := ⟨_, Tryd.underlying77, by kernel_rfl⟩
instance : TyI Tryd.prog 81 (.array 4 3) true 4 := ⟨by kernel_rfl, by kernel_rfl, by kernel_rfl⟩
instance : TyZ Tryd.prog 81 [.int .i64 (0), .int .i64 (0), .int .i64 (0), .int .i64 (0)] := ⟨by kernel_rfl, by kernel_rfl⟩
instance : TyI Tryd.prog 86 (.array 4001 4) true 4001 := ⟨by kernel_rfl, by kernel_rfl, by kernel_rfl⟩
noncomputable def Tryd.ds87 : TypeDesc := (Tryd.prog.underlying 87).getD .invalid
instance : TyI Tryd.prog 87 Tryd.ds87 false 1 := ⟨by kernel_rfl, by kernel_rfl, by kernel_rfl⟩
instance : TyZ Tryd.prog 87 [.nilFunc] := ⟨by kernel_rfl, by kernel_rfl⟩
instance : TyI Tryd.prog 98 (.map 3 3) false 1 := ⟨by kernel_rfl, by kernel_rfl, by kernel_rfl⟩
noncomputable def Tryd.ds107 : TypeDesc := (Tryd.prog.underlying 107).getD .invalid
instance : TyI Tryd.prog 107 Tryd.ds107 true 3 := ⟨by kernel_rfl, by kernel_rfl, by kernel_rfl⟩
instance : TyZ Tryd.prog 107 [.nilFunc, .bool false, .bool false] := ⟨by kernel_rfl, by kernel_rfl⟩
instance : TyI Tryd.prog 108 (.array 14 107) true 42 := ⟨by kernel_rfl, by kernel_rfl, by kernel_rfl⟩
instance : TyI Tryd.prog 123 (.int .u64) false 1 := ⟨by kernel_rfl, by kernel_rfl, by kernel_rfl⟩
instance : TyI Tryd.prog 125 (.array 24 5) true 24 := ⟨by kernel_rfl, by kernel_rfl, by kernel_rfl⟩
instance : TyZ Tryd.prog 125 [.int .u8 (0), .int .u8 (0), .int .u8 (0), .int .u8 (0), .int .u8 (0), .int .u8 (0), .int .u8 (0), .int .u8 (0), .int .u8 (0), .int .u8 (0), .int .u8 (0), .int .u8 (0), .int .u8 (0), .int .u8 (0), .int .u8 (0), .int .u8 (0), .int .u8 (0), .int .u8 (0), .int .u8 (0), .int .u8 (0), .int .u8 (0), .int .u8 (0), .int .u8 (0), .int .u8 (0)] := ⟨by kernel_rfl, by kernel_rfl⟩
instance : TyI Tryd.prog 126 (.int .u64) false 1 := ⟨by kernel_rfl, by kernel_rfl, by kernel_rfl⟩
instance : TyI Tryd.prog 129 (.slice 5) false 1 := ⟨by kernel_rfl, by kernel_rfl, by kernel_rfl⟩
instance : TyI Tryd.prog 132 (.array 20 126) true 20 := ⟨by kernel_rfl, by kernel_rfl, by kernel_rfl⟩
instance : TyI Tryd.prog 133 (.int .u32) false 1 := ⟨by kernel_rfl, by kernel_rfl, by kernel_rfl⟩
instance : FnOk Tryd.prog 8 := ⟨by kernel_rfl⟩
instance : FnOk Tryd.prog 9 := ⟨by kernel_rfl⟩
instance : FnOk Tryd.prog 11 := ⟨by kernel_rfl⟩
instance : FnOk Tryd.prog 12 := ⟨by kernel_rfl⟩
instance : FnOk Tryd.prog 14 := ⟨by kernel_rfl⟩
instance : FnOk Tryd.prog 15 := ⟨by kernel_rfl⟩
instance : FnOk Tryd.prog 16 := ⟨by kernel_rfl⟩
instance : FnOk Tryd.prog 17 := ⟨by kernel_rfl⟩
instance : FnOk Tryd.prog 18 := ⟨by kernel_rfl⟩
instance : FnOk Tryd.prog 19 := ⟨by kernel_rfl⟩
instance : FnOk Tryd.prog 23 := ⟨by kernel_rfl⟩
instance : FnOk Tryd.prog 24 := ⟨by kernel_rfl⟩
instance : FnOk Tryd.prog 26 := ⟨by kernel_rfl⟩
instance : FnOk Tryd.prog 27 := ⟨by kernel_rfl⟩
instance : FnOk Tryd.prog 28 := ⟨by kernel_rfl⟩
instance : FnOk Tryd.prog 29 := ⟨by kernel_rfl⟩
instance : FnOk Tryd.prog 32 := ⟨by kernel_rfl⟩
instance : FnOk Tryd.prog 35 := ⟨by kernel_rfl⟩
instance : FnOk Tryd.prog 36 := ⟨by kernel_rfl⟩
instance : FnOk Tryd.prog 37 := ⟨by kernel_rfl⟩
instance : FnOk Tryd.prog 38 := ⟨by kernel_rfl⟩
instance : FnOk Tryd.prog 39 := ⟨by kernel_rfl⟩
instance : FnOk Tryd.prog 40 := ⟨by kernel_rfl⟩
instance : FnOk Tryd.prog 41 := ⟨by kernel_rfl⟩
instance : FnOk Tryd.prog 42 := ⟨by kernel_rfl⟩
instance : FnOk Tryd.prog 45 := ⟨by kernel_rfl⟩
instance : FnOk Tryd.prog 46 := ⟨by kernel_rfl⟩
instance : FnOk Tryd.prog 47 := ⟨by kernel_rfl⟩
instance : FnOk Tryd.prog 48 := ⟨by kernel_rfl⟩
instance : FnOk Tryd.prog 49 := ⟨by kernel_rfl⟩
instance : FnOk Tryd.prog 50 := ⟨by kernel_rfl⟩
instance : FnOk Tryd.prog 51 := ⟨by kernel_rfl⟩
instance : FnOk Tryd.prog 52 := ⟨by kernel_rfl⟩
instance : FnOk Tryd.prog 53 := ⟨by kernel_rfl⟩
instance : FnOk Tryd.prog 54 := ⟨by kernel_rfl⟩
instance : FnOk Tryd.prog 56 := ⟨by kernel_rfl⟩
instance : FnOk Tryd.prog 57 := ⟨by kernel_rfl⟩
instance : FnOk Tryd.prog 58 := ⟨by kernel_rfl⟩
instance : FnOk Tryd.prog 59 := ⟨by kernel_rfl⟩
instance : FnOk Tryd.prog 60 := ⟨by kernel_rfl⟩
instance : FnOk Tryd.prog 61 := ⟨by kernel_rfl⟩
instance : FnOk Tryd.prog 62 := ⟨by kernel_rfl⟩
instance : FnOk Tryd.prog 63 := ⟨by kernel_rfl⟩
instance : FnOk Tryd.prog 64 := ⟨by kernel_rfl⟩
instance : FnOk Tryd.prog 65 := ⟨by kernel_rfl⟩
instance : FnOk Tryd.prog 66 := ⟨by kernel_rfl⟩
instance : FnOk Tryd.prog 67 := ⟨by kernel_rfl⟩
instance : FnOk Tryd.prog 68 := ⟨by kernel_rfl⟩
instance : FnOk Tryd.prog 69 := ⟨by kernel_rfl⟩
instance : FnOk Tryd.prog 70 := ⟨by kernel_rfl⟩
instance : FnOk Tryd.prog 71 := ⟨by kernel_rfl⟩
instance : FnOk Tryd.prog 73 := ⟨by kernel_rfl⟩
instance : FnOk Tryd.prog 74 := ⟨by kernel_rfl⟩
instance : FnOk Tryd.prog 75 := ⟨by kernel_rfl⟩
instance : FnOk Tryd.prog 76 := ⟨by kernel_rfl⟩
instance : FnOk Tryd.prog 77 := ⟨by kernel_rfl⟩
instance : FnOk Tryd.prog 78 := ⟨by kernel_rfl⟩
instance : FnOk Tryd.prog 79 := ⟨by kernel_rfl⟩
instance : FnOk Tryd.prog 80 := ⟨by kernel_rfl⟩
instance : FnOk Tryd.prog 81 := ⟨by kernel_rfl⟩
instance : FnOk Tryd.prog 82 := ⟨by kernel_rfl⟩
instance : FnOk Tryd.prog 83 := ⟨by kernel_rfl⟩
instance : FnOk Tryd.prog 84 := ⟨by kernel_rfl⟩
instance : FnOk Tryd.prog 85 := ⟨by kernel_rfl⟩
instance : FnOk Tryd.prog 86 := ⟨by kernel_rfl⟩
instance : FnOk Tryd.prog 87 := ⟨by kernel_rfl⟩
instance : FnOk Tryd.prog 88 := ⟨by kernel_rfl⟩
instance : FnOk Tryd.prog 91 := ⟨by kernel_rfl⟩
instance : FnOk Tryd.prog 92 := ⟨by kernel_rfl⟩
instance : FnOk Tryd.prog 93 := ⟨by kernel_rfl⟩
instance : FnOk Tryd.prog 94 := ⟨by kernel_rfl⟩
instance : FnOk Tryd.prog 95 := ⟨by kernel_rfl⟩
instance : FnOk Tryd.prog 96 := ⟨by kernel_rfl⟩
instance : FnOk Tryd.prog 97 := ⟨by kernel_rfl⟩
instance : FnOk Tryd.prog 98 := ⟨by kernel_rfl⟩
instance : FnOk Tryd.prog 99 := ⟨by kernel_rfl⟩
instance : FnOk Tryd.prog 100 := ⟨by kernel_rfl⟩
instance : FnOk Tryd.prog 101 := ⟨by kernel_rfl⟩
instance : FnOk Tryd.prog 102 := ⟨by kernel_rfl⟩
instance : FnOk Tryd.prog 103 := ⟨by kernel_rfl⟩
instance : FnOk Tryd.prog 104 := ⟨by kernel_rfl⟩
instance : FnOk Tryd.prog 105 := ⟨by kernel_rfl⟩
instance : FnOk Tryd.prog 106 := ⟨by kernel_rfl⟩
instance : FnOk Tryd.prog 107 := ⟨by kernel_rfl⟩
instance : FnOk Tryd.prog 108 := ⟨by kernel_rfl⟩
instance : FnOk Tryd.prog 110 := ⟨by kernel_rfl⟩
instance : FnOk Tryd.prog 111 := ⟨by kernel_rfl⟩
instance : FnOk Tryd.prog 113 := ⟨by kernel_rfl⟩
instance : FnOk Tryd.prog 114 := ⟨by kernel_rfl⟩
instance : FnOk Tryd.prog 115 := ⟨by kernel_rfl⟩
instance : FnOk Tryd.prog 136 := ⟨by kernel_rfl⟩
instance : FnOk Tryd.prog 137 := ⟨by kernel_rfl⟩
instance : FnOk Tryd.prog 138 := ⟨by kernel_rfl⟩
instance : FnOk Tryd.prog 139 := ⟨by kernel_rfl⟩
instance : FnOk Tryd.prog 140 := ⟨by kernel_rfl⟩
instance : FnOk Tryd.prog 141 := ⟨by kernel_rfl⟩
instance : FnOk Tryd.prog 142 := ⟨by kernel_rfl⟩
instance : FnOk Tryd.prog 143 := ⟨by kernel_rfl⟩
instance : FnOk Tryd.prog 144 := ⟨by kernel_rfl⟩
instance : FnOk Tryd.prog 145 := ⟨by kernel_rfl⟩
instance : FnOk Tryd.prog 146 := ⟨by kernel_rfl⟩
instance : FnOk Tryd.prog 147 := ⟨by kernel_rfl⟩
instance : FnOk Tryd.prog 148 := ⟨by kernel_rfl⟩
instance : FnOk Tryd.prog 149 := ⟨by kernel_rfl⟩
instance : FnOk Tryd.prog 150 := ⟨by kernel_rfl⟩
instance : FnOk Tryd.prog 151 := ⟨by kernel_rfl⟩
instance : TyF Tryd.prog 25 0 0 1 false := ⟨_, _, (.int .i64), Tryd.underlying25, rfl, rfl, (inferInstance : TyI Tryd.prog 3 (.int .i64) false 1), by decide⟩
instance : TyF Tryd.prog 25 1 1 1 false := ⟨_, _, (.int .i64), Tryd.underlying25, rfl, rfl, (inferInstance : TyI Tryd.prog 3 (.int .i64) false 1), by decide⟩
instance : TyF Tryd.prog 25 2 2 1 false := ⟨_, _, (.int .i64), Tryd.underlying25, rfl, rfl, (inferInstance : TyI Tryd.prog 3 (.int .i64) false 1), by decide⟩
instance : TyF Tryd.prog 25 3 3 1 false := ⟨_, _, (.slice 25), Tryd.underlying25, rfl, rfl, (inferInstance : TyI Tryd.prog 23 (.slice 25) false 1), by decide⟩
instance : TyF Tryd.prog 33 0 0 1 false := ⟨_, _, (.int .i64), Tryd.underlying33, rfl, rfl, (inferInstance : TyI Tryd.prog 3 (.int .i64) false 1), by decide⟩
instance : TyF Tryd.prog 33 1 1 1 false := ⟨_, _, (.slice 22), Tryd.underlying33, rfl, rfl, (inferInstance : TyI Tryd.prog 31 (.slice 22) false 1), by decide⟩
instance : TyF Tryd.prog 33 2 2 1 false := ⟨_, _, (.slice 3), Tryd.underlying33, rfl, rfl, (inferInstance : TyI Tryd.prog 22 (.slice 3) false 1), by decide⟩
instance : TyF Tryd.prog 33 3 3 1 false := ⟨_, _, (.slice 3), Tryd.underlying33, rfl, rfl, (inferInstance : TyI Tryd.prog 22 (.slice 3) false 1), by decide⟩
instance : TyF Tryd.prog 33 4 4 1 false := ⟨_, _, (.slice 3), Tryd.underlying33, rfl, rfl, (inferInstance : TyI Tryd.prog 22 (.slice 3) false 1), by decide⟩
instance : TyF Tryd.prog 61 0 0 1 false := ⟨_, _, (.slice 3), Tryd.underlying61, rfl, rfl, (inferInstance : TyI Tryd.prog 22 (.slice 3) false 1), by decide⟩
instance : TyF Tryd.prog 61 1 1 1 false := ⟨_, _, (.int .i64), Tryd.underlying61, rfl, rfl, (inferInstance : TyI Tryd.prog 3 (.int .i64) false 1), by decide⟩
instance : TyF Tryd.prog 61 2 2 1 false := ⟨_, _, (.int .i64), Tryd.underlying61, rfl, rfl, (inferInstance : TyI Tryd.prog 3 (.int .i64) false 1), by decide⟩
instance : TyF Tryd.prog 77 0 0 5 true := ⟨_, _, Tryd.ds33, Tryd.underlying77, rfl, rfl, (inferInstance : TyI Tryd.prog 33 Tryd.ds33 true 5), by decide⟩
instance : TyF Tryd.prog 77 1 5 1 false := ⟨_, _, (.map 3 3), Tryd.underlying77, rfl, rfl, (inferInstance : TyI Tryd.prog 70 (.map 3 3) false 1), by decide⟩
instance : TyF Tryd.prog 77 2 6 1 false := ⟨_, _, (.map 9 81), Tryd.underlying77, rfl, rfl, (inferInstance : TyI Tryd.prog 75 (.map 9 81) false 1), by decide⟩
instance : TyF Tryd.prog 107 0 0 1 false := ⟨_, _, Tryd.ds28, Tryd.underlying107, rfl, rfl, (inferInstance : TyI Tryd.prog 28 Tryd.ds28 false 1), by decide⟩
instance : TyF Tryd.prog 107 1 1 1 false := ⟨_, _, .bool, Tryd.underlying107, rfl, rfl, (inferInstance : TyI Tryd.prog 4 .bool false 1), by decide⟩
instance : TyF Tryd.prog 107 2 2 1 false := ⟨_, _, .bool, Tryd.underlying107, rfl, rfl, (inferInstance : TyI Tryd.prog 4 .bool false 1), by decide⟩
end Go.Proofs
end
section
namespace Go.Ord
theorem getD_lt {α : Type} {l : List α} {i : Nat} (h : i < l.length) (d : α) : l.getD i d = l[i] := by rw [List.getD_eq_getElem?_getD, List.getElem?_eq_getElem h]; rfl
def around (n most : Int) : Int := (if n < 0 then -(n + 1) else n) % most
def I64 (n : Int) : Prop := -9223372036854775808 <= n /\ n <= 9223372036854775807
theorem around_bound (n : Int) {most : Int} (h : 0 < most) : 0 <= around n most /\ around n most < most := ⟨Int.emod_nonneg _ (by omega), Int.emod_lt_of_pos _ h⟩
/-! The rows made from numbers. -/
def findI {α : Type} (p : α -> Bool) (l : List α) : Int := match l.findIdx? p with | some i => i | none => -1
theorem findI_some {α : Type} {p : α -> Bool} {l : List α} {k : Nat} (hk : k < l.length) (hp : p l[k] = true) (hno : ∀ j (h : j < l.length), j < k -> p l[j] = false) : findI p l = k := by
 have : l.findIdx? p = some k := List.findIdx?_eq_some_iff_getElem.2 ⟨hk, hp, fun j hj => by simpa using hno j (by omega) hj⟩
 simp [findI, this]
theorem findI_none {α : Type} {p : α -> Bool} {l : List α} (hno : ∀ j (h : j < l.length), p l[j] = false) : findI p l = -1 := by
 have : l.findIdx? p = none := List.findIdx?_eq_none_iff.2 fun x hx => by
  obtain ⟨j, hj, rfl⟩ := List.getElem_of_mem hx
  exact hno j hj
 simp [findI, this]
theorem findI_any {α : Type} (p : α -> Bool) (l : List α) : decide (0 <= findI p l) = l.any p := by
 unfold findI
 cases h : l.findIdx? p with
 | none =>
  have : l.any p = false := by
   rw [List.any_eq_false]; intro x hx; simp [List.findIdx?_eq_none_iff.1 h x hx]
  simp [this]
 | some i =>
  obtain ⟨hi, hp, _⟩ := List.findIdx?_eq_some_iff_getElem.1 h
  have : l.any p = true := List.any_eq_true.2 ⟨l[i], List.getElem_mem _, hp⟩
  simp [this]
/-! Lists shortened in place. -/
theorem filter_take_succ {α : Type} {p : α -> Bool} {l : List α} {j : Nat} (h : j < l.length) : (l.take (j + 1)).filter p = if p l[j] = true then (l.take j).filter p ++ [l[j]] else (l.take j).filter p := by
 rw [List.take_succ_eq_append_getElem h, List.filter_append]
 split
 ·rename_i hp; rw [List.filter_cons_of_pos hp]; rfl
 ·rename_i hp; rw [List.filter_cons_of_neg hp]; simp
theorem take_set_succ {α : Type} {r : List α} {i : Nat} {x : α} (h : i < r.length) : (r.set i x).take (i + 1) = r.take i ++ [x] := by
 rw [List.take_succ_eq_append_getElem (by rw [List.length_set]; exact h), List.take_set_of_le (Nat.le_refl _), List.getElem_set_self]
theorem findI_neg {α : Type} {p : α -> Bool} {l : List α} (h : findI p l = -1) : ∀ x ∈ l, p x = false := by
 intro x hx
 have : l.any p = false := by rw [<- findI_any, h]; rfl
 simpa using List.any_eq_false.1 this x hx
theorem findI_pos {α : Type} {p : α -> Bool} {l : List α} (h : findI p l ≠ -1) : ∃ i, findI p l = (i : Nat) /\ ∃ hi : i < l.length, p l[i] = true /\ ∀ x ∈ l.take i, p x = false := by
 unfold findI at h ⊢
 cases hf : l.findIdx? p with
 | none => rw [hf] at h; exact absurd rfl h
 | some i =>
  obtain ⟨hi, hp, hno⟩ := List.findIdx?_eq_some_iff_getElem.1 hf
  refine ⟨i, rfl, hi, hp, fun x hx => ?_⟩
  obtain ⟨j, hj, rfl⟩ := List.getElem_of_mem hx
  rw [List.length_take] at hj
  rw [List.getElem_take]
  simpa using hno j (by omega)
/-! The sets of the program: bits for the places of a row's tests among all tests. -/
/-! The reference's edges. -/
end Go.Ord
end
section
namespace Go.Bl
open Go.Av
structure St where
 vars : Int
 cl : List (List Int)
def Zy (s : St) : Bool := decide (2000 < s.vars) || decide (16384 < (s.cl.length : Int))
def fresh (s : St) : St := ⟨s.vars + 1, s.cl⟩
def kept (l : List Int) : List Int := l.filter fun x => !decide (x = -1)
def add (s : St) (l : List Int) : St := if (Zy s || l.contains 1) = true then s else ⟨s.vars, s.cl ++ [kept l]⟩
def and (s : St) (x y : Int) : Int × St :=
 if x = 1 \/ x = y then (y, s) else if y = 1 then (x, s) else if x = -1 \/ y = -1 \/ x = -y then (-1, s) else
 (s.vars + 1, add (add (add (fresh s) [-x, -y, s.vars + 1]) [x, -(s.vars + 1)]) [y, -(s.vars + 1)])
def or (s : St) (x y : Int) : Int × St := (-(and s (-x) (-y)).1, (and s (-x) (-y)).2)
def xor (s : St) (x y : Int) : Int × St :=
 if x = y then (-1, s) else if x = -y then (1, s) else if x = 1 \/ x = -1 then (y * -x, s) else if y = 1 \/ y = -1 then (x * -y, s) else
 (s.vars + 1, add (add (add (add (fresh s) [-x, -y, -(s.vars + 1)]) [x, y, -(s.vars + 1)]) [-x, y, s.vars + 1]) [x, -y, s.vars + 1])
structure Ok (s : St) : Prop where
 v0 : 0 <= s.vars
 v1 : s.vars <= 1099511627776
 c : s.cl.length <= 16385
theorem WG (s : St) (l : List Int) : (add s l).vars = s.vars := by unfold add; split <;> rfl
theorem add_len {s : St} {l : List Int} (h : s.cl.length <= 16385) : (add s l).cl.length <= 16385 := by
 unfold add
 split
 ·exact h
 ·rename_i hf
  have : ¬ (16384 < (s.cl.length : Int)) := fun h => hf (by simp [Zy, h])
  simp; omega
theorem add_ok {s : St} (h : Ok s) (l : List Int) : Ok (add s l) := ⟨by rw [WG]; exact h.v0, by rw [WG]; exact h.v1, add_len h.c⟩
theorem fresh_ok {s : St} (h : Ok s) (h1 : s.vars < 1099511627776) : Ok (fresh s) := ⟨by have := h.v0; show 0 <= s.vars + 1; omega, by show s.vars + 1 <= _; omega, h.c⟩
def Lim (s : St) (x : Int) : Prop := -(s.vars + 1) <= x /\ x <= s.vars + 1
theorem Zz {s : St} {x y : Int} (hx : Lim s x) (hy : Lim s y) (h0 : 0 <= s.vars) : Lim s (and s x y).1 := by
 obtain ⟨h1, h2⟩ := hx
 obtain ⟨h3, h4⟩ := hy
 unfold and
 split
 ·exact ⟨h3, h4⟩
 ·split
  ·exact ⟨h1, h2⟩
  ·split
   ·exact ⟨by omega, by omega⟩
   ·exact ⟨by show -(s.vars + 1) <= s.vars + 1; omega, Int.le_refl _⟩
theorem and_vars (s : St) (x y : Int) : s.vars <= (and s x y).2.vars /\ (and s x y).2.vars <= s.vars + 1 := by
 unfold and
 split
 ·simp; omega
 ·split
  ·simp; omega
  ·split
   ·simp; omega
   ·simp only [WG, fresh]; omega
theorem and_ok {s : St} (hs : Ok s) (hv : s.vars < 1099511627776) (x y : Int) : Ok (and s x y).2 := by
 unfold and
 split
 ·exact hs
 ·split
  ·exact hs
  ·split
   ·exact hs
   ·exact add_ok (add_ok (add_ok (fresh_ok hs hv) _) _) _
theorem xor_lim {s : St} {x y : Int} (hx : Lim s x) (hy : Lim s y) (h0 : 0 <= s.vars) : Lim s (xor s x y).1 := by
 obtain ⟨h1, h2⟩ := hx
 obtain ⟨h3, h4⟩ := hy
 unfold xor
 split
 ·exact ⟨by omega, by omega⟩
 ·split
  ·exact ⟨by omega, by omega⟩
  ·split
   ·rename_i h
    rcases h with rfl | rfl
    ·exact ⟨by show _ <= y * -1; omega, by show y * -1 <= _; omega⟩
    ·exact ⟨by show _ <= y * - -1; omega, by show y * - -1 <= _; omega⟩
   ·split
    ·rename_i h
     rcases h with rfl | rfl
     ·exact ⟨by show _ <= x * -1; omega, by show x * -1 <= _; omega⟩
     ·exact ⟨by show _ <= x * - -1; omega, by show x * - -1 <= _; omega⟩
    ·exact ⟨by show -(s.vars + 1) <= s.vars + 1; omega, Int.le_refl _⟩
theorem xor_vars (s : St) (x y : Int) : s.vars <= (xor s x y).2.vars /\ (xor s x y).2.vars <= s.vars + 1 := by
 unfold xor
 split
 ·simp; omega
 ·split
  ·simp; omega
  ·split
   ·simp; omega
   ·split
    ·simp; omega
    ·simp only [WG, fresh]; omega
theorem xor_ok {s : St} (hs : Ok s) (hv : s.vars < 1099511627776) (x y : Int) : Ok (xor s x y).2 := by
 unfold xor
 split
 ·exact hs
 ·split
  ·exact hs
  ·split
   ·exact hs
   ·split
    ·exact hs
    ·exact add_ok (add_ok (add_ok (add_ok (fresh_ok hs hv) _) _) _) _
theorem Lim.mono {s s' : St} {x : Int} (h : Lim s x) (hv : s.vars <= s'.vars) : Lim s' x := by
 obtain ⟨h1, h2⟩ := h
 exact ⟨by omega, by omega⟩
theorem Lim.neg {s : St} {x : Int} (h : Lim s x) : Lim s (-x) := by
 obtain ⟨h1, h2⟩ := h
 exact ⟨by omega, by omega⟩
def ZC (n : Int) : Int := Av.bitsOf .and .i64 n 15
def bitAt (n : Int) (i : Nat) : Prop := Av.bitsOf .and .i64 (ZC n / 2 ^ min ((i : Int)).toNat 64) 1 = 1
instance (n : Int) (i : Nat) : Decidable (bitAt n i) := inferInstanceAs (Decidable (_ = _))
def W3 (n : Int) : Nat -> List Int
 | 0 => [0, 0, 0, 0]
 | i + 1 => (W3 n i).set i (if bitAt n i then 1 else -1)
def qo (n : Int) : List Int := W3 n 4
theorem ZX (n : Int) : ∀ i, (W3 n i).length = 4
 | 0 => rfl
 | i + 1 => by rw [W3, List.length_set, ZX n i]
def width (k : Int) : Int := if k = 1 then 1 else 4
theorem or_lim {s : St} {x y : Int} (hx : Lim s x) (hy : Lim s y) (h0 : 0 <= s.vars) : Lim s (or s x y).1 := (Zz hx.neg hy.neg h0).neg
theorem or_vars (s : St) (x y : Int) : s.vars <= (or s x y).2.vars /\ (or s x y).2.vars <= s.vars + 1 := and_vars s (-x) (-y)
theorem or_ok {s : St} (hs : Ok s) (hv : s.vars < 1099511627776) (x y : Int) : Ok (or s x y).2 := and_ok hs hv (-x) (-y)
def lessAt (s : St) (a b out : Int) : Int × St :=
 or (and (xor (and s (-a) b).2 a b).2 (-(xor (and s (-a) b).2 a b).1) out).2 (and s (-a) b).1 (and (xor (and s (-a) b).2 a b).2 (-(xor (and s (-a) b).2 a b).1) out).1
def Zj (s : St) (x y : List Int) : Nat -> Int × St
 | 0 => (-1, s)
 | i + 1 => lessAt (Zj s x y i).2 (x.getD i 0) (y.getD i 0) (Zj s x y i).1
def ZZ (x y : List Int) : List Int := x.set 3 (y.getD 3 0)
def less (s : St) (x y : List Int) : Int × St := Zj s (ZZ x y) (ZZ y x) 4
structure Gate (s s' : St) (k : Int) : Prop where
 ok : Ok s'
 lo : s.vars <= s'.vars
 hi : s'.vars <= s.vars + k
theorem Gate.trans {s s' s'' : St} {k j : Int} (h : Gate s s' k) (h' : Gate s' s'' j) : Gate s s'' (k + j) := ⟨h'.ok, by have := h.lo; have := h'.lo; omega, by have := h.hi; have := h'.hi; omega⟩
theorem Zf {s : St} (hs : Ok s) (hv : s.vars < 1099511627776) (x y : Int) : Gate s (and s x y).2 1 := ⟨and_ok hs hv x y, (and_vars s x y).1, (and_vars s x y).2⟩
theorem or_gate {s : St} (hs : Ok s) (hv : s.vars < 1099511627776) (x y : Int) : Gate s (or s x y).2 1 := ⟨or_ok hs hv x y, (or_vars s x y).1, (or_vars s x y).2⟩
theorem xor_gate {s : St} (hs : Ok s) (hv : s.vars < 1099511627776) (x y : Int) : Gate s (xor s x y).2 1 := ⟨xor_ok hs hv x y, (xor_vars s x y).1, (xor_vars s x y).2⟩
theorem lessAt_gate {s : St} (hs : Ok s) (hv : s.vars + 4 < 1099511627776) {a b out : Int} (ha : Lim s a) (hb : Lim s b) (ho : Lim s out) : Gate s (lessAt s a b out).2 4 /\ Lim (lessAt s a b out).2 (lessAt s a b out).1 := by
 have g1 := Zf hs (by omega) (-a) b
 have l1 := Zz (s := s) ha.neg hb hs.v0
 have k1 := g1.hi
 have g2 := xor_gate g1.ok (by omega) a b
 have l2 := xor_lim (s := (and s (-a) b).2) (ha.mono g1.lo) (hb.mono g1.lo) g1.ok.v0
 have k2 := g2.hi
 have g3 := Zf g2.ok (by omega) (-(xor (and s (-a) b).2 a b).1) out
 have l3 := Zz (s := (xor (and s (-a) b).2 a b).2) (l2.neg.mono g2.lo) (ho.mono (by have := g1.lo; have := g2.lo; omega)) g2.ok.v0
 have k3 := g3.hi
 have g4 := or_gate g3.ok (by omega) (and s (-a) b).1 (and (xor (and s (-a) b).2 a b).2 (-(xor (and s (-a) b).2 a b).1) out).1
 have l4 := or_lim (s := (and (xor (and s (-a) b).2 a b).2 (-(xor (and s (-a) b).2 a b).1) out).2) (x := (and s (-a) b).1) (l1.mono (by have := g1.lo; have := g2.lo; have := g3.lo; omega)) (l3.mono g3.lo) g3.ok.v0
 exact ⟨((g1.trans g2).trans g3).trans g4, l4.mono g4.lo⟩
theorem Wq {s : St} {x : List Int} (h : ∀ v ∈ x, Lim s v) (h0 : 0 <= s.vars) (i : Nat) : Lim s (x.getD i 0) := by
 rw [List.getD_eq_getElem?_getD]
 by_cases hi : i < x.length
 ·rw [List.getElem?_eq_getElem hi]; exact h _ (List.getElem_mem hi)
 ·rw [List.getElem?_eq_none (by omega)]; exact ⟨by show _ <= (0 : Int); omega, by show (0 : Int) <= _; omega⟩
theorem lessTo_gate {s : St} (hs : Ok s) (hv : s.vars + 100 < 1099511627776) {x y : List Int} (hx : ∀ v ∈ x, Lim s v) (hy : ∀ v ∈ y, Lim s v) : ∀ i : Nat, i <= 8 -> Gate s (Zj s x y i).2 (4 * i) /\ Lim (Zj s x y i).2 (Zj s x y i).1
 | 0, _ => ⟨⟨hs, Int.le_refl _, by show s.vars <= _; omega⟩, by have := hs.v0; exact ⟨by show _ <= (-1 : Int); show -(s.vars + 1) <= -1; omega, by show (-1 : Int) <= s.vars + 1; omega⟩⟩
 | i + 1, hi => by
  obtain ⟨h1, h2⟩ := lessTo_gate hs hv hx hy i (by omega)
  have hh := h1.hi
  obtain ⟨k1, k2⟩ := lessAt_gate h1.ok (by omega) ((Wq hx hs.v0 i).mono h1.lo) ((Wq hy hs.v0 i).mono h1.lo) h2
  exact ⟨by have := h1.trans k1; rwa [show (4 : Int) * (i : Int) + 4 = 4 * ((i + 1 : Nat) : Int) by omega] at this, k2⟩
end Go.Bl
namespace Go.Av
open Go.Bl
section
variable {P : Program} {G : Nat -> DV}
def BM (P : Program) (G : Nat -> DV) (f : FuncId) (args : List DV) (v : Int) (cl : List (List Int)) (res : DV) (s' : St) : Prop :=
 ∀ (g0 g1 g2 g3 : Nat) (c2 c3 c4 : DV) (m : List (Int × DV)) (sn : List (Value × DV)), c2.clo = true -> c3.clo = true -> c4.clo = true -> (∀ p ∈ Wg m, p.2.clo = true) -> (∀ p ∈ sn, p.2.clo = true) -> ∀ B, g0 <= B -> g1 <= B -> g2 <= B -> g3 <= B ->
  ACalls P G B f (.ptr 0 g0 0 :: args) [.row g0 [.sc (.int .i64 v), .ref 1 g1 0 cl.length 1, c2, c3, c4, .mp 2 g2, .mp 3 g3], .row g1 (Qq cl), .mapb g2 (Wg m), .mapb g3 sn]
   (fun d' τ' => d' = res /\ ∃ g1', (g1' = g1 \/ B < g1') /\ τ' = [.row g0 [.sc (.int .i64 s'.vars), .ref 1 g1' 0 s'.cl.length 1, c2, c3, c4, .mp 2 g2, .mp 3 g3], .row g1' (Qq s'.cl), .mapb g2 (Wg m), .mapb g3 sn])
def BA (P : Program) (G : Nat -> DV) (f : FuncId) (l : List Int) (v : Int) (cl : List (List Int)) (s' : St) : Prop :=
 ∀ (g0 g1 g2 g3 gl : Nat) (c2 c3 c4 : DV) (m : List (Int × DV)) (sn : List (Value × DV)), c2.clo = true -> c3.clo = true -> c4.clo = true -> (∀ p ∈ Wg m, p.2.clo = true) -> (∀ p ∈ sn, p.2.clo = true) -> ∀ B, g0 <= B -> g1 <= B -> g2 <= B -> g3 <= B -> gl <= B ->
  ACalls P G B f [.ptr 0 g0 0, .ref 4 gl 0 l.length 1] [.row g0 [.sc (.int .i64 v), .ref 1 g1 0 cl.length 1, c2, c3, c4, .mp 2 g2, .mp 3 g3], .row g1 (Qq cl), .mapb g2 (Wg m), .mapb g3 sn, .row gl (Qq l)]
   (fun d' τ' => d' = .tup [] /\ ∃ g1', (g1' = g1 \/ B < g1') /\ τ' = [.row g0 [.sc (.int .i64 s'.vars), .ref 1 g1' 0 s'.cl.length 1, c2, c3, c4, .mp 2 g2, .mp 3 g3], .row g1' (Qq s'.cl), .mapb g2 (Wg m), .mapb g3 sn, .gone])
variable {B : Nat} {f : Operand -> DV} {σ : List ABlk} {K : DV -> List ABlk -> Prop} {dst : Option Tmp} {type : TypeId} {pos : String} {after : Array Edge} {gd : Option (Nat × Bool)}
theorem renl_clo {q : Nat -> Nat} : ∀ {ds : List DV}, (∀ d ∈ ds, d.clo = true) -> RenL (RenD q) ds ds
 | [], _ => .nil
 | d :: r, h => .cons (.s (.clo (h d (by simp)))) (renl_clo fun e he => h e (by simp [he]))
theorem s_call_bm {args : Array Operand} {ts : Array TypeId} {fid : FuncId} {ds : List DV} {v : Int} {cl : List (List Int)} {res : DV} {s' : St} {g0 g1 g2 g3 : Nat} {c2 c3 c4 : DV} {m : List (Int × DV)} {sn : List (Value × DV)} {rest : List ABlk} [FnOk P fid]
  (hx : f (.func fid) = .fn (.func fid) [] []) (hds : reL (args.toList.map f) = some (.ptr 0 g0 0 :: ds)) (h : BM P G fid ds v cl res s')
  (hσ : σ = .row g0 [.sc (.int .i64 v), .ref 1 g1 0 cl.length 1, c2, c3, c4, .mp 2 g2, .mp 3 g3] :: .row g1 (Qq cl) :: .mapb g2 (Wg m) :: .mapb g3 sn :: rest)
  (h2 : c2.clo = true) (h3 : c3.clo = true) (h4 : c4.clo = true) (hm : ∀ p ∈ Wg m, p.2.clo = true) (hsn : ∀ p ∈ sn, p.2.clo = true) (hdc : ∀ d ∈ ds, d.clo = true) (hres : res.clo = true)
  (k : ∀ g1', (g1' = g1 \/ B < g1') -> K res (.row g0 [.sc (.int .i64 s'.vars), .ref 1 g1' 0 s'.cl.length 1, c2, c3, c4, .mp 2 g2, .mp 3 g3] :: .row g1' (Qq s'.cl) :: .mapb g2 (Wg m) :: .mapb g3 sn :: rest)) :
  OpSem P G B ⟨dst, .call ⟨.value (.func fid), args, ts⟩, type, pos, after, gd⟩ f σ K := by
 subst hσ
 have hrow : ∀ {n : Nat} {v : Int} {g1 l : Nat}, RenB (qf [0, 1, 2, 3] n) (.row g0 [.sc (.int .i64 v), .ref 1 g1 0 l 1, c2, c3, c4, .mp 2 g2, .mp 3 g3]) (.row g0 [.sc (.int .i64 v), .ref 1 g1 0 l 1, c2, c3, c4, .mp 2 g2, .mp 3 g3]) := fun {n v g1 l} =>
  .row (.cons (.clo (by simp [DV.clo])) (.cons (.ref rfl) (.cons (.clo h2) (.cons (.clo h3) (.cons (.clo h4) (.cons (.mp rfl) (.cons (.mp rfl) .nil)))))))
 have hbs : ∀ {n : Nat} {v : Int} {cl : List (List Int)} {g1 : Nat}, RenBs (qf [0, 1, 2, 3] n) [.row g0 [.sc (.int .i64 v), .ref 1 g1 0 cl.length 1, c2, c3, c4, .mp 2 g2, .mp 3 g3], .row g1 (Qq cl), .mapb g2 (Wg m), .mapb g3 sn] [.row g0 [.sc (.int .i64 v), .ref 1 g1 0 cl.length 1, c2, c3, c4, .mp 2 g2, .mp 3 g3], .row g1 (Qq cl), .mapb g2 (Wg m), .mapb g3 sn] := fun {n v cl g1} =>
  .cons hrow (.cons (.rowc (Qk cl)) (.cons (.map hm) (.cons (.map hsn) .nil)))
 refine Zh (R := fun B d' τ' => d' = res /\ ∃ g1', (g1' = g1 \/ B < g1') /\ τ' = [.row g0 [.sc (.int .i64 s'.vars), .ref 1 g1' 0 s'.cl.length 1, c2, c3, c4, .mp 2 g2, .mp 3 g3], .row g1' (Qq s'.cl), .mapb g2 (Wg m), .mapb g3 sn]) [0, 1, 2, 3] hx hds (.cons (.s (.ptr rfl)) (renl_clo hdc)) (by decide) rfl hbs (fun B' hB hg => h g0 g1 g2 g3 c2 c3 c4 m sn h2 h3 h4 hm hsn B' (hg 0 _ _ rfl rfl) (hg 1 _ _ rfl rfl) (hg 2 _ _ rfl rfl) (hg 3 _ _ rfl rfl)) ?_
 rintro B' d' τ' hB ⟨rfl, g1', hg, rfl⟩
 exact ⟨d', _, _, .s (.clo hres), hbs, rfl, k g1' (by omega)⟩
theorem qn {args : Array Operand} {ts : Array TypeId} {fid : FuncId} {l : List Int} {v : Int} {cl : List (List Int)} {s' : St} {g0 g1 g2 g3 gl ki len es : Nat} {c2 c3 c4 : DV} {m : List (Int × DV)} {sn : List (Value × DV)} {cs : List DV} {rest rest' : List ABlk} [FnOk P fid]
  (hx : f (.func fid) = .fn (.func fid) [] []) (hds : reL (args.toList.map f) = some [.ptr 0 g0 0, .ref ki gl 0 len es]) (h : BA P G fid l v cl s')
  (hσ : σ = .row g0 [.sc (.int .i64 v), .ref 1 g1 0 cl.length 1, c2, c3, c4, .mp 2 g2, .mp 3 g3] :: .row g1 (Qq cl) :: .mapb g2 (Wg m) :: .mapb g3 sn :: rest)
  (h2 : c2.clo = true) (h3 : c3.clo = true) (h4 : c4.clo = true) (hm : ∀ p ∈ Wg m, p.2.clo = true) (hsn : ∀ p ∈ sn, p.2.clo = true) (hlen : len = l.length) (hes : es = 1) (hcs : cs = Qq l) (hki : Nat.ble 4 ki = true) (hk : rest[ki - 4]? = some (.row gl cs)) (hr : setA rest (ki - 4) .gone = some rest')
  (k : ∀ g1', (g1' = g1 \/ B < g1') -> K (.tup []) (.row g0 [.sc (.int .i64 s'.vars), .ref 1 g1' 0 s'.cl.length 1, c2, c3, c4, .mp 2 g2, .mp 3 g3] :: .row g1' (Qq s'.cl) :: .mapb g2 (Wg m) :: .mapb g3 sn :: rest')) :
  OpSem P G B ⟨dst, .call ⟨.value (.func fid), args, ts⟩, type, pos, after, gd⟩ f σ K := by
 subst hσ hlen hes hcs
 obtain ⟨kl, rfl⟩ : ∃ kl, ki = kl + 4 := ⟨ki - 4, by have := Nat.ble_eq.mp hki; omega⟩
 rw [Nat.add_sub_cancel] at hk hr
 have hrow : ∀ {n : Nat} {v : Int} {g1 l : Nat}, RenB (qf [0, 1, 2, 3, kl + 4] n) (.row g0 [.sc (.int .i64 v), .ref 1 g1 0 l 1, c2, c3, c4, .mp 2 g2, .mp 3 g3]) (.row g0 [.sc (.int .i64 v), .ref 1 g1 0 l 1, c2, c3, c4, .mp 2 g2, .mp 3 g3]) := fun {n v g1 l} =>
  .row (.cons (.clo (by simp [DV.clo])) (.cons (.ref rfl) (.cons (.clo h2) (.cons (.clo h3) (.cons (.clo h4) (.cons (.mp rfl) (.cons (.mp rfl) .nil)))))))
 refine Zh (R := fun B d' τ' => d' = .tup [] /\ ∃ g1', (g1' = g1 \/ B < g1') /\ τ' = [.row g0 [.sc (.int .i64 s'.vars), .ref 1 g1' 0 s'.cl.length 1, c2, c3, c4, .mp 2 g2, .mp 3 g3], .row g1' (Qq s'.cl), .mapb g2 (Wg m), .mapb g3 sn, .gone]) [0, 1, 2, 3, kl + 4] hx hds
  (.cons (.s (.ptr rfl)) (.cons (.s (.ref rfl)) .nil)) (by simp [List.nodup_cons]) (cs := [.row g0 [.sc (.int .i64 v), .ref 1 g1 0 cl.length 1, c2, c3, c4, .mp 2 g2, .mp 3 g3], .row g1 (Qq cl), .mapb g2 (Wg m), .mapb g3 sn, .row gl (Qq l)]) (by simp [pickA, hk]) (.cons hrow (.cons (.rowc (Qk cl)) (.cons (.map hm) (.cons (.map hsn) (.cons (.rowc (Qk l)) .nil)))))
  (fun B' hB hg => h g0 g1 g2 g3 gl c2 c3 c4 m sn h2 h3 h4 hm hsn B' (hg 0 _ _ rfl rfl) (hg 1 _ _ rfl rfl) (hg 2 _ _ rfl rfl) (hg 3 _ _ rfl rfl) (hg 4 _ _ rfl rfl)) ?_
 rintro B' d' τ' hB ⟨rfl, g1', hg, rfl⟩
 exact ⟨_, _, _, .s (.clo (by simp [DV.clo])), .cons hrow (.cons (.rowc (Qk _)) (.cons (.map hm) (.cons (.map hsn) (.cons .gone .nil)))), (by simp [setAll, setA, hr]), k g1' (by omega)⟩
end
section
theorem Zd {P : Program} {G : Nat -> DV} {B : Nat} {f : Operand -> DV} {σ : List ABlk} {K : DV -> List ABlk -> Prop} {dst : Option Tmp} {type : TypeId} {pos : String} {after : Array Edge} {gd : Option (Nat × Bool)} {args : Array Operand} {ts : Array TypeId} {fid : FuncId} {ds : List DV} {v : Int} {cl : List (List Int)} {res : DV} {s' : St} {g0 g1 g2 g3 : Nat} {c2 c3 c4 : DV} {m : List (Int × DV)} {sn : List (Value × DV)} {rest : List ABlk} [FnOk P fid]
  (hx : f (.func fid) = .fn (.func fid) [] []) (hds : reL (args.toList.map f) = some (.ptr 0 g0 0 :: ds)) (h : BM P G fid ds v cl res s')
  (hσ : σ = .row g0 [.sc (.int .i64 v), .ref 1 g1 0 cl.length 1, c2, c3, c4, .mp 2 g2, .mp 3 g3] :: .row g1 (Qq cl) :: .mapb g2 (Wg m) :: .mapb g3 sn :: rest)
  (k : ∀ g1', (g1' = g1 \/ B < g1') -> K res (.row g0 [.sc (.int .i64 s'.vars), .ref 1 g1' 0 s'.cl.length 1, c2, c3, c4, .mp 2 g2, .mp 3 g3] :: .row g1' (Qq s'.cl) :: .mapb g2 (Wg m) :: .mapb g3 sn :: rest))
  (h2 : c2.clo = true := by assumption) (h3 : c3.clo = true := by assumption) (h4 : c4.clo = true := by assumption) (hm : ∀ p ∈ Wg m, p.2.clo = true := by assumption) (hsn : ∀ p ∈ sn, p.2.clo = true := by assumption) (hdc : ∀ d ∈ ds, d.clo = true := by repeat' first | exact QX | refine QN ?_ ?_ | exact QA | exact QQ _ | exact Q8 (Qk _) | exact Qk _ | refine WX ?_ ?_ | refine WV ?_ | refine Wz ?_ | refine QB ?_) (hres : res.clo = true := by repeat' first | exact QA | exact QQ _ | exact Q8 (Qk _) | exact Qk _ | refine WX ?_ ?_ | refine WV ?_ | refine Wz ?_ | refine QB ?_ | exact QX | refine QN ?_ ?_ | refine Q8 ?_) :
  OpSem P G B ⟨dst, .call ⟨.value (.func fid), args, ts⟩, type, pos, after, gd⟩ f σ K := s_call_bm hx hds h hσ h2 h3 h4 hm hsn hdc hres k
end
end Go.Av
end
section
namespace Go.Proofs
open Go.Av
variable {G : Nat -> DV}
attribute [local irreducible] OpSem WE WY W0 ACalls ZE QV RV
theorem indexFuncI_c (l : List Int) (fid : FuncId) (first cap : List DV) (p : Int -> Bool) [FnOk Tryd.prog fid] (hl : l.length <= 4611686018427387904) (hp : ∀ x ∈ l, Go.Av.Pure Tryd.prog G fid (first ++ [.i x] ++ cap) (.b (p x))) :
  Go.Av.Pure Tryd.prog G 50 [Qy l, .fn (.func fid) first cap] (.i (Ord.findI p l)) := fun B => by
 refine Qb Tryd.func50 rfl Tryd.ntmps50 rfl (t := [(0, Qy l), (1, .fn (.func fid) first cap)]) rfl fun E hE => ?_
 (repeat' first | refine Qt rfl ?_ | refine Qv rfl ?_ | refine Qn rfl ?_ | refine Qe ?_ | refine Qp rfl ?_ | refine Qf ?_ | refine Qa ?_ | refine Qg ?_)
 refine Wi (fun k : Nat => ⟨[(0, Qy l), (1, .fn (.func fid) first cap), (7, .i l.length), (8, .i k)], []⟩) (fun k => k <= l.length /\ ∀ j (h : j < l.length), j < k -> p l[j] = false) (fun k => l.length - k) 0 ?_ ⟨by omega, fun j h hj => by omega⟩ ?_
 ·exact zal rfl
 intro k ⟨hk, hno⟩
 (repeat' first | refine QG rfl rfl ?_ | refine Qe ?_ | refine Qp rfl ?_ | refine Qf ?_ | refine Qa ?_)
 refine QE rfl (fun h => ?_) (fun h => ?_)
 ·have hk' : k < l.length := by omega
  (repeat' first | refine Qt rfl ?_ | refine Qv rfl ?_ | refine QF rfl ?_ | refine Qo rfl rfl (by first | assumption | omega | (simp; done) | (simp; omega)) ?_ | refine WQ rfl (hp _ (by first | assumption | exact List.getElem_mem _)) (by repeat' first | exact QA | exact QQ _ | exact Q8 (Qk _) | exact Qk _ | refine WX ?_ ?_ | refine WV ?_ | refine Wz ?_ | refine QB ?_ | exact QX | refine QN ?_ ?_ | refine Q8 ?_) ?_ | refine Qe ?_ | refine Qp rfl ?_ | refine Qf ?_ | refine Qa ?_ | refine Qg ?_ | refine Qj ?_)
  refine r_cond rfl (fun hb => ?_) (fun hb => ?_)
  ·(repeat' first | refine Qt rfl ?_ | refine Qv rfl ?_ | refine Qe ?_ | refine Qp rfl ?_ | refine Qf ?_ | refine Qa ?_ | refine Qm ?_)
   refine e_1 Tryd.results50 (Qh rfl) (Qr ?_)
   rw [Ord.findI_some hk' hb hno]
  ·(repeat' first | refine Qt rfl ?_ | refine QS rfl rfl (by omega) ?_ | refine Qe ?_ | refine Qp rfl ?_ | refine Qa ?_ | refine Qj ?_)
   refine ⟨k + 1, ⟨hk', fun j hj hjk => ?_⟩, by omega, ?_⟩
   ·rcases Nat.lt_or_ge j k with h' | h'
    ·exact hno j hj h'
    ·have : j = k := by omega
     subst this; exact hb
   ·exact zal rfl
 ·have hk' : k = l.length := by omega
  (repeat' first | refine Qv rfl ?_ | refine Qe ?_ | refine Qp rfl ?_ | refine Qf ?_ | refine Qa ?_ | refine QU rfl ?_ | refine Qm ?_)
  refine e_1 Tryd.results50 (Qh rfl) (Qr ?_)
  rw [Ord.findI_none fun j hj => hno j hj (by omega)]
theorem containsFuncI_c (l : List Int) (fid : FuncId) (first cap : List DV) (p : Int -> Bool) [FnOk Tryd.prog fid] (hl : l.length <= 4611686018427387904) (hp : ∀ x ∈ l, Go.Av.Pure Tryd.prog G fid (first ++ [.i x] ++ cap) (.b (p x))) :
  Go.Av.Pure Tryd.prog G 52 [Qy l, .fn (.func fid) first cap] (.b (l.any p)) := fun B => by
 refine Qb Tryd.func52 rfl Tryd.ntmps52 rfl (t := [(0, Qy l), (1, .fn (.func fid) first cap)]) rfl fun E hE => ?_
 (repeat' first | refine Qt rfl ?_ | refine Qv rfl ?_ | refine Qe ?_ | refine Qp rfl ?_ | refine Qf ?_ | refine Qa ?_)
 refine s_call_p rfl rfl (indexFuncI_c l fid first cap p hl hp) QA ?_
 (repeat' first | refine Qv rfl ?_ | refine Wv rfl rfl ?_ | refine Qe ?_ | refine Qp rfl ?_ | refine Qm ?_)
 refine e_1 Tryd.results52 (Qh rfl) (Qr ?_)
 rw [Ord.findI_any]
theorem indexI_c (l : List Int) (v : Int) (hl : l.length <= 4611686018427387904) : Go.Av.Pure Tryd.prog G 82 [Qy l, .i v] (.i (Ord.findI (fun x => decide (v = x)) l)) := fun B => by
 refine Qb Tryd.func82 rfl Tryd.ntmps82 rfl (t := [(0, Qy l), (1, .i v)]) rfl fun E hE => ?_
 (repeat' first | refine Qt rfl ?_ | refine Qv rfl ?_ | refine Qn rfl ?_ | refine Qe ?_ | refine Qp rfl ?_ | refine Qf ?_ | refine Qa ?_ | refine Qg ?_)
 refine Wi (fun k : Nat => ⟨[(0, Qy l), (1, .i v), (7, .i l.length), (8, .i k)], []⟩) (fun k => k <= l.length /\ ∀ j (h : j < l.length), j < k -> decide (v = l[j]) = false) (fun k => l.length - k) 0 ?_ ⟨by omega, fun j h hj => by omega⟩ ?_
 ·exact zal rfl
 intro k ⟨hk, hno⟩
 (repeat' first | refine QG rfl rfl ?_ | refine Qe ?_ | refine Qp rfl ?_ | refine Qf ?_ | refine Qa ?_)
 refine QE rfl (fun h => ?_) (fun h => ?_)
 ·have hk' : k < l.length := by omega
  (repeat' first | refine Qt rfl ?_ | refine Qv rfl ?_ | refine QF rfl ?_ | refine Qo rfl rfl (by first | assumption | omega | (simp; done) | (simp; omega)) ?_ | refine QH rfl rfl ?_ | refine Qe ?_ | refine Qp rfl ?_ | refine Qf ?_ | refine Qa ?_ | refine Qg ?_ | refine Qj ?_)
  refine QE rfl (fun hb => ?_) (fun hb => ?_)
  ·(repeat' first | refine Qt rfl ?_ | refine Qv rfl ?_ | refine Qe ?_ | refine Qp rfl ?_ | refine Qf ?_ | refine Qa ?_ | refine Qm ?_)
   refine e_1 Tryd.results82 (Qh rfl) (Qr ?_)
   rw [Ord.findI_some hk' (decide_eq_true hb) hno]
  ·(repeat' first | refine Qt rfl ?_ | refine QS rfl rfl (by omega) ?_ | refine Qe ?_ | refine Qp rfl ?_ | refine Qa ?_ | refine Qj ?_)
   refine ⟨k + 1, ⟨hk', fun j hj hjk => ?_⟩, by omega, ?_⟩
   ·rcases Nat.lt_or_ge j k with h' | h'
    ·exact hno j hj h'
    ·have : j = k := by omega
     subst this; exact decide_eq_false hb
   ·exact zal rfl
 ·have hk' : k = l.length := by omega
  (repeat' first | refine Qv rfl ?_ | refine Qe ?_ | refine Qp rfl ?_ | refine Qf ?_ | refine Qa ?_ | refine QU rfl ?_ | refine Qm ?_)
  refine e_1 Tryd.results82 (Qh rfl) (Qr ?_)
  rw [Ord.findI_none fun j hj => hno j hj (by omega)]
theorem containsI_c (l : List Int) (v : Int) (hl : l.length <= 4611686018427387904) : Go.Av.Pure Tryd.prog G 67 [Qy l, .i v] (.b (l.contains v)) := fun B => by
 have hk1 := indexI_c (G := G) l v hl
 refine Qb Tryd.func67 rfl Tryd.ntmps67 rfl (t := [(0, Qy l), (1, .i v)]) rfl fun E hE => ?_
 (repeat' first | refine Qt rfl ?_ | refine Qv rfl ?_ | refine Wv rfl rfl ?_ | refine QZ rfl rfl (hk1) ?_ | refine Qe ?_ | refine Qp rfl ?_ | refine Qf ?_ | refine Qa ?_ | refine Qm ?_)
 refine e_1 Tryd.results67 (Qh rfl) (Qr ?_)
 rw [Ord.findI_any]
 exact congrArg DV.b (by rw [Bool.eq_iff_iff, List.any_eq_true, List.contains_iff_mem]; exact ⟨fun ⟨x, h1, h2⟩ => by rw [of_decide_eq_true h2]; exact h1, fun h => ⟨v, h, decide_eq_true rfl⟩⟩)
theorem deleteFuncI_c (l : List Int) (fid : FuncId) (first cap : List DV) (p : Int -> Bool) [FnOk Tryd.prog fid] (hl : l.length <= 4611686018427387904) (hp : ∀ x ∈ l, Go.Av.Pure Tryd.prog G fid (first ++ [.i x] ++ cap) (.b (p x))) (g : Nat) :
  Mut1 Tryd.prog G 68 g [.ref 0 g 0 l.length 1, .fn (.func fid) first cap] (Qq l) (fun g' => .ref 0 g' 0 (l.filter fun x => !p x).length 1) (Qq (l.filter fun x => !p x)) true := fun B hB => by
 refine Qb Tryd.func68 rfl Tryd.ntmps68 rfl (t := [(0, .ref 0 g 0 l.length 1), (1, .fn (.func fid) first cap)]) rfl fun E hE => ?_
 (repeat' first | refine Qt rfl ?_ | refine Qv rfl ?_ | refine Qe ?_ | refine Qp rfl ?_ | refine Qf ?_ | refine Qa ?_)
 refine Z3 rfl rfl (.ref rfl (Qz l).symm (Qk l) (.same .nil)) (indexFuncI_c l fid first cap p hl hp) rfl ?_
 (repeat' first | refine Qt rfl ?_ | refine Qv rfl ?_ | refine QH rfl rfl ?_ | refine Qe ?_ | refine Qp rfl ?_ | refine Qf ?_ | refine Qa ?_)
 refine QE rfl (fun h => ?_) (fun h => ?_)
 ·have hno := Ord.findI_neg h
  have hf : l.filter (fun x => !p x) = l := List.filter_eq_self.2 fun x hx => by rw [hno x hx]; rfl
  (repeat' first | refine Qt rfl ?_ | refine Qv rfl ?_ | refine Qe ?_ | refine Qp rfl ?_ | refine Qf ?_ | refine Qa ?_ | refine Qm ?_)
  rw [hf]
  exact e_1 (Tryd.results68) (Qh rfl) (Za ⟨g, .inl rfl, rfl, rfl⟩)
 obtain ⟨i0, hi0, hil, hpi, hno⟩ := Ord.findI_pos h
 have hf0 : (l.take i0).filter (fun x => !p x) = l.take i0 := List.filter_eq_self.2 fun x hx => by rw [hno x hx]; rfl
 have hf1 : (l.take (i0 + 1)).filter (fun x => !p x) = l.take i0 := by rw [Ord.filter_take_succ hil, if_neg (by rw [hpi]; simp), hf0]
 rw [hi0]
 (repeat' first | refine Qt rfl ?_ | refine Qv rfl ?_ | refine QS rfl rfl (by omega) ?_ | refine Qe ?_ | refine Qp rfl ?_ | refine Qf ?_ | refine Qa ?_ | refine Qg ?_ | refine Qj ?_)
 refine qb (fun (j : Nat) (r : List Int) => ⟨[(0, .ref 0 g 0 l.length 1), (1, .fn (.func fid) first cap), (5, .i ((l.take j).filter fun x => !p x).length), (6, .i j)], [.row g (Qq r)]⟩) (fun j r => j <= l.length /\ r.length = l.length /\ ((l.take j).filter fun x => !p x).length < j /\ r.take ((l.take j).filter fun x => !p x).length = (l.take j).filter (fun x => !p x) /\ r.drop j = l.drop j) (fun j _ => l.length - j) (i0 + 1) l ?_ ⟨by omega, rfl, by rw [hf1, List.length_take]; omega, by rw [hf1, List.length_take, Nat.min_eq_left (by omega)], rfl⟩ ?_
 ·rw [hf1, List.length_take, Nat.min_eq_left (by omega)]
  exact zal rfl
 intro j r ⟨hj, hr, hlt, htk, hdr⟩
 (repeat' first | refine Qt rfl ?_ | refine QG rfl rfl ?_ | refine s_len_ref rfl rfl ?_ | refine Qe ?_ | refine Qp rfl ?_ | refine Qf ?_ | refine Qa ?_)
 refine QE rfl (fun h => ?_) (fun h => ?_)
 ·have hjl : j < l.length := by omega
  have hjr : j < r.length := by omega
  have hrj : r[j] = l[j] := by
   have := congrArg (·[0]?) hdr
   simpa [hjl, hjr] using this
  have hpj := hp _ (List.getElem_mem hjl)
  rw [<- hrj] at hpj
  have hfs := Ord.filter_take_succ (p := fun x => !p x) hjl
  have hdr' : r.drop (j + 1) = l.drop (j + 1) := by
   have := congrArg (·.drop 1) hdr
   simpa [List.drop_drop, Nat.add_comm] using this
  (repeat' first | refine Qt rfl ?_ | refine Qv rfl ?_ | refine Q9 rfl rfl rfl (by first | assumption | omega) rfl ?_ | refine WK rfl rfl rfl (by omega) ?_ | refine WQ rfl (hpj) (by repeat' first | exact QA | exact QQ _ | exact Q8 (Qk _) | exact Qk _ | refine WX ?_ ?_ | refine WV ?_ | refine Wz ?_ | refine QB ?_ | exact QX | refine QN ?_ ?_ | refine Q8 ?_) ?_ | refine ZQ rfl ?_ | refine Qe ?_ | refine Qp rfl ?_ | refine Qf ?_ | refine Qa ?_ | refine Qg ?_ | refine Qj ?_)
  refine r_cond rfl (fun hb => ?_) (fun hb => ?_)
  ·have hfs' := hfs
   rw [if_pos (by rw [<- hrj]; exact hb)] at hfs'
   have hlen : ((l.take (j + 1)).filter fun x => !p x).length = ((l.take j).filter fun x => !p x).length + 1 := by rw [hfs', List.length_append]; rfl
   have hfr : ((l.take j).filter fun x => !p x).length < r.length := by omega
   (repeat' first | refine Qt rfl ?_ | refine Qv rfl ?_ | refine WK rfl rfl rfl (by omega) ?_ | refine QS rfl rfl (by omega) ?_ | refine Q2 rfl rfl rfl rfl rfl (by first | assumption | omega) rfl ?_ | refine Qe ?_ | refine Qp rfl ?_ | refine Q0 ?_ | refine Qf ?_ | refine Qa ?_)
   refine ⟨j + 1, r.set ((l.take j).filter fun x => !p x).length r[j], ⟨by omega, by rw [List.length_set, hr], by omega, ?_, ?_⟩, by omega, ?_⟩
   ·rw [hlen, Ord.take_set_succ hfr, htk, hfs', hrj]
   ·rw [List.drop_set_of_lt (by omega), hdr']
   ·rw [hlen]
    exact zal rfl
  ·have hfs' := hfs
   rw [if_neg (by rw [<- hrj, hb]; exact Bool.noConfusion)] at hfs'
   (repeat' first | refine Qt rfl ?_ | refine Qv rfl ?_ | refine QS rfl rfl (by omega) ?_ | refine Qe ?_ | refine Qp rfl ?_ | refine Qa ?_ | refine Qj ?_)
   refine ⟨j + 1, r, ⟨by omega, hr, by rw [hfs']; omega, by rw [hfs', htk], hdr'⟩, by omega, ?_⟩
   rw [hfs']
   exact zal rfl
 ·have hjl : j = l.length := by omega
  subst hjl
  rw [List.take_length] at htk hlt ⊢
  (repeat' first | refine Qt rfl ?_ | refine Qv rfl ?_ | refine s_clear_tail rfl rfl rfl rfl rfl (by omega) (by omega) (by rfl) ?_ | refine s_slice_rh rfl rfl rfl (by omega) ?_ | refine s_slice_rl rfl rfl rfl (by omega) ?_ | refine Qe ?_ | refine Qp rfl ?_ | refine Q0 ?_ | refine Qf ?_ | refine Qa ?_ | refine QU rfl ?_ | refine Qm ?_)
  rw [htk]
  exact e_1 (Tryd.results68) (Qh rfl) (Za ⟨g, .inl rfl, rfl, rfl⟩)
theorem cloneI_c (l : List Int) (hl : l.length <= 1073741824) : Own Tryd.prog G 108 [Qy l] l.length (Enc.es Int) (Qq l) := fun B => by
 refine Qb Tryd.func108 rfl Tryd.ntmps108 rfl (t := [(0, Qy l)]) rfl fun E hE => ?_
 (repeat' first | refine Qt rfl ?_ | refine Qv rfl ?_ | refine s_eq_nil_d rfl rfl (fun _ => ?_) ?_ | refine s_app_z rfl rfl rfl rfl rfl (by first | omega | (simp; omega)) (by first | omega | (simp; omega)) (fun _ => rfl) (fun _ _ => ?_) | refine s_bslice_none rfl (fun _ _ => ?_) | refine Qe ?_ | refine Qp rfl ?_ | refine Qf ?_ | refine Qa ?_ | refine Qj ?_ | refine Qs rfl ?_ | refine Qi rfl ?_ | refine Qm ?_)
 ·rename_i h
  have : l = [] := by
   cases l with
   | nil => rfl
   | cons x l => simp [WD, Enc.enc] at h
  subst this
  exact e_1 (Tryd.results108) (Qh rfl) (c_own_nil hE)
 ·exact e_1 Tryd.results108 (Qh rfl) (c_ownedB hE rfl rfl rfl rfl)
theorem add1_c (x : Int) : Go.Av.Pure Tryd.prog G 69 [.i x] (.b (decide (x = -1))) := fun B => by
 refine Qb Tryd.func69 rfl Tryd.ntmps69 rfl (t := [(0, .i x)]) rfl fun E hE => ?_
 (repeat' first | refine Qt rfl ?_ | refine Qv rfl ?_ | refine QH rfl rfl ?_ | refine Qe ?_ | refine Qp rfl ?_ | refine Qf ?_ | refine Qa ?_ | refine Qm ?_)
 refine e_1 Tryd.results69 (Qh rfl) (Qr ?_)
 rfl
end Go.Proofs
end
section
namespace Go.Proofs
open Go.Av
variable {G : Nat -> DV}
attribute [local irreducible] OpSem WE WY W0 ACalls ZE QV RV
open Go.Bl
theorem fresh_c (s : St) (hs : Ok s) : BM Tryd.prog G 38 [] s.vars s.cl (.i (s.vars + 1)) (fresh s) := fun g0 g1 g2 g3 c2 c3 c4 m sn h2 h3 h4 hm hsn B b0 b1 b2 b3 => by
 have hv0 := hs.v0
 have hv1 := hs.v1
 refine Qb Tryd.func38 rfl Tryd.ntmps38 rfl (t := [(0, .ptr 0 g0 0)]) rfl fun E hE => ?_
 (repeat' first | refine Qt rfl ?_ | refine Qv rfl ?_ | refine Qc rfl rfl rfl ?_ | refine QS rfl rfl (by omega) ?_ | refine Qd rfl rfl ?_ | refine Wf rfl rfl rfl rfl (by rfl) (by rfl) (by rfl) ?_ | refine Q3 rfl rfl ?_ | refine Qe ?_ | refine Qp rfl ?_ | refine Q0 ?_ | refine Qf ?_ | refine Qa ?_ | refine Qm ?_)
 exact e_1 (Tryd.results38) (Qh rfl) (Za ⟨rfl, g1, .inl rfl, rfl⟩)
theorem full_c (s : St) (hs : Ok s) : BM Tryd.prog G 42 [] s.vars s.cl (.b (Zy s)) s := fun g0 g1 g2 g3 c2 c3 c4 m sn h2 h3 h4 hm hsn B b0 b1 b2 b3 => by
 have hc := hs.c
 refine Qb Tryd.func42 rfl Tryd.ntmps42 rfl (t := [(0, .ptr 0 g0 0)]) rfl fun E hE => ?_
 (repeat' first | refine Qt rfl ?_ | refine Qv rfl ?_ | refine Qc rfl rfl rfl ?_ | refine s_gtr rfl rfl ?_ | refine s_len_ref rfl rfl ?_ | refine WR rfl rfl ?_ | refine Wk rfl rfl ?_ | refine Qd rfl rfl ?_ | refine Q3 rfl rfl ?_ | refine Qe ?_ | refine Qp rfl ?_ | refine WC rfl rfl rfl rfl ?_ | refine WO rfl rfl rfl rfl ?_ | refine o_sp_d rfl rfl (fun _ => ?_) (fun _ => ?_) | refine Qf ?_ | refine Qa ?_ | refine Qm ?_)
 ·rename_i h
  exact e_1 (Tryd.results42) (Qh rfl) (Za ⟨by unfold Zy; rw [decide_eq_true h]; rfl, g1, .inl rfl, rfl⟩)
 ·rename_i h
  exact e_1 (Tryd.results42) (Qh rfl) (Za ⟨by unfold Zy; rw [decide_eq_false h]; rfl, g1, .inl rfl, rfl⟩)
end Go.Proofs
end
